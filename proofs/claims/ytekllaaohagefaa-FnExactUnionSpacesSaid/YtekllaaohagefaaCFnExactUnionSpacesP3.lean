/- Functions of the program as plain Lean functions, each with a proof that the Go code computes it; written by a program of this session. Conditions: as each theorem states. -/
import Derived.Test.YtekllaaohagefaaCFnExactUnionSpacesP2
namespace Go.Proofs.Ytekllaaohagefaa.P
open Go.RowKit Go.Proofs.YtekllaaohagefaaW.PrintWords Go.Proofs.YtekllaaohagefaaW.PrintLast Go.Proofs.YtekllaaohagefaaW.PrintMore
attribute [local go_sem] max2_int min2_int max_two min_two max_three min_three max_four min_four   -- for this text's walks alone
set_option linter.unusedVariables false
set_option linter.unusedSimpArgs false

/-! ### spec_UnionSpaces: function 29 -/
mutual
def spec_UnionSpaces.j0 : Nat → Bool → Int → List Int → Int → List Int → Option (Int × List Int × Bool)
 | 0, _, _, _, _, _ => none
 | k + 1, x25, x551000, x551001, x552000, x552001 => if x25 = true then (some (0, ([] : List Int), false)) else (spec_UnionSpaces.l0 k x551001 (x551001.length : Int) 0 x552000 x552001 x551000 ([] : List Int))
def spec_UnionSpaces.l0 : Nat → List Int → Int → Int → Int → List Int → Int → List Int → Option (Int × List Int × Bool)
 | 0, _, _, _, _, _, _, _ => none
 | k + 1, x31, x32, x33, x552000, x552001, x556000, x556001 => if x33 < x32 then (if 0 ≤ x33 then (if x33 < (x31.length : Int) then (spec_UnionSpaces.l1 k (rd x31 x33) x31 x32 x33 x552001 (x552001.length : Int) 0 x552000 x552001 x556000 x556001) else (none)) else (none)) else (some (x556000, x556001, true))
def spec_UnionSpaces.l1 : Nat → Int → List Int → Int → Int → List Int → Int → Int → Int → List Int → Int → List Int → Option (Int × List Int × Bool)
 | 0, _, _, _, _, _, _, _, _, _, _, _ => none
 | k + 1, x8, x31, x32, x33, x38, x39, x40, x552000, x552001, x556000, x556001 => if x40 < x39 then (if 0 ≤ x40 then (if x40 < (x38.length : Int) then ((spec_spPut.f k x556001 (Go.bits .or .i64 x8 (rd x38 x40))).bind fun t558 => (spec_UnionSpaces.l1 k x8 x31 x32 x33 x38 x39 (wrap64 (x40 + 1)) x552000 x552001 x556000 t558)) else (none)) else (none)) else (spec_UnionSpaces.l0 k x31 x32 (wrap64 (x33 + 1)) x552000 x552001 x556000 x556001)
end
def spec_UnionSpaces.f (k : Nat) (a0_0 : Int) (l0_1 : List Int) (a1_0 : Int) (l1_1 : List Int) : Option (Int × List Int × Bool) := (spec_spGood.f k a0_0 l0_1).bind fun t553 => (if t553 = true then ((spec_spGood.f k a1_0 l1_1).bind fun t554 => (if t554 = true then (spec_UnionSpaces.j0 k (a0_0 != a1_0) a0_0 l0_1 a1_0 l1_1) else (spec_UnionSpaces.j0 k true a0_0 l0_1 a1_0 l1_1))) else (spec_UnionSpaces.j0 k true a0_0 l0_1 a1_0 l1_1))
theorem spec_UnionSpaces.mono_l : ∀ k, (∀ y0 y1 y2 y3 y4, LeO (spec_UnionSpaces.j0 k y0 y1 y2 y3 y4) (spec_UnionSpaces.j0 (k + 1) y0 y1 y2 y3 y4)) ∧ (∀ y0 y1 y2 y3 y4 y5 y6, LeO (spec_UnionSpaces.l0 k y0 y1 y2 y3 y4 y5 y6) (spec_UnionSpaces.l0 (k + 1) y0 y1 y2 y3 y4 y5 y6)) ∧ (∀ y0 y1 y2 y3 y4 y5 y6 y7 y8 y9 y10, LeO (spec_UnionSpaces.l1 k y0 y1 y2 y3 y4 y5 y6 y7 y8 y9 y10) (spec_UnionSpaces.l1 (k + 1) y0 y1 y2 y3 y4 y5 y6 y7 y8 y9 y10))
 | 0 => ⟨fun _ _ _ _ _ r h => by simp [spec_UnionSpaces.j0] at h, fun _ _ _ _ _ _ _ r h => by simp [spec_UnionSpaces.l0] at h, fun _ _ _ _ _ _ _ _ _ _ _ r h => by simp [spec_UnionSpaces.l1] at h⟩
 | k + 1 => by
  obtain ⟨ih0, ih1, ih2⟩ := spec_UnionSpaces.mono_l k
  refine ⟨?_, ?_, ?_⟩
  ·intro y0 y1 y2 y3 y4
   unfold spec_UnionSpaces.j0
   repeat' first
   | (with_reducible exact ih1 _ _ _ _ _ _ _)
   | (with_reducible exact LeO.refl _)
   | (with_reducible refine LeO.ite ?_ ?_)
  ·intro y0 y1 y2 y3 y4 y5 y6
   unfold spec_UnionSpaces.l0
   repeat' first
   | (with_reducible exact ih2 _ _ _ _ _ _ _ _ _ _ _)
   | (with_reducible exact LeO.refl _)
   | (with_reducible refine LeO.ite ?_ ?_)
  ·intro y0 y1 y2 y3 y4 y5 y6 y7 y8 y9 y10
   unfold spec_UnionSpaces.l1
   repeat' first
   | (with_reducible exact ih1 _ _ _ _ _ _ _)
   | (with_reducible exact ih2 _ _ _ _ _ _ _ _ _ _ _)
   | (with_reducible exact spec_spPut.mono _ _ _)
   | (with_reducible exact LeO.refl _)
   | (with_reducible refine LeO.ite ?_ ?_)
   | (with_reducible refine LeO.bind ?_ (fun _ => ?_))
theorem spec_UnionSpaces.mono : ∀ a0 a1 a2 a3 k, LeO (spec_UnionSpaces.f k a0 a1 a2 a3) (spec_UnionSpaces.f (k + 1) a0 a1 a2 a3) := by
 intro a0 a1 a2 a3 k
 obtain ⟨ih0, ih1, ih2⟩ := spec_UnionSpaces.mono_l k
 unfold spec_UnionSpaces.f
 repeat' first
   | (with_reducible exact ih0 _ _ _ _ _)
   | (with_reducible exact spec_spGood.mono _ _ _)
   | (with_reducible refine LeO.ite ?_ ?_)
   | (with_reducible refine LeO.bind ?_ (fun _ => ?_))
set_option maxHeartbeats 8000000 in
set_option maxRecDepth 100000 in
theorem spec_UnionSpaces.calls (k : Nat) (a0_0 : Int) (A0_1 : Option Addr) (c0_1 : Nat) (l0_1 : List Int) (a1_0 : Int) (A1_1 : Option Addr) (c1_1 : Nat) (l1_1 : List Int) (r1 : Int) (r2 : List Int) (r3 : Bool) (w : World) (hr0_1 : Kd.C (Kd.int .i64) w A0_1 l0_1.length l0_1) (hc0_1 : l0_1.length ≤ c0_1) (hr1_1 : Kd.C (Kd.int .i64) w A1_1 l1_1.length l1_1) (hc1_1 : l1_1.length ≤ c1_1) (h : spec_UnionSpaces.f k a0_0 l0_1 a1_0 l1_1 = some (r1, r2, r3)) :
  Calls Try.prog 29 #[.agg #[.int .i64 a0_0, .slice A0_1 l0_1.length c0_1], .agg #[.int .i64 a1_0, .slice A1_1 l1_1.length c1_1]] w fun e w' => ∃ v1_ : Value, e = .returned (.tuple #[.agg #[.int .i64 r1, v1_], .bool r3]) ∧ Kd.R (Kd.int .i64) 3 w' w.heap.size (fun _ => True) v1_ r2 ∧ Below w.heap.size w w' := by
 have hu28 := Try.underlying28
 have HR0_1 := Aside0.mk hr0_1
 have HC0_1 := Aside0.mk hc0_1
 clear hr0_1 hc0_1
 have HR1_1 := Aside0.mk hr1_1
 have HC1_1 := Aside0.mk hc1_1
 clear hr1_1 hc1_1
 have HB := Aside0.mk (Below.refl w.heap.size w)
 have H : ((spec_spGood.f k a0_0 l0_1).bind fun t553 => (if t553 = true then ((spec_spGood.f k a1_0 l1_1).bind fun t554 => (if t554 = true then (spec_UnionSpaces.j0 k (a0_0 != a1_0) a0_0 l0_1 a1_0 l1_1) else (spec_UnionSpaces.j0 k true a0_0 l0_1 a1_0 l1_1))) else (spec_UnionSpaces.j0 k true a0_0 l0_1 a1_0 l1_1))) = some (r1, r2, r3) := h
 clear h
 have HC3 := Aside0.mk H
 clear H
 go_enter Try.func29, Try.ntmps29
 go_upto_region 1 with (first | ((with_reducible refine gate_dst (N := 2) rfl ?_); refine box_event ?hg (N := 2) ?hd (cs := #[.int .i64 a0_0, .slice A0_1 l0_1.length c0_1]) (t := 28) ?hr ?_; (case hd => rfl); (case hg => rfl); (case hr => (go_simp; done)); intro gb550 hg w4 hbox hb; have n0_ := Aside0.mk (below_step (by repeat ((with_reducible exact HB.out))) hb); have n1_ := Aside0.mk (hbox); have n2_ := Aside0.mk ((by rw [hg]; exact (below_size (by repeat ((with_reducible exact HB.out)))) : w.heap.size ≤ gb550)); have n3_ := Aside0.mk ((by rw [hg]; exact (below_size (by repeat ((with_reducible exact HB.out)))) : w.heap.size ≤ gb550)); clear HB; have HB := n0_; have BK550 := n1_; have GW550 := n2_; have GE550 := n3_; clear n0_ n1_ n2_ n3_; clear hb hbox hg) | ((with_reducible refine gate_dst (N := 3) rfl ?_); refine box_event ?hg (N := 3) ?hd (cs := #[.int .i64 a1_0, .slice A1_1 l1_1.length c1_1]) (t := 28) ?hr ?_; (case hd => rfl); (case hg => rfl); (case hr => (go_simp; done)); intro gb551 hg w5 hbox hb; have n0_ := Aside0.mk (blk_below (g := gb550) (o := .cells #[.int .i64 a0_0, .slice A0_1 l0_1.length c0_1] 28 (0, 0)) (by (with_reducible repeat (refine blk_drew ?_)); exact BK550.out) hb); have n1_ := Aside0.mk (below_step (by repeat ((with_reducible exact HB.out))) hb); have n2_ := Aside0.mk (hbox); have n3_ := Aside0.mk ((by rw [hg]; exact (below_size (by repeat ((with_reducible exact HB.out)))) : w.heap.size ≤ gb551)); have n4_ := Aside0.mk ((by rw [hg]; exact (below_size (by repeat ((with_reducible exact HB.out)))) : w.heap.size ≤ gb551)); have n5_ := Aside0.mk ((by rw [hg]; exact Nat.ne_of_lt (blk_lt (g := gb550) (o := .cells #[.int .i64 a0_0, .slice A0_1 l0_1.length c0_1] 28 (0, 0)) (by (with_reducible repeat (refine blk_drew ?_)); exact BK550.out)) : gb550 ≠ gb551)); have n6_ := Aside0.mk ((by rw [hg]; exact Nat.ne_of_gt (blk_lt (g := gb550) (o := .cells #[.int .i64 a0_0, .slice A0_1 l0_1.length c0_1] 28 (0, 0)) (by (with_reducible repeat (refine blk_drew ?_)); exact BK550.out)) : gb551 ≠ gb550)); clear BK550; clear HB; have BK550 := n0_; have HB := n1_; have BK551 := n2_; have GW551 := n3_; have GE551 := n4_; have NB550_551 := n5_; have NB551_550 := n6_; clear n0_ n1_ n2_ n3_ n4_ n5_ n6_; clear hb hbox hg) | ((with_reducible refine gate_dst (N := 4) rfl ?_); refine box_event ?hg (N := 4) ?hd (cs := #[.int .i64 0, .slice none 0 0]) (t := 28) ?hr ?_; (case hd => rfl); (case hg => rfl); (case hr => (go_simp; done)); intro gb552 hg w6 hbox hb; have n0_ := Aside0.mk (blk_below (g := gb550) (o := .cells #[.int .i64 a0_0, .slice A0_1 l0_1.length c0_1] 28 (0, 0)) (by (with_reducible repeat (refine blk_drew ?_)); exact BK550.out) hb); have n1_ := Aside0.mk (blk_below (g := gb551) (o := .cells #[.int .i64 a1_0, .slice A1_1 l1_1.length c1_1] 28 (0, 0)) (by (with_reducible repeat (refine blk_drew ?_)); exact BK551.out) hb); have n2_ := Aside0.mk (below_step (by repeat ((with_reducible exact HB.out))) hb); have n3_ := Aside0.mk (hbox); have n4_ := Aside0.mk ((by rw [hg]; exact (below_size (by repeat ((with_reducible exact HB.out)))) : w.heap.size ≤ gb552)); have n5_ := Aside0.mk ((by rw [hg]; exact (below_size (by repeat ((with_reducible exact HB.out)))) : w.heap.size ≤ gb552)); have n6_ := Aside0.mk ((by rw [hg]; exact Nat.ne_of_lt (blk_lt (g := gb550) (o := .cells #[.int .i64 a0_0, .slice A0_1 l0_1.length c0_1] 28 (0, 0)) (by (with_reducible repeat (refine blk_drew ?_)); exact BK550.out)) : gb550 ≠ gb552)); have n7_ := Aside0.mk ((by rw [hg]; exact Nat.ne_of_gt (blk_lt (g := gb550) (o := .cells #[.int .i64 a0_0, .slice A0_1 l0_1.length c0_1] 28 (0, 0)) (by (with_reducible repeat (refine blk_drew ?_)); exact BK550.out)) : gb552 ≠ gb550)); have n8_ := Aside0.mk ((by rw [hg]; exact Nat.ne_of_lt (blk_lt (g := gb551) (o := .cells #[.int .i64 a1_0, .slice A1_1 l1_1.length c1_1] 28 (0, 0)) (by (with_reducible repeat (refine blk_drew ?_)); exact BK551.out)) : gb551 ≠ gb552)); have n9_ := Aside0.mk ((by rw [hg]; exact Nat.ne_of_gt (blk_lt (g := gb551) (o := .cells #[.int .i64 a1_0, .slice A1_1 l1_1.length c1_1] 28 (0, 0)) (by (with_reducible repeat (refine blk_drew ?_)); exact BK551.out)) : gb552 ≠ gb551)); clear BK550; clear BK551; clear HB; have BK550 := n0_; have BK551 := n1_; have HB := n2_; have BK552 := n3_; have GW552 := n4_; have GE552 := n5_; have NB550_552 := n6_; have NB552_550 := n7_; have NB551_552 := n8_; have NB552_551 := n9_; clear n0_ n1_ n2_ n3_ n4_ n5_ n6_ n7_ n8_ n9_; clear hb hbox hg))
 skip
 go_cut [25] (fun v25 wc => ∃ (kq : Nat) (x25_2 : Bool), v25 = .bool x25_2 ∧ Aside0 (spec_UnionSpaces.j0 kq x25_2 a0_0 l0_1 a1_0 l1_1 = some (r1, r2, r3)) ∧ Aside0 (kq ≤ k) ∧ Aside0 (wc.heap[gb550]? = some (.cells #[.int .i64 a0_0, (.slice A0_1 l0_1.length c0_1)] 28 (0, 0))) ∧ Aside0 (wc.heap[gb551]? = some (.cells #[.int .i64 a1_0, (.slice A1_1 l1_1.length c1_1)] 28 (0, 0))) ∧ Aside0 (wc.heap[gb552]? = some (.cells #[.int .i64 0, (.slice none 0 0)] 28 (0, 0))) ∧ Aside0 (Below w.heap.size w wc))
 case first =>
  have H := HC3.out
  clear HC3
  replace H := Option.bind_eq_some_iff.mp H
  obtain ⟨t553, A70, H⟩ := H
  replace H : (if t553 = true then ((spec_spGood.f k a1_0 l1_1).bind fun t554 => (if t554 = true then (spec_UnionSpaces.j0 k (a0_0 != a1_0) a0_0 l0_1 a1_0 l1_1) else (spec_UnionSpaces.j0 k true a0_0 l0_1 a1_0 l1_1))) else (spec_UnionSpaces.j0 k true a0_0 l0_1 a1_0 l1_1)) = some (r1, r2, r3) := H
  have A7 := Aside0.mk A70
  clear A70
  by_cases c8 : t553 = true
  ·subst c8
   have H1 : ((spec_spGood.f k a1_0 l1_1).bind fun t554 => (if t554 = true then (spec_UnionSpaces.j0 k (a0_0 != a1_0) a0_0 l0_1 a1_0 l1_1) else (spec_UnionSpaces.j0 k true a0_0 l0_1 a1_0 l1_1))) = some (r1, r2, r3) := by rw [if_pos rfl] at H; exact H
   clear H
   have H := H1
   clear H1
   replace H := Option.bind_eq_some_iff.mp H
   obtain ⟨t554, A90, H⟩ := H
   replace H : (if t554 = true then (spec_UnionSpaces.j0 k (a0_0 != a1_0) a0_0 l0_1 a1_0 l1_1) else (spec_UnionSpaces.j0 k true a0_0 l0_1 a1_0 l1_1)) = some (r1, r2, r3) := H
   have A9 := Aside0.mk A90
   clear A90
   by_cases c10 : t554 = true
   ·subst c10
    have H1 : (spec_UnionSpaces.j0 k (a0_0 != a1_0) a0_0 l0_1 a1_0 l1_1) = some (r1, r2, r3) := by rw [if_pos rfl] at H; exact H
    clear H
    have H := H1
    clear H1
    have H' := Aside0.mk H
    clear H
    have hnb11 := NB550_551.out
    have hnc11 := NB551_550.out
    have hnb12 := NB550_552.out
    have hnc12 := NB552_550.out
    have hcz13_0 : w6.cell? ⟨gb550, 0, none⟩ = some (.int .i64 a0_0) := (blk_cell BK550.out 0).trans rfl
    have hcz13_1 : w6.cell? ⟨gb550, 1, none⟩ = some (.slice A0_1 l0_1.length c0_1) := (blk_cell BK550.out 1).trans rfl
    have hfz13_0 := blk_frozen BK550.out 0
    have hfz13_1 := blk_frozen BK550.out 1
    go_wp2_with (first | ((with_reducible refine gate_callee (f := 47) rfl ?_); refine goesL_ (some 12) rfl rfl Try.func47 (by kernel_rfl) rfl #[.agg #[.int .i64 a0_0, .slice A0_1 l0_1.length c0_1]] rfl (by (try simp only [List.map_toArray, List.map_cons, List.map_nil]); rfl) ?_; (with_reducible refine (spec_spGood.calls k a0_0 _ _ l0_1 true _ ?side1 ?side2 A7.out).mono ?_); (case side1 => repeat (exact (Kd.C_below HR0_1.out HB.out))); (case side2 => exact HC0_1.out); rintro e w14 ⟨rfl, hb⟩; refine ⟨_, rfl, ?_⟩; have n0_ := Aside0.mk (blk_below (g := gb550) (o := .cells #[.int .i64 a0_0, .slice A0_1 l0_1.length c0_1] 28 (0, 0)) (by (with_reducible repeat (refine blk_drew ?_)); exact BK550.out) hb); have n1_ := Aside0.mk (blk_below (g := gb551) (o := .cells #[.int .i64 a1_0, .slice A1_1 l1_1.length c1_1] 28 (0, 0)) (by (with_reducible repeat (refine blk_drew ?_)); exact BK551.out) hb); have n2_ := Aside0.mk (blk_below (g := gb552) (o := .cells #[.int .i64 0, .slice none 0 0] 28 (0, 0)) (by (with_reducible repeat (refine blk_drew ?_)); exact BK552.out) hb); have n3_ := Aside0.mk (below_step (by repeat ((with_reducible exact HB.out))) hb); clear BK550; clear BK551; clear BK552; clear HB; have BK550 := n0_; have BK551 := n1_; have BK552 := n2_; have HB := n3_; clear n0_ n1_ n2_ n3_; (try clear hb); have hnb15 := NB551_552.out; have hnc15 := NB552_551.out; have hcz16_0 : w14.cell? ⟨gb551, 0, none⟩ = some (.int .i64 a1_0) := (blk_cell BK551.out 0).trans rfl; have hcz16_1 : w14.cell? ⟨gb551, 1, none⟩ = some (.slice A1_1 l1_1.length c1_1) := (blk_cell BK551.out 1).trans rfl; have hfz16_0 := blk_frozen BK551.out 0; have hfz16_1 := blk_frozen BK551.out 1) | (go_at_call 47; (with_reducible refine (spec_spGood.calls k a1_0 _ _ l1_1 true _ ?side1 ?side2 A9.out).mono ?_); (case side1 => repeat (exact (Kd.C_below HR1_1.out HB.out))); (case side2 => exact HC1_1.out); rintro e w17 ⟨rfl, hb⟩; have n0_ := Aside0.mk (blk_below (g := gb550) (o := .cells #[.int .i64 a0_0, .slice A0_1 l0_1.length c0_1] 28 (0, 0)) (by (with_reducible repeat (refine blk_drew ?_)); exact BK550.out) hb); have n1_ := Aside0.mk (blk_below (g := gb551) (o := .cells #[.int .i64 a1_0, .slice A1_1 l1_1.length c1_1] 28 (0, 0)) (by (with_reducible repeat (refine blk_drew ?_)); exact BK551.out) hb); have n2_ := Aside0.mk (blk_below (g := gb552) (o := .cells #[.int .i64 0, .slice none 0 0] 28 (0, 0)) (by (with_reducible repeat (refine blk_drew ?_)); exact BK552.out) hb); have n3_ := Aside0.mk (below_step (by repeat ((with_reducible exact HB.out))) hb); clear BK550; clear BK551; clear BK552; clear HB; have BK550 := n0_; have BK551 := n1_; have BK552 := n2_; have HB := n3_; clear n0_ n1_ n2_ n3_; (try clear hb); have hcz18_0 : w17.cell? ⟨gb550, 0, none⟩ = some (.int .i64 a0_0) := (blk_cell BK550.out 0).trans rfl; have hcz18_1 : w17.cell? ⟨gb550, 1, none⟩ = some (.slice A0_1 l0_1.length c0_1) := (blk_cell BK550.out 1).trans rfl; have hfz18_0 := blk_frozen BK550.out 0; have hfz18_1 := blk_frozen BK550.out 1; have hcz19_0 : w17.cell? ⟨gb551, 0, none⟩ = some (.int .i64 a1_0) := (blk_cell BK551.out 0).trans rfl; have hcz19_1 : w17.cell? ⟨gb551, 1, none⟩ = some (.slice A1_1 l1_1.length c1_1) := (blk_cell BK551.out 1).trans rfl; have hfz19_0 := blk_frozen BK551.out 0; have hfz19_1 := blk_frozen BK551.out 1))
    go_meet
    case rel => exact ⟨_, ((a0_0 != a1_0)), (by rfl), H', ⟨by omega⟩, ⟨by (with_reducible repeat (refine blk_drew ?_)); exact BK550.out⟩, ⟨by (with_reducible repeat (refine blk_drew ?_)); exact BK551.out⟩, ⟨by (with_reducible repeat (refine blk_drew ?_)); exact BK552.out⟩, ⟨by repeat ((with_reducible exact HB.out))⟩⟩
   ·replace c10 := Bool.eq_false_iff.mpr c10
    subst c10
    have H1 : (spec_UnionSpaces.j0 k true a0_0 l0_1 a1_0 l1_1) = some (r1, r2, r3) := by rw [if_neg (show ¬ (false = true) by decide)] at H; exact H
    clear H
    have H := H1
    clear H1
    have H' := Aside0.mk H
    clear H
    have hnb20 := NB550_551.out
    have hnc20 := NB551_550.out
    have hnb21 := NB550_552.out
    have hnc21 := NB552_550.out
    have hcz22_0 : w6.cell? ⟨gb550, 0, none⟩ = some (.int .i64 a0_0) := (blk_cell BK550.out 0).trans rfl
    have hcz22_1 : w6.cell? ⟨gb550, 1, none⟩ = some (.slice A0_1 l0_1.length c0_1) := (blk_cell BK550.out 1).trans rfl
    have hfz22_0 := blk_frozen BK550.out 0
    have hfz22_1 := blk_frozen BK550.out 1
    go_wp2_with (first | ((with_reducible refine gate_callee (f := 47) rfl ?_); refine goesL_ (some 12) rfl rfl Try.func47 (by kernel_rfl) rfl #[.agg #[.int .i64 a0_0, .slice A0_1 l0_1.length c0_1]] rfl (by (try simp only [List.map_toArray, List.map_cons, List.map_nil]); rfl) ?_; (with_reducible refine (spec_spGood.calls k a0_0 _ _ l0_1 true _ ?side1 ?side2 A7.out).mono ?_); (case side1 => repeat (exact (Kd.C_below HR0_1.out HB.out))); (case side2 => exact HC0_1.out); rintro e w23 ⟨rfl, hb⟩; refine ⟨_, rfl, ?_⟩; have n0_ := Aside0.mk (blk_below (g := gb550) (o := .cells #[.int .i64 a0_0, .slice A0_1 l0_1.length c0_1] 28 (0, 0)) (by (with_reducible repeat (refine blk_drew ?_)); exact BK550.out) hb); have n1_ := Aside0.mk (blk_below (g := gb551) (o := .cells #[.int .i64 a1_0, .slice A1_1 l1_1.length c1_1] 28 (0, 0)) (by (with_reducible repeat (refine blk_drew ?_)); exact BK551.out) hb); have n2_ := Aside0.mk (blk_below (g := gb552) (o := .cells #[.int .i64 0, .slice none 0 0] 28 (0, 0)) (by (with_reducible repeat (refine blk_drew ?_)); exact BK552.out) hb); have n3_ := Aside0.mk (below_step (by repeat ((with_reducible exact HB.out))) hb); clear BK550; clear BK551; clear BK552; clear HB; have BK550 := n0_; have BK551 := n1_; have BK552 := n2_; have HB := n3_; clear n0_ n1_ n2_ n3_; (try clear hb); have hnb24 := NB551_552.out; have hnc24 := NB552_551.out; have hcz25_0 : w23.cell? ⟨gb551, 0, none⟩ = some (.int .i64 a1_0) := (blk_cell BK551.out 0).trans rfl; have hcz25_1 : w23.cell? ⟨gb551, 1, none⟩ = some (.slice A1_1 l1_1.length c1_1) := (blk_cell BK551.out 1).trans rfl; have hfz25_0 := blk_frozen BK551.out 0; have hfz25_1 := blk_frozen BK551.out 1) | (go_at_call 47; (with_reducible refine (spec_spGood.calls k a1_0 _ _ l1_1 false _ ?side1 ?side2 A9.out).mono ?_); (case side1 => repeat (exact (Kd.C_below HR1_1.out HB.out))); (case side2 => exact HC1_1.out); rintro e w26 ⟨rfl, hb⟩; have n0_ := Aside0.mk (blk_below (g := gb550) (o := .cells #[.int .i64 a0_0, .slice A0_1 l0_1.length c0_1] 28 (0, 0)) (by (with_reducible repeat (refine blk_drew ?_)); exact BK550.out) hb); have n1_ := Aside0.mk (blk_below (g := gb551) (o := .cells #[.int .i64 a1_0, .slice A1_1 l1_1.length c1_1] 28 (0, 0)) (by (with_reducible repeat (refine blk_drew ?_)); exact BK551.out) hb); have n2_ := Aside0.mk (blk_below (g := gb552) (o := .cells #[.int .i64 0, .slice none 0 0] 28 (0, 0)) (by (with_reducible repeat (refine blk_drew ?_)); exact BK552.out) hb); have n3_ := Aside0.mk (below_step (by repeat ((with_reducible exact HB.out))) hb); clear BK550; clear BK551; clear BK552; clear HB; have BK550 := n0_; have BK551 := n1_; have BK552 := n2_; have HB := n3_; clear n0_ n1_ n2_ n3_; (try clear hb); skip))
    go_meet
    case rel => exact ⟨_, (true), (by rfl), H', ⟨by omega⟩, ⟨by (with_reducible repeat (refine blk_drew ?_)); exact BK550.out⟩, ⟨by (with_reducible repeat (refine blk_drew ?_)); exact BK551.out⟩, ⟨by (with_reducible repeat (refine blk_drew ?_)); exact BK552.out⟩, ⟨by repeat ((with_reducible exact HB.out))⟩⟩
  ·replace c8 := Bool.eq_false_iff.mpr c8
   subst c8
   have H1 : (spec_UnionSpaces.j0 k true a0_0 l0_1 a1_0 l1_1) = some (r1, r2, r3) := by rw [if_neg (show ¬ (false = true) by decide)] at H; exact H
   clear H
   have H := H1
   clear H1
   have H' := Aside0.mk H
   clear H
   have hnb27 := NB550_551.out
   have hnc27 := NB551_550.out
   have hnb28 := NB550_552.out
   have hnc28 := NB552_550.out
   have hcz29_0 : w6.cell? ⟨gb550, 0, none⟩ = some (.int .i64 a0_0) := (blk_cell BK550.out 0).trans rfl
   have hcz29_1 : w6.cell? ⟨gb550, 1, none⟩ = some (.slice A0_1 l0_1.length c0_1) := (blk_cell BK550.out 1).trans rfl
   have hfz29_0 := blk_frozen BK550.out 0
   have hfz29_1 := blk_frozen BK550.out 1
   go_wp2_with (((with_reducible refine gate_callee (f := 47) rfl ?_); refine goesL_ (some 12) rfl rfl Try.func47 (by kernel_rfl) rfl #[.agg #[.int .i64 a0_0, .slice A0_1 l0_1.length c0_1]] rfl (by (try simp only [List.map_toArray, List.map_cons, List.map_nil]); rfl) ?_; (with_reducible refine (spec_spGood.calls k a0_0 _ _ l0_1 false _ ?side1 ?side2 A7.out).mono ?_); (case side1 => repeat (exact (Kd.C_below HR0_1.out HB.out))); (case side2 => exact HC0_1.out); rintro e w30 ⟨rfl, hb⟩; refine ⟨_, rfl, ?_⟩; have n0_ := Aside0.mk (blk_below (g := gb550) (o := .cells #[.int .i64 a0_0, .slice A0_1 l0_1.length c0_1] 28 (0, 0)) (by (with_reducible repeat (refine blk_drew ?_)); exact BK550.out) hb); have n1_ := Aside0.mk (blk_below (g := gb551) (o := .cells #[.int .i64 a1_0, .slice A1_1 l1_1.length c1_1] 28 (0, 0)) (by (with_reducible repeat (refine blk_drew ?_)); exact BK551.out) hb); have n2_ := Aside0.mk (blk_below (g := gb552) (o := .cells #[.int .i64 0, .slice none 0 0] 28 (0, 0)) (by (with_reducible repeat (refine blk_drew ?_)); exact BK552.out) hb); have n3_ := Aside0.mk (below_step (by repeat ((with_reducible exact HB.out))) hb); clear BK550; clear BK551; clear BK552; clear HB; have BK550 := n0_; have BK551 := n1_; have BK552 := n2_; have HB := n3_; clear n0_ n1_ n2_ n3_; (try clear hb); skip))
   go_meet
   case rel => exact ⟨_, (true), (by rfl), H', ⟨by omega⟩, ⟨by (with_reducible repeat (refine blk_drew ?_)); exact BK550.out⟩, ⟨by (with_reducible repeat (refine blk_drew ?_)); exact BK551.out⟩, ⟨by (with_reducible repeat (refine blk_drew ?_)); exact BK552.out⟩, ⟨by repeat ((with_reducible exact HB.out))⟩⟩
 case rest =>
  clear HC3
  try clear c1
  try clear c2
  try clear p2
  try clear c4
  try clear c8
  try clear c10
  try clear c11
  try clear c12
  try clear c15
  try clear c20
  try clear c21
  try clear c24
  try clear c27
  try clear c28
  try clear c29
  try clear hcz13_0
  try clear hcz13_1
  try clear hcz16_0
  try clear hcz16_1
  try clear hcz18_0
  try clear hcz18_1
  try clear hcz19_0
  try clear hcz19_1
  try clear hcz22_0
  try clear hcz22_1
  try clear hcz25_0
  try clear hcz25_1
  try clear hcz29_0
  try clear hcz29_1
  try clear hfz13_0
  try clear hfz13_1
  try clear hfz16_0
  try clear hfz16_1
  try clear hfz18_0
  try clear hfz18_1
  try clear hfz19_0
  try clear hfz19_1
  try clear hfz22_0
  try clear hfz22_1
  try clear hfz25_0
  try clear hfz25_1
  try clear hfz29_0
  try clear hfz29_1
  obtain ⟨kq, x25_2, rfl, HA, HJ2, BK550, BK551, BK552, HB⟩ := hcut
  cases kq with
  | zero => exact absurd HA.out (by simp [spec_UnionSpaces.j0])
  | succ kj2 =>
   have H := HA.out
   clear HA
   simp only [spec_UnionSpaces.j0] at H
   by_cases c31 : x25_2 = true
   ·subst c31
    have H1 : (some (0, ([] : List Int), false)) = some (r1, r2, r3) := by rw [if_pos rfl] at H; exact H
    clear H
    have H := H1
    clear H1
    simp only [Option.some.injEq, Prod.mk.injEq] at H
    obtain ⟨rfl, rfl, rfl⟩ := H
    have hnb32 := NB552_550.out
    have hnc32 := NB550_552.out
    have hnb33 := NB552_551.out
    have hnc33 := NB551_552.out
    have hcz34_0 : wc.cell? ⟨gb552, 0, none⟩ = some (.int .i64 0) := (blk_cell BK552.out 0).trans rfl
    have hcz34_1 : wc.cell? ⟨gb552, 1, none⟩ = some (.slice none 0 0) := (blk_cell BK552.out 1).trans rfl
    have hfz34_0 := blk_frozen BK552.out 0
    have hfz34_1 := blk_frozen BK552.out 1
    go_wp2
    refine bodyPost_ret (results_ct rfl _ _ gb552 28 #[.int .i64 0, .slice none 0 0] (0, 0) _ rfl (by (with_reducible repeat (refine blk_drew ?_)); refine blk_put (cs := #[.int .i64 0, .slice none 0 0]) ?_ 1 _ rfl; (with_reducible repeat (refine blk_drew ?_)); refine blk_put (cs := #[.int .i64 0, .slice none 0 0]) ?_ 0 _ rfl; (with_reducible repeat (refine blk_drew ?_)); exact BK552.out) Try.underlying28 rfl (by kernel_rfl)) rfl ?_
    exact ⟨_, by rfl, by exact Kd.R_nil _ _ _ _ _, by repeat ((with_reducible first | exact HB.out | refine below_set ?_ GE552.out))⟩
   ·replace c31 := Bool.eq_false_iff.mpr c31
    subst c31
    have H1 : (spec_UnionSpaces.l0 kj2 l0_1 (l0_1.length : Int) 0 a1_0 l1_1 a0_0 ([] : List Int)) = some (r1, r2, r3) := by rw [if_neg (show ¬ (false = true) by decide)] at H; exact H
    clear H
    have H := H1
    clear H1
    have H' := Aside0.mk H
    clear H
    have hnb35 := NB550_551.out
    have hnc35 := NB551_550.out
    have hnb36 := NB550_552.out
    have hnc36 := NB552_550.out
    have hcz37_0 : wc.cell? ⟨gb550, 0, none⟩ = some (.int .i64 a0_0) := (blk_cell BK550.out 0).trans rfl
    have hcz37_1 : wc.cell? ⟨gb550, 1, none⟩ = some (.slice A0_1 l0_1.length c0_1) := (blk_cell BK550.out 1).trans rfl
    have hfz37_0 := blk_frozen BK550.out 0
    have hfz37_1 := blk_frozen BK550.out 1
    go_wp2_with (((with_reducible refine gate_dst (N := 6) rfl ?_); refine box_event ?hg (N := 6) ?hd (cs := #[.int .i64 0, .slice none 0 0]) (t := 28) ?hr ?_; (case hd => rfl); (case hg => rfl); (case hr => (go_simp; done)); intro gb555 hg w38 hbox hb; have n0_ := Aside0.mk (blk_below (g := gb550) (o := .cells #[.int .i64 a0_0, .slice A0_1 l0_1.length c0_1] 28 (0, 0)) (by (with_reducible repeat (refine blk_drew ?_)); exact BK550.out) hb); have n1_ := Aside0.mk (blk_below (g := gb551) (o := .cells #[.int .i64 a1_0, .slice A1_1 l1_1.length c1_1] 28 (0, 0)) (by (with_reducible repeat (refine blk_drew ?_)); exact BK551.out) hb); have n2_ := Aside0.mk (blk_below (g := gb552) (o := .cells #[.int .i64 0, .slice none 0 0] 28 (0, 0)) (by (with_reducible repeat (refine blk_drew ?_)); exact BK552.out) hb); have n3_ := Aside0.mk (below_step (by repeat ((with_reducible exact HB.out))) hb); have n4_ := Aside0.mk (hbox); have n5_ := Aside0.mk ((by rw [hg]; exact (below_size (by repeat ((with_reducible exact HB.out)))) : w.heap.size ≤ gb555)); have n6_ := Aside0.mk ((by rw [hg]; exact (below_size (by repeat ((with_reducible exact HB.out)))) : w.heap.size ≤ gb555)); have n7_ := Aside0.mk ((by rw [hg]; exact Nat.ne_of_lt (blk_lt (g := gb550) (o := .cells #[.int .i64 a0_0, .slice A0_1 l0_1.length c0_1] 28 (0, 0)) (by (with_reducible repeat (refine blk_drew ?_)); exact BK550.out)) : gb550 ≠ gb555)); have n8_ := Aside0.mk ((by rw [hg]; exact Nat.ne_of_gt (blk_lt (g := gb550) (o := .cells #[.int .i64 a0_0, .slice A0_1 l0_1.length c0_1] 28 (0, 0)) (by (with_reducible repeat (refine blk_drew ?_)); exact BK550.out)) : gb555 ≠ gb550)); have n9_ := Aside0.mk ((by rw [hg]; exact Nat.ne_of_lt (blk_lt (g := gb551) (o := .cells #[.int .i64 a1_0, .slice A1_1 l1_1.length c1_1] 28 (0, 0)) (by (with_reducible repeat (refine blk_drew ?_)); exact BK551.out)) : gb551 ≠ gb555)); have n10_ := Aside0.mk ((by rw [hg]; exact Nat.ne_of_gt (blk_lt (g := gb551) (o := .cells #[.int .i64 a1_0, .slice A1_1 l1_1.length c1_1] 28 (0, 0)) (by (with_reducible repeat (refine blk_drew ?_)); exact BK551.out)) : gb555 ≠ gb551)); have n11_ := Aside0.mk ((by rw [hg]; exact Nat.ne_of_lt (blk_lt (g := gb552) (o := .cells #[.int .i64 0, .slice none 0 0] 28 (0, 0)) (by (with_reducible repeat (refine blk_drew ?_)); exact BK552.out)) : gb552 ≠ gb555)); have n12_ := Aside0.mk ((by rw [hg]; exact Nat.ne_of_gt (blk_lt (g := gb552) (o := .cells #[.int .i64 0, .slice none 0 0] 28 (0, 0)) (by (with_reducible repeat (refine blk_drew ?_)); exact BK552.out)) : gb555 ≠ gb552)); clear BK550; clear BK551; clear BK552; clear HB; have BK550 := n0_; have BK551 := n1_; have BK552 := n2_; have HB := n3_; have BK555 := n4_; have GW555 := n5_; have GE555 := n6_; have NB550_555 := n7_; have NB555_550 := n8_; have NB551_555 := n9_; have NB555_551 := n10_; have NB552_555 := n11_; have NB555_552 := n12_; clear n0_ n1_ n2_ n3_ n4_ n5_ n6_ n7_ n8_ n9_ n10_ n11_ n12_; clear hb hbox hg; have hnb39 := NB555_550.out; have hnc39 := NB550_555.out; have hnb40 := NB555_551.out; have hnc40 := NB551_555.out; have hnb41 := NB555_552.out; have hnc41 := NB552_555.out; have hcz42_0 : w38.cell? ⟨gb555, 0, none⟩ = some (.int .i64 0) := (blk_cell BK555.out 0).trans rfl; have hcz42_1 : w38.cell? ⟨gb555, 1, none⟩ = some (.slice none 0 0) := (blk_cell BK555.out 1).trans rfl; have hfz42_0 := blk_frozen BK555.out 0; have hfz42_1 := blk_frozen BK555.out 1; have hcz43_0 : w38.cell? ⟨gb550, 0, none⟩ = some (.int .i64 a0_0) := (blk_cell BK550.out 0).trans rfl; have hcz43_1 : w38.cell? ⟨gb550, 1, none⟩ = some (.slice A0_1 l0_1.length c0_1) := (blk_cell BK550.out 1).trans rfl; have hfz43_0 := blk_frozen BK550.out 0; have hfz43_1 := blk_frozen BK550.out 1))
    go_loopg [33] kj2 (fun kq v33 w' => ∃ (x33_2 : Int) (x556001_2 : List Int) (u556001 : Value), v33 = .int .i64 x33_2 ∧ Aside0 (spec_UnionSpaces.l0 kq l0_1 (l0_1.length : Int) x33_2 a1_0 l1_1 a0_0 x556001_2 = some (r1, r2, r3)) ∧ Aside0 (kq ≤ kj2) ∧ Aside0 (Kd.R (Kd.int .i64) 3 w' w.heap.size (fun _ => True) u556001 x556001_2) ∧ Aside0 (w'.heap[gb550]? = some (.cells #[.int .i64 a0_0, (.slice A0_1 l0_1.length c0_1)] 28 (0, 0))) ∧ Aside0 (w'.heap[gb551]? = some (.cells #[.int .i64 a1_0, (.slice A1_1 l1_1.length c1_1)] 28 (0, 0))) ∧ Aside0 (w'.heap[gb552]? = some (.cells #[.int .i64 0, (.slice none 0 0)] 28 (0, 0))) ∧ Aside0 (w'.heap[gb555]? = some (.cells #[.int .i64 a0_0, u556001] 28 (0, 0))) ∧ Aside0 (Below w.heap.size w w'))
    case atStart => exact ⟨(0), (([] : List Int)), (.slice none 0 0), (by rfl), H', ⟨Nat.le_refl _⟩, ⟨by exact Kd.R_nil _ _ _ _ _⟩, ⟨by (with_reducible repeat (refine blk_drew ?_)); refine blk_far ?_ NB550_555.out _; (with_reducible repeat (refine blk_drew ?_)); refine blk_far ?_ NB550_555.out _; (with_reducible repeat (refine blk_drew ?_)); exact BK550.out⟩, ⟨by (with_reducible repeat (refine blk_drew ?_)); refine blk_far ?_ NB551_555.out _; (with_reducible repeat (refine blk_drew ?_)); refine blk_far ?_ NB551_555.out _; (with_reducible repeat (refine blk_drew ?_)); exact BK551.out⟩, ⟨by (with_reducible repeat (refine blk_drew ?_)); refine blk_far ?_ NB552_555.out _; (with_reducible repeat (refine blk_drew ?_)); refine blk_far ?_ NB552_555.out _; (with_reducible repeat (refine blk_drew ?_)); exact BK552.out⟩, ⟨by (with_reducible repeat (refine blk_drew ?_)); refine blk_put (cs := #[.int .i64 a0_0, .slice none 0 0]) ?_ 1 _ rfl; (with_reducible repeat (refine blk_drew ?_)); refine blk_put (cs := #[.int .i64 0, .slice none 0 0]) ?_ 0 _ rfl; (with_reducible repeat (refine blk_drew ?_)); exact BK555.out⟩, ⟨by repeat ((with_reducible first | exact HB.out | refine below_set ?_ GE555.out))⟩⟩
    case round =>
     clear H'
     try clear c1
     try clear c2
     try clear p2
     try clear c3
     try clear c4
     try clear c8
     try clear c10
     try clear c11
     try clear c12
     try clear c15
     try clear c20
     try clear c21
     try clear c24
     try clear c27
     try clear c28
     try clear c29
     try clear c31
     try clear c32
     try clear c33
     try clear c35
     try clear c36
     try clear c39
     try clear c40
     try clear c41
     try clear hcz13_0
     try clear hcz13_1
     try clear hcz16_0
     try clear hcz16_1
     try clear hcz18_0
     try clear hcz18_1
     try clear hcz19_0
     try clear hcz19_1
     try clear hcz22_0
     try clear hcz22_1
     try clear hcz25_0
     try clear hcz25_1
     try clear hcz29_0
     try clear hcz29_1
     try clear hcz34_0
     try clear hcz34_1
     try clear hcz37_0
     try clear hcz37_1
     try clear hcz42_0
     try clear hcz42_1
     try clear hcz43_0
     try clear hcz43_1
     try clear hfz13_0
     try clear hfz13_1
     try clear hfz16_0
     try clear hfz16_1
     try clear hfz18_0
     try clear hfz18_1
     try clear hfz19_0
     try clear hfz19_1
     try clear hfz22_0
     try clear hfz22_1
     try clear hfz25_0
     try clear hfz25_1
     try clear hfz29_0
     try clear hfz29_1
     try clear hfz34_0
     try clear hfz34_1
     try clear hfz37_0
     try clear hfz37_1
     try clear hfz42_0
     try clear hfz42_1
     try clear hfz43_0
     try clear hfz43_1
     try clear p2
     obtain ⟨x33_2, x556001_2, u556001, rfl, HA, HK2, HO_556001, BK550, BK551, BK552, BK555, HB⟩ := hrel
     cases gk with
     | zero => exact absurd HA.out (by simp [spec_UnionSpaces.l0])
     | succ k2 =>
      have H := HA.out
      clear HA
      simp only [spec_UnionSpaces.l0] at H
      by_cases c44 : x33_2 < (l0_1.length : Int)
      ·rw [if_pos c44] at H
       have c44b0 : decide (x33_2 < (l0_1.length : Int)) = true := decide_eq_true c44
       clear c44
       by_cases c45 : 0 ≤ x33_2
       ·rw [if_pos c45] at H
        have c45b0 : decide (0 ≤ x33_2) = true := decide_eq_true c45
        clear c45
        by_cases c46 : x33_2 < (l0_1.length : Int)
        ·rw [if_pos c46] at H
         have c46b0 : decide (x33_2 < (l0_1.length : Int)) = true := decide_eq_true c46
         clear c46
         have H' := Aside0.mk H
         clear H
         have p556 : 0 ≤ (x33_2 : Int) := of_decide_eq_true (by (with_reducible assumption))
         have q556 : x33_2 < (l0_1.length : Int) := of_decide_eq_true (by (with_reducible assumption))
         obtain ⟨ad556, e556, hx556_0⟩ := Kd.at_int HR0_1.out x33_2 p556 q556
         cases e556
         replace hx556_0 := (HB.out.cell (World.block_lt_of_cell? w _ hx556_0)).trans hx556_0
         replace p556 := eq_true p556
         replace q556 := eq_true q556
         have hnb47 := NB551_550.out
         have hnc47 := NB550_551.out
         have hnb48 := NB551_552.out
         have hnc48 := NB552_551.out
         have hnb49 := NB551_555.out
         have hnc49 := NB555_551.out
         have hcz50_0 : wr.cell? ⟨gb551, 0, none⟩ = some (.int .i64 a1_0) := (blk_cell BK551.out 0).trans rfl
         have hcz50_1 : wr.cell? ⟨gb551, 1, none⟩ = some (.slice A1_1 l1_1.length c1_1) := (blk_cell BK551.out 1).trans rfl
         have hfz50_0 := blk_frozen BK551.out 0
         have hfz50_1 := blk_frozen BK551.out 1
         go_wp2
         go_loopg [40] k2 (fun kq v40 w' => ∃ (x40_3 : Int) (x556001_3 : List Int) (u556001 : Value), v40 = .int .i64 x40_3 ∧ Aside0 (spec_UnionSpaces.l1 kq (rd l0_1 x33_2) l0_1 (l0_1.length : Int) x33_2 l1_1 (l1_1.length : Int) x40_3 a1_0 l1_1 a0_0 x556001_3 = some (r1, r2, r3)) ∧ Aside0 (kq ≤ k2) ∧ Aside0 (Kd.R (Kd.int .i64) 3 w' w.heap.size (fun _ => True) u556001 x556001_3) ∧ Aside0 (w'.heap[gb550]? = some (.cells #[.int .i64 a0_0, (.slice (some ad556) l0_1.length c0_1)] 28 (0, 0))) ∧ Aside0 (w'.heap[gb551]? = some (.cells #[.int .i64 a1_0, (.slice A1_1 l1_1.length c1_1)] 28 (0, 0))) ∧ Aside0 (w'.heap[gb552]? = some (.cells #[.int .i64 0, (.slice none 0 0)] 28 (0, 0))) ∧ Aside0 (w'.heap[gb555]? = some (.cells #[.int .i64 a0_0, u556001] 28 (0, 0))) ∧ Aside0 (Below w.heap.size w w'))
         case atStart => exact ⟨(0), (x556001_2), (u556001), (by rfl), H', ⟨Nat.le_refl _⟩, ⟨by (with_reducible repeat (apply Kd.R_drew)); exact HO_556001.out⟩, ⟨by (with_reducible repeat (refine blk_drew ?_)); exact BK550.out⟩, ⟨by (with_reducible repeat (refine blk_drew ?_)); exact BK551.out⟩, ⟨by (with_reducible repeat (refine blk_drew ?_)); exact BK552.out⟩, ⟨by (with_reducible repeat (refine blk_drew ?_)); exact BK555.out⟩, ⟨by repeat ((with_reducible exact HB.out))⟩⟩
         case round =>
          clear H'
          try clear c1
          try clear c2
          try clear p2
          try clear c3
          try clear c4
          try clear p5
          try clear q5
          try clear hx5
          try clear c8
          try clear c10
          try clear c11
          try clear c12
          try clear c15
          try clear c20
          try clear c21
          try clear c24
          try clear c27
          try clear c28
          try clear c29
          try clear c31
          try clear c32
          try clear c33
          try clear c35
          try clear c36
          try clear c39
          try clear c40
          try clear c41
          try clear c44
          try clear c44b0
          try clear c45
          try clear c45b0
          try clear c46
          try clear c46b0
          try clear c47
          try clear c48
          try clear c49
          try clear hcz13_0
          try clear hcz13_1
          try clear hcz16_0
          try clear hcz16_1
          try clear hcz18_0
          try clear hcz18_1
          try clear hcz19_0
          try clear hcz19_1
          try clear hcz22_0
          try clear hcz22_1
          try clear hcz25_0
          try clear hcz25_1
          try clear hcz29_0
          try clear hcz29_1
          try clear hcz34_0
          try clear hcz34_1
          try clear hcz37_0
          try clear hcz37_1
          try clear hcz42_0
          try clear hcz42_1
          try clear hcz43_0
          try clear hcz43_1
          try clear hcz50_0
          try clear hcz50_1
          try clear hfz13_0
          try clear hfz13_1
          try clear hfz16_0
          try clear hfz16_1
          try clear hfz18_0
          try clear hfz18_1
          try clear hfz19_0
          try clear hfz19_1
          try clear hfz22_0
          try clear hfz22_1
          try clear hfz25_0
          try clear hfz25_1
          try clear hfz29_0
          try clear hfz29_1
          try clear hfz34_0
          try clear hfz34_1
          try clear hfz37_0
          try clear hfz37_1
          try clear hfz42_0
          try clear hfz42_1
          try clear hfz43_0
          try clear hfz43_1
          try clear hfz50_0
          try clear hfz50_1
          try clear hx556_0
          try clear p2
          try clear p556
          try clear q556
          obtain ⟨x40_3, x556001_3, u556001, rfl, HA, HK3, HO_556001, BK550, BK551, BK552, BK555, HB⟩ := hrel
          cases gk with
          | zero => exact absurd HA.out (by simp [spec_UnionSpaces.l1])
          | succ k3 =>
           have H := HA.out
           clear HA
           simp only [spec_UnionSpaces.l1] at H
           by_cases c51 : x40_3 < (l1_1.length : Int)
           ·rw [if_pos c51] at H
            have c51b0 : decide (x40_3 < (l1_1.length : Int)) = true := decide_eq_true c51
            clear c51
            by_cases c52 : 0 ≤ x40_3
            ·rw [if_pos c52] at H
             have c52b0 : decide (0 ≤ x40_3) = true := decide_eq_true c52
             clear c52
             by_cases c53 : x40_3 < (l1_1.length : Int)
             ·rw [if_pos c53] at H
              have c53b0 : decide (x40_3 < (l1_1.length : Int)) = true := decide_eq_true c53
              clear c53
              replace H := Option.bind_eq_some_iff.mp H
              obtain ⟨t558, A540, H⟩ := H
              replace H : (spec_UnionSpaces.l1 k3 (rd l0_1 x33_2) l0_1 (l0_1.length : Int) x33_2 l1_1 (l1_1.length : Int) (wrap64 (x40_3 + 1)) a1_0 l1_1 a0_0 t558) = some (r1, r2, r3) := H
              have A54 := Aside0.mk A540
              clear A540
              have H' := Aside0.mk H
              clear H
              have p557 : 0 ≤ (x40_3 : Int) := of_decide_eq_true (by (with_reducible assumption))
              have q557 : x40_3 < (l1_1.length : Int) := of_decide_eq_true (by (with_reducible assumption))
              obtain ⟨ad557, e557, hx557_0⟩ := Kd.at_int HR1_1.out x40_3 p557 q557
              cases e557
              replace hx557_0 := (HB.out.cell (World.block_lt_of_cell? w _ hx557_0)).trans hx557_0
              replace p557 := eq_true p557
              replace q557 := eq_true q557
              have hnb55 := NB555_550.out
              have hnc55 := NB550_555.out
              have hnb56 := NB555_551.out
              have hnc56 := NB551_555.out
              have hnb57 := NB555_552.out
              have hnc57 := NB552_555.out
              have hcz58_0 : wr.cell? ⟨gb555, 0, none⟩ = some (.int .i64 a0_0) := (blk_cell BK555.out 0).trans rfl
              have hcz58_1 : wr.cell? ⟨gb555, 1, none⟩ = some (u556001) := (blk_cell BK555.out 1).trans rfl
              have hfz58_0 := blk_frozen BK555.out 0
              have hfz58_1 := blk_frozen BK555.out 1
              obtain ⟨Ao59, co59, eo59⟩ := Kd.R_slice HO_556001.out
              subst eo59
              go_wp2_with (((with_reducible refine gate_callee (f := 59) rfl ?_); refine goesL_ (some 49) rfl rfl Try.func59 (by kernel_rfl) rfl #[.slice Ao59 x556001_3.length co59, .int .i64 (Go.bits .or .i64 (rd l0_1 x33_2) (rd l1_1 x40_3))] rfl (by (try simp only [List.map_toArray, List.map_cons, List.map_nil]); rfl) ?_; (with_reducible refine (spec_spPut.calls k3 (fun k_ => some k_ = (.slice Ao59 x556001_3.length co59 : Value).ownBlock) (.slice Ao59 x556001_3.length co59) x556001_3 (Go.bits .or .i64 (rd l0_1 x33_2) (rd l1_1 x40_3)) t558 w _ ?side1 ?side2 A54.out).mono ?_); (case side1 => repeat ((with_reducible exact HB.out))); (case side2 => exact Kd.R_tight rfl HO_556001.out); rintro e w60 ⟨v559, rfl, ho0, hb, hkp⟩; refine ⟨_, rfl, ?_⟩; have n0_ := Aside0.mk (blk_kept (by (with_reducible repeat (refine blk_drew ?_)); exact BK550.out) hkp (fun hs_ => (fun e_ => (Kd.R_ne HO_556001.out BK550.out (by decide)) e_) hs_)); have n1_ := Aside0.mk (blk_kept (by (with_reducible repeat (refine blk_drew ?_)); exact BK551.out) hkp (fun hs_ => (fun e_ => (Kd.R_ne HO_556001.out BK551.out (by decide)) e_) hs_)); have n2_ := Aside0.mk (blk_kept (by (with_reducible repeat (refine blk_drew ?_)); exact BK552.out) hkp (fun hs_ => (fun e_ => (Kd.R_ne HO_556001.out BK552.out (by decide)) e_) hs_)); have n3_ := Aside0.mk (blk_kept (by (with_reducible repeat (refine blk_drew ?_)); exact BK555.out) hkp (fun hs_ => (fun e_ => (Kd.R_ne HO_556001.out BK555.out (by decide)) e_) hs_)); have n4_ := Aside0.mk (Kd.R_mono (ok' := fun k_ => True) ho0 (fun k_ hk_ => trivial)); have n5_ := Aside0.mk (hb); clear BK550; clear BK551; clear BK552; clear BK555; clear HB; clear HO_556001; have BK550 := n0_; have BK551 := n1_; have BK552 := n2_; have BK555 := n3_; have HO560 := n4_; have HB := n5_; clear n0_ n1_ n2_ n3_ n4_ n5_; (try clear hb); (try clear hkp); (try clear ho0); obtain ⟨Ao61, co61, eo61⟩ := Kd.R_slice HO560.out; subst eo61; have hcz62_0 : w60.cell? ⟨gb555, 0, none⟩ = some (.int .i64 a0_0) := (blk_cell BK555.out 0).trans rfl; have hcz62_1 : w60.cell? ⟨gb555, 1, none⟩ = some (.slice Ao59 x556001_3.length co59) := (blk_cell BK555.out 1).trans rfl; have hfz62_0 := blk_frozen BK555.out 0; have hfz62_1 := blk_frozen BK555.out 1))
              go_roundg k3
              case measure => have := HJ2.out; have := HK2.out; have := HK3.out; omega
              case rel => exact ⟨(wrap64 (x40_3 + 1)), (t558), (.slice Ao61 t558.length co61), (by rfl), H', ⟨by have := HJ2.out; have := HK2.out; have := HK3.out; omega⟩, ⟨by (with_reducible repeat (apply Kd.R_drew)); exact Kd.R_mono (Kd.R_far (p := ⟨gb555, 1, none⟩) (Kd.R_types HO560.out BK555.out (by decide)) (fun _ hk => hk.2) (.slice Ao61 t558.length co61)) (fun _ hk => trivial)⟩, ⟨by (with_reducible repeat (refine blk_drew ?_)); refine blk_far ?_ NB550_555.out _; (with_reducible repeat (refine blk_drew ?_)); exact BK550.out⟩, ⟨by (with_reducible repeat (refine blk_drew ?_)); refine blk_far ?_ NB551_555.out _; (with_reducible repeat (refine blk_drew ?_)); exact BK551.out⟩, ⟨by (with_reducible repeat (refine blk_drew ?_)); refine blk_far ?_ NB552_555.out _; (with_reducible repeat (refine blk_drew ?_)); exact BK552.out⟩, ⟨by (with_reducible repeat (refine blk_drew ?_)); refine blk_put (cs := #[.int .i64 a0_0, .slice Ao59 x556001_3.length co59]) ?_ 1 _ rfl; (with_reducible repeat (refine blk_drew ?_)); exact BK555.out⟩, ⟨by repeat ((with_reducible first | exact HB.out | refine below_set ?_ GE555.out))⟩⟩
             ·rw [if_neg c53] at H
              exact absurd H (by simp)
            ·rw [if_neg c52] at H
             exact absurd H (by simp)
           ·rw [if_neg c51] at H
            have c51b0 : decide (x40_3 < (l1_1.length : Int)) = false := decide_eq_false c51
            clear c51
            have H' := Aside0.mk H
            clear H
            go_wp2
            go_roundg k3
            case measure => have := HJ2.out; have := HK2.out; have := HK3.out; omega
            case rel => exact ⟨(wrap64 (x33_2 + 1)), (x556001_3), (u556001), (by rfl), H', ⟨by have := HJ2.out; have := HK2.out; have := HK3.out; omega⟩, ⟨by (with_reducible repeat (apply Kd.R_drew)); exact HO_556001.out⟩, ⟨by (with_reducible repeat (refine blk_drew ?_)); exact BK550.out⟩, ⟨by (with_reducible repeat (refine blk_drew ?_)); exact BK551.out⟩, ⟨by (with_reducible repeat (refine blk_drew ?_)); exact BK552.out⟩, ⟨by (with_reducible repeat (refine blk_drew ?_)); exact BK555.out⟩, ⟨by repeat ((with_reducible exact HB.out))⟩⟩
        ·rw [if_neg c46] at H
         exact absurd H (by simp)
       ·rw [if_neg c45] at H
        exact absurd H (by simp)
      ·rw [if_neg c44] at H
       have c44b0 : decide (x33_2 < (l0_1.length : Int)) = false := decide_eq_false c44
       clear c44
       simp only [Option.some.injEq, Prod.mk.injEq] at H
       obtain ⟨rfl, rfl, rfl⟩ := H
       have hnb63 := NB555_550.out
       have hnc63 := NB550_555.out
       have hnb64 := NB555_551.out
       have hnc64 := NB551_555.out
       have hnb65 := NB555_552.out
       have hnc65 := NB552_555.out
       have hcz66_0 : wr.cell? ⟨gb555, 0, none⟩ = some (.int .i64 a0_0) := (blk_cell BK555.out 0).trans rfl
       have hcz66_1 : wr.cell? ⟨gb555, 1, none⟩ = some (u556001) := (blk_cell BK555.out 1).trans rfl
       have hfz66_0 := blk_frozen BK555.out 0
       have hfz66_1 := blk_frozen BK555.out 1
       have hnb67 := NB552_550.out
       have hnc67 := NB550_552.out
       have hnb68 := NB552_551.out
       have hnc68 := NB551_552.out
       have hcz69_0 : wr.cell? ⟨gb552, 0, none⟩ = some (.int .i64 0) := (blk_cell BK552.out 0).trans rfl
       have hcz69_1 : wr.cell? ⟨gb552, 1, none⟩ = some (.slice none 0 0) := (blk_cell BK552.out 1).trans rfl
       have hfz69_0 := blk_frozen BK552.out 0
       have hfz69_1 := blk_frozen BK552.out 1
       obtain ⟨Ao70, co70, eo70⟩ := Kd.R_slice HO_556001.out
       subst eo70
       go_wp2
       refine bodyPost_ret (results_ct rfl _ _ gb552 28 #[.int .i64 a0_0, .slice Ao70 x556001_2.length co70] (0, 0) _ rfl (by (with_reducible repeat (refine blk_drew ?_)); refine blk_put (cs := #[.int .i64 a0_0, .slice none 0 0]) ?_ 1 _ rfl; (with_reducible repeat (refine blk_drew ?_)); refine blk_put (cs := #[.int .i64 0, .slice none 0 0]) ?_ 0 _ rfl; (with_reducible repeat (refine blk_drew ?_)); exact BK552.out) Try.underlying28 rfl (by kernel_rfl)) rfl ?_
       exact ⟨_, by rfl, by (with_reducible repeat (apply Kd.R_drew)); exact Kd.R_mono (Kd.R_far (p := ⟨gb552, 1, none⟩) (Kd.R_far (p := ⟨gb552, 0, none⟩) (Kd.R_types HO_556001.out BK552.out (by decide)) (fun _ hk => hk.2) (.int .i64 a0_0)) (fun _ hk => hk.2) (.slice Ao70 x556001_2.length co70)) (fun _ hk => trivial), by repeat ((with_reducible first | exact HB.out | refine below_set ?_ GE552.out))⟩

/-! ### impl_family_closed: function 61 -/
mutual
def impl_family_closed.l0 : Nat → List Bool → Int → Option (List Bool)
 | 0, _, _ => none
 | k + 1, x0, x8 => if x8 < 128 then (impl_family_closed.l1 k x0 x8 x8 x8 0) else (some x0)
def impl_family_closed.l1 : Nat → List Bool → Int → Int → Int → Int → Option (List Bool)
 | 0, _, _, _, _, _ => none
 | k + 1, x0, x3, x8, x11, x12 => if x12 < x11 then (if 0 ≤ x3 then (if x3 < (x0.length : Int) then (if x3 < 128 then (if rdOf false x0 x3 = true then (if 0 ≤ x12 then (if x12 < (x0.length : Int) then (if x12 < 128 then (if rdOf false x0 x12 = true then (if 0 ≤ (Go.bits .or .i64 x3 x12) then (if (Go.bits .or .i64 x3 x12) < (x0.length : Int) then (if (Go.bits .or .i64 x3 x12) < 128 then (impl_family_closed.l1 k (x0.set ((Go.bits .or .i64 x3 x12) : Int).toNat true) x3 x8 x11 (wrap64 (x12 + 1))) else (none)) else (none)) else (none)) else (impl_family_closed.l1 k x0 x3 x8 x11 (wrap64 (x12 + 1)))) else (none)) else (none)) else (none)) else (impl_family_closed.l1 k x0 x3 x8 x11 (wrap64 (x12 + 1)))) else (none)) else (none)) else (none)) else (impl_family_closed.l0 k x0 (wrap64 (x8 + 1)))
end
def impl_family_closed.f (k : Nat) (l0 : List Bool) : Option (List Bool) := if 0 < (l0.length : Int) then (impl_family_closed.l0 k (l0.set (0 : Int).toNat true) 0) else (none)
theorem impl_family_closed.mono_l : ∀ k, (∀ y0 y1, LeO (impl_family_closed.l0 k y0 y1) (impl_family_closed.l0 (k + 1) y0 y1)) ∧ (∀ y0 y1 y2 y3 y4, LeO (impl_family_closed.l1 k y0 y1 y2 y3 y4) (impl_family_closed.l1 (k + 1) y0 y1 y2 y3 y4))
 | 0 => ⟨fun _ _ r h => by simp [impl_family_closed.l0] at h, fun _ _ _ _ _ r h => by simp [impl_family_closed.l1] at h⟩
 | k + 1 => by
  obtain ⟨ih0, ih1⟩ := impl_family_closed.mono_l k
  refine ⟨?_, ?_⟩
  ·intro y0 y1
   unfold impl_family_closed.l0
   repeat' first
   | (with_reducible exact ih1 _ _ _ _ _)
   | (with_reducible exact LeO.refl _)
   | (with_reducible refine LeO.ite ?_ ?_)
  ·intro y0 y1 y2 y3 y4
   unfold impl_family_closed.l1
   repeat' first
   | (with_reducible exact ih0 _ _)
   | (with_reducible exact ih1 _ _ _ _ _)
   | (with_reducible exact LeO.refl _)
   | (with_reducible refine LeO.ite ?_ ?_)
theorem impl_family_closed.mono : ∀ a0 k, LeO (impl_family_closed.f k a0) (impl_family_closed.f (k + 1) a0) := by
 intro a0 k
 obtain ⟨ih0, ih1⟩ := impl_family_closed.mono_l k
 unfold impl_family_closed.f
 repeat' first
   | (with_reducible exact ih0 _ _)
   | (with_reducible exact LeO.refl _)
   | (with_reducible refine LeO.ite ?_ ?_)
set_option maxHeartbeats 8000000 in
set_option maxRecDepth 100000 in
theorem impl_family_closed.calls (k : Nat) (P0_ : Nat → Prop) (u9000_ : Value) (l0 : List Bool) (r : List Bool) (w0 w : World) (hB : Below w0.heap.size w0 w) (ho0 : Kd.R Kd.bool 81 w w0.heap.size P0_ u9000_ l0) (h : impl_family_closed.f k l0 = some r) :
  Calls Try.prog 61 #[asP u9000_] w fun e w' => ∃ v0_ : Value, e = .returned (asP v0_) ∧ Kd.R Kd.bool 81 w' w0.heap.size (fun k_ => (P0_ k_ ∨ w.heap.size ≤ k_)) v0_ r ∧ Below w0.heap.size w0 w' ∧ Kept w w' (fun k_ => P0_ k_) := by
 have HO0 := Aside0.mk (show Kd.R Kd.bool 81 w w0.heap.size (fun k_ => (P0_ k_ ∨ w.heap.size ≤ k_)) u9000_ l0 from Kd.R_mono ho0 (fun k_ hk => (.inl hk)))
 have HK := Aside0.mk (Kept.refl w (fun k_ => P0_ k_))
 have HW0 := Aside0.mk hB.size
 have HB := Aside0.mk hB
 clear hB
 have H : (if 0 < (l0.length : Int) then (impl_family_closed.l0 k (l0.set (0 : Int).toNat true) 0) else (none)) = some r := h
 clear h
 by_cases c2 : 0 < (l0.length : Int)
 ·rw [if_pos c2] at H
  have c2b0 : decide (0 < (l0.length : Int)) = true := decide_eq_true c2
  have c2b1 : decide (0 < l0.length) = true := decide_eq_true (by omega)
  clear c2
  obtain ⟨y561, hy561⟩ : ∃ y_ : List Bool, y_ = (l0.set (0 : Int).toNat true) := ⟨_, rfl⟩
  replace H : (impl_family_closed.l0 k y561 0) = some r := by (rw [hy561]; with_reducible exact H)
  have Ny561 := Aside0.mk hy561
  clear hy561
  have H' := Aside0.mk H
  clear H
  have p3 : 0 ≤ (0 : Int) := (by omega)
  have q3 : (0 : Int) < ((l0.length : Int) : Int) := of_decide_eq_true (by (with_reducible assumption))
  have qi3 : (0 < l0.length) = True := eq_true (by omega)
  obtain ⟨go3, co3, eo3, gb3, gl3, cl3, HG3⟩ := Kd.R_form HO0.out (by omega)
  (cases eo3)
  have GB3 := Aside0.mk gb3
  have GG3 := Aside0.mk HG3
  clear gb3 gl3 HG3
  (try simp only [asP_slice])
  have HMgo3 := Aside0.mk (show (P0_ go3 ∨ w.heap.size ≤ go3) from (HO0.out.1 _ rfl))
  obtain ⟨hx3_0, hf3_0⟩ := Kd.R_celln false HO0.out (0 : Int) p3 q3
  (try rw [show ((0 : Int)).toNat = 0 from rfl] at hx3_0)
  skip
  (try rw [show ((0 : Int)).toNat = 0 from rfl] at hf3_0)
  skip
  replace p3 := eq_true p3
  replace q3 := eq_true q3
  have HP4 := Kd.R_putg HO0.out (0 : Int) true
  go_enter Try.func61, Try.ntmps61
  go_wp2_with (((with_reducible refine gate_store (t := 4) (p := 7) rfl ?_); refine store_event (t := 4) (p := 7) (v := ?vo_w5) (w1 := (w.setCell ⟨go3, (0 : Int).toNat, none⟩ (.bool true))) ?hg ?ho ?hn ?hr ?_; (case ho => rfl); (case hg => rfl); (case hn => rfl); (case hr => (go_simp; done)); intro w5 hw; have hg : w.grownBy w5 (some go3) := (by rw [hw]; exact HP4.2); have hp_ : Kd.R Kd.bool 81 w5 w0.heap.size (fun k_ => (P0_ k_ ∨ w.heap.size ≤ k_)) (.slice (some ⟨go3, 0, none⟩) l0.length co3) y561 := (by rw [hw, Ny561.out]; exact HP4.1); clear HP4; have n0_ := Aside0.mk (hp_); have n1_ := Aside0.mk ((by rw [hw]; exact below_set (HB.out) GB3.out : Below w0.heap.size w0 w5)); have n2_ := Aside0.mk (Kept.of_grown (S := (fun k_ => P0_ k_)) hg (by repeat ((with_reducible exact HK.out))) (fun k_ e_ => (HO0.out.1 k_ e_))); clear HO0; clear HB; clear HK; have HO0 := n0_; have HB := n1_; have HK := n2_; clear n0_ n1_ n2_; clear hg hw hp_))
  go_loopg [8] k (fun kq v8 w' => ∃ (x0_1 : List Bool) (x8_1 : Int), v8 = .int .i64 x8_1 ∧ Aside0 (impl_family_closed.l0 kq x0_1 x8_1 = some r) ∧ Aside0 (kq ≤ k) ∧ Aside0 (Kd.R Kd.bool 81 w' w0.heap.size (fun k_ => (P0_ k_ ∨ w.heap.size ≤ k_)) (.slice (some ⟨go3, 0, none⟩) l0.length co3) x0_1) ∧ Aside0 (Kept w w' (fun k_ => P0_ k_)) ∧ Aside0 (Below w0.heap.size w0 w'))
  case atStart => exact ⟨(y561), (0), (by rfl), H', ⟨Nat.le_refl _⟩, ⟨by (with_reducible repeat (apply Kd.R_drew)); exact HO0.out⟩, ⟨by repeat ((with_reducible exact HK.out))⟩, ⟨by repeat ((with_reducible exact HB.out))⟩⟩
  case round =>
   clear H'
   try clear c2
   try clear c2b0
   try clear c2b1
   try clear p2
   try clear p3
   try clear q3
   try clear hx3
   try clear qi3
   try clear hf3
   try clear hx3_0
   try clear p3
   try clear q3
   obtain ⟨x0_1, x8_1, rfl, HA, HK1, HO_0, HK, HB⟩ := hrel
   have hl0_1 := (Kd.R_reads' HO_0.out).1
   rw [hl0_1] at HO_0
   skip
   cases gk with
   | zero => exact absurd HA.out (by simp [impl_family_closed.l0])
   | succ k1 =>
    have H := HA.out
    clear HA
    simp only [impl_family_closed.l0] at H
    by_cases c6 : x8_1 < 128
    ·rw [if_pos c6] at H
     have c6b0 : decide (x8_1 < 128) = true := decide_eq_true c6
     clear c6
     have H' := Aside0.mk H
     clear H
     go_wp2
     go_loopg [12] k1 (fun kq v12 w' => ∃ (x0_2 : List Bool) (x12_2 : Int), v12 = .int .i64 x12_2 ∧ Aside0 (impl_family_closed.l1 kq x0_2 x8_1 x8_1 x8_1 x12_2 = some r) ∧ Aside0 (kq ≤ k1) ∧ Aside0 (Kd.R Kd.bool 81 w' w0.heap.size (fun k_ => (P0_ k_ ∨ w.heap.size ≤ k_)) (.slice (some ⟨go3, 0, none⟩) x0_1.length co3) x0_2) ∧ Aside0 (Kept w w' (fun k_ => P0_ k_)) ∧ Aside0 (Below w0.heap.size w0 w'))
     case atStart => exact ⟨(x0_1), (0), (by rfl), H', ⟨Nat.le_refl _⟩, ⟨by (with_reducible repeat (apply Kd.R_drew)); exact HO_0.out⟩, ⟨by repeat ((with_reducible exact HK.out))⟩, ⟨by repeat ((with_reducible exact HB.out))⟩⟩
     case round =>
      clear H'
      try clear c2
      try clear c2b0
      try clear c2b1
      try clear p2
      try clear p3
      try clear q3
      try clear hx3
      try clear qi3
      try clear hf3
      try clear c6
      try clear c6b0
      try clear hx3_0
      try clear p2
      try clear p3
      try clear q3
      obtain ⟨x0_2, x12_2, rfl, HA, HK2, HO_0, HK, HB⟩ := hrel
      have hl0_2 := (Kd.R_reads' HO_0.out).1
      rw [hl0_2] at HO_0
      skip
      cases gk with
      | zero => exact absurd HA.out (by simp [impl_family_closed.l1])
      | succ k2 =>
       have H := HA.out
       clear HA
       simp only [impl_family_closed.l1] at H
       by_cases c7 : x12_2 < x8_1
       ·rw [if_pos c7] at H
        have c7b0 : decide (x12_2 < x8_1) = true := decide_eq_true c7
        clear c7
        by_cases c8 : 0 ≤ x8_1
        ·rw [if_pos c8] at H
         have c8b0 : decide (0 ≤ x8_1) = true := decide_eq_true c8
         clear c8
         by_cases c9 : x8_1 < (x0_2.length : Int)
         ·rw [if_pos c9] at H
          have c9b0 : decide (x8_1 < (x0_2.length : Int)) = true := decide_eq_true c9
          clear c9
          by_cases c10 : x8_1 < 128
          ·rw [if_pos c10] at H
           have c10b0 : decide (x8_1 < 128) = true := decide_eq_true c10
           clear c10
           obtain ⟨bq11, hbq11⟩ : ∃ b_ : Bool, b_ = (rdOf false x0_2 x8_1) := ⟨_, rfl⟩
           replace H : (if bq11 = true then (if 0 ≤ x12_2 then (if x12_2 < (x0_2.length : Int) then (if x12_2 < 128 then (if rdOf false x0_2 x12_2 = true then (if 0 ≤ (Go.bits .or .i64 x8_1 x12_2) then (if (Go.bits .or .i64 x8_1 x12_2) < (x0_2.length : Int) then (if (Go.bits .or .i64 x8_1 x12_2) < 128 then (impl_family_closed.l1 k2 (x0_2.set ((Go.bits .or .i64 x8_1 x12_2) : Int).toNat true) x8_1 x8_1 x8_1 (wrap64 (x12_2 + 1))) else (none)) else (none)) else (none)) else (impl_family_closed.l1 k2 x0_2 x8_1 x8_1 x8_1 (wrap64 (x12_2 + 1)))) else (none)) else (none)) else (none)) else (impl_family_closed.l1 k2 x0_2 x8_1 x8_1 x8_1 (wrap64 (x12_2 + 1)))) = some r := by rw [← hbq11] at H; exact H
           have Nbq11 := Aside0.mk hbq11
           clear hbq11
           by_cases c12 : bq11 = true
           ·subst c12
            have H1 : (if 0 ≤ x12_2 then (if x12_2 < (x0_2.length : Int) then (if x12_2 < 128 then (if rdOf false x0_2 x12_2 = true then (if 0 ≤ (Go.bits .or .i64 x8_1 x12_2) then (if (Go.bits .or .i64 x8_1 x12_2) < (x0_2.length : Int) then (if (Go.bits .or .i64 x8_1 x12_2) < 128 then (impl_family_closed.l1 k2 (x0_2.set ((Go.bits .or .i64 x8_1 x12_2) : Int).toNat true) x8_1 x8_1 x8_1 (wrap64 (x12_2 + 1))) else (none)) else (none)) else (none)) else (impl_family_closed.l1 k2 x0_2 x8_1 x8_1 x8_1 (wrap64 (x12_2 + 1)))) else (none)) else (none)) else (none)) = some r := by rw [if_pos rfl] at H; exact H
            clear H
            have H := H1
            clear H1
            by_cases c13 : 0 ≤ x12_2
            ·rw [if_pos c13] at H
             have c13b0 : decide (0 ≤ x12_2) = true := decide_eq_true c13
             clear c13
             by_cases c14 : x12_2 < (x0_2.length : Int)
             ·rw [if_pos c14] at H
              have c14b0 : decide (x12_2 < (x0_2.length : Int)) = true := decide_eq_true c14
              clear c14
              by_cases c15 : x12_2 < 128
              ·rw [if_pos c15] at H
               have c15b0 : decide (x12_2 < 128) = true := decide_eq_true c15
               clear c15
               obtain ⟨bq16, hbq16⟩ : ∃ b_ : Bool, b_ = (rdOf false x0_2 x12_2) := ⟨_, rfl⟩
               replace H : (if bq16 = true then (if 0 ≤ (Go.bits .or .i64 x8_1 x12_2) then (if (Go.bits .or .i64 x8_1 x12_2) < (x0_2.length : Int) then (if (Go.bits .or .i64 x8_1 x12_2) < 128 then (impl_family_closed.l1 k2 (x0_2.set ((Go.bits .or .i64 x8_1 x12_2) : Int).toNat true) x8_1 x8_1 x8_1 (wrap64 (x12_2 + 1))) else (none)) else (none)) else (none)) else (impl_family_closed.l1 k2 x0_2 x8_1 x8_1 x8_1 (wrap64 (x12_2 + 1)))) = some r := by rw [← hbq16] at H; exact H
               have Nbq16 := Aside0.mk hbq16
               clear hbq16
               by_cases c17 : bq16 = true
               ·subst c17
                have H1 : (if 0 ≤ (Go.bits .or .i64 x8_1 x12_2) then (if (Go.bits .or .i64 x8_1 x12_2) < (x0_2.length : Int) then (if (Go.bits .or .i64 x8_1 x12_2) < 128 then (impl_family_closed.l1 k2 (x0_2.set ((Go.bits .or .i64 x8_1 x12_2) : Int).toNat true) x8_1 x8_1 x8_1 (wrap64 (x12_2 + 1))) else (none)) else (none)) else (none)) = some r := by rw [if_pos rfl] at H; exact H
                clear H
                have H := H1
                clear H1
                by_cases c18 : 0 ≤ (Go.bits .or .i64 x8_1 x12_2)
                ·rw [if_pos c18] at H
                 have c18b0 : decide (0 ≤ (Go.bits .or .i64 x8_1 x12_2)) = true := decide_eq_true c18
                 clear c18
                 by_cases c19 : (Go.bits .or .i64 x8_1 x12_2) < (x0_2.length : Int)
                 ·rw [if_pos c19] at H
                  have c19b0 : decide ((Go.bits .or .i64 x8_1 x12_2) < (x0_2.length : Int)) = true := decide_eq_true c19
                  clear c19
                  by_cases c20 : (Go.bits .or .i64 x8_1 x12_2) < 128
                  ·rw [if_pos c20] at H
                   have c20b0 : decide ((Go.bits .or .i64 x8_1 x12_2) < 128) = true := decide_eq_true c20
                   clear c20
                   obtain ⟨y564, hy564⟩ : ∃ y_ : List Bool, y_ = (x0_2.set ((Go.bits .or .i64 x8_1 x12_2) : Int).toNat true) := ⟨_, rfl⟩
                   replace H : (impl_family_closed.l1 k2 y564 x8_1 x8_1 x8_1 (wrap64 (x12_2 + 1))) = some r := by (rw [hy564]; with_reducible exact H)
                   have Ny564 := Aside0.mk hy564
                   clear hy564
                   have H' := Aside0.mk H
                   clear H
                   have p562 : 0 ≤ (x8_1 : Int) := of_decide_eq_true (by (with_reducible assumption))
                   have q562 : x8_1 < (x0_2.length : Int) := of_decide_eq_true (by (with_reducible assumption))
                   have qa562 : (x8_1 < 128) = True := eq_true (of_decide_eq_true (by (with_reducible assumption)))
                   obtain ⟨ad562, e562, hx562_0⟩ := Kd.at_bool (Kd.R_reads' HO_0.out).2.2 x8_1 p562 q562
                   (try rw [← Nbq11.out] at hx562_0)
                   skip
                   obtain rfl : (⟨go3, 0, none⟩ : Addr) = ad562 := (by injection e562)
                   (simp only [add_plain] at hx562_0)
                   replace p562 := eq_true p562
                   replace q562 := eq_true q562
                   have p563 : 0 ≤ (x12_2 : Int) := of_decide_eq_true (by (with_reducible assumption))
                   have q563 : x12_2 < (x0_2.length : Int) := of_decide_eq_true (by (with_reducible assumption))
                   have qa563 : (x12_2 < 128) = True := eq_true (of_decide_eq_true (by (with_reducible assumption)))
                   obtain ⟨ad563, e563, hx563_0⟩ := Kd.at_bool (Kd.R_reads' HO_0.out).2.2 x12_2 p563 q563
                   skip
                   (try rw [← Nbq16.out] at hx563_0)
                   obtain rfl : (⟨go3, 0, none⟩ : Addr) = ad563 := (by injection e563)
                   (simp only [add_plain] at hx563_0)
                   replace p563 := eq_true p563
                   replace q563 := eq_true q563
                   have p21 : 0 ≤ ((Go.bits .or .i64 x8_1 x12_2) : Int) := of_decide_eq_true (by (with_reducible assumption))
                   have q21 : ((Go.bits .or .i64 x8_1 x12_2) : Int) < ((x0_2.length : Int) : Int) := of_decide_eq_true (by (with_reducible assumption))
                   have qa21 : ((Go.bits .or .i64 x8_1 x12_2) < 128) = True := eq_true (of_decide_eq_true (by (with_reducible assumption)))
                   obtain ⟨hx21_0, hf21_0⟩ := Kd.R_celln false HO_0.out ((Go.bits .or .i64 x8_1 x12_2) : Int) p21 q21
                   replace p21 := eq_true p21
                   replace q21 := eq_true q21
                   have HP22 := Kd.R_putg HO_0.out ((Go.bits .or .i64 x8_1 x12_2) : Int) true
                   go_wp2_with (((with_reducible refine gate_store (t := 4) (p := 32) rfl ?_); refine store_event (t := 4) (p := 32) (v := ?vo_w23) (w1 := (wr.setCell ⟨go3, ((Go.bits .or .i64 x8_1 x12_2) : Int).toNat, none⟩ (.bool true))) ?hg ?ho ?hn ?hr ?_; (case ho => rfl); (case hg => rfl); (case hn => rfl); (case hr => (go_simp; done)); intro w23 hw; have hg : wr.grownBy w23 (some go3) := (by rw [hw]; exact HP22.2); have hp_ : Kd.R Kd.bool 81 w23 w0.heap.size (fun k_ => (P0_ k_ ∨ w.heap.size ≤ k_)) (.slice (some ⟨go3, 0, none⟩) x0_2.length co3) y564 := (by rw [hw, Ny564.out]; exact HP22.1); clear HP22; have n0_ := Aside0.mk (hp_); have n1_ := Aside0.mk ((by rw [hw]; exact below_set (HB.out) GB3.out : Below w0.heap.size w0 w23)); have n2_ := Aside0.mk (Kept.of_grown (S := (fun k_ => P0_ k_)) hg (by repeat ((with_reducible exact HK.out))) (fun k_ e_ => (HO_0.out.1 k_ e_))); clear HO_0; clear HB; clear HK; have HO_0 := n0_; have HB := n1_; have HK := n2_; clear n0_ n1_ n2_; clear hg hw hp_))
                   skip
                   go_roundg k2
                   case measure => have := HK1.out; have := HK2.out; omega
                   case rel => exact ⟨(y564), (wrap64 (x12_2 + 1)), (by rfl), H', ⟨by have := HK1.out; have := HK2.out; omega⟩, ⟨by (try simp only [hl0_2]); (with_reducible repeat (apply Kd.R_drew)); exact HO_0.out⟩, ⟨by repeat ((with_reducible exact HK.out))⟩, ⟨by repeat ((with_reducible exact HB.out))⟩⟩
                  ·rw [if_neg c20] at H
                   exact absurd H (by simp)
                 ·rw [if_neg c19] at H
                  exact absurd H (by simp)
                ·rw [if_neg c18] at H
                 exact absurd H (by simp)
               ·replace c17 := Bool.eq_false_iff.mpr c17
                subst c17
                have H1 : (impl_family_closed.l1 k2 x0_2 x8_1 x8_1 x8_1 (wrap64 (x12_2 + 1))) = some r := by rw [if_neg (show ¬ (false = true) by decide)] at H; exact H
                clear H
                have H := H1
                clear H1
                have H' := Aside0.mk H
                clear H
                have p562 : 0 ≤ (x8_1 : Int) := of_decide_eq_true (by (with_reducible assumption))
                have q562 : x8_1 < (x0_2.length : Int) := of_decide_eq_true (by (with_reducible assumption))
                have qa562 : (x8_1 < 128) = True := eq_true (of_decide_eq_true (by (with_reducible assumption)))
                obtain ⟨ad562, e562, hx562_0⟩ := Kd.at_bool (Kd.R_reads' HO_0.out).2.2 x8_1 p562 q562
                (try rw [← Nbq11.out] at hx562_0)
                skip
                obtain rfl : (⟨go3, 0, none⟩ : Addr) = ad562 := (by injection e562)
                (simp only [add_plain] at hx562_0)
                replace p562 := eq_true p562
                replace q562 := eq_true q562
                have p563 : 0 ≤ (x12_2 : Int) := of_decide_eq_true (by (with_reducible assumption))
                have q563 : x12_2 < (x0_2.length : Int) := of_decide_eq_true (by (with_reducible assumption))
                have qa563 : (x12_2 < 128) = True := eq_true (of_decide_eq_true (by (with_reducible assumption)))
                obtain ⟨ad563, e563, hx563_0⟩ := Kd.at_bool (Kd.R_reads' HO_0.out).2.2 x12_2 p563 q563
                skip
                (try rw [← Nbq16.out] at hx563_0)
                obtain rfl : (⟨go3, 0, none⟩ : Addr) = ad563 := (by injection e563)
                (simp only [add_plain] at hx563_0)
                replace p563 := eq_true p563
                replace q563 := eq_true q563
                go_wp2
                skip
                go_roundg k2
                case measure => have := HK1.out; have := HK2.out; omega
                case rel => exact ⟨(x0_2), (wrap64 (x12_2 + 1)), (by rfl), H', ⟨by have := HK1.out; have := HK2.out; omega⟩, ⟨by (try simp only [hl0_2]); (with_reducible repeat (apply Kd.R_drew)); exact HO_0.out⟩, ⟨by repeat ((with_reducible exact HK.out))⟩, ⟨by repeat ((with_reducible exact HB.out))⟩⟩
              ·rw [if_neg c15] at H
               exact absurd H (by simp)
             ·rw [if_neg c14] at H
              exact absurd H (by simp)
            ·rw [if_neg c13] at H
             exact absurd H (by simp)
           ·replace c12 := Bool.eq_false_iff.mpr c12
            subst c12
            have H1 : (impl_family_closed.l1 k2 x0_2 x8_1 x8_1 x8_1 (wrap64 (x12_2 + 1))) = some r := by rw [if_neg (show ¬ (false = true) by decide)] at H; exact H
            clear H
            have H := H1
            clear H1
            have H' := Aside0.mk H
            clear H
            have p562 : 0 ≤ (x8_1 : Int) := of_decide_eq_true (by (with_reducible assumption))
            have q562 : x8_1 < (x0_2.length : Int) := of_decide_eq_true (by (with_reducible assumption))
            have qa562 : (x8_1 < 128) = True := eq_true (of_decide_eq_true (by (with_reducible assumption)))
            obtain ⟨ad562, e562, hx562_0⟩ := Kd.at_bool (Kd.R_reads' HO_0.out).2.2 x8_1 p562 q562
            (try rw [← Nbq11.out] at hx562_0)
            obtain rfl : (⟨go3, 0, none⟩ : Addr) = ad562 := (by injection e562)
            (simp only [add_plain] at hx562_0)
            replace p562 := eq_true p562
            replace q562 := eq_true q562
            go_wp2
            skip
            go_roundg k2
            case measure => have := HK1.out; have := HK2.out; omega
            case rel => exact ⟨(x0_2), (wrap64 (x12_2 + 1)), (by rfl), H', ⟨by have := HK1.out; have := HK2.out; omega⟩, ⟨by (try simp only [hl0_2]); (with_reducible repeat (apply Kd.R_drew)); exact HO_0.out⟩, ⟨by repeat ((with_reducible exact HK.out))⟩, ⟨by repeat ((with_reducible exact HB.out))⟩⟩
          ·rw [if_neg c10] at H
           exact absurd H (by simp)
         ·rw [if_neg c9] at H
          exact absurd H (by simp)
        ·rw [if_neg c8] at H
         exact absurd H (by simp)
       ·rw [if_neg c7] at H
        have c7b0 : decide (x12_2 < x8_1) = false := decide_eq_false c7
        clear c7
        have H' := Aside0.mk H
        clear H
        go_wp2
        skip
        go_roundg k2
        case measure => have := HK1.out; have := HK2.out; omega
        case rel => exact ⟨(x0_2), (wrap64 (x8_1 + 1)), (by rfl), H', ⟨by have := HK1.out; have := HK2.out; omega⟩, ⟨by (try simp only [hl0_1]); (try simp only [hl0_2]); (with_reducible repeat (apply Kd.R_drew)); exact HO_0.out⟩, ⟨by repeat ((with_reducible exact HK.out))⟩, ⟨by repeat ((with_reducible exact HB.out))⟩⟩
    ·rw [if_neg c6] at H
     have c6b0 : decide (x8_1 < 128) = false := decide_eq_false c6
     clear c6
     obtain rfl := Option.some.inj H
     go_wp2
     go_ret
     exact ⟨(.slice (some ⟨go3, 0, none⟩) x0_1.length co3), by rfl, by (with_reducible repeat (apply Kd.R_drew)); exact HO_0.out, by repeat ((with_reducible exact HB.out)), by repeat ((with_reducible exact HK.out))⟩
 ·rw [if_neg c2] at H
  exact absurd H (by simp)

/-! ### impl_family_space: function 62 -/
def impl_family_space.l0 : Nat → List Bool → Int → Int → List Int → Option (Int × List Int)
 | 0, _, _, _, _ => none
 | k + 1, x10, x11, x567000, x567001 => if x11 < 128 then (if 0 ≤ x11 then (if x11 < (x10.length : Int) then (if rdOf false x10 x11 = true then (if x567001.length < 17592186044416 then (impl_family_space.l0 k x10 (wrap64 (x11 + 1)) x567000 (x567001 ++ [x11])) else (none)) else (impl_family_space.l0 k x10 (wrap64 (x11 + 1)) x567000 x567001)) else (none)) else (none)) else (some (x567000, x567001))
def impl_family_space.f (k : Nat) (l0 : List Bool) (a1 : Int) : Option (Int × List Int) := impl_family_space.l0 k l0 0 a1 ([] : List Int)
theorem impl_family_space.mono_l : ∀ k, (∀ y0 y1 y2 y3, LeO (impl_family_space.l0 k y0 y1 y2 y3) (impl_family_space.l0 (k + 1) y0 y1 y2 y3))
 | 0 => fun _ _ _ _ r h => by simp [impl_family_space.l0] at h
 | k + 1 => by
  have ih0 := impl_family_space.mono_l k
  ·intro y0 y1 y2 y3
   unfold impl_family_space.l0
   repeat' first
   | (with_reducible exact ih0 _ _ _ _)
   | (with_reducible exact LeO.refl _)
   | (with_reducible refine LeO.ite ?_ ?_)
theorem impl_family_space.mono : ∀ a0 a1 k, LeO (impl_family_space.f k a0 a1) (impl_family_space.f (k + 1) a0 a1) := by
 intro a0 a1 k
 have ih0 := impl_family_space.mono_l k
 unfold impl_family_space.f
 repeat' first
   | (with_reducible exact ih0 _ _ _ _)
set_option maxHeartbeats 8000000 in
set_option maxRecDepth 100000 in
theorem impl_family_space.calls (k : Nat) (A0 : Option Addr) (c0 : Nat) (l0 : List Bool) (a1 : Int) (r1 : Int) (r2 : List Int) (w : World) (hr0 : Kd.C Kd.bool w A0 l0.length l0) (hc0 : l0.length ≤ c0) (h : impl_family_space.f k l0 a1 = some (r1, r2)) :
  Calls Try.prog 62 #[.pointer A0, .int .i64 a1] w fun e w' => ∃ v1_ : Value, e = .returned (.agg #[.int .i64 r1, v1_]) ∧ Kd.R (Kd.int .i64) 3 w' w.heap.size (fun _ => True) v1_ r2 ∧ Below w.heap.size w w' := by
 have hu28 := Try.underlying28
 have HR0 := Aside0.mk hr0
 have HC0 := Aside0.mk hc0
 clear hr0 hc0
 have HB := Aside0.mk (Below.refl w.heap.size w)
 have H : (impl_family_space.l0 k l0 0 a1 ([] : List Int)) = some (r1, r2) := h
 clear h
 have H' := Aside0.mk H
 clear H
 go_enter Try.func62, Try.ntmps62
 go_wp2_with (first | ((with_reducible refine gate_dst (N := 4) rfl ?_); refine box_event ?hg (N := 4) ?hd (cs := #[.int .i64 0, .slice none 0 0]) (t := 28) ?hr ?_; (case hd => rfl); (case hg => rfl); (case hr => (go_simp; done)); intro gb565 hg w3 hbox hb; have n0_ := Aside0.mk (below_step (by repeat ((with_reducible exact HB.out))) hb); have n1_ := Aside0.mk (hbox); have n2_ := Aside0.mk ((by rw [hg]; exact (below_size (by repeat ((with_reducible exact HB.out)))) : w.heap.size ≤ gb565)); have n3_ := Aside0.mk ((by rw [hg]; exact (below_size (by repeat ((with_reducible exact HB.out)))) : w.heap.size ≤ gb565)); clear HB; have HB := n0_; have BK565 := n1_; have GW565 := n2_; have GE565 := n3_; clear n0_ n1_ n2_ n3_; clear hb hbox hg) | ((with_reducible refine gate_dst (N := 5) rfl ?_); refine box_event ?hg (N := 5) ?hd (cs := #[.int .i64 0, .slice none 0 0]) (t := 28) ?hr ?_; (case hd => rfl); (case hg => rfl); (case hr => (go_simp; done)); intro gb566 hg w4 hbox hb; have n0_ := Aside0.mk (blk_below (g := gb565) (o := .cells #[.int .i64 0, .slice none 0 0] 28 (0, 0)) (by (with_reducible repeat (refine blk_drew ?_)); exact BK565.out) hb); have n1_ := Aside0.mk (below_step (by repeat ((with_reducible exact HB.out))) hb); have n2_ := Aside0.mk (hbox); have n3_ := Aside0.mk ((by rw [hg]; exact (below_size (by repeat ((with_reducible exact HB.out)))) : w.heap.size ≤ gb566)); have n4_ := Aside0.mk ((by rw [hg]; exact (below_size (by repeat ((with_reducible exact HB.out)))) : w.heap.size ≤ gb566)); have n5_ := Aside0.mk ((by rw [hg]; exact Nat.ne_of_lt (blk_lt (g := gb565) (o := .cells #[.int .i64 0, .slice none 0 0] 28 (0, 0)) (by (with_reducible repeat (refine blk_drew ?_)); exact BK565.out)) : gb565 ≠ gb566)); have n6_ := Aside0.mk ((by rw [hg]; exact Nat.ne_of_gt (blk_lt (g := gb565) (o := .cells #[.int .i64 0, .slice none 0 0] 28 (0, 0)) (by (with_reducible repeat (refine blk_drew ?_)); exact BK565.out)) : gb566 ≠ gb565)); clear BK565; clear HB; have BK565 := n0_; have HB := n1_; have BK566 := n2_; have GW566 := n3_; have GE566 := n4_; have NB565_566 := n5_; have NB566_565 := n6_; clear n0_ n1_ n2_ n3_ n4_ n5_ n6_; clear hb hbox hg; have hnb5 := NB566_565.out; have hnc5 := NB565_566.out; have hcz6_0 : w4.cell? ⟨gb566, 0, none⟩ = some (.int .i64 0) := (blk_cell BK566.out 0).trans rfl; have hcz6_1 : w4.cell? ⟨gb566, 1, none⟩ = some (.slice none 0 0) := (blk_cell BK566.out 1).trans rfl; have hfz6_0 := blk_frozen BK566.out 0; have hfz6_1 := blk_frozen BK566.out 1))
 repeat (go_quiet (first | ((with_reducible refine gate_dst (N := 4) rfl ?_); refine box_event ?hg (N := 4) ?hd (cs := #[.int .i64 0, .slice none 0 0]) (t := 28) ?hr ?_; (case hd => rfl); (case hg => rfl); (case hr => first | (go_simp; done) | (go_simp; rfl)); intro gb565 hg w3 hbox hb; have n0_ := Aside0.mk (below_step (by repeat (first | (with_reducible first | exact HB.out | apply below_alloc | apply pw_below_drewN | apply below_drew1) | exact HB.out)) hb); have n1_ := Aside0.mk (hbox); have n2_ := Aside0.mk ((by rw [hg]; exact (below_size (by repeat (first | (with_reducible first | exact HB.out | apply below_alloc | apply pw_below_drewN | apply below_drew1) | exact HB.out))) : w.heap.size ≤ gb565)); have n3_ := Aside0.mk ((by rw [hg]; exact (below_size (by repeat (first | (with_reducible first | exact HB.out | apply below_alloc | apply pw_below_drewN | apply below_drew1) | exact HB.out))) : w.heap.size ≤ gb565)); clear HB; have HB := n0_; have BK565 := n1_; have GW565 := n2_; have GE565 := n3_; clear n0_ n1_ n2_ n3_; clear hb hbox hg) | ((with_reducible refine gate_dst (N := 5) rfl ?_); refine box_event ?hg (N := 5) ?hd (cs := #[.int .i64 0, .slice none 0 0]) (t := 28) ?hr ?_; (case hd => rfl); (case hg => rfl); (case hr => first | (go_simp; done) | (go_simp; rfl)); intro gb566 hg w4 hbox hb; have n0_ := Aside0.mk (blk_below (g := gb565) (o := .cells #[.int .i64 0, .slice none 0 0] 28 (0, 0)) (by (with_reducible repeat (first | refine blk_drewN ?_ _ | refine blk_drew ?_ | refine blk_alloc ?_ _)); exact BK565.out) hb); have n1_ := Aside0.mk (below_step (by repeat (first | (with_reducible first | exact HB.out | apply below_alloc | apply pw_below_drewN | apply below_drew1 | refine below_set ?_ GE565.out) | exact HB.out)) hb); have n2_ := Aside0.mk (hbox); have n3_ := Aside0.mk ((by rw [hg]; exact (below_size (by repeat (first | (with_reducible first | exact HB.out | apply below_alloc | apply pw_below_drewN | apply below_drew1 | refine below_set ?_ GE565.out) | exact HB.out))) : w.heap.size ≤ gb566)); have n4_ := Aside0.mk ((by rw [hg]; exact (below_size (by repeat (first | (with_reducible first | exact HB.out | apply below_alloc | apply pw_below_drewN | apply below_drew1 | refine below_set ?_ GE565.out) | exact HB.out))) : w.heap.size ≤ gb566)); have n5_ := Aside0.mk ((by rw [hg]; exact Nat.ne_of_lt (blk_lt (g := gb565) (o := .cells #[.int .i64 0, .slice none 0 0] 28 (0, 0)) (by (with_reducible repeat (first | refine blk_drewN ?_ _ | refine blk_drew ?_ | refine blk_alloc ?_ _)); exact BK565.out)) : gb565 ≠ gb566)); have n6_ := Aside0.mk ((by rw [hg]; exact Nat.ne_of_gt (blk_lt (g := gb565) (o := .cells #[.int .i64 0, .slice none 0 0] 28 (0, 0)) (by (with_reducible repeat (first | refine blk_drewN ?_ _ | refine blk_drew ?_ | refine blk_alloc ?_ _)); exact BK565.out)) : gb566 ≠ gb565)); clear BK565; clear HB; have BK565 := n0_; have HB := n1_; have BK566 := n2_; have GW566 := n3_; have GE566 := n4_; have NB565_566 := n5_; have NB566_565 := n6_; clear n0_ n1_ n2_ n3_ n4_ n5_ n6_; clear hb hbox hg; have hnb5 := NB566_565.out; have hnc5 := NB565_566.out; have hcz6_0 : w4.cell? ⟨gb566, 0, none⟩ = some (.int .i64 0) := (blk_cell BK566.out 0).trans rfl; have hcz6_1 : w4.cell? ⟨gb566, 1, none⟩ = some (.slice none 0 0) := (blk_cell BK566.out 1).trans rfl; have hfz6_0 := blk_frozen BK566.out 0; have hfz6_1 := blk_frozen BK566.out 1)); try go_wp2_with (first | ((with_reducible refine gate_dst (N := 4) rfl ?_); refine box_event ?hg (N := 4) ?hd (cs := #[.int .i64 0, .slice none 0 0]) (t := 28) ?hr ?_; (case hd => rfl); (case hg => rfl); (case hr => (go_simp; rfl)); intro gb565 hg w3 hbox hb; have n0_ := Aside0.mk (below_step (by repeat (exact HB.out)) hb); have n1_ := Aside0.mk (hbox); have n2_ := Aside0.mk ((by rw [hg]; exact (below_size (by repeat (exact HB.out))) : w.heap.size ≤ gb565)); have n3_ := Aside0.mk ((by rw [hg]; exact (below_size (by repeat (exact HB.out))) : w.heap.size ≤ gb565)); clear HB; have HB := n0_; have BK565 := n1_; have GW565 := n2_; have GE565 := n3_; clear n0_ n1_ n2_ n3_; clear hb hbox hg) | ((with_reducible refine gate_dst (N := 5) rfl ?_); refine box_event ?hg (N := 5) ?hd (cs := #[.int .i64 0, .slice none 0 0]) (t := 28) ?hr ?_; (case hd => rfl); (case hg => rfl); (case hr => (go_simp; rfl)); intro gb566 hg w4 hbox hb; have n0_ := Aside0.mk (blk_below (g := gb565) (o := .cells #[.int .i64 0, .slice none 0 0] 28 (0, 0)) (by (with_reducible repeat (refine blk_drew ?_)); exact BK565.out) hb); have n1_ := Aside0.mk (below_step (by repeat (exact HB.out)) hb); have n2_ := Aside0.mk (hbox); have n3_ := Aside0.mk ((by rw [hg]; exact (below_size (by repeat (exact HB.out))) : w.heap.size ≤ gb566)); have n4_ := Aside0.mk ((by rw [hg]; exact (below_size (by repeat (exact HB.out))) : w.heap.size ≤ gb566)); have n5_ := Aside0.mk ((by rw [hg]; exact Nat.ne_of_lt (blk_lt (g := gb565) (o := .cells #[.int .i64 0, .slice none 0 0] 28 (0, 0)) (by (with_reducible repeat (refine blk_drew ?_)); exact BK565.out)) : gb565 ≠ gb566)); have n6_ := Aside0.mk ((by rw [hg]; exact Nat.ne_of_gt (blk_lt (g := gb565) (o := .cells #[.int .i64 0, .slice none 0 0] 28 (0, 0)) (by (with_reducible repeat (refine blk_drew ?_)); exact BK565.out)) : gb566 ≠ gb565)); clear BK565; clear HB; have BK565 := n0_; have HB := n1_; have BK566 := n2_; have GW566 := n3_; have GE566 := n4_; have NB565_566 := n5_; have NB566_565 := n6_; clear n0_ n1_ n2_ n3_ n4_ n5_ n6_; clear hb hbox hg; have hnb5 := NB566_565.out; have hnc5 := NB565_566.out; have hcz6_0 : w4.cell? ⟨gb566, 0, none⟩ = some (.int .i64 0) := (blk_cell BK566.out 0).trans rfl; have hcz6_1 : w4.cell? ⟨gb566, 1, none⟩ = some (.slice none 0 0) := (blk_cell BK566.out 1).trans rfl; have hfz6_0 := blk_frozen BK566.out 0; have hfz6_1 := blk_frozen BK566.out 1)))
 go_loopg [11] k (fun kq v11 w' => ∃ (x11_1 : Int) (x567001_1 : List Int) (u567001 : Value), v11 = .int .i64 x11_1 ∧ Aside0 (impl_family_space.l0 kq l0 x11_1 a1 x567001_1 = some (r1, r2)) ∧ Aside0 (kq ≤ k) ∧ Aside0 (Kd.R (Kd.int .i64) 3 w' w.heap.size (fun _ => True) u567001 x567001_1) ∧ Aside0 (w'.heap[gb565]? = some (.cells #[.int .i64 0, (.slice none 0 0)] 28 (0, 0))) ∧ Aside0 (w'.heap[gb566]? = some (.cells #[.int .i64 a1, u567001] 28 (0, 0))) ∧ Aside0 (Below w.heap.size w w'))
 case atStart => exact ⟨(0), (([] : List Int)), (.slice none 0 0), (by rfl), H', ⟨Nat.le_refl _⟩, ⟨by exact Kd.R_nil _ _ _ _ _⟩, ⟨by (with_reducible repeat (refine blk_drew ?_)); refine blk_far ?_ NB565_566.out _; (with_reducible repeat (refine blk_drew ?_)); refine blk_far ?_ NB565_566.out _; (with_reducible repeat (refine blk_drew ?_)); exact BK565.out⟩, ⟨by (with_reducible repeat (refine blk_drew ?_)); refine blk_put (cs := #[.int .i64 a1, .slice none 0 0]) ?_ 1 _ rfl; (with_reducible repeat (refine blk_drew ?_)); refine blk_put (cs := #[.int .i64 0, .slice none 0 0]) ?_ 0 _ rfl; (with_reducible repeat (refine blk_drew ?_)); exact BK566.out⟩, ⟨by repeat ((with_reducible first | exact HB.out | refine below_set ?_ GE566.out))⟩⟩
 case round =>
  clear H'
  try clear p2
  try clear c5
  try clear c6
  try clear hcz6_0
  try clear hcz6_1
  try clear hfz6_0
  try clear hfz6_1
  obtain ⟨x11_1, x567001_1, u567001, rfl, HA, HK1, HO_567001, BK565, BK566, HB⟩ := hrel
  cases gk with
  | zero => exact absurd HA.out (by simp [impl_family_space.l0])
  | succ k1 =>
   have H := HA.out
   clear HA
   simp only [impl_family_space.l0] at H
   by_cases c7 : x11_1 < 128
   ·rw [if_pos c7] at H
    have c7b0 : decide (x11_1 < 128) = true := decide_eq_true c7
    clear c7
    by_cases c8 : 0 ≤ x11_1
    ·rw [if_pos c8] at H
     have c8b0 : decide (0 ≤ x11_1) = true := decide_eq_true c8
     clear c8
     by_cases c9 : x11_1 < (l0.length : Int)
     ·rw [if_pos c9] at H
      have c9b0 : decide (x11_1 < (l0.length : Int)) = true := decide_eq_true c9
      clear c9
      obtain ⟨bq10, hbq10⟩ : ∃ b_ : Bool, b_ = (rdOf false l0 x11_1) := ⟨_, rfl⟩
      replace H : (if bq10 = true then (if x567001_1.length < 17592186044416 then (impl_family_space.l0 k1 l0 (wrap64 (x11_1 + 1)) a1 (x567001_1 ++ [x11_1])) else (none)) else (impl_family_space.l0 k1 l0 (wrap64 (x11_1 + 1)) a1 x567001_1)) = some (r1, r2) := by rw [← hbq10] at H; exact H
      have Nbq10 := Aside0.mk hbq10
      clear hbq10
      by_cases c11 : bq10 = true
      ·subst c11
       have H1 : (if x567001_1.length < 17592186044416 then (impl_family_space.l0 k1 l0 (wrap64 (x11_1 + 1)) a1 (x567001_1 ++ [x11_1])) else (none)) = some (r1, r2) := by rw [if_pos rfl] at H; exact H
       clear H
       have H := H1
       clear H1
       by_cases c12 : x567001_1.length < 17592186044416
       ·rw [if_pos c12] at H
        have LMc12 := Aside0.mk c12
        clear c12
        obtain ⟨y568, hy568⟩ : ∃ y_ : List Int, y_ = (x567001_1 ++ [x11_1]) := ⟨_, rfl⟩
        replace H : (impl_family_space.l0 k1 l0 (wrap64 (x11_1 + 1)) a1 y568) = some (r1, r2) := by (rw [hy568]; with_reducible exact H)
        have Ny568 := Aside0.mk hy568
        clear hy568
        have H' := Aside0.mk H
        clear H
        have p567 : 0 ≤ (x11_1 : Int) := of_decide_eq_true (by (with_reducible assumption))
        have q567 : x11_1 < (l0.length : Int) := of_decide_eq_true (by (with_reducible assumption))
        have qa567 : (x11_1 < 128) = True := eq_true (of_decide_eq_true (by (with_reducible assumption)))
        obtain ⟨ad567, e567, hx567_0⟩ := Kd.at_bool HR0.out x11_1 p567 q567
        (try rw [← Nbq10.out] at hx567_0)
        cases e567
        replace hx567_0 := (HB.out.cell (World.block_lt_of_cell? w _ hx567_0)).trans hx567_0
        replace p567 := eq_true p567
        replace q567 := eq_true q567
        have hnb13 := NB566_565.out
        have hnc13 := NB565_566.out
        have hcz14_0 : wr.cell? ⟨gb566, 0, none⟩ = some (.int .i64 a1) := (blk_cell BK566.out 0).trans rfl
        have hcz14_1 : wr.cell? ⟨gb566, 1, none⟩ = some (u567001) := (blk_cell BK566.out 1).trans rfl
        have hfz14_0 := blk_frozen BK566.out 0
        have hfz14_1 := blk_frozen BK566.out 1
        go_wp2_with (((with_reducible refine gate_builtin (b := .append) (xs := #[.tmp 19, .tmp 21]) rfl ?_); at_builtin; refine Kd.R_append (Kd.int .i64) (w0 := w) w.heap.size rfl (.tmp 19) (.tmp 21) 22 3 (.int .i64 0) 8 rfl Try.underlying22 info3 rfl (by decide) (by omega) u567001 x567001_1 x11_1 [.int .i64 x11_1] (fun _ => True) (fun _ => False) rfl rfl ?aP (fun _ hk => hk.elim) ?aF ?aO ?aB ?aS ?aL ?_; (case aP => exact rfl); (case aB => exact (by repeat (exact HB.out))); (case aF => exact (fun _ _ => trivial)); (case aO => exact (by (with_reducible repeat (apply Kd.R_drew)); exact HO_567001.out)); (case aS => exact (below_size (by repeat (exact HB.out)))); (case aL => have := LMc12.out; omega); intro v569 w15 ho hb hg hat; rw [← Ny568.out] at ho; have n0_ := Aside0.mk (blk_grown (g := gb565) (o := .cells #[.int .i64 0, .slice none 0 0] 28 (0, 0)) (by (with_reducible repeat (refine blk_drew ?_)); exact BK565.out) hg (Kd.R_ne HO_567001.out BK565.out (by decide))); have n1_ := Aside0.mk (blk_grown (g := gb566) (o := .cells #[.int .i64 a1, u567001] 28 (0, 0)) (by (with_reducible repeat (refine blk_drew ?_)); exact BK566.out) hg (Kd.R_ne HO_567001.out BK566.out (by decide))); have n2_ := Aside0.mk (hb); have n3_ := Aside0.mk (ho); clear BK565; clear BK566; clear HB; clear HO_567001; have BK565 := n0_; have BK566 := n1_; have HB := n2_; have HO570 := n3_; clear n0_ n1_ n2_ n3_; clear ho hb hg hat; obtain ⟨Ao16, co16, eo16⟩ := Kd.R_slice HO570.out; subst eo16; have hcz17_0 : w15.cell? ⟨gb566, 0, none⟩ = some (.int .i64 a1) := (blk_cell BK566.out 0).trans rfl; have hcz17_1 : w15.cell? ⟨gb566, 1, none⟩ = some (u567001) := (blk_cell BK566.out 1).trans rfl; have hfz17_0 := blk_frozen BK566.out 0; have hfz17_1 := blk_frozen BK566.out 1))
        repeat (go_quiet (first | ((with_reducible refine gate_builtin (b := .append) (xs := #[.tmp 19, .tmp 21]) rfl ?_); at_builtin; refine Kd.R_append (Kd.int .i64) (w0 := w) w.heap.size rfl (.tmp 19) (.tmp 21) 22 3 (.int .i64 0) 8 rfl Try.underlying22 info3 rfl (by decide) (by omega) u567001 x567001_1 x11_1 [.int .i64 x11_1] (fun _ => True) (fun _ => False) rfl rfl ?aP (fun _ hk => hk.elim) ?aF ?aO ?aB ?aS ?aL ?_; (case aP => exact rfl); (case aB => exact (by repeat (first | (with_reducible first | exact HB.out | apply below_alloc | apply pw_below_drewN | apply below_drew1 | refine below_set ?_ GE565.out | refine below_set ?_ GE566.out) | exact HB.out))); (case aF => exact (fun _ _ => trivial)); (case aO => exact (by (with_reducible repeat (first | apply Kd.R_alloc | apply Kd.R_drewN | apply Kd.R_drew)); exact HO_567001.out)); (case aS => exact (below_size (by repeat (first | (with_reducible first | exact HB.out | apply below_alloc | apply pw_below_drewN | apply below_drew1 | refine below_set ?_ GE565.out | refine below_set ?_ GE566.out) | exact HB.out)))); (case aL => have := LMc12.out; omega); intro v569 w15 ho hb hg hat; rw [← Ny568.out] at ho; have n0_ := Aside0.mk (blk_grown (g := gb565) (o := .cells #[.int .i64 0, .slice none 0 0] 28 (0, 0)) (by (with_reducible repeat (first | refine blk_drewN ?_ _ | refine blk_drew ?_ | refine blk_alloc ?_ _)); exact BK565.out) hg (Kd.R_ne HO_567001.out BK565.out (by decide))); have n1_ := Aside0.mk (blk_grown (g := gb566) (o := .cells #[.int .i64 a1, u567001] 28 (0, 0)) (by (with_reducible repeat (first | refine blk_drewN ?_ _ | refine blk_drew ?_ | refine blk_alloc ?_ _)); exact BK566.out) hg (Kd.R_ne HO_567001.out BK566.out (by decide))); have n2_ := Aside0.mk (hb); have n3_ := Aside0.mk (ho); clear BK565; clear BK566; clear HB; clear HO_567001; have BK565 := n0_; have BK566 := n1_; have HB := n2_; have HO570 := n3_; clear n0_ n1_ n2_ n3_; clear ho hb hg hat; obtain ⟨Ao16, co16, eo16⟩ := Kd.R_slice HO570.out; subst eo16; have hcz17_0 : w15.cell? ⟨gb566, 0, none⟩ = some (.int .i64 a1) := (blk_cell BK566.out 0).trans rfl; have hcz17_1 : w15.cell? ⟨gb566, 1, none⟩ = some (u567001) := (blk_cell BK566.out 1).trans rfl; have hfz17_0 := blk_frozen BK566.out 0; have hfz17_1 := blk_frozen BK566.out 1)); try go_wp2_with (((with_reducible refine gate_builtin (b := .append) (xs := #[.tmp 19, .tmp 21]) rfl ?_); at_builtin; refine Kd.R_append (Kd.int .i64) (w0 := w) w.heap.size rfl (.tmp 19) (.tmp 21) 22 3 (.int .i64 0) 8 rfl Try.underlying22 info3 rfl (by decide) (by omega) u567001 x567001_1 x11_1 [.int .i64 x11_1] (fun _ => True) (fun _ => False) rfl rfl ?aP (fun _ hk => hk.elim) ?aF ?aO ?aB ?aS ?aL ?_; (case aP => exact rfl); (case aB => exact (by repeat ((with_reducible first | exact HB.out | apply pw_below_drewN)))); (case aF => exact (fun _ _ => trivial)); (case aO => exact (by (with_reducible repeat (apply Kd.R_drewN)); exact HO_567001.out)); (case aS => exact (below_size (by repeat ((with_reducible first | exact HB.out | apply pw_below_drewN))))); (case aL => have := LMc12.out; omega); intro v569 w15 ho hb hg hat; rw [← Ny568.out] at ho; have n0_ := Aside0.mk (blk_grown (g := gb565) (o := .cells #[.int .i64 0, .slice none 0 0] 28 (0, 0)) (by (with_reducible repeat (refine blk_drewN ?_ _)); exact BK565.out) hg (Kd.R_ne HO_567001.out BK565.out (by decide))); have n1_ := Aside0.mk (blk_grown (g := gb566) (o := .cells #[.int .i64 a1, u567001] 28 (0, 0)) (by (with_reducible repeat (refine blk_drewN ?_ _)); exact BK566.out) hg (Kd.R_ne HO_567001.out BK566.out (by decide))); have n2_ := Aside0.mk (hb); have n3_ := Aside0.mk (ho); clear BK565; clear BK566; clear HB; clear HO_567001; have BK565 := n0_; have BK566 := n1_; have HB := n2_; have HO570 := n3_; clear n0_ n1_ n2_ n3_; clear ho hb hg hat; obtain ⟨Ao16, co16, eo16⟩ := Kd.R_slice HO570.out; subst eo16; have hcz17_0 : w15.cell? ⟨gb566, 0, none⟩ = some (.int .i64 a1) := (blk_cell BK566.out 0).trans rfl; have hcz17_1 : w15.cell? ⟨gb566, 1, none⟩ = some (u567001) := (blk_cell BK566.out 1).trans rfl; have hfz17_0 := blk_frozen BK566.out 0; have hfz17_1 := blk_frozen BK566.out 1)))
        go_roundg k1
        case measure => have := HK1.out; omega
        case rel => exact ⟨(wrap64 (x11_1 + 1)), (y568), (.slice Ao16 y568.length co16), (by rfl), H', ⟨by have := HK1.out; omega⟩, ⟨by (with_reducible repeat (apply Kd.R_drew)); exact Kd.R_mono (Kd.R_far (p := ⟨gb566, 1, none⟩) (Kd.R_types HO570.out BK566.out (by decide)) (fun _ hk => hk.2) (.slice Ao16 y568.length co16)) (fun _ hk => trivial)⟩, ⟨by (with_reducible repeat (refine blk_drew ?_)); refine blk_far ?_ NB565_566.out _; (with_reducible repeat (refine blk_drew ?_)); exact BK565.out⟩, ⟨by (with_reducible repeat (refine blk_drew ?_)); refine blk_put (cs := #[.int .i64 a1, u567001]) ?_ 1 _ rfl; (with_reducible repeat (refine blk_drew ?_)); exact BK566.out⟩, ⟨by repeat ((with_reducible first | exact HB.out | refine below_set ?_ GE566.out))⟩⟩
       ·rw [if_neg c12] at H
        exact absurd H (by simp)
      ·replace c11 := Bool.eq_false_iff.mpr c11
       subst c11
       have H1 : (impl_family_space.l0 k1 l0 (wrap64 (x11_1 + 1)) a1 x567001_1) = some (r1, r2) := by rw [if_neg (show ¬ (false = true) by decide)] at H; exact H
       clear H
       have H := H1
       clear H1
       have H' := Aside0.mk H
       clear H
       have p567 : 0 ≤ (x11_1 : Int) := of_decide_eq_true (by (with_reducible assumption))
       have q567 : x11_1 < (l0.length : Int) := of_decide_eq_true (by (with_reducible assumption))
       have qa567 : (x11_1 < 128) = True := eq_true (of_decide_eq_true (by (with_reducible assumption)))
       obtain ⟨ad567, e567, hx567_0⟩ := Kd.at_bool HR0.out x11_1 p567 q567
       (try rw [← Nbq10.out] at hx567_0)
       cases e567
       replace hx567_0 := (HB.out.cell (World.block_lt_of_cell? w _ hx567_0)).trans hx567_0
       replace p567 := eq_true p567
       replace q567 := eq_true q567
       go_wp2
       repeat (go_quiet (fail); try go_wp2)
       go_roundg k1
       case measure => have := HK1.out; omega
       case rel => exact ⟨(wrap64 (x11_1 + 1)), (x567001_1), (u567001), (by rfl), H', ⟨by have := HK1.out; omega⟩, ⟨by (with_reducible repeat (apply Kd.R_drewN)); exact HO_567001.out⟩, ⟨by (with_reducible repeat (refine blk_drewN ?_ _)); exact BK565.out⟩, ⟨by (with_reducible repeat (refine blk_drewN ?_ _)); exact BK566.out⟩, ⟨by repeat ((with_reducible first | exact HB.out | apply pw_below_drewN))⟩⟩
     ·rw [if_neg c9] at H
      exact absurd H (by simp)
    ·rw [if_neg c8] at H
     exact absurd H (by simp)
   ·rw [if_neg c7] at H
    have c7b0 : decide (x11_1 < 128) = false := decide_eq_false c7
    clear c7
    simp only [Option.some.injEq, Prod.mk.injEq] at H
    obtain ⟨rfl, rfl⟩ := H
    have hnb18 := NB566_565.out
    have hnc18 := NB565_566.out
    have hcz19_0 : wr.cell? ⟨gb566, 0, none⟩ = some (.int .i64 a1) := (blk_cell BK566.out 0).trans rfl
    have hcz19_1 : wr.cell? ⟨gb566, 1, none⟩ = some (u567001) := (blk_cell BK566.out 1).trans rfl
    have hfz19_0 := blk_frozen BK566.out 0
    have hfz19_1 := blk_frozen BK566.out 1
    have hcz20_0 : wr.cell? ⟨gb565, 0, none⟩ = some (.int .i64 0) := (blk_cell BK565.out 0).trans rfl
    have hcz20_1 : wr.cell? ⟨gb565, 1, none⟩ = some (.slice none 0 0) := (blk_cell BK565.out 1).trans rfl
    have hfz20_0 := blk_frozen BK565.out 0
    have hfz20_1 := blk_frozen BK565.out 1
    obtain ⟨Ao21, co21, eo21⟩ := Kd.R_slice HO_567001.out
    subst eo21
    go_wp2
    repeat (go_quiet (fail); try go_wp2)
    refine bodyPost_ret (results_cell_row rfl _ _ gb565 28 #[.int .i64 a1, .slice Ao21 x567001_1.length co21] (0, 0) _ rfl (by (with_reducible repeat (refine blk_drew ?_)); refine blk_put (cs := #[.int .i64 a1, .slice none 0 0]) ?_ 1 _ rfl; (with_reducible repeat (refine blk_drew ?_)); refine blk_put (cs := #[.int .i64 0, .slice none 0 0]) ?_ 0 _ rfl; (with_reducible repeat (refine blk_drew ?_)); exact BK565.out) Try.underlying28 rfl (by kernel_rfl)) rfl ?_
    exact ⟨_, by rfl, by (with_reducible repeat (apply Kd.R_drew)); exact Kd.R_mono (Kd.R_far (p := ⟨gb565, 1, none⟩) (Kd.R_far (p := ⟨gb565, 0, none⟩) (Kd.R_types HO_567001.out BK565.out (by decide)) (fun _ hk => hk.2) (.int .i64 a1)) (fun _ hk => hk.2) (.slice Ao21 x567001_1.length co21)) (fun _ hk => trivial), by repeat ((with_reducible first | exact HB.out | refine below_set ?_ GE565.out))⟩

/-! ### impl_UnionSpaces: function 30 -/
mutual
def impl_UnionSpaces.j0 : Nat → Bool → Int → List Int → Int → List Int → Option (Int × List Int × Bool)
 | 0, _, _, _, _, _ => none
 | k + 1, x23, x572000, x572001, x573000, x573001 => if x23 = true then (some (0, ([] : List Int), false)) else ((impl_Space_family.f k x572000 x572001).bind fun t576 => (impl_UnionSpaces.l0 k t576 x573001 (x573001.length : Int) 0 x572000 x572001))
def impl_UnionSpaces.l0 : Nat → List Bool → List Int → Int → Int → Int → List Int → Option (Int × List Int × Bool)
 | 0, _, _, _, _, _, _ => none
 | k + 1, x6, x28, x29, x30, x572000, x572001 => if x30 < x29 then (if 0 ≤ x30 then (if x30 < (x28.length : Int) then (if 0 ≤ (rd x28 x30) then (if (rd x28 x30) < (x6.length : Int) then (if (rd x28 x30) < 128 then (impl_UnionSpaces.l0 k (x6.set ((rd x28 x30) : Int).toNat true) x28 x29 (wrap64 (x30 + 1)) x572000 x572001) else (none)) else (none)) else (none)) else (none)) else (none)) else ((impl_family_closed.f k x6).bind fun t581 => ((impl_family_space.f k t581 x572000).bind fun bt584 => (some (bt584.1, bt584.2, true))))
end
def impl_UnionSpaces.f (k : Nat) (a0_0 : Int) (l0_1 : List Int) (a1_0 : Int) (l1_1 : List Int) : Option (Int × List Int × Bool) := (impl_IsSpace.f k a0_0 l0_1).bind fun t574 => (if t574 = true then ((impl_IsSpace.f k a1_0 l1_1).bind fun t575 => (if t575 = true then (impl_UnionSpaces.j0 k (a0_0 != a1_0) a0_0 l0_1 a1_0 l1_1) else (impl_UnionSpaces.j0 k true a0_0 l0_1 a1_0 l1_1))) else (impl_UnionSpaces.j0 k true a0_0 l0_1 a1_0 l1_1))
theorem impl_UnionSpaces.mono_l : ∀ k, (∀ y0 y1 y2 y3 y4, LeO (impl_UnionSpaces.j0 k y0 y1 y2 y3 y4) (impl_UnionSpaces.j0 (k + 1) y0 y1 y2 y3 y4)) ∧ (∀ y0 y1 y2 y3 y4 y5, LeO (impl_UnionSpaces.l0 k y0 y1 y2 y3 y4 y5) (impl_UnionSpaces.l0 (k + 1) y0 y1 y2 y3 y4 y5))
 | 0 => ⟨fun _ _ _ _ _ r h => by simp [impl_UnionSpaces.j0] at h, fun _ _ _ _ _ _ r h => by simp [impl_UnionSpaces.l0] at h⟩
 | k + 1 => by
  obtain ⟨ih0, ih1⟩ := impl_UnionSpaces.mono_l k
  refine ⟨?_, ?_⟩
  ·intro y0 y1 y2 y3 y4
   unfold impl_UnionSpaces.j0
   repeat' first
   | (with_reducible exact ih1 _ _ _ _ _ _)
   | (with_reducible exact impl_Space_family.mono _ _ _)
   | (with_reducible exact LeO.refl _)
   | (with_reducible refine LeO.ite ?_ ?_)
   | (with_reducible refine LeO.bind ?_ (fun _ => ?_))
  ·intro y0 y1 y2 y3 y4 y5
   unfold impl_UnionSpaces.l0
   repeat' first
   | (with_reducible exact ih1 _ _ _ _ _ _)
   | (with_reducible exact impl_family_closed.mono _ _)
   | (with_reducible exact impl_family_space.mono _ _ _)
   | (with_reducible exact LeO.refl _)
   | (with_reducible refine LeO.ite ?_ ?_)
   | (with_reducible refine LeO.bind ?_ (fun _ => ?_))
theorem impl_UnionSpaces.mono : ∀ a0 a1 a2 a3 k, LeO (impl_UnionSpaces.f k a0 a1 a2 a3) (impl_UnionSpaces.f (k + 1) a0 a1 a2 a3) := by
 intro a0 a1 a2 a3 k
 obtain ⟨ih0, ih1⟩ := impl_UnionSpaces.mono_l k
 unfold impl_UnionSpaces.f
 repeat' first
   | (with_reducible exact ih0 _ _ _ _ _)
   | (with_reducible exact impl_IsSpace.mono _ _ _)
   | (with_reducible refine LeO.ite ?_ ?_)
   | (with_reducible refine LeO.bind ?_ (fun _ => ?_))
set_option maxHeartbeats 8000000 in
set_option maxRecDepth 100000 in
theorem impl_UnionSpaces.calls (k : Nat) (a0_0 : Int) (A0_1 : Option Addr) (c0_1 : Nat) (l0_1 : List Int) (a1_0 : Int) (A1_1 : Option Addr) (c1_1 : Nat) (l1_1 : List Int) (r1 : Int) (r2 : List Int) (r3 : Bool) (w : World) (hr0_1 : Kd.C (Kd.int .i64) w A0_1 l0_1.length l0_1) (hc0_1 : l0_1.length ≤ c0_1) (hr1_1 : Kd.C (Kd.int .i64) w A1_1 l1_1.length l1_1) (hc1_1 : l1_1.length ≤ c1_1) (h : impl_UnionSpaces.f k a0_0 l0_1 a1_0 l1_1 = some (r1, r2, r3)) :
  Calls Try.prog 30 #[.agg #[.int .i64 a0_0, .slice A0_1 l0_1.length c0_1], .agg #[.int .i64 a1_0, .slice A1_1 l1_1.length c1_1]] w fun e w' => ∃ v1_ : Value, e = .returned (.tuple #[.agg #[.int .i64 r1, v1_], .bool r3]) ∧ Kd.R (Kd.int .i64) 3 w' w.heap.size (fun _ => True) v1_ r2 ∧ Below w.heap.size w w' := by
 have hu28 := Try.underlying28
 have HR0_1 := Aside0.mk hr0_1
 have HC0_1 := Aside0.mk hc0_1
 clear hr0_1 hc0_1
 have HR1_1 := Aside0.mk hr1_1
 have HC1_1 := Aside0.mk hc1_1
 clear hr1_1 hc1_1
 have HB := Aside0.mk (Below.refl w.heap.size w)
 have H : ((impl_IsSpace.f k a0_0 l0_1).bind fun t574 => (if t574 = true then ((impl_IsSpace.f k a1_0 l1_1).bind fun t575 => (if t575 = true then (impl_UnionSpaces.j0 k (a0_0 != a1_0) a0_0 l0_1 a1_0 l1_1) else (impl_UnionSpaces.j0 k true a0_0 l0_1 a1_0 l1_1))) else (impl_UnionSpaces.j0 k true a0_0 l0_1 a1_0 l1_1))) = some (r1, r2, r3) := h
 clear h
 have HC3 := Aside0.mk H
 clear H
 go_enter Try.func30, Try.ntmps30
 go_upto_region 1 with (first | ((with_reducible refine gate_dst (N := 2) rfl ?_); refine box_event ?hg (N := 2) ?hd (cs := #[.int .i64 a0_0, .slice A0_1 l0_1.length c0_1]) (t := 28) ?hr ?_; (case hd => rfl); (case hg => rfl); (case hr => (go_simp; done)); intro gb571 hg w4 hbox hb; have n0_ := Aside0.mk (below_step (by repeat ((with_reducible exact HB.out))) hb); have n1_ := Aside0.mk (hbox); have n2_ := Aside0.mk ((by rw [hg]; exact (below_size (by repeat ((with_reducible exact HB.out)))) : w.heap.size ≤ gb571)); have n3_ := Aside0.mk ((by rw [hg]; exact (below_size (by repeat ((with_reducible exact HB.out)))) : w.heap.size ≤ gb571)); clear HB; have HB := n0_; have BK571 := n1_; have GW571 := n2_; have GE571 := n3_; clear n0_ n1_ n2_ n3_; clear hb hbox hg) | ((with_reducible refine gate_dst (N := 3) rfl ?_); refine box_event ?hg (N := 3) ?hd (cs := #[.int .i64 a1_0, .slice A1_1 l1_1.length c1_1]) (t := 28) ?hr ?_; (case hd => rfl); (case hg => rfl); (case hr => (go_simp; done)); intro gb572 hg w5 hbox hb; have n0_ := Aside0.mk (blk_below (g := gb571) (o := .cells #[.int .i64 a0_0, .slice A0_1 l0_1.length c0_1] 28 (0, 0)) (by (with_reducible repeat (refine blk_drew ?_)); exact BK571.out) hb); have n1_ := Aside0.mk (below_step (by repeat ((with_reducible exact HB.out))) hb); have n2_ := Aside0.mk (hbox); have n3_ := Aside0.mk ((by rw [hg]; exact (below_size (by repeat ((with_reducible exact HB.out)))) : w.heap.size ≤ gb572)); have n4_ := Aside0.mk ((by rw [hg]; exact (below_size (by repeat ((with_reducible exact HB.out)))) : w.heap.size ≤ gb572)); have n5_ := Aside0.mk ((by rw [hg]; exact Nat.ne_of_lt (blk_lt (g := gb571) (o := .cells #[.int .i64 a0_0, .slice A0_1 l0_1.length c0_1] 28 (0, 0)) (by (with_reducible repeat (refine blk_drew ?_)); exact BK571.out)) : gb571 ≠ gb572)); have n6_ := Aside0.mk ((by rw [hg]; exact Nat.ne_of_gt (blk_lt (g := gb571) (o := .cells #[.int .i64 a0_0, .slice A0_1 l0_1.length c0_1] 28 (0, 0)) (by (with_reducible repeat (refine blk_drew ?_)); exact BK571.out)) : gb572 ≠ gb571)); clear BK571; clear HB; have BK571 := n0_; have HB := n1_; have BK572 := n2_; have GW572 := n3_; have GE572 := n4_; have NB571_572 := n5_; have NB572_571 := n6_; clear n0_ n1_ n2_ n3_ n4_ n5_ n6_; clear hb hbox hg) | ((with_reducible refine gate_dst (N := 4) rfl ?_); refine box_event ?hg (N := 4) ?hd (cs := #[.int .i64 0, .slice none 0 0]) (t := 28) ?hr ?_; (case hd => rfl); (case hg => rfl); (case hr => (go_simp; done)); intro gb573 hg w6 hbox hb; have n0_ := Aside0.mk (blk_below (g := gb571) (o := .cells #[.int .i64 a0_0, .slice A0_1 l0_1.length c0_1] 28 (0, 0)) (by (with_reducible repeat (refine blk_drew ?_)); exact BK571.out) hb); have n1_ := Aside0.mk (blk_below (g := gb572) (o := .cells #[.int .i64 a1_0, .slice A1_1 l1_1.length c1_1] 28 (0, 0)) (by (with_reducible repeat (refine blk_drew ?_)); exact BK572.out) hb); have n2_ := Aside0.mk (below_step (by repeat ((with_reducible exact HB.out))) hb); have n3_ := Aside0.mk (hbox); have n4_ := Aside0.mk ((by rw [hg]; exact (below_size (by repeat ((with_reducible exact HB.out)))) : w.heap.size ≤ gb573)); have n5_ := Aside0.mk ((by rw [hg]; exact (below_size (by repeat ((with_reducible exact HB.out)))) : w.heap.size ≤ gb573)); have n6_ := Aside0.mk ((by rw [hg]; exact Nat.ne_of_lt (blk_lt (g := gb571) (o := .cells #[.int .i64 a0_0, .slice A0_1 l0_1.length c0_1] 28 (0, 0)) (by (with_reducible repeat (refine blk_drew ?_)); exact BK571.out)) : gb571 ≠ gb573)); have n7_ := Aside0.mk ((by rw [hg]; exact Nat.ne_of_gt (blk_lt (g := gb571) (o := .cells #[.int .i64 a0_0, .slice A0_1 l0_1.length c0_1] 28 (0, 0)) (by (with_reducible repeat (refine blk_drew ?_)); exact BK571.out)) : gb573 ≠ gb571)); have n8_ := Aside0.mk ((by rw [hg]; exact Nat.ne_of_lt (blk_lt (g := gb572) (o := .cells #[.int .i64 a1_0, .slice A1_1 l1_1.length c1_1] 28 (0, 0)) (by (with_reducible repeat (refine blk_drew ?_)); exact BK572.out)) : gb572 ≠ gb573)); have n9_ := Aside0.mk ((by rw [hg]; exact Nat.ne_of_gt (blk_lt (g := gb572) (o := .cells #[.int .i64 a1_0, .slice A1_1 l1_1.length c1_1] 28 (0, 0)) (by (with_reducible repeat (refine blk_drew ?_)); exact BK572.out)) : gb573 ≠ gb572)); clear BK571; clear BK572; clear HB; have BK571 := n0_; have BK572 := n1_; have HB := n2_; have BK573 := n3_; have GW573 := n4_; have GE573 := n5_; have NB571_573 := n6_; have NB573_571 := n7_; have NB572_573 := n8_; have NB573_572 := n9_; clear n0_ n1_ n2_ n3_ n4_ n5_ n6_ n7_ n8_ n9_; clear hb hbox hg))
 skip
 go_cut [23] (fun v23 wc => ∃ (kq : Nat) (x23_2 : Bool), v23 = .bool x23_2 ∧ Aside0 (impl_UnionSpaces.j0 kq x23_2 a0_0 l0_1 a1_0 l1_1 = some (r1, r2, r3)) ∧ Aside0 (kq ≤ k) ∧ Aside0 (wc.heap[gb571]? = some (.cells #[.int .i64 a0_0, (.slice A0_1 l0_1.length c0_1)] 28 (0, 0))) ∧ Aside0 (wc.heap[gb572]? = some (.cells #[.int .i64 a1_0, (.slice A1_1 l1_1.length c1_1)] 28 (0, 0))) ∧ Aside0 (wc.heap[gb573]? = some (.cells #[.int .i64 0, (.slice none 0 0)] 28 (0, 0))) ∧ Aside0 (Below w.heap.size w wc))
 case first =>
  have H := HC3.out
  clear HC3
  replace H := Option.bind_eq_some_iff.mp H
  obtain ⟨t574, A70, H⟩ := H
  replace H : (if t574 = true then ((impl_IsSpace.f k a1_0 l1_1).bind fun t575 => (if t575 = true then (impl_UnionSpaces.j0 k (a0_0 != a1_0) a0_0 l0_1 a1_0 l1_1) else (impl_UnionSpaces.j0 k true a0_0 l0_1 a1_0 l1_1))) else (impl_UnionSpaces.j0 k true a0_0 l0_1 a1_0 l1_1)) = some (r1, r2, r3) := H
  have A7 := Aside0.mk A70
  clear A70
  by_cases c8 : t574 = true
  ·subst c8
   have H1 : ((impl_IsSpace.f k a1_0 l1_1).bind fun t575 => (if t575 = true then (impl_UnionSpaces.j0 k (a0_0 != a1_0) a0_0 l0_1 a1_0 l1_1) else (impl_UnionSpaces.j0 k true a0_0 l0_1 a1_0 l1_1))) = some (r1, r2, r3) := by rw [if_pos rfl] at H; exact H
   clear H
   have H := H1
   clear H1
   replace H := Option.bind_eq_some_iff.mp H
   obtain ⟨t575, A90, H⟩ := H
   replace H : (if t575 = true then (impl_UnionSpaces.j0 k (a0_0 != a1_0) a0_0 l0_1 a1_0 l1_1) else (impl_UnionSpaces.j0 k true a0_0 l0_1 a1_0 l1_1)) = some (r1, r2, r3) := H
   have A9 := Aside0.mk A90
   clear A90
   by_cases c10 : t575 = true
   ·subst c10
    have H1 : (impl_UnionSpaces.j0 k (a0_0 != a1_0) a0_0 l0_1 a1_0 l1_1) = some (r1, r2, r3) := by rw [if_pos rfl] at H; exact H
    clear H
    have H := H1
    clear H1
    have H' := Aside0.mk H
    clear H
    have hnb11 := NB571_572.out
    have hnc11 := NB572_571.out
    have hnb12 := NB571_573.out
    have hnc12 := NB573_571.out
    have hcz13_0 : w6.cell? ⟨gb571, 0, none⟩ = some (.int .i64 a0_0) := (blk_cell BK571.out 0).trans rfl
    have hcz13_1 : w6.cell? ⟨gb571, 1, none⟩ = some (.slice A0_1 l0_1.length c0_1) := (blk_cell BK571.out 1).trans rfl
    have hfz13_0 := blk_frozen BK571.out 0
    have hfz13_1 := blk_frozen BK571.out 1
    go_wp2_with (first | ((with_reducible refine gate_callee (f := 48) rfl ?_); refine goesL_ (some 10) rfl rfl Try.func48 (by kernel_rfl) rfl #[.agg #[.int .i64 a0_0, .slice A0_1 l0_1.length c0_1]] rfl (by (try simp only [List.map_toArray, List.map_cons, List.map_nil]); rfl) ?_; (with_reducible refine (impl_IsSpace.calls k a0_0 _ _ l0_1 true _ ?side1 ?side2 A7.out).mono ?_); (case side1 => repeat (exact (Kd.C_below HR0_1.out HB.out))); (case side2 => exact HC0_1.out); rintro e w14 ⟨rfl, hb⟩; refine ⟨_, rfl, ?_⟩; have n0_ := Aside0.mk (blk_below (g := gb571) (o := .cells #[.int .i64 a0_0, .slice A0_1 l0_1.length c0_1] 28 (0, 0)) (by (with_reducible repeat (refine blk_drew ?_)); exact BK571.out) hb); have n1_ := Aside0.mk (blk_below (g := gb572) (o := .cells #[.int .i64 a1_0, .slice A1_1 l1_1.length c1_1] 28 (0, 0)) (by (with_reducible repeat (refine blk_drew ?_)); exact BK572.out) hb); have n2_ := Aside0.mk (blk_below (g := gb573) (o := .cells #[.int .i64 0, .slice none 0 0] 28 (0, 0)) (by (with_reducible repeat (refine blk_drew ?_)); exact BK573.out) hb); have n3_ := Aside0.mk (below_step (by repeat ((with_reducible exact HB.out))) hb); clear BK571; clear BK572; clear BK573; clear HB; have BK571 := n0_; have BK572 := n1_; have BK573 := n2_; have HB := n3_; clear n0_ n1_ n2_ n3_; (try clear hb); have hnb15 := NB572_573.out; have hnc15 := NB573_572.out; have hcz16_0 : w14.cell? ⟨gb572, 0, none⟩ = some (.int .i64 a1_0) := (blk_cell BK572.out 0).trans rfl; have hcz16_1 : w14.cell? ⟨gb572, 1, none⟩ = some (.slice A1_1 l1_1.length c1_1) := (blk_cell BK572.out 1).trans rfl; have hfz16_0 := blk_frozen BK572.out 0; have hfz16_1 := blk_frozen BK572.out 1) | (go_at_call 48; (with_reducible refine (impl_IsSpace.calls k a1_0 _ _ l1_1 true _ ?side1 ?side2 A9.out).mono ?_); (case side1 => repeat (exact (Kd.C_below HR1_1.out HB.out))); (case side2 => exact HC1_1.out); rintro e w17 ⟨rfl, hb⟩; have n0_ := Aside0.mk (blk_below (g := gb571) (o := .cells #[.int .i64 a0_0, .slice A0_1 l0_1.length c0_1] 28 (0, 0)) (by (with_reducible repeat (refine blk_drew ?_)); exact BK571.out) hb); have n1_ := Aside0.mk (blk_below (g := gb572) (o := .cells #[.int .i64 a1_0, .slice A1_1 l1_1.length c1_1] 28 (0, 0)) (by (with_reducible repeat (refine blk_drew ?_)); exact BK572.out) hb); have n2_ := Aside0.mk (blk_below (g := gb573) (o := .cells #[.int .i64 0, .slice none 0 0] 28 (0, 0)) (by (with_reducible repeat (refine blk_drew ?_)); exact BK573.out) hb); have n3_ := Aside0.mk (below_step (by repeat ((with_reducible exact HB.out))) hb); clear BK571; clear BK572; clear BK573; clear HB; have BK571 := n0_; have BK572 := n1_; have BK573 := n2_; have HB := n3_; clear n0_ n1_ n2_ n3_; (try clear hb); have hcz18_0 : w17.cell? ⟨gb571, 0, none⟩ = some (.int .i64 a0_0) := (blk_cell BK571.out 0).trans rfl; have hcz18_1 : w17.cell? ⟨gb571, 1, none⟩ = some (.slice A0_1 l0_1.length c0_1) := (blk_cell BK571.out 1).trans rfl; have hfz18_0 := blk_frozen BK571.out 0; have hfz18_1 := blk_frozen BK571.out 1; have hcz19_0 : w17.cell? ⟨gb572, 0, none⟩ = some (.int .i64 a1_0) := (blk_cell BK572.out 0).trans rfl; have hcz19_1 : w17.cell? ⟨gb572, 1, none⟩ = some (.slice A1_1 l1_1.length c1_1) := (blk_cell BK572.out 1).trans rfl; have hfz19_0 := blk_frozen BK572.out 0; have hfz19_1 := blk_frozen BK572.out 1))
    go_meet
    case rel => exact ⟨_, ((a0_0 != a1_0)), (by rfl), H', ⟨by omega⟩, ⟨by (with_reducible repeat (refine blk_drew ?_)); exact BK571.out⟩, ⟨by (with_reducible repeat (refine blk_drew ?_)); exact BK572.out⟩, ⟨by (with_reducible repeat (refine blk_drew ?_)); exact BK573.out⟩, ⟨by repeat ((with_reducible exact HB.out))⟩⟩
   ·replace c10 := Bool.eq_false_iff.mpr c10
    subst c10
    have H1 : (impl_UnionSpaces.j0 k true a0_0 l0_1 a1_0 l1_1) = some (r1, r2, r3) := by rw [if_neg (show ¬ (false = true) by decide)] at H; exact H
    clear H
    have H := H1
    clear H1
    have H' := Aside0.mk H
    clear H
    have hnb20 := NB571_572.out
    have hnc20 := NB572_571.out
    have hnb21 := NB571_573.out
    have hnc21 := NB573_571.out
    have hcz22_0 : w6.cell? ⟨gb571, 0, none⟩ = some (.int .i64 a0_0) := (blk_cell BK571.out 0).trans rfl
    have hcz22_1 : w6.cell? ⟨gb571, 1, none⟩ = some (.slice A0_1 l0_1.length c0_1) := (blk_cell BK571.out 1).trans rfl
    have hfz22_0 := blk_frozen BK571.out 0
    have hfz22_1 := blk_frozen BK571.out 1
    go_wp2_with (first | ((with_reducible refine gate_callee (f := 48) rfl ?_); refine goesL_ (some 10) rfl rfl Try.func48 (by kernel_rfl) rfl #[.agg #[.int .i64 a0_0, .slice A0_1 l0_1.length c0_1]] rfl (by (try simp only [List.map_toArray, List.map_cons, List.map_nil]); rfl) ?_; (with_reducible refine (impl_IsSpace.calls k a0_0 _ _ l0_1 true _ ?side1 ?side2 A7.out).mono ?_); (case side1 => repeat (exact (Kd.C_below HR0_1.out HB.out))); (case side2 => exact HC0_1.out); rintro e w23 ⟨rfl, hb⟩; refine ⟨_, rfl, ?_⟩; have n0_ := Aside0.mk (blk_below (g := gb571) (o := .cells #[.int .i64 a0_0, .slice A0_1 l0_1.length c0_1] 28 (0, 0)) (by (with_reducible repeat (refine blk_drew ?_)); exact BK571.out) hb); have n1_ := Aside0.mk (blk_below (g := gb572) (o := .cells #[.int .i64 a1_0, .slice A1_1 l1_1.length c1_1] 28 (0, 0)) (by (with_reducible repeat (refine blk_drew ?_)); exact BK572.out) hb); have n2_ := Aside0.mk (blk_below (g := gb573) (o := .cells #[.int .i64 0, .slice none 0 0] 28 (0, 0)) (by (with_reducible repeat (refine blk_drew ?_)); exact BK573.out) hb); have n3_ := Aside0.mk (below_step (by repeat ((with_reducible exact HB.out))) hb); clear BK571; clear BK572; clear BK573; clear HB; have BK571 := n0_; have BK572 := n1_; have BK573 := n2_; have HB := n3_; clear n0_ n1_ n2_ n3_; (try clear hb); have hnb24 := NB572_573.out; have hnc24 := NB573_572.out; have hcz25_0 : w23.cell? ⟨gb572, 0, none⟩ = some (.int .i64 a1_0) := (blk_cell BK572.out 0).trans rfl; have hcz25_1 : w23.cell? ⟨gb572, 1, none⟩ = some (.slice A1_1 l1_1.length c1_1) := (blk_cell BK572.out 1).trans rfl; have hfz25_0 := blk_frozen BK572.out 0; have hfz25_1 := blk_frozen BK572.out 1) | (go_at_call 48; (with_reducible refine (impl_IsSpace.calls k a1_0 _ _ l1_1 false _ ?side1 ?side2 A9.out).mono ?_); (case side1 => repeat (exact (Kd.C_below HR1_1.out HB.out))); (case side2 => exact HC1_1.out); rintro e w26 ⟨rfl, hb⟩; have n0_ := Aside0.mk (blk_below (g := gb571) (o := .cells #[.int .i64 a0_0, .slice A0_1 l0_1.length c0_1] 28 (0, 0)) (by (with_reducible repeat (refine blk_drew ?_)); exact BK571.out) hb); have n1_ := Aside0.mk (blk_below (g := gb572) (o := .cells #[.int .i64 a1_0, .slice A1_1 l1_1.length c1_1] 28 (0, 0)) (by (with_reducible repeat (refine blk_drew ?_)); exact BK572.out) hb); have n2_ := Aside0.mk (blk_below (g := gb573) (o := .cells #[.int .i64 0, .slice none 0 0] 28 (0, 0)) (by (with_reducible repeat (refine blk_drew ?_)); exact BK573.out) hb); have n3_ := Aside0.mk (below_step (by repeat ((with_reducible exact HB.out))) hb); clear BK571; clear BK572; clear BK573; clear HB; have BK571 := n0_; have BK572 := n1_; have BK573 := n2_; have HB := n3_; clear n0_ n1_ n2_ n3_; (try clear hb); skip))
    go_meet
    case rel => exact ⟨_, (true), (by rfl), H', ⟨by omega⟩, ⟨by (with_reducible repeat (refine blk_drew ?_)); exact BK571.out⟩, ⟨by (with_reducible repeat (refine blk_drew ?_)); exact BK572.out⟩, ⟨by (with_reducible repeat (refine blk_drew ?_)); exact BK573.out⟩, ⟨by repeat ((with_reducible exact HB.out))⟩⟩
  ·replace c8 := Bool.eq_false_iff.mpr c8
   subst c8
   have H1 : (impl_UnionSpaces.j0 k true a0_0 l0_1 a1_0 l1_1) = some (r1, r2, r3) := by rw [if_neg (show ¬ (false = true) by decide)] at H; exact H
   clear H
   have H := H1
   clear H1
   have H' := Aside0.mk H
   clear H
   have hnb27 := NB571_572.out
   have hnc27 := NB572_571.out
   have hnb28 := NB571_573.out
   have hnc28 := NB573_571.out
   have hcz29_0 : w6.cell? ⟨gb571, 0, none⟩ = some (.int .i64 a0_0) := (blk_cell BK571.out 0).trans rfl
   have hcz29_1 : w6.cell? ⟨gb571, 1, none⟩ = some (.slice A0_1 l0_1.length c0_1) := (blk_cell BK571.out 1).trans rfl
   have hfz29_0 := blk_frozen BK571.out 0
   have hfz29_1 := blk_frozen BK571.out 1
   go_wp2_with (((with_reducible refine gate_callee (f := 48) rfl ?_); refine goesL_ (some 10) rfl rfl Try.func48 (by kernel_rfl) rfl #[.agg #[.int .i64 a0_0, .slice A0_1 l0_1.length c0_1]] rfl (by (try simp only [List.map_toArray, List.map_cons, List.map_nil]); rfl) ?_; (with_reducible refine (impl_IsSpace.calls k a0_0 _ _ l0_1 false _ ?side1 ?side2 A7.out).mono ?_); (case side1 => repeat (exact (Kd.C_below HR0_1.out HB.out))); (case side2 => exact HC0_1.out); rintro e w30 ⟨rfl, hb⟩; refine ⟨_, rfl, ?_⟩; have n0_ := Aside0.mk (blk_below (g := gb571) (o := .cells #[.int .i64 a0_0, .slice A0_1 l0_1.length c0_1] 28 (0, 0)) (by (with_reducible repeat (refine blk_drew ?_)); exact BK571.out) hb); have n1_ := Aside0.mk (blk_below (g := gb572) (o := .cells #[.int .i64 a1_0, .slice A1_1 l1_1.length c1_1] 28 (0, 0)) (by (with_reducible repeat (refine blk_drew ?_)); exact BK572.out) hb); have n2_ := Aside0.mk (blk_below (g := gb573) (o := .cells #[.int .i64 0, .slice none 0 0] 28 (0, 0)) (by (with_reducible repeat (refine blk_drew ?_)); exact BK573.out) hb); have n3_ := Aside0.mk (below_step (by repeat ((with_reducible exact HB.out))) hb); clear BK571; clear BK572; clear BK573; clear HB; have BK571 := n0_; have BK572 := n1_; have BK573 := n2_; have HB := n3_; clear n0_ n1_ n2_ n3_; (try clear hb); skip))
   go_meet
   case rel => exact ⟨_, (true), (by rfl), H', ⟨by omega⟩, ⟨by (with_reducible repeat (refine blk_drew ?_)); exact BK571.out⟩, ⟨by (with_reducible repeat (refine blk_drew ?_)); exact BK572.out⟩, ⟨by (with_reducible repeat (refine blk_drew ?_)); exact BK573.out⟩, ⟨by repeat ((with_reducible exact HB.out))⟩⟩
 case rest =>
  clear HC3
  try clear c1
  try clear c2
  try clear p2
  try clear c3
  try clear c4
  try clear c8
  try clear c10
  try clear c11
  try clear c12
  try clear c15
  try clear c20
  try clear c21
  try clear c24
  try clear c27
  try clear c28
  try clear c30
  try clear hcz13_0
  try clear hcz13_1
  try clear hcz16_0
  try clear hcz16_1
  try clear hcz18_0
  try clear hcz18_1
  try clear hcz19_0
  try clear hcz19_1
  try clear hcz22_0
  try clear hcz22_1
  try clear hcz25_0
  try clear hcz25_1
  try clear hcz29_0
  try clear hcz29_1
  try clear hfz13_0
  try clear hfz13_1
  try clear hfz16_0
  try clear hfz16_1
  try clear hfz18_0
  try clear hfz18_1
  try clear hfz19_0
  try clear hfz19_1
  try clear hfz22_0
  try clear hfz22_1
  try clear hfz25_0
  try clear hfz25_1
  try clear hfz29_0
  try clear hfz29_1
  obtain ⟨kq, x23_2, rfl, HA, HJ2, BK571, BK572, BK573, HB⟩ := hcut
  cases kq with
  | zero => exact absurd HA.out (by simp [impl_UnionSpaces.j0])
  | succ kj2 =>
   have H := HA.out
   clear HA
   simp only [impl_UnionSpaces.j0] at H
   by_cases c31 : x23_2 = true
   ·subst c31
    have H1 : (some (0, ([] : List Int), false)) = some (r1, r2, r3) := by rw [if_pos rfl] at H; exact H
    clear H
    have H := H1
    clear H1
    simp only [Option.some.injEq, Prod.mk.injEq] at H
    obtain ⟨rfl, rfl, rfl⟩ := H
    have hnb32 := NB573_571.out
    have hnc32 := NB571_573.out
    have hnb33 := NB573_572.out
    have hnc33 := NB572_573.out
    have hcz34_0 : wc.cell? ⟨gb573, 0, none⟩ = some (.int .i64 0) := (blk_cell BK573.out 0).trans rfl
    have hcz34_1 : wc.cell? ⟨gb573, 1, none⟩ = some (.slice none 0 0) := (blk_cell BK573.out 1).trans rfl
    have hfz34_0 := blk_frozen BK573.out 0
    have hfz34_1 := blk_frozen BK573.out 1
    go_wp2
    refine bodyPost_ret (results_ct rfl _ _ gb573 28 #[.int .i64 0, .slice none 0 0] (0, 0) _ rfl (by (with_reducible repeat (refine blk_drew ?_)); refine blk_put (cs := #[.int .i64 0, .slice none 0 0]) ?_ 1 _ rfl; (with_reducible repeat (refine blk_drew ?_)); refine blk_put (cs := #[.int .i64 0, .slice none 0 0]) ?_ 0 _ rfl; (with_reducible repeat (refine blk_drew ?_)); exact BK573.out) Try.underlying28 rfl (by kernel_rfl)) rfl ?_
    exact ⟨_, by rfl, by exact Kd.R_nil _ _ _ _ _, by repeat ((with_reducible first | exact HB.out | refine below_set ?_ GE573.out))⟩
   ·replace c31 := Bool.eq_false_iff.mpr c31
    subst c31
    have H1 : ((impl_Space_family.f kj2 a0_0 l0_1).bind fun t576 => (impl_UnionSpaces.l0 kj2 t576 l1_1 (l1_1.length : Int) 0 a0_0 l0_1)) = some (r1, r2, r3) := by rw [if_neg (show ¬ (false = true) by decide)] at H; exact H
    clear H
    have H := H1
    clear H1
    replace H := Option.bind_eq_some_iff.mp H
    obtain ⟨t576, A350, H⟩ := H
    replace H : (impl_UnionSpaces.l0 kj2 t576 l1_1 (l1_1.length : Int) 0 a0_0 l0_1) = some (r1, r2, r3) := H
    have A35 := Aside0.mk A350
    clear A350
    have H' := Aside0.mk H
    clear H
    have hnb36 := NB571_572.out
    have hnc36 := NB572_571.out
    have hnb37 := NB571_573.out
    have hnc37 := NB573_571.out
    have hcz38_0 : wc.cell? ⟨gb571, 0, none⟩ = some (.int .i64 a0_0) := (blk_cell BK571.out 0).trans rfl
    have hcz38_1 : wc.cell? ⟨gb571, 1, none⟩ = some (.slice A0_1 l0_1.length c0_1) := (blk_cell BK571.out 1).trans rfl
    have hfz38_0 := blk_frozen BK571.out 0
    have hfz38_1 := blk_frozen BK571.out 1
    go_wp2_with (((with_reducible refine gate_callee (f := 60) rfl ?_); refine goesL_ (some 26) rfl rfl Try.func60 (by kernel_rfl) rfl #[.agg #[.int .i64 a0_0, .slice A0_1 l0_1.length c0_1]] rfl (by (try simp only [List.map_toArray, List.map_cons, List.map_nil]); rfl) ?_; (with_reducible refine (impl_Space_family.calls kj2 a0_0 _ _ l0_1 t576 _ ?side1 ?side2 A35.out).mono ?_); (case side1 => repeat (exact (Kd.C_below HR0_1.out HB.out))); (case side2 => exact HC0_1.out); rintro e w39 ⟨v577, rfl, ho0, hb⟩; refine ⟨_, rfl, ?_⟩; have n0_ := Aside0.mk (Kd.R_lower ho0 (below_size (by repeat ((with_reducible exact HB.out))))); have n1_ := Aside0.mk (blk_below (g := gb571) (o := .cells #[.int .i64 a0_0, .slice A0_1 l0_1.length c0_1] 28 (0, 0)) (by (with_reducible repeat (refine blk_drew ?_)); exact BK571.out) hb); have n2_ := Aside0.mk (blk_below (g := gb572) (o := .cells #[.int .i64 a1_0, .slice A1_1 l1_1.length c1_1] 28 (0, 0)) (by (with_reducible repeat (refine blk_drew ?_)); exact BK572.out) hb); have n3_ := Aside0.mk (blk_below (g := gb573) (o := .cells #[.int .i64 0, .slice none 0 0] 28 (0, 0)) (by (with_reducible repeat (refine blk_drew ?_)); exact BK573.out) hb); have n4_ := Aside0.mk (below_step (by repeat ((with_reducible exact HB.out))) hb); clear BK571; clear BK572; clear BK573; clear HB; have HO578 := n0_; have BK571 := n1_; have BK572 := n2_; have BK573 := n3_; have HB := n4_; clear n0_ n1_ n2_ n3_ n4_; (try clear hb); (try clear ho0); have hnb40 := NB572_573.out; have hnc40 := NB573_572.out; have hcz41_0 : w39.cell? ⟨gb572, 0, none⟩ = some (.int .i64 a1_0) := (blk_cell BK572.out 0).trans rfl; have hcz41_1 : w39.cell? ⟨gb572, 1, none⟩ = some (.slice A1_1 l1_1.length c1_1) := (blk_cell BK572.out 1).trans rfl; have hfz41_0 := blk_frozen BK572.out 0; have hfz41_1 := blk_frozen BK572.out 1))
    go_loopg [30] kj2 (fun kq v30 w' => ∃ (x6_2 : List Bool) (x30_2 : Int), v30 = .int .i64 x30_2 ∧ Aside0 (impl_UnionSpaces.l0 kq x6_2 l1_1 (l1_1.length : Int) x30_2 a0_0 l0_1 = some (r1, r2, r3)) ∧ Aside0 (kq ≤ kj2) ∧ Aside0 (Kd.R Kd.bool 81 w' w.heap.size (fun _ => True) v577 x6_2) ∧ Aside0 (w'.heap[gb571]? = some (.cells #[.int .i64 a0_0, (.slice A0_1 l0_1.length c0_1)] 28 (0, 0))) ∧ Aside0 (w'.heap[gb572]? = some (.cells #[.int .i64 a1_0, (.slice A1_1 l1_1.length c1_1)] 28 (0, 0))) ∧ Aside0 (w'.heap[gb573]? = some (.cells #[.int .i64 0, (.slice none 0 0)] 28 (0, 0))) ∧ Aside0 (Below w.heap.size w w'))
    case atStart => exact ⟨(t576), (0), (by rfl), H', ⟨Nat.le_refl _⟩, ⟨by (with_reducible repeat (apply Kd.R_drew)); exact HO578.out⟩, ⟨by (with_reducible repeat (refine blk_drew ?_)); exact BK571.out⟩, ⟨by (with_reducible repeat (refine blk_drew ?_)); exact BK572.out⟩, ⟨by (with_reducible repeat (refine blk_drew ?_)); exact BK573.out⟩, ⟨by repeat ((with_reducible exact HB.out))⟩⟩
    case round =>
     clear H'
     try clear c1
     try clear c2
     try clear p2
     try clear c3
     try clear c4
     try clear c6
     try clear c8
     try clear c10
     try clear c11
     try clear c12
     try clear c15
     try clear c20
     try clear c21
     try clear c24
     try clear c27
     try clear c28
     try clear c30
     try clear c31
     try clear c32
     try clear c33
     try clear c36
     try clear c37
     try clear c40
     try clear hcz13_0
     try clear hcz13_1
     try clear hcz16_0
     try clear hcz16_1
     try clear hcz18_0
     try clear hcz18_1
     try clear hcz19_0
     try clear hcz19_1
     try clear hcz22_0
     try clear hcz22_1
     try clear hcz25_0
     try clear hcz25_1
     try clear hcz29_0
     try clear hcz29_1
     try clear hcz34_0
     try clear hcz34_1
     try clear hcz38_0
     try clear hcz38_1
     try clear hcz41_0
     try clear hcz41_1
     try clear hfz13_0
     try clear hfz13_1
     try clear hfz16_0
     try clear hfz16_1
     try clear hfz18_0
     try clear hfz18_1
     try clear hfz19_0
     try clear hfz19_1
     try clear hfz22_0
     try clear hfz22_1
     try clear hfz25_0
     try clear hfz25_1
     try clear hfz29_0
     try clear hfz29_1
     try clear hfz34_0
     try clear hfz34_1
     try clear hfz38_0
     try clear hfz38_1
     try clear hfz41_0
     try clear hfz41_1
     try clear p2
     obtain ⟨x6_2, x30_2, rfl, HA, HK2, HO_6, BK571, BK572, BK573, HB⟩ := hrel
     cases gk with
     | zero => exact absurd HA.out (by simp [impl_UnionSpaces.l0])
     | succ k2 =>
      have H := HA.out
      clear HA
      simp only [impl_UnionSpaces.l0] at H
      by_cases c42 : x30_2 < (l1_1.length : Int)
      ·rw [if_pos c42] at H
       have c42b0 : decide (x30_2 < (l1_1.length : Int)) = true := decide_eq_true c42
       clear c42
       by_cases c43 : 0 ≤ x30_2
       ·rw [if_pos c43] at H
        have c43b0 : decide (0 ≤ x30_2) = true := decide_eq_true c43
        clear c43
        by_cases c44 : x30_2 < (l1_1.length : Int)
        ·rw [if_pos c44] at H
         have c44b0 : decide (x30_2 < (l1_1.length : Int)) = true := decide_eq_true c44
         clear c44
         by_cases c45 : 0 ≤ (rd l1_1 x30_2)
         ·rw [if_pos c45] at H
          have c45b0 : decide (0 ≤ (rd l1_1 x30_2)) = true := decide_eq_true c45
          clear c45
          by_cases c46 : (rd l1_1 x30_2) < (x6_2.length : Int)
          ·rw [if_pos c46] at H
           have c46b0 : decide ((rd l1_1 x30_2) < (x6_2.length : Int)) = true := decide_eq_true c46
           clear c46
           by_cases c47 : (rd l1_1 x30_2) < 128
           ·rw [if_pos c47] at H
            have c47b0 : decide ((rd l1_1 x30_2) < 128) = true := decide_eq_true c47
            clear c47
            obtain ⟨y580, hy580⟩ : ∃ y_ : List Bool, y_ = (x6_2.set ((rd l1_1 x30_2) : Int).toNat true) := ⟨_, rfl⟩
            replace H : (impl_UnionSpaces.l0 k2 y580 l1_1 (l1_1.length : Int) (wrap64 (x30_2 + 1)) a0_0 l0_1) = some (r1, r2, r3) := by (rw [hy580]; with_reducible exact H)
            have Ny580 := Aside0.mk hy580
            clear hy580
            have H' := Aside0.mk H
            clear H
            have p579 : 0 ≤ (x30_2 : Int) := of_decide_eq_true (by (with_reducible assumption))
            have q579 : x30_2 < (l1_1.length : Int) := of_decide_eq_true (by (with_reducible assumption))
            obtain ⟨ad579, e579, hx579_0⟩ := Kd.at_int HR1_1.out x30_2 p579 q579
            cases e579
            replace hx579_0 := (HB.out.cell (World.block_lt_of_cell? w _ hx579_0)).trans hx579_0
            replace p579 := eq_true p579
            replace q579 := eq_true q579
            have p48 : 0 ≤ ((rd l1_1 x30_2) : Int) := of_decide_eq_true (by (with_reducible assumption))
            have q48 : ((rd l1_1 x30_2) : Int) < ((x6_2.length : Int) : Int) := of_decide_eq_true (by (with_reducible assumption))
            have qa48 : ((rd l1_1 x30_2) < 128) = True := eq_true (of_decide_eq_true (by (with_reducible assumption)))
            obtain ⟨go48, co48, eo48, gb48, gl48, cl48, HG48⟩ := Kd.R_form HO_6.out (by omega)
            (cases eo48)
            have GB48 := Aside0.mk gb48
            have GG48 := Aside0.mk HG48
            clear gb48 gl48 HG48
            (try simp only [asP_slice])
            obtain ⟨hx48_0, hf48_0⟩ := Kd.R_celln false HO_6.out ((rd l1_1 x30_2) : Int) p48 q48
            replace p48 := eq_true p48
            replace q48 := eq_true q48
            have HP49 := Kd.R_putg HO_6.out ((rd l1_1 x30_2) : Int) true
            go_wp2_with (((with_reducible refine gate_store (t := 4) (p := 37) rfl ?_); refine store_event (t := 4) (p := 37) (v := ?vo_w50) (w1 := (wr.setCell ⟨go48, ((rd l1_1 x30_2) : Int).toNat, none⟩ (.bool true))) ?hg ?ho ?hn ?hr ?_; (case ho => rfl); (case hg => rfl); (case hn => rfl); (case hr => (go_simp; done)); intro w50 hw; have hg : wr.grownBy w50 (some go48) := (by rw [hw]; exact HP49.2); have hp_ : Kd.R Kd.bool 81 w50 w.heap.size (fun _ => True) (.slice (some ⟨go48, 0, none⟩) x6_2.length co48) y580 := (by rw [hw, Ny580.out]; exact HP49.1); clear HP49; have n0_ := Aside0.mk (hp_); have n1_ := Aside0.mk (blk_grown (g := gb571) (o := .cells #[.int .i64 a0_0, .slice A0_1 l0_1.length c0_1] 28 (0, 0)) (by (with_reducible repeat (refine blk_drew ?_)); exact BK571.out) hg (Kd.R_ne HO_6.out BK571.out (by decide))); have n2_ := Aside0.mk (blk_grown (g := gb572) (o := .cells #[.int .i64 a1_0, .slice (some ad579) l1_1.length c1_1] 28 (0, 0)) (by (with_reducible repeat (refine blk_drew ?_)); exact BK572.out) hg (Kd.R_ne HO_6.out BK572.out (by decide))); have n3_ := Aside0.mk (blk_grown (g := gb573) (o := .cells #[.int .i64 0, .slice none 0 0] 28 (0, 0)) (by (with_reducible repeat (refine blk_drew ?_)); exact BK573.out) hg (Kd.R_ne HO_6.out BK573.out (by decide))); have n4_ := Aside0.mk ((by rw [hw]; exact below_set (HB.out) GB48.out : Below w.heap.size w w50)); clear HO_6; clear BK571; clear BK572; clear BK573; clear HB; have HO_6 := n0_; have BK571 := n1_; have BK572 := n2_; have BK573 := n3_; have HB := n4_; clear n0_ n1_ n2_ n3_ n4_; clear hg hw hp_))
            go_roundg k2
            case measure => have := HJ2.out; have := HK2.out; omega
            case rel => exact ⟨(y580), (wrap64 (x30_2 + 1)), (by rfl), H', ⟨by have := HJ2.out; have := HK2.out; omega⟩, ⟨by (with_reducible repeat (apply Kd.R_drew)); exact HO_6.out⟩, ⟨by (with_reducible repeat (refine blk_drew ?_)); exact BK571.out⟩, ⟨by (with_reducible repeat (refine blk_drew ?_)); exact BK572.out⟩, ⟨by (with_reducible repeat (refine blk_drew ?_)); exact BK573.out⟩, ⟨by repeat ((with_reducible exact HB.out))⟩⟩
           ·rw [if_neg c47] at H
            exact absurd H (by simp)
          ·rw [if_neg c46] at H
           exact absurd H (by simp)
         ·rw [if_neg c45] at H
          exact absurd H (by simp)
        ·rw [if_neg c44] at H
         exact absurd H (by simp)
       ·rw [if_neg c43] at H
        exact absurd H (by simp)
      ·rw [if_neg c42] at H
       have c42b0 : decide (x30_2 < (l1_1.length : Int)) = false := decide_eq_false c42
       clear c42
       replace H := Option.bind_eq_some_iff.mp H
       obtain ⟨t581, A510, H⟩ := H
       replace H : ((impl_family_space.f k2 t581 a0_0).bind fun bt584 => (some (bt584.1, bt584.2, true))) = some (r1, r2, r3) := H
       have A51 := Aside0.mk A510
       clear A510
       replace H := Option.bind_eq_some_iff.mp H
       obtain ⟨⟨t584, t585⟩, A520, H⟩ := H
       replace H : (some (t584, t585, true)) = some (r1, r2, r3) := H
       have A52 := Aside0.mk A520
       clear A520
       simp only [Option.some.injEq, Prod.mk.injEq] at H
       obtain ⟨rfl, rfl, rfl⟩ := H
       try go_wp2
       have n0_ := Aside0.mk (Kd.R_drew HO_6.out)
       have n1_ := Aside0.mk (blk_drew BK571.out)
       have n2_ := Aside0.mk (blk_drew BK572.out)
       have n3_ := Aside0.mk (blk_drew BK573.out)
       have n4_ := Aside0.mk (below_drew1 HB.out)
       clear HO_6
       clear BK571
       clear BK572
       clear BK573
       clear HB
       have HO_6 := n0_
       have BK571 := n1_
       have BK572 := n2_
       have BK573 := n3_
       have HB := n4_
       clear n0_ n1_ n2_ n3_ n4_
       obtain ⟨Ao54, co54, eo54⟩ := Kd.R_slice HO_6.out
       (subst eo54)
       (try simp only [asP_slice])
       refine start_ (n := 7) (S := fun w' => w'.cell? ⟨gb571, 0, none⟩ = some (.int .i64 a0_0) ∧ w'.cell? ⟨gb571, 1, none⟩ = some (.slice A0_1 l0_1.length c0_1)) (ds := []) #[false, false, false, false, false, false, false] (by kernel_rfl) rfl rfl ⟨(blk_cell BK571.out 0).trans rfl, (blk_cell BK571.out 1).trans rfl⟩ (fun hHeld => ?_)
       generalize wr.drew = w53 at HO_6 BK571 BK572 BK573 HB hHeld ⊢
       refine pure_ (i := 0) (N := some 39) (v := ?_) (a' := ?_) #[true, false, false, false, false, false, false] rfl rfl (by kernel_rfl) (fun _ _ _ h => h) (Or.inl ⟨by rfl, ?_⟩) ?_ ?_
       rotate_left
       ·intro w'
        go_simp
        with_reducible rfl
       rotate_left
       ·simp only [Act.put, List.setIfInBounds_toArray, List.set_cons_zero, List.set_cons_succ, i64_w, i32_w]
        rfl
       refine pure_ (i := 2) (N := some 41) (v := ?_) (a' := ?_) #[true, false, true, false, false, false, false] rfl rfl (by kernel_rfl) (fun _ _ _ h => h) (Or.inl ⟨by rfl, ?_⟩) ?_ ?_
       rotate_left
       ·intro w'
        go_simp
        with_reducible rfl
       rotate_left
       ·simp only [Act.put, List.setIfInBounds_toArray, List.set_cons_zero, List.set_cons_succ, i64_w, i32_w]
        rfl
       refine take_ (i := 3) (N := some 42) (v := ?_) (a' := ?_) #[true, false, true, true, false, false, false] rfl rfl (by kernel_rfl) (fun _ _ _ h => h) (Or.inl ⟨by rfl, ?_⟩) hHeld ?_ ?_
       rotate_left
       ·rintro w' ⟨s0, s1⟩
        go_simp
        with_reducible rfl
       rotate_left
       ·simp only [Act.put, List.setIfInBounds_toArray, List.set_cons_zero, List.set_cons_succ, i64_w, i32_w]
        rfl
       refine one_ (i := 1) (N := some 40) #[true, true, true, true, false, false, false] rfl rfl (by kernel_rfl) (by decide) (fun K hK => ?_)
       refine goes_ Try.func61 (by kernel_rfl) rfl #[.pointer Ao54] (by rfl) rfl rfl (by (try simp only [List.map_toArray, List.map_cons, List.map_nil]); rfl) ?_
       refine (impl_family_closed.calls k2 (fun k_ => some k_ = (.slice Ao54 x6_2.length co54 : Value).ownBlock) (.slice Ao54 x6_2.length co54) x6_2 t581 w _ ?side1 ?side2 A51.out).mono ?_
       (case side1 => repeat ((with_reducible exact HB.out)))
       (case side2 => exact Kd.R_tight rfl HO_6.out)
       rintro e w55 ⟨v582, rfl, ho0, hb, hkp⟩
       refine ⟨_, rfl, ?_⟩
       have n0_ := Aside0.mk (blk_kept (by (with_reducible repeat (refine blk_drew ?_)); exact BK571.out) hkp (fun hs_ => (fun e_ => (Kd.R_ne HO_6.out BK571.out (by decide)) e_) hs_))
       have n1_ := Aside0.mk (blk_kept (by (with_reducible repeat (refine blk_drew ?_)); exact BK572.out) hkp (fun hs_ => (fun e_ => (Kd.R_ne HO_6.out BK572.out (by decide)) e_) hs_))
       have n2_ := Aside0.mk (blk_kept (by (with_reducible repeat (refine blk_drew ?_)); exact BK573.out) hkp (fun hs_ => (fun e_ => (Kd.R_ne HO_6.out BK573.out (by decide)) e_) hs_))
       have n3_ := Aside0.mk (Kd.R_mono (ok' := fun k_ => True) ho0 (fun k_ hk_ => trivial))
       have n4_ := Aside0.mk (hb)
       clear BK571
       clear BK572
       clear BK573
       clear HB
       clear HO_6
       have BK571 := n0_
       have BK572 := n1_
       have BK573 := n2_
       have HO583 := n3_
       have HB := n4_
       clear n0_ n1_ n2_ n3_ n4_
       (try clear hb)
       (try clear hkp)
       (try clear ho0)
       obtain ⟨Ao56, co56, eo56⟩ := Kd.R_slice HO583.out
       (subst eo56)
       (try simp only [asP_slice])
       refine hK.out _ _ ⟨(blk_cell BK571.out 0).trans rfl, (blk_cell BK571.out 1).trans rfl⟩ (fun hHeld => ?_)
       clear hK K
       refine norm_ (a' := ?_) ?_ ?_
       rotate_left
       ·show Act.put _ (some 40) _ = _
        simp only [Act.put, List.setIfInBounds_toArray, List.set_cons_zero, List.set_cons_succ, i64_w, i32_w]
        rfl
       refine one_ (i := 4) (N := some 43) #[true, true, true, true, true, false, false] rfl rfl (by kernel_rfl) (by decide) (fun K hK => ?_)
       refine goes_ Try.func62 (by kernel_rfl) rfl #[.pointer Ao56, .int .i64 a0_0] (by rfl) rfl rfl (by (try simp only [List.map_toArray, List.map_cons, List.map_nil]); rfl) ?_
       refine (impl_family_space.calls k2 Ao56 co56 t581 a0_0 t584 t585 _ ?side1 ?side2 A52.out).mono ?_
       (case side1 => repeat (exact (Kd.R_reads' HO583.out).2.2))
       (case side2 => exact (Kd.R_reads' HO583.out).2.1)
       rintro e w57 ⟨v586, rfl, ho0, hb⟩
       refine ⟨_, rfl, ?_⟩
       have n0_ := Aside0.mk (Kd.R_below (by (with_reducible repeat (apply Kd.R_drew)); exact HO583.out) hb)
       have n1_ := Aside0.mk (Kd.R_lower ho0 (below_size (by repeat ((with_reducible exact HB.out)))))
       have n2_ := Aside0.mk (blk_below (g := gb571) (o := .cells #[.int .i64 a0_0, .slice A0_1 l0_1.length c0_1] 28 (0, 0)) (by (with_reducible repeat (refine blk_drew ?_)); exact BK571.out) hb)
       have n3_ := Aside0.mk (blk_below (g := gb572) (o := .cells #[.int .i64 a1_0, .slice A1_1 l1_1.length c1_1] 28 (0, 0)) (by (with_reducible repeat (refine blk_drew ?_)); exact BK572.out) hb)
       have n4_ := Aside0.mk (blk_below (g := gb573) (o := .cells #[.int .i64 0, .slice none 0 0] 28 (0, 0)) (by (with_reducible repeat (refine blk_drew ?_)); exact BK573.out) hb)
       have n5_ := Aside0.mk (below_step (by repeat ((with_reducible exact HB.out))) hb)
       clear HO583
       clear BK571
       clear BK572
       clear BK573
       clear HB
       have HO583 := n0_
       have HO587 := n1_
       have BK571 := n2_
       have BK572 := n3_
       have BK573 := n4_
       have HB := n5_
       clear n0_ n1_ n2_ n3_ n4_ n5_
       (try clear hb)
       skip
       skip
       skip
       (try clear ho0)
       obtain ⟨Ao59, co59, eo59⟩ := Kd.R_slice HO587.out
       (subst eo59)
       refine hK.out _ _ ⟨(blk_cell BK571.out 0).trans rfl, (blk_cell BK571.out 1).trans rfl⟩ (fun hHeld => ?_)
       clear hK K
       refine norm_ (a' := ?_) ?_ ?_
       rotate_left
       ·show Act.put _ (some 43) _ = _
        simp only [Act.put, List.setIfInBounds_toArray, List.set_cons_zero, List.set_cons_succ, i64_w, i32_w]
        rfl
       refine one_ (i := 5) (N := none) #[true, true, true, true, true, true, false] rfl rfl (by kernel_rfl) (by decide) (fun K hK => ?_)
       have hs58 : w57.cell? ⟨gb573, 0, none⟩ = some (.int .i64 0) := (blk_cell BK573.out 0).trans rfl
       have hfs58 := blk_frozen BK573.out 0
       have hns58_0 := NB571_573.out
       have hns58_1 := NB572_573.out
       have hms58_0 := NB573_571.out
       have hms58_1 := NB573_572.out
       have hs60 : w57.cell? ⟨gb573, 1, none⟩ = some (.slice none 0 0) := (blk_cell BK573.out 1).trans rfl
       have hfs60 := blk_frozen BK573.out 1
       have hns60_0 := NB571_573.out
       have hns60_1 := NB572_573.out
       have hms60_0 := NB573_571.out
       have hms60_1 := NB573_572.out
       refine skip_ (w1 := ?_) (by rfl) rfl ?_ ?_
       rotate_left
       ·go_simp
        rfl
       refine hK.out _ _ ⟨((cell_far (p := ⟨gb573, _, none⟩) NB571_573.out _).trans (((cell_far (p := ⟨gb573, _, none⟩) NB571_573.out _).trans (hHeld.1)))), ((cell_far (p := ⟨gb573, _, none⟩) NB571_573.out _).trans (((cell_far (p := ⟨gb573, _, none⟩) NB571_573.out _).trans (hHeld.2))))⟩ (fun hHeld => ?_)
       clear hK K
       refine pure_ (i := 6) (N := some 5) (v := ?_) (a' := ?_) #[true, true, true, true, true, true, true] rfl rfl (by kernel_rfl) (fun _ _ _ h => h) (Or.inl ⟨by rfl, ?_⟩) ?_ ?_
       rotate_left
       ·intro w'
        go_simp
        with_reducible rfl
       rotate_left
       ·simp only [Act.put, List.setIfInBounds_toArray, List.set_cons_zero, List.set_cons_succ, i64_w, i32_w]
        rfl
       refine done_ (by kernel_rfl) ?_
       try go_wp2
       refine bodyPost_ret (results_ct rfl _ _ gb573 28 #[.int .i64 t584, .slice Ao59 t585.length co59] (0, 0) _ rfl (by (with_reducible repeat (refine blk_drew ?_)); refine blk_put (cs := #[.int .i64 t584, .slice none 0 0]) ?_ 1 _ rfl; (with_reducible repeat (refine blk_drew ?_)); refine blk_put (cs := #[.int .i64 0, .slice none 0 0]) ?_ 0 _ rfl; (with_reducible repeat (refine blk_drew ?_)); exact BK573.out) Try.underlying28 rfl (by kernel_rfl)) rfl ?_
       exact ⟨_, by rfl, by (with_reducible repeat (apply Kd.R_drew)); exact Kd.R_mono (Kd.R_far (p := ⟨gb573, 1, none⟩) (Kd.R_far (p := ⟨gb573, 0, none⟩) (Kd.R_types HO587.out BK573.out (by decide)) (fun _ hk => hk.2) (.int .i64 t584)) (fun _ hk => hk.2) (.slice Ao59 t585.length co59)) (fun _ hk => trivial), by repeat ((with_reducible first | exact HB.out | refine below_set ?_ GE573.out))⟩

/-! ### laws_FnExactUnionSpaces_r8: function 7 -/
def laws_FnExactUnionSpaces.T8 : Bool × List (List Nat × List Nat) := (true, [([], []), ([0], [0]), ([], []), ([2, 1], [2]), ([1, 3, 3], [1, 3]), ([4], [4]), ([5], [5]), ([5], [5]), ([], []), ([8, 6, 4, 0, 1, 2, 3, 4, 5, 6, 8], [6, 8]), ([7, 9, 0, 1, 2, 3, 4, 5, 6, 7, 8, 9], [7])])
def laws_FnExactUnionSpaces.B8 : List Nat := [0, 1, 0, 7, 15, 31, 63, 63, 0, 383, 1023]
theorem laws_FnExactUnionSpaces.tab8 : rtab .any (opsOf Try.f7 8) = laws_FnExactUnionSpaces.T8 := by kernel_rfl
theorem laws_FnExactUnionSpaces.bits8 : waitsOk laws_FnExactUnionSpaces.T8.2 laws_FnExactUnionSpaces.B8 = true := by kernel_rfl
def laws_FnExactUnionSpaces.T31 : Bool × List (List Nat × List Nat) := (true, [([], []), ([0], [0]), ([], []), ([2, 1], [2]), ([1, 3, 3], [1, 3]), ([4], [4]), ([5], [5]), ([5], [5]), ([], []), ([8, 6, 4, 0, 1, 2, 3, 4, 5, 6, 8], [6, 8]), ([7, 9, 0, 1, 2, 3, 4, 5, 6, 7, 8, 9], [7])])
def laws_FnExactUnionSpaces.B31 : List Nat := [0, 1, 0, 7, 15, 31, 63, 63, 0, 383, 1023]
theorem laws_FnExactUnionSpaces.tab31 : rtab .any (opsOf Try.f7 31) = laws_FnExactUnionSpaces.T31 := by kernel_rfl
theorem laws_FnExactUnionSpaces.bits31 : waitsOk laws_FnExactUnionSpaces.T31.2 laws_FnExactUnionSpaces.B31 = true := by kernel_rfl
set_option maxHeartbeats 8000000 in
set_option maxRecDepth 100000 in
theorem laws_FnExactUnionSpaces.r8 (k : Nat) (a0_0 : Int) (A0_1 : Option Go.Addr) (c0_1 : Nat) (l0_1 : List Int) (a1_0 : Int) (A1_1 : Option Go.Addr) (c1_1 : Nat) (l1_1 : List Int) (w : Go.World) (HR0_1 : Go.Proofs.YtekllaaohagefaaW.PrintWords.Aside0
  ((Go.Proofs.YtekllaaohagefaaW.PrintWords.Kd.int Go.IntKind.i64).C w A0_1 l0_1.length l0_1)) (HC0_1 : Go.Proofs.YtekllaaohagefaaW.PrintWords.Aside0 (l0_1.length ≤ c0_1)) (HR1_1 : Go.Proofs.YtekllaaohagefaaW.PrintWords.Aside0
  ((Go.Proofs.YtekllaaohagefaaW.PrintWords.Kd.int Go.IntKind.i64).C w A1_1 l1_1.length l1_1)) (HC1_1 : Go.Proofs.YtekllaaohagefaaW.PrintWords.Aside0 (l1_1.length ≤ c1_1)) (t590 : Int) (t591 : Int) (t592 : Int) (t593 : List Int) (A19 : Go.Proofs.YtekllaaohagefaaW.PrintWords.Aside0
  (Go.Proofs.Ytekllaaohagefaa.P.laws_toSpace.f k a0_0 l0_1 = Option.some (t592, t593))) (t596 : Int) (t597 : List Int) (A20 : Go.Proofs.YtekllaaohagefaaW.PrintWords.Aside0
  (Go.Proofs.Ytekllaaohagefaa.P.laws_toSpace.f k a1_0 l1_1 = Option.some (t596, t597))) (t600 : Int) (t601 : List Int) (t604 : Bool) (A21 : Go.Proofs.YtekllaaohagefaaW.PrintWords.Aside0
  (Go.Proofs.Ytekllaaohagefaa.P.spec_UnionSpaces.f k t592 t593 t596 t597 = Option.some (t600, t601, t604))) (gb588 : Nat) (GE588 : Go.Proofs.YtekllaaohagefaaW.PrintWords.Aside0 (w.heap.size ≤ gb588)) (gb589 : Nat) (GE589 : Go.Proofs.YtekllaaohagefaaW.PrintWords.Aside0 (w.heap.size ≤ gb589)) (HT_ : Go.Proofs.YtekllaaohagefaaW.PrintWords.Aside0
  (Go.Proofs.YtekllaaohagefaaW.PrintLast.rtab Go.Region.Mode.any
    (opsOf Try.f7 8) =
   Go.Proofs.Ytekllaaohagefaa.P.laws_FnExactUnionSpaces.T8)) (w33 : Go.World) (BK588 : Go.Proofs.YtekllaaohagefaaW.PrintWords.Aside0
  (w33.heap[gb588]? =
   Option.some (Go.Obj.cells #[Go.Value.int Go.IntKind.i64 a0_0, Go.Value.slice A0_1 l0_1.length c0_1] 24))) (BK589 : Go.Proofs.YtekllaaohagefaaW.PrintWords.Aside0
  (w33.heap[gb589]? =
   Option.some (Go.Obj.cells #[Go.Value.int Go.IntKind.i64 a1_0, Go.Value.slice A1_1 l1_1.length c1_1] 24))) (HB : Go.Proofs.YtekllaaohagefaaW.PrintWords.Aside0 (Go.RowKit.Below w.heap.size w w33)) (hHeld : w33.cell? { block := gb588, off := 0 } = Option.some (Go.Value.int Go.IntKind.i64 a0_0) ∧
  w33.cell? { block := gb588, off := 1 } = Option.some (Go.Value.slice A0_1 l0_1.length c0_1) ∧
   w33.cell? { block := gb589, off := 0 } = Option.some (Go.Value.int Go.IntKind.i64 a1_0) ∧
    w33.cell? { block := gb589, off := 1 } = Option.some (Go.Value.slice A1_1 l1_1.length c1_1)) (K0_ : Act → World → Prop) (R_ : Ending → World → Prop) :
  (∀ (s : Go.Value × Go.Value × Go.Value × Nat) (w' : Go.World),
   (w'.cell? { block := gb588, off := 0 } = Option.some (Go.Value.int Go.IntKind.i64 a0_0) ∧
      w'.cell? { block := gb588, off := 1 } = Option.some (Go.Value.slice A0_1 l0_1.length c0_1) ∧
       w'.cell? { block := gb589, off := 0 } = Option.some (Go.Value.int Go.IntKind.i64 a1_0) ∧
        w'.cell? { block := gb589, off := 1 } = Option.some (Go.Value.slice A1_1 l1_1.length c1_1)) ∧
     (Go.Proofs.YtekllaaohagefaaW.PrintWords.Kd.int Go.IntKind.i64).R 3 w' w.heap.size
       (fun k_ => Option.some k_ ≠ s.snd.fst.ownBlock ∧ Option.some k_ ≠ s.snd.snd.fst.ownBlock) s.fst t593 ∧
      (Go.Proofs.YtekllaaohagefaaW.PrintWords.Kd.int Go.IntKind.i64).R 3 w' w.heap.size
        (fun k_ => Option.some k_ ≠ s.fst.ownBlock ∧ Option.some k_ ≠ s.snd.snd.fst.ownBlock) s.snd.fst t597 ∧
       (Go.Proofs.YtekllaaohagefaaW.PrintWords.Kd.int Go.IntKind.i64).R 3 w' w.heap.size
         (fun k_ => Option.some k_ ≠ s.fst.ownBlock ∧ Option.some k_ ≠ s.snd.fst.ownBlock) s.snd.snd.fst t601 ∧
        w'.heap[gb588]? =
          Option.some
           (Go.Obj.cells #[Go.Value.int Go.IntKind.i64 a0_0, Go.Value.slice A0_1 l0_1.length c0_1] 24) ∧
         w'.heap[gb589]? =
           Option.some
            (Go.Obj.cells #[Go.Value.int Go.IntKind.i64 a1_0, Go.Value.slice A1_1 l1_1.length c1_1] 24) ∧
          w'.heap[s.snd.snd.snd]? =
            Option.some (Go.Obj.cells #[Go.Value.int Go.IntKind.i64 0, Go.Value.slice Option.none 0 0] 28) ∧
           w.heap.size ≤ s.snd.snd.snd ∧
            w.heap.size ≤ s.snd.snd.snd ∧
             gb588 ≠ s.snd.snd.snd ∧
              s.snd.snd.snd ≠ gb588 ∧
               gb589 ≠ s.snd.snd.snd ∧ s.snd.snd.snd ≠ gb589 ∧ Go.RowKit.Below w.heap.size w w' →
    Go.Proofs.YtekllaaohagefaaW.PrintLast.wpAnyLast Go.Proofs.Try.prog Go.Region.Mode.any
     (opsOf Try.f7 8)
     (Go.Exit.then K0_ (bodyPost Try.prog Try.f7 R_))
     (fun w' =>
      w'.cell? { block := gb588, off := 0 } = Option.some (Go.Value.int Go.IntKind.i64 a0_0) ∧
       w'.cell? { block := gb588, off := 1 } = Option.some (Go.Value.slice A0_1 l0_1.length c0_1) ∧
        w'.cell? { block := gb589, off := 0 } = Option.some (Go.Value.int Go.IntKind.i64 a1_0) ∧
         w'.cell? { block := gb589, off := 1 } = Option.some (Go.Value.slice A1_1 l1_1.length c1_1))
     [] 2
     #[Bool.true, Bool.true, Bool.true, Bool.true, Bool.true, Bool.true, Bool.true, Bool.true, Bool.true,
      Bool.false, Bool.false]
     (Go.Proofs.YtekllaaohagefaaW.PrintLast.putAll
      {
       tmps :=
        #[Go.Value.agg #[Go.Value.int Go.IntKind.i64 a0_0, Go.Value.slice A0_1 l0_1.length c0_1],
         Go.Value.agg #[Go.Value.int Go.IntKind.i64 a1_0, Go.Value.slice A1_1 l1_1.length c1_1],
         Go.Value.pointer (Option.some { block := gb588, off := 0 }),
         Go.Value.pointer (Option.some { block := gb589, off := 0 }), Go.Value.bool Bool.false,
         Go.Value.int Go.IntKind.i64 t591, Go.undef, Go.undef, Go.undef, Go.undef, Go.undef, Go.undef,
         Go.undef, Go.undef, Go.undef, Go.undef, Go.undef,
         Go.Value.agg #[Go.Value.int Go.IntKind.i64 a0_0, Go.Value.slice A0_1 l0_1.length c0_1],
         Go.Value.int Go.IntKind.i64 1048576, Go.Value.int Go.IntKind.i64 t590,
         Go.Value.int Go.IntKind.i64 t590, Go.Value.bool Bool.false,
         Go.Value.agg #[Go.Value.int Go.IntKind.i64 a1_0, Go.Value.slice A1_1 l1_1.length c1_1],
         Go.Value.int Go.IntKind.i64 t590, Go.Value.int Go.IntKind.i64 t591, Go.Value.int Go.IntKind.i64 t591,
         Go.Value.bool Bool.false, Go.undef,
         Go.Value.agg #[Go.Value.int Go.IntKind.i64 a0_0, Go.Value.slice A0_1 l0_1.length c0_1], Go.undef,
         Go.Value.agg #[Go.Value.int Go.IntKind.i64 a1_0, Go.Value.slice A1_1 l1_1.length c1_1], Go.undef,
         Go.undef, Go.undef, Go.undef, Go.undef, Go.undef, Go.undef, Go.undef, Go.undef, Go.undef, Go.undef,
         Go.undef, Go.undef, Go.undef, Go.undef, Go.undef, Go.undef, Go.undef, Go.undef, Go.undef, Go.undef,
         Go.undef, Go.undef, Go.undef, Go.undef, Go.undef, Go.undef, Go.undef, Go.undef, Go.undef, Go.undef,
         Go.undef, Go.undef, Go.undef, Go.undef, Go.undef, Go.undef, Go.undef, Go.undef, Go.undef, Go.undef,
         Go.undef, Go.undef, Go.undef, Go.undef, Go.undef, Go.undef, Go.undef, Go.undef, Go.undef, Go.undef,
         Go.undef, Go.undef, Go.undef, Go.undef, Go.undef, Go.undef, Go.undef, Go.undef, Go.undef, Go.undef,
         Go.undef, Go.undef, Go.undef, Go.undef, Go.undef, Go.undef, Go.undef, Go.undef, Go.undef, Go.undef,
         Go.undef, Go.undef, Go.undef, Go.undef, Go.undef, Go.undef, Go.undef, Go.undef, Go.undef, Go.undef,
         Go.undef, Go.undef, Go.undef, Go.undef, Go.undef, Go.undef, Go.undef],
       defers := [] }
      [(29, Go.Value.agg #[Go.Value.int Go.IntKind.i64 t592, s.fst]),
       (31, Go.Value.agg #[Go.Value.int Go.IntKind.i64 t596, s.snd.fst]),
       (32,
        Go.Value.tuple #[Go.Value.agg #[Go.Value.int Go.IntKind.i64 t600, s.snd.snd.fst], Go.Value.bool t604]),
       (6, Go.Value.pointer (Option.some { block := s.snd.snd.snd, off := 0 })),
       (27,
        Go.Value.tuple #[Go.Value.agg #[Go.Value.int Go.IntKind.i64 t600, s.snd.snd.fst], Go.Value.bool t604]),
       (33, Go.Value.agg #[Go.Value.int Go.IntKind.i64 t600, s.snd.snd.fst]), (34, Go.Value.bool t604)])
     w') →
  Go.Proofs.YtekllaaohagefaaW.PrintLast.wpAnyLast Go.Proofs.Try.prog Go.Region.Mode.any
   (opsOf Try.f7 8)
   (Go.Exit.then K0_ (bodyPost Try.prog Try.f7 R_))
   (fun w' =>
    w'.cell? { block := gb588, off := 0 } = Option.some (Go.Value.int Go.IntKind.i64 a0_0) ∧
     w'.cell? { block := gb588, off := 1 } = Option.some (Go.Value.slice A0_1 l0_1.length c0_1) ∧
      w'.cell? { block := gb589, off := 0 } = Option.some (Go.Value.int Go.IntKind.i64 a1_0) ∧
       w'.cell? { block := gb589, off := 1 } = Option.some (Go.Value.slice A1_1 l1_1.length c1_1))
   [] 9
   #[Bool.true, Bool.false, Bool.true, Bool.false, Bool.false, Bool.false, Bool.false, Bool.false, Bool.false,
    Bool.false, Bool.false]
   {
    tmps :=
     #[Go.Value.agg #[Go.Value.int Go.IntKind.i64 a0_0, Go.Value.slice A0_1 l0_1.length c0_1],
      Go.Value.agg #[Go.Value.int Go.IntKind.i64 a1_0, Go.Value.slice A1_1 l1_1.length c1_1],
      Go.Value.pointer (Option.some { block := gb588, off := 0 }),
      Go.Value.pointer (Option.some { block := gb589, off := 0 }), Go.Value.bool Bool.false,
      Go.Value.int Go.IntKind.i64 t591, Go.undef, Go.undef, Go.undef, Go.undef, Go.undef, Go.undef, Go.undef,
      Go.undef, Go.undef, Go.undef, Go.undef,
      Go.Value.agg #[Go.Value.int Go.IntKind.i64 a0_0, Go.Value.slice A0_1 l0_1.length c0_1],
      Go.Value.int Go.IntKind.i64 1048576, Go.Value.int Go.IntKind.i64 t590, Go.Value.int Go.IntKind.i64 t590,
      Go.Value.bool Bool.false,
      Go.Value.agg #[Go.Value.int Go.IntKind.i64 a1_0, Go.Value.slice A1_1 l1_1.length c1_1],
      Go.Value.int Go.IntKind.i64 t590, Go.Value.int Go.IntKind.i64 t591, Go.Value.int Go.IntKind.i64 t591,
      Go.Value.bool Bool.false, Go.undef,
      Go.Value.agg #[Go.Value.int Go.IntKind.i64 a0_0, Go.Value.slice A0_1 l0_1.length c0_1], Go.undef,
      Go.Value.agg #[Go.Value.int Go.IntKind.i64 a1_0, Go.Value.slice A1_1 l1_1.length c1_1], Go.undef, Go.undef,
      Go.undef, Go.undef, Go.undef, Go.undef, Go.undef, Go.undef, Go.undef, Go.undef, Go.undef, Go.undef,
      Go.undef, Go.undef, Go.undef, Go.undef, Go.undef, Go.undef, Go.undef, Go.undef, Go.undef, Go.undef,
      Go.undef, Go.undef, Go.undef, Go.undef, Go.undef, Go.undef, Go.undef, Go.undef, Go.undef, Go.undef,
      Go.undef, Go.undef, Go.undef, Go.undef, Go.undef, Go.undef, Go.undef, Go.undef, Go.undef, Go.undef,
      Go.undef, Go.undef, Go.undef, Go.undef, Go.undef, Go.undef, Go.undef, Go.undef, Go.undef, Go.undef,
      Go.undef, Go.undef, Go.undef, Go.undef, Go.undef, Go.undef, Go.undef, Go.undef, Go.undef, Go.undef,
      Go.undef, Go.undef, Go.undef, Go.undef, Go.undef, Go.undef, Go.undef, Go.undef, Go.undef, Go.undef,
      Go.undef, Go.undef, Go.undef, Go.undef, Go.undef, Go.undef, Go.undef, Go.undef, Go.undef, Go.undef,
      Go.undef, Go.undef, Go.undef, Go.undef, Go.undef, Go.undef],
    defers := [] }
   w33 := by
 generalize hops_ : opsOf Try.f7 8 = ops_ at HT_ ⊢
 conv at hops_ => lhs; whnf
 subst hops_
 intro hCont
 refine two_ (i := 1) (j := 8) (Ni := some 29) (Nj := some 6) #[true, true, true, false, false, false, false, false, false, false, false] #[true, false, true, false, false, false, false, false, true, false, false] rfl rfl rfl rfl (two_of HT_.out (by kernel_rfl)) (by decide) (by decide) (fun K hK => ?_) (fun K hK => ?_)
 ·skip
  refine goes_ Try.func12 (by kernel_rfl) rfl #[.agg #[.int .i64 a0_0, .slice A0_1 l0_1.length c0_1]] (by rfl) rfl rfl (by (try simp only [List.map_toArray, List.map_cons, List.map_nil]); rfl) ?_
  with_reducible refine (laws_toSpace.calls k a0_0 _ _ l0_1 t592 t593 _ ?side1 ?side2 A19.out).mono ?_
  (case side1 => repeat (exact (Kd.C_below HR0_1.out HB.out)))
  (case side2 => exact HC0_1.out)
  rintro e w34 ⟨v594, rfl, ho0, hb⟩
  refine ⟨_, rfl, ?_⟩
  have n0_ := Aside0.mk (Kd.R_lower ho0 (below_size (by repeat ((with_reducible exact HB.out)))))
  have n1_ := Aside0.mk (blk_below (g := gb588) (o := .cells #[.int .i64 a0_0, .slice A0_1 l0_1.length c0_1] 24 (0, 0)) (by (with_reducible repeat (refine blk_drew ?_)); exact BK588.out) hb)
  have n2_ := Aside0.mk (blk_below (g := gb589) (o := .cells #[.int .i64 a1_0, .slice A1_1 l1_1.length c1_1] 24 (0, 0)) (by (with_reducible repeat (refine blk_drew ?_)); exact BK589.out) hb)
  have n3_ := Aside0.mk (below_step (by repeat ((with_reducible exact HB.out))) hb)
  clear BK588
  clear BK589
  clear HB
  have HO595 := n0_
  have BK588 := n1_
  have BK589 := n2_
  have HB := n3_
  clear n0_ n1_ n2_ n3_
  (try clear hb)
  skip
  skip
  skip
  (try clear ho0)
  refine hK.out _ _ ⟨(blk_cell BK588.out 0).trans rfl, (blk_cell BK588.out 1).trans rfl, (blk_cell BK589.out 0).trans rfl, (blk_cell BK589.out 1).trans rfl⟩ (fun hHeld => ?_)
  clear hK K
  refine norm_ (a' := ?_) ?_ ?_
  rotate_left
  ·show Act.put _ (some 29) _ = _
   simp only [Act.put, List.setIfInBounds_toArray, List.set_cons_zero, List.set_cons_succ, i64_w, i32_w]
   rfl
  refine two_ (i := 3) (j := 8) (Ni := some 31) (Nj := some 6) #[true, true, true, true, false, false, false, false, false, false, false] #[true, true, true, false, false, false, false, false, true, false, false] rfl rfl rfl rfl (two_of HT_.out (by kernel_rfl)) (by decide) (by decide) (fun K hK => ?_) (fun K hK => ?_)
  ·skip
   refine goes_ Try.func12 (by kernel_rfl) rfl #[.agg #[.int .i64 a1_0, .slice A1_1 l1_1.length c1_1]] (by rfl) rfl rfl (by (try simp only [List.map_toArray, List.map_cons, List.map_nil]); rfl) ?_
   with_reducible refine (laws_toSpace.calls k a1_0 _ _ l1_1 t596 t597 _ ?side1 ?side2 A20.out).mono ?_
   (case side1 => repeat (exact (Kd.C_below HR1_1.out HB.out)))
   (case side2 => exact HC1_1.out)
   rintro e w35 ⟨v598, rfl, ho0, hb⟩
   refine ⟨_, rfl, ?_⟩
   have n0_ := Aside0.mk (Kd.R_elder' (by (with_reducible repeat (apply Kd.R_drew)); exact HO595.out) (Kd.R_base ho0) hb)
   have n1_ := Aside0.mk (Kd.R_lower (Kd.R_new' ho0 (Kd.R_lt (by (with_reducible repeat (apply Kd.R_drew)); exact HO595.out))) (below_size (by repeat ((with_reducible exact HB.out)))))
   have n2_ := Aside0.mk (blk_below (g := gb588) (o := .cells #[.int .i64 a0_0, .slice A0_1 l0_1.length c0_1] 24 (0, 0)) (by (with_reducible repeat (refine blk_drew ?_)); exact BK588.out) hb)
   have n3_ := Aside0.mk (blk_below (g := gb589) (o := .cells #[.int .i64 a1_0, .slice A1_1 l1_1.length c1_1] 24 (0, 0)) (by (with_reducible repeat (refine blk_drew ?_)); exact BK589.out) hb)
   have n4_ := Aside0.mk (below_step (by repeat ((with_reducible exact HB.out))) hb)
   clear HO595
   clear BK588
   clear BK589
   clear HB
   have HO595 := n0_
   have HO599 := n1_
   have BK588 := n2_
   have BK589 := n3_
   have HB := n4_
   clear n0_ n1_ n2_ n3_ n4_
   (try clear hb)
   skip
   skip
   skip
   (try clear ho0)
   obtain ⟨Ao36, co36, eo36⟩ := Kd.R_slice HO595.out
   (subst eo36)
   obtain ⟨Ao37, co37, eo37⟩ := Kd.R_slice HO599.out
   (subst eo37)
   refine hK.out _ _ ⟨(blk_cell BK588.out 0).trans rfl, (blk_cell BK588.out 1).trans rfl, (blk_cell BK589.out 0).trans rfl, (blk_cell BK589.out 1).trans rfl⟩ (fun hHeld => ?_)
   clear hK K
   refine norm_ (a' := ?_) ?_ ?_
   rotate_left
   ·show Act.put _ (some 31) _ = _
    simp only [Act.put, List.setIfInBounds_toArray, List.set_cons_zero, List.set_cons_succ, i64_w, i32_w]
    rfl
   refine two_ (i := 4) (j := 8) (Ni := some 32) (Nj := some 6) #[true, true, true, true, true, false, false, false, false, false, false] #[true, true, true, true, false, false, false, false, true, false, false] rfl rfl rfl rfl (two_of HT_.out (by kernel_rfl)) (by decide) (by decide) (fun K hK => ?_) (fun K hK => ?_)
   ·skip
    refine goes_ Try.func29 (by kernel_rfl) rfl #[.agg #[.int .i64 t592, .slice Ao36 t593.length co36], .agg #[.int .i64 t596, .slice Ao37 t597.length co37]] (by rfl) rfl rfl (by (try simp only [List.map_toArray, List.map_cons, List.map_nil]); rfl) ?_
    with_reducible refine (spec_UnionSpaces.calls k t592 _ _ t593 t596 _ _ t597 t600 t601 t604 _ ?side1 ?side2 ?side3 ?side4 A21.out).mono ?_
    (case side1 => repeat (exact (Kd.R_reads' HO595.out).2.2))
    (case side2 => exact (Kd.R_reads' HO595.out).2.1)
    (case side3 => repeat (exact (Kd.R_reads' HO599.out).2.2))
    (case side4 => exact (Kd.R_reads' HO599.out).2.1)
    rintro e w38 ⟨v602, rfl, ho0, hb⟩
    refine ⟨_, rfl, ?_⟩
    have n0_ := Aside0.mk (Kd.R_elder' (by (with_reducible repeat (apply Kd.R_drew)); exact HO595.out) (Kd.R_base ho0) hb)
    have n1_ := Aside0.mk (Kd.R_elder' (by (with_reducible repeat (apply Kd.R_drew)); exact HO599.out) (Kd.R_base ho0) hb)
    have n2_ := Aside0.mk (Kd.R_lower (Kd.R_new' (Kd.R_new' ho0 (Kd.R_lt (by (with_reducible repeat (apply Kd.R_drew)); exact HO595.out))) (Kd.R_lt (by (with_reducible repeat (apply Kd.R_drew)); exact HO599.out))) (below_size (by repeat ((with_reducible exact HB.out)))))
    have n3_ := Aside0.mk (blk_below (g := gb588) (o := .cells #[.int .i64 a0_0, .slice A0_1 l0_1.length c0_1] 24 (0, 0)) (by (with_reducible repeat (refine blk_drew ?_)); exact BK588.out) hb)
    have n4_ := Aside0.mk (blk_below (g := gb589) (o := .cells #[.int .i64 a1_0, .slice A1_1 l1_1.length c1_1] 24 (0, 0)) (by (with_reducible repeat (refine blk_drew ?_)); exact BK589.out) hb)
    have n5_ := Aside0.mk (below_step (by repeat ((with_reducible exact HB.out))) hb)
    clear HO595
    clear HO599
    clear BK588
    clear BK589
    clear HB
    have HO595 := n0_
    have HO599 := n1_
    have HO603 := n2_
    have BK588 := n3_
    have BK589 := n4_
    have HB := n5_
    clear n0_ n1_ n2_ n3_ n4_ n5_
    (try clear hb)
    skip
    skip
    skip
    (try clear ho0)
    refine hK.out _ _ ⟨(blk_cell BK588.out 0).trans rfl, (blk_cell BK588.out 1).trans rfl, (blk_cell BK589.out 0).trans rfl, (blk_cell BK589.out 1).trans rfl⟩ (fun hHeld => ?_)
    clear hK K
    refine norm_ (a' := ?_) ?_ ?_
    rotate_left
    ·show Act.put _ (some 32) _ = _
     simp only [Act.put, List.setIfInBounds_toArray, List.set_cons_zero, List.set_cons_succ, i64_w, i32_w]
     rfl
    refine pure_ (i := 5) (N := some 27) (v := ?_) (a' := ?_) #[true, true, true, true, true, true, false, false, false, false, false] rfl rfl (any_of HT_.out (by kernel_rfl)) (fun _ _ _ h => h) (Or.inl ⟨by rfl, ?_⟩) ?_ ?_
    rotate_left
    ·intro w'
     go_simp
     with_reducible rfl
    rotate_left
    ·simp only [Act.put, List.setIfInBounds_toArray, List.set_cons_zero, List.set_cons_succ, i64_w, i32_w]
     rfl
    refine pure_ (i := 6) (N := some 33) (v := ?_) (a' := ?_) #[true, true, true, true, true, true, true, false, false, false, false] rfl rfl (any_of HT_.out (by kernel_rfl)) (fun _ _ _ h => h) (Or.inl ⟨by rfl, ?_⟩) ?_ ?_
    rotate_left
    ·intro w'
     go_simp
     with_reducible rfl
    rotate_left
    ·simp only [Act.put, List.setIfInBounds_toArray, List.set_cons_zero, List.set_cons_succ, i64_w, i32_w]
     rfl
    refine pure_ (i := 7) (N := some 34) (v := ?_) (a' := ?_) #[true, true, true, true, true, true, true, true, false, false, false] rfl rfl (any_of HT_.out (by kernel_rfl)) (fun _ _ _ h => h) (Or.inl ⟨by rfl, ?_⟩) ?_ ?_
    rotate_left
    ·intro w'
     go_simp
     with_reducible rfl
    rotate_left
    ·simp only [Act.put, List.setIfInBounds_toArray, List.set_cons_zero, List.set_cons_succ, i64_w, i32_w]
     rfl
    refine one_ (i := 8) (N := some 6) #[true, true, true, true, true, true, true, true, true, false, false] rfl rfl (one_of HT_.out (by kernel_rfl)) (by decide) (fun K hK => ?_)
    refine box_step ?hg (N := 6) ?hd (cs := #[.int .i64 0, .slice none 0 0]) (t := 28) ?hr ?_; (case hd => rfl); (case hg => rfl); (case hr => (go_simp; done))
    intro gb605 hg w39 hbox hb
    have n0_ := Aside0.mk (Kd.R_below (by (with_reducible repeat (apply Kd.R_drew)); exact HO595.out) hb)
    have n1_ := Aside0.mk (Kd.R_below (by (with_reducible repeat (apply Kd.R_drew)); exact HO599.out) hb)
    have n2_ := Aside0.mk (Kd.R_below (by (with_reducible repeat (apply Kd.R_drew)); exact HO603.out) hb)
    have n3_ := Aside0.mk (blk_below (g := gb588) (o := .cells #[.int .i64 a0_0, .slice A0_1 l0_1.length c0_1] 24 (0, 0)) (by (with_reducible repeat (refine blk_drew ?_)); exact BK588.out) hb)
    have n4_ := Aside0.mk (blk_below (g := gb589) (o := .cells #[.int .i64 a1_0, .slice A1_1 l1_1.length c1_1] 24 (0, 0)) (by (with_reducible repeat (refine blk_drew ?_)); exact BK589.out) hb)
    have n5_ := Aside0.mk (below_step (by repeat ((with_reducible exact HB.out))) hb)
    have n6_ := Aside0.mk (hbox)
    have n7_ := Aside0.mk ((by rw [hg]; exact (below_size (by repeat ((with_reducible exact HB.out)))) : w.heap.size ≤ gb605))
    have n8_ := Aside0.mk ((by rw [hg]; exact (below_size (by repeat ((with_reducible exact HB.out)))) : w.heap.size ≤ gb605))
    have n9_ := Aside0.mk ((by rw [hg]; exact Nat.ne_of_lt (blk_lt (g := gb588) (o := .cells #[.int .i64 a0_0, .slice A0_1 l0_1.length c0_1] 24 (0, 0)) (by (with_reducible repeat (refine blk_drew ?_)); exact BK588.out)) : gb588 ≠ gb605))
    have n10_ := Aside0.mk ((by rw [hg]; exact Nat.ne_of_gt (blk_lt (g := gb588) (o := .cells #[.int .i64 a0_0, .slice A0_1 l0_1.length c0_1] 24 (0, 0)) (by (with_reducible repeat (refine blk_drew ?_)); exact BK588.out)) : gb605 ≠ gb588))
    have n11_ := Aside0.mk ((by rw [hg]; exact Nat.ne_of_lt (blk_lt (g := gb589) (o := .cells #[.int .i64 a1_0, .slice A1_1 l1_1.length c1_1] 24 (0, 0)) (by (with_reducible repeat (refine blk_drew ?_)); exact BK589.out)) : gb589 ≠ gb605))
    have n12_ := Aside0.mk ((by rw [hg]; exact Nat.ne_of_gt (blk_lt (g := gb589) (o := .cells #[.int .i64 a1_0, .slice A1_1 l1_1.length c1_1] 24 (0, 0)) (by (with_reducible repeat (refine blk_drew ?_)); exact BK589.out)) : gb605 ≠ gb589))
    clear HO595
    clear HO599
    clear HO603
    clear BK588
    clear BK589
    clear HB
    have HO595 := n0_
    have HO599 := n1_
    have HO603 := n2_
    have BK588 := n3_
    have BK589 := n4_
    have HB := n5_
    have BK605 := n6_
    have GW605 := n7_
    have GE605 := n8_
    have NB588_605 := n9_
    have NB605_588 := n10_
    have NB589_605 := n11_
    have NB605_589 := n12_
    clear n0_ n1_ n2_ n3_ n4_ n5_ n6_ n7_ n8_ n9_ n10_ n11_ n12_
    clear hb hbox hg
    refine hK.out _ _ ⟨(blk_cell BK588.out 0).trans rfl, (blk_cell BK588.out 1).trans rfl, (blk_cell BK589.out 0).trans rfl, (blk_cell BK589.out 1).trans rfl⟩ (fun hHeld => ?_)
    clear hK K
    refine norm_ (a' := ?_) ?_ ?_
    rotate_left
    ·show Act.put _ (some 6) _ = _
     simp only [Act.put, List.setIfInBounds_toArray, List.set_cons_zero, List.set_cons_succ, i64_w, i32_w]
     rfl
    exact norm_ (by simp only [putAll, Act.put, List.setIfInBounds_toArray, List.set_cons_zero, List.set_cons_succ]) (hCont (.slice Ao36 t593.length co36, .slice Ao37 t597.length co37, v602, gb605) _ ⟨hHeld, (by (with_reducible repeat (apply Kd.R_drew)); exact Kd.R_mono HO595.out (fun _ hk => ⟨hk.1.2, hk.2⟩)), (by (with_reducible repeat (apply Kd.R_drew)); exact Kd.R_mono HO599.out (fun _ hk => ⟨hk.1.2, hk.2⟩)), (by (with_reducible repeat (apply Kd.R_drew)); exact Kd.R_mono HO603.out (fun _ hk => ⟨hk.1.2, hk.2⟩)), (by (with_reducible repeat (refine blk_drew ?_)); exact BK588.out), (by (with_reducible repeat (refine blk_drew ?_)); exact BK589.out), (by (with_reducible repeat (refine blk_drew ?_)); exact BK605.out), GW605.out, GE605.out, NB588_605.out, NB605_588.out, NB589_605.out, NB605_589.out, (by repeat ((with_reducible exact HB.out)))⟩)
   ·skip
    refine box_step ?hg (N := 6) ?hd (cs := #[.int .i64 0, .slice none 0 0]) (t := 28) ?hr ?_; (case hd => rfl); (case hg => rfl); (case hr => (go_simp; done))
    intro gb605 hg w36 hbox hb
    have n0_ := Aside0.mk (Kd.R_below (by (with_reducible repeat (apply Kd.R_drew)); exact HO595.out) hb)
    have n1_ := Aside0.mk (Kd.R_below (by (with_reducible repeat (apply Kd.R_drew)); exact HO599.out) hb)
    have n2_ := Aside0.mk (blk_below (g := gb588) (o := .cells #[.int .i64 a0_0, .slice A0_1 l0_1.length c0_1] 24 (0, 0)) (by (with_reducible repeat (refine blk_drew ?_)); exact BK588.out) hb)
    have n3_ := Aside0.mk (blk_below (g := gb589) (o := .cells #[.int .i64 a1_0, .slice A1_1 l1_1.length c1_1] 24 (0, 0)) (by (with_reducible repeat (refine blk_drew ?_)); exact BK589.out) hb)
    have n4_ := Aside0.mk (below_step (by repeat ((with_reducible exact HB.out))) hb)
    have n5_ := Aside0.mk (hbox)
    have n6_ := Aside0.mk ((by rw [hg]; exact (below_size (by repeat ((with_reducible exact HB.out)))) : w.heap.size ≤ gb605))
    have n7_ := Aside0.mk ((by rw [hg]; exact (below_size (by repeat ((with_reducible exact HB.out)))) : w.heap.size ≤ gb605))
    have n8_ := Aside0.mk ((by rw [hg]; exact Nat.ne_of_lt (blk_lt (g := gb588) (o := .cells #[.int .i64 a0_0, .slice A0_1 l0_1.length c0_1] 24 (0, 0)) (by (with_reducible repeat (refine blk_drew ?_)); exact BK588.out)) : gb588 ≠ gb605))
    have n9_ := Aside0.mk ((by rw [hg]; exact Nat.ne_of_gt (blk_lt (g := gb588) (o := .cells #[.int .i64 a0_0, .slice A0_1 l0_1.length c0_1] 24 (0, 0)) (by (with_reducible repeat (refine blk_drew ?_)); exact BK588.out)) : gb605 ≠ gb588))
    have n10_ := Aside0.mk ((by rw [hg]; exact Nat.ne_of_lt (blk_lt (g := gb589) (o := .cells #[.int .i64 a1_0, .slice A1_1 l1_1.length c1_1] 24 (0, 0)) (by (with_reducible repeat (refine blk_drew ?_)); exact BK589.out)) : gb589 ≠ gb605))
    have n11_ := Aside0.mk ((by rw [hg]; exact Nat.ne_of_gt (blk_lt (g := gb589) (o := .cells #[.int .i64 a1_0, .slice A1_1 l1_1.length c1_1] 24 (0, 0)) (by (with_reducible repeat (refine blk_drew ?_)); exact BK589.out)) : gb605 ≠ gb589))
    clear HO595
    clear HO599
    clear BK588
    clear BK589
    clear HB
    have HO595 := n0_
    have HO599 := n1_
    have BK588 := n2_
    have BK589 := n3_
    have HB := n4_
    have BK605 := n5_
    have GW605 := n6_
    have GE605 := n7_
    have NB588_605 := n8_
    have NB605_588 := n9_
    have NB589_605 := n10_
    have NB605_589 := n11_
    clear n0_ n1_ n2_ n3_ n4_ n5_ n6_ n7_ n8_ n9_ n10_ n11_
    clear hb hbox hg
    obtain ⟨Ao37, co37, eo37⟩ := Kd.R_slice HO595.out
    ((injection eo37 with f1_ f2_ f3_; have f4_ := f1_.symm; have f5_ := f3_.symm; clear f1_ f2_ f3_; subst f4_; subst f5_))
    obtain ⟨Ao38, co38, eo38⟩ := Kd.R_slice HO599.out
    ((injection eo38 with f1_ f2_ f3_; have f4_ := f1_.symm; have f5_ := f3_.symm; clear f1_ f2_ f3_; subst f4_; subst f5_))
    refine hK.out _ _ ⟨(blk_cell BK588.out 0).trans rfl, (blk_cell BK588.out 1).trans rfl, (blk_cell BK589.out 0).trans rfl, (blk_cell BK589.out 1).trans rfl⟩ (fun hHeld => ?_)
    clear hK K
    refine norm_ (a' := ?_) ?_ ?_
    rotate_left
    ·show Act.put _ (some 6) _ = _
     simp only [Act.put, List.setIfInBounds_toArray, List.set_cons_zero, List.set_cons_succ, i64_w, i32_w]
     rfl
    refine one_ (i := 4) (N := some 32) #[true, true, true, true, true, false, false, false, true, false, false] rfl rfl (one_of HT_.out (by kernel_rfl)) (by decide) (fun K hK => ?_)
    refine goes_ Try.func29 (by kernel_rfl) rfl #[.agg #[.int .i64 t592, .slice Ao37 t593.length co37], .agg #[.int .i64 t596, .slice Ao38 t597.length co38]] (by rfl) rfl rfl (by (try simp only [List.map_toArray, List.map_cons, List.map_nil]); rfl) ?_
    with_reducible refine (spec_UnionSpaces.calls k t592 _ _ t593 t596 _ _ t597 t600 t601 t604 _ ?side1 ?side2 ?side3 ?side4 A21.out).mono ?_
    (case side1 => repeat (exact (Kd.R_reads' HO595.out).2.2))
    (case side2 => exact (Kd.R_reads' HO595.out).2.1)
    (case side3 => repeat (exact (Kd.R_reads' HO599.out).2.2))
    (case side4 => exact (Kd.R_reads' HO599.out).2.1)
    rintro e w39 ⟨v602, rfl, ho0, hb⟩
    refine ⟨_, rfl, ?_⟩
    have n0_ := Aside0.mk (Kd.R_elder' (by (with_reducible repeat (apply Kd.R_drew)); exact HO595.out) (Kd.R_base ho0) hb)
    have n1_ := Aside0.mk (Kd.R_elder' (by (with_reducible repeat (apply Kd.R_drew)); exact HO599.out) (Kd.R_base ho0) hb)
    have n2_ := Aside0.mk (Kd.R_lower (Kd.R_new' (Kd.R_new' ho0 (Kd.R_lt (by (with_reducible repeat (apply Kd.R_drew)); exact HO595.out))) (Kd.R_lt (by (with_reducible repeat (apply Kd.R_drew)); exact HO599.out))) (below_size (by repeat ((with_reducible exact HB.out)))))
    have n3_ := Aside0.mk (blk_below (g := gb588) (o := .cells #[.int .i64 a0_0, .slice A0_1 l0_1.length c0_1] 24 (0, 0)) (by (with_reducible repeat (refine blk_drew ?_)); exact BK588.out) hb)
    have n4_ := Aside0.mk (blk_below (g := gb589) (o := .cells #[.int .i64 a1_0, .slice A1_1 l1_1.length c1_1] 24 (0, 0)) (by (with_reducible repeat (refine blk_drew ?_)); exact BK589.out) hb)
    have n5_ := Aside0.mk (blk_below (g := gb605) (o := .cells #[.int .i64 0, .slice none 0 0] 28 (0, 0)) (by (with_reducible repeat (refine blk_drew ?_)); exact BK605.out) hb)
    have n6_ := Aside0.mk (below_step (by repeat ((with_reducible exact HB.out))) hb)
    clear HO595
    clear HO599
    clear BK588
    clear BK589
    clear BK605
    clear HB
    have HO595 := n0_
    have HO599 := n1_
    have HO603 := n2_
    have BK588 := n3_
    have BK589 := n4_
    have BK605 := n5_
    have HB := n6_
    clear n0_ n1_ n2_ n3_ n4_ n5_ n6_
    (try clear hb)
    skip
    skip
    skip
    (try clear ho0)
    refine hK.out _ _ ⟨(blk_cell BK588.out 0).trans rfl, (blk_cell BK588.out 1).trans rfl, (blk_cell BK589.out 0).trans rfl, (blk_cell BK589.out 1).trans rfl⟩ (fun hHeld => ?_)
    clear hK K
    refine norm_ (a' := ?_) ?_ ?_
    rotate_left
    ·show Act.put _ (some 32) _ = _
     simp only [Act.put, List.setIfInBounds_toArray, List.set_cons_zero, List.set_cons_succ, i64_w, i32_w]
     rfl
    refine pure_ (i := 5) (N := some 27) (v := ?_) (a' := ?_) #[true, true, true, true, true, true, false, false, true, false, false] rfl rfl (any_of HT_.out (by kernel_rfl)) (fun _ _ _ h => h) (Or.inl ⟨by rfl, ?_⟩) ?_ ?_
    rotate_left
    ·intro w'
     go_simp
     with_reducible rfl
    rotate_left
    ·simp only [Act.put, List.setIfInBounds_toArray, List.set_cons_zero, List.set_cons_succ, i64_w, i32_w]
     rfl
    refine pure_ (i := 6) (N := some 33) (v := ?_) (a' := ?_) #[true, true, true, true, true, true, true, false, true, false, false] rfl rfl (any_of HT_.out (by kernel_rfl)) (fun _ _ _ h => h) (Or.inl ⟨by rfl, ?_⟩) ?_ ?_
    rotate_left
    ·intro w'
     go_simp
     with_reducible rfl
    rotate_left
    ·simp only [Act.put, List.setIfInBounds_toArray, List.set_cons_zero, List.set_cons_succ, i64_w, i32_w]
     rfl
    refine pure_ (i := 7) (N := some 34) (v := ?_) (a' := ?_) #[true, true, true, true, true, true, true, true, true, false, false] rfl rfl (any_of HT_.out (by kernel_rfl)) (fun _ _ _ h => h) (Or.inl ⟨by rfl, ?_⟩) ?_ ?_
    rotate_left
    ·intro w'
     go_simp
     with_reducible rfl
    rotate_left
    ·simp only [Act.put, List.setIfInBounds_toArray, List.set_cons_zero, List.set_cons_succ, i64_w, i32_w]
     rfl
    exact norm_ (by simp only [putAll, Act.put, List.setIfInBounds_toArray, List.set_cons_zero, List.set_cons_succ]) (hCont (.slice Ao37 t593.length co37, .slice Ao38 t597.length co38, v602, gb605) _ ⟨hHeld, (by (with_reducible repeat (apply Kd.R_drew)); exact Kd.R_mono HO595.out (fun _ hk => ⟨hk.1.2, hk.2⟩)), (by (with_reducible repeat (apply Kd.R_drew)); exact Kd.R_mono HO599.out (fun _ hk => ⟨hk.1.2, hk.2⟩)), (by (with_reducible repeat (apply Kd.R_drew)); exact Kd.R_mono HO603.out (fun _ hk => ⟨hk.1.2, hk.2⟩)), (by (with_reducible repeat (refine blk_drew ?_)); exact BK588.out), (by (with_reducible repeat (refine blk_drew ?_)); exact BK589.out), (by (with_reducible repeat (refine blk_drew ?_)); exact BK605.out), GW605.out, GE605.out, NB588_605.out, NB605_588.out, NB589_605.out, NB605_589.out, (by repeat ((with_reducible exact HB.out)))⟩)
  ·skip
   refine box_step ?hg (N := 6) ?hd (cs := #[.int .i64 0, .slice none 0 0]) (t := 28) ?hr ?_; (case hd => rfl); (case hg => rfl); (case hr => (go_simp; done))
   intro gb605 hg w35 hbox hb
   have n0_ := Aside0.mk (Kd.R_below (by (with_reducible repeat (apply Kd.R_drew)); exact HO595.out) hb)
   have n1_ := Aside0.mk (blk_below (g := gb588) (o := .cells #[.int .i64 a0_0, .slice A0_1 l0_1.length c0_1] 24 (0, 0)) (by (with_reducible repeat (refine blk_drew ?_)); exact BK588.out) hb)
   have n2_ := Aside0.mk (blk_below (g := gb589) (o := .cells #[.int .i64 a1_0, .slice A1_1 l1_1.length c1_1] 24 (0, 0)) (by (with_reducible repeat (refine blk_drew ?_)); exact BK589.out) hb)
   have n3_ := Aside0.mk (below_step (by repeat ((with_reducible exact HB.out))) hb)
   have n4_ := Aside0.mk (hbox)
   have n5_ := Aside0.mk ((by rw [hg]; exact (below_size (by repeat ((with_reducible exact HB.out)))) : w.heap.size ≤ gb605))
   have n6_ := Aside0.mk ((by rw [hg]; exact (below_size (by repeat ((with_reducible exact HB.out)))) : w.heap.size ≤ gb605))
   have n7_ := Aside0.mk ((by rw [hg]; exact Nat.ne_of_lt (blk_lt (g := gb588) (o := .cells #[.int .i64 a0_0, .slice A0_1 l0_1.length c0_1] 24 (0, 0)) (by (with_reducible repeat (refine blk_drew ?_)); exact BK588.out)) : gb588 ≠ gb605))
   have n8_ := Aside0.mk ((by rw [hg]; exact Nat.ne_of_gt (blk_lt (g := gb588) (o := .cells #[.int .i64 a0_0, .slice A0_1 l0_1.length c0_1] 24 (0, 0)) (by (with_reducible repeat (refine blk_drew ?_)); exact BK588.out)) : gb605 ≠ gb588))
   have n9_ := Aside0.mk ((by rw [hg]; exact Nat.ne_of_lt (blk_lt (g := gb589) (o := .cells #[.int .i64 a1_0, .slice A1_1 l1_1.length c1_1] 24 (0, 0)) (by (with_reducible repeat (refine blk_drew ?_)); exact BK589.out)) : gb589 ≠ gb605))
   have n10_ := Aside0.mk ((by rw [hg]; exact Nat.ne_of_gt (blk_lt (g := gb589) (o := .cells #[.int .i64 a1_0, .slice A1_1 l1_1.length c1_1] 24 (0, 0)) (by (with_reducible repeat (refine blk_drew ?_)); exact BK589.out)) : gb605 ≠ gb589))
   clear HO595
   clear BK588
   clear BK589
   clear HB
   have HO595 := n0_
   have BK588 := n1_
   have BK589 := n2_
   have HB := n3_
   have BK605 := n4_
   have GW605 := n5_
   have GE605 := n6_
   have NB588_605 := n7_
   have NB605_588 := n8_
   have NB589_605 := n9_
   have NB605_589 := n10_
   clear n0_ n1_ n2_ n3_ n4_ n5_ n6_ n7_ n8_ n9_ n10_
   clear hb hbox hg
   refine hK.out _ _ ⟨(blk_cell BK588.out 0).trans rfl, (blk_cell BK588.out 1).trans rfl, (blk_cell BK589.out 0).trans rfl, (blk_cell BK589.out 1).trans rfl⟩ (fun hHeld => ?_)
   clear hK K
   refine norm_ (a' := ?_) ?_ ?_
   rotate_left
   ·show Act.put _ (some 6) _ = _
    simp only [Act.put, List.setIfInBounds_toArray, List.set_cons_zero, List.set_cons_succ, i64_w, i32_w]
    rfl
   refine one_ (i := 3) (N := some 31) #[true, true, true, true, false, false, false, false, true, false, false] rfl rfl (one_of HT_.out (by kernel_rfl)) (by decide) (fun K hK => ?_)
   refine goes_ Try.func12 (by kernel_rfl) rfl #[.agg #[.int .i64 a1_0, .slice A1_1 l1_1.length c1_1]] (by rfl) rfl rfl (by (try simp only [List.map_toArray, List.map_cons, List.map_nil]); rfl) ?_
   with_reducible refine (laws_toSpace.calls k a1_0 _ _ l1_1 t596 t597 _ ?side1 ?side2 A20.out).mono ?_
   (case side1 => repeat (exact (Kd.C_below HR1_1.out HB.out)))
   (case side2 => exact HC1_1.out)
   rintro e w36 ⟨v598, rfl, ho0, hb⟩
   refine ⟨_, rfl, ?_⟩
   have n0_ := Aside0.mk (Kd.R_elder' (by (with_reducible repeat (apply Kd.R_drew)); exact HO595.out) (Kd.R_base ho0) hb)
   have n1_ := Aside0.mk (Kd.R_lower (Kd.R_new' ho0 (Kd.R_lt (by (with_reducible repeat (apply Kd.R_drew)); exact HO595.out))) (below_size (by repeat ((with_reducible exact HB.out)))))
   have n2_ := Aside0.mk (blk_below (g := gb588) (o := .cells #[.int .i64 a0_0, .slice A0_1 l0_1.length c0_1] 24 (0, 0)) (by (with_reducible repeat (refine blk_drew ?_)); exact BK588.out) hb)
   have n3_ := Aside0.mk (blk_below (g := gb589) (o := .cells #[.int .i64 a1_0, .slice A1_1 l1_1.length c1_1] 24 (0, 0)) (by (with_reducible repeat (refine blk_drew ?_)); exact BK589.out) hb)
   have n4_ := Aside0.mk (blk_below (g := gb605) (o := .cells #[.int .i64 0, .slice none 0 0] 28 (0, 0)) (by (with_reducible repeat (refine blk_drew ?_)); exact BK605.out) hb)
   have n5_ := Aside0.mk (below_step (by repeat ((with_reducible exact HB.out))) hb)
   clear HO595
   clear BK588
   clear BK589
   clear BK605
   clear HB
   have HO595 := n0_
   have HO599 := n1_
   have BK588 := n2_
   have BK589 := n3_
   have BK605 := n4_
   have HB := n5_
   clear n0_ n1_ n2_ n3_ n4_ n5_
   (try clear hb)
   skip
   skip
   skip
   (try clear ho0)
   obtain ⟨Ao37, co37, eo37⟩ := Kd.R_slice HO595.out
   (subst eo37)
   obtain ⟨Ao38, co38, eo38⟩ := Kd.R_slice HO599.out
   (subst eo38)
   refine hK.out _ _ ⟨(blk_cell BK588.out 0).trans rfl, (blk_cell BK588.out 1).trans rfl, (blk_cell BK589.out 0).trans rfl, (blk_cell BK589.out 1).trans rfl⟩ (fun hHeld => ?_)
   clear hK K
   refine norm_ (a' := ?_) ?_ ?_
   rotate_left
   ·show Act.put _ (some 31) _ = _
    simp only [Act.put, List.setIfInBounds_toArray, List.set_cons_zero, List.set_cons_succ, i64_w, i32_w]
    rfl
   refine one_ (i := 4) (N := some 32) #[true, true, true, true, true, false, false, false, true, false, false] rfl rfl (one_of HT_.out (by kernel_rfl)) (by decide) (fun K hK => ?_)
   refine goes_ Try.func29 (by kernel_rfl) rfl #[.agg #[.int .i64 t592, .slice Ao37 t593.length co37], .agg #[.int .i64 t596, .slice Ao38 t597.length co38]] (by rfl) rfl rfl (by (try simp only [List.map_toArray, List.map_cons, List.map_nil]); rfl) ?_
   with_reducible refine (spec_UnionSpaces.calls k t592 _ _ t593 t596 _ _ t597 t600 t601 t604 _ ?side1 ?side2 ?side3 ?side4 A21.out).mono ?_
   (case side1 => repeat (exact (Kd.R_reads' HO595.out).2.2))
   (case side2 => exact (Kd.R_reads' HO595.out).2.1)
   (case side3 => repeat (exact (Kd.R_reads' HO599.out).2.2))
   (case side4 => exact (Kd.R_reads' HO599.out).2.1)
   rintro e w39 ⟨v602, rfl, ho0, hb⟩
   refine ⟨_, rfl, ?_⟩
   have n0_ := Aside0.mk (Kd.R_elder' (by (with_reducible repeat (apply Kd.R_drew)); exact HO595.out) (Kd.R_base ho0) hb)
   have n1_ := Aside0.mk (Kd.R_elder' (by (with_reducible repeat (apply Kd.R_drew)); exact HO599.out) (Kd.R_base ho0) hb)
   have n2_ := Aside0.mk (Kd.R_lower (Kd.R_new' (Kd.R_new' ho0 (Kd.R_lt (by (with_reducible repeat (apply Kd.R_drew)); exact HO595.out))) (Kd.R_lt (by (with_reducible repeat (apply Kd.R_drew)); exact HO599.out))) (below_size (by repeat ((with_reducible exact HB.out)))))
   have n3_ := Aside0.mk (blk_below (g := gb588) (o := .cells #[.int .i64 a0_0, .slice A0_1 l0_1.length c0_1] 24 (0, 0)) (by (with_reducible repeat (refine blk_drew ?_)); exact BK588.out) hb)
   have n4_ := Aside0.mk (blk_below (g := gb589) (o := .cells #[.int .i64 a1_0, .slice A1_1 l1_1.length c1_1] 24 (0, 0)) (by (with_reducible repeat (refine blk_drew ?_)); exact BK589.out) hb)
   have n5_ := Aside0.mk (blk_below (g := gb605) (o := .cells #[.int .i64 0, .slice none 0 0] 28 (0, 0)) (by (with_reducible repeat (refine blk_drew ?_)); exact BK605.out) hb)
   have n6_ := Aside0.mk (below_step (by repeat ((with_reducible exact HB.out))) hb)
   clear HO595
   clear HO599
   clear BK588
   clear BK589
   clear BK605
   clear HB
   have HO595 := n0_
   have HO599 := n1_
   have HO603 := n2_
   have BK588 := n3_
   have BK589 := n4_
   have BK605 := n5_
   have HB := n6_
   clear n0_ n1_ n2_ n3_ n4_ n5_ n6_
   (try clear hb)
   skip
   skip
   skip
   (try clear ho0)
   refine hK.out _ _ ⟨(blk_cell BK588.out 0).trans rfl, (blk_cell BK588.out 1).trans rfl, (blk_cell BK589.out 0).trans rfl, (blk_cell BK589.out 1).trans rfl⟩ (fun hHeld => ?_)
   clear hK K
   refine norm_ (a' := ?_) ?_ ?_
   rotate_left
   ·show Act.put _ (some 32) _ = _
    simp only [Act.put, List.setIfInBounds_toArray, List.set_cons_zero, List.set_cons_succ, i64_w, i32_w]
    rfl
   refine pure_ (i := 5) (N := some 27) (v := ?_) (a' := ?_) #[true, true, true, true, true, true, false, false, true, false, false] rfl rfl (any_of HT_.out (by kernel_rfl)) (fun _ _ _ h => h) (Or.inl ⟨by rfl, ?_⟩) ?_ ?_
   rotate_left
   ·intro w'
    go_simp
    with_reducible rfl
   rotate_left
   ·simp only [Act.put, List.setIfInBounds_toArray, List.set_cons_zero, List.set_cons_succ, i64_w, i32_w]
    rfl
   refine pure_ (i := 6) (N := some 33) (v := ?_) (a' := ?_) #[true, true, true, true, true, true, true, false, true, false, false] rfl rfl (any_of HT_.out (by kernel_rfl)) (fun _ _ _ h => h) (Or.inl ⟨by rfl, ?_⟩) ?_ ?_
   rotate_left
   ·intro w'
    go_simp
    with_reducible rfl
   rotate_left
   ·simp only [Act.put, List.setIfInBounds_toArray, List.set_cons_zero, List.set_cons_succ, i64_w, i32_w]
    rfl
   refine pure_ (i := 7) (N := some 34) (v := ?_) (a' := ?_) #[true, true, true, true, true, true, true, true, true, false, false] rfl rfl (any_of HT_.out (by kernel_rfl)) (fun _ _ _ h => h) (Or.inl ⟨by rfl, ?_⟩) ?_ ?_
   rotate_left
   ·intro w'
    go_simp
    with_reducible rfl
   rotate_left
   ·simp only [Act.put, List.setIfInBounds_toArray, List.set_cons_zero, List.set_cons_succ, i64_w, i32_w]
    rfl
   exact norm_ (by simp only [putAll, Act.put, List.setIfInBounds_toArray, List.set_cons_zero, List.set_cons_succ]) (hCont (.slice Ao37 t593.length co37, .slice Ao38 t597.length co38, v602, gb605) _ ⟨hHeld, (by (with_reducible repeat (apply Kd.R_drew)); exact Kd.R_mono HO595.out (fun _ hk => ⟨hk.1.2, hk.2⟩)), (by (with_reducible repeat (apply Kd.R_drew)); exact Kd.R_mono HO599.out (fun _ hk => ⟨hk.1.2, hk.2⟩)), (by (with_reducible repeat (apply Kd.R_drew)); exact Kd.R_mono HO603.out (fun _ hk => ⟨hk.1.2, hk.2⟩)), (by (with_reducible repeat (refine blk_drew ?_)); exact BK588.out), (by (with_reducible repeat (refine blk_drew ?_)); exact BK589.out), (by (with_reducible repeat (refine blk_drew ?_)); exact BK605.out), GW605.out, GE605.out, NB588_605.out, NB605_588.out, NB589_605.out, NB605_589.out, (by repeat ((with_reducible exact HB.out)))⟩)
 ·skip
  refine box_step ?hg (N := 6) ?hd (cs := #[.int .i64 0, .slice none 0 0]) (t := 28) ?hr ?_; (case hd => rfl); (case hg => rfl); (case hr => (go_simp; done))
  intro gb605 hg w34 hbox hb
  have n0_ := Aside0.mk (blk_below (g := gb588) (o := .cells #[.int .i64 a0_0, .slice A0_1 l0_1.length c0_1] 24 (0, 0)) (by (with_reducible repeat (refine blk_drew ?_)); exact BK588.out) hb)
  have n1_ := Aside0.mk (blk_below (g := gb589) (o := .cells #[.int .i64 a1_0, .slice A1_1 l1_1.length c1_1] 24 (0, 0)) (by (with_reducible repeat (refine blk_drew ?_)); exact BK589.out) hb)
  have n2_ := Aside0.mk (below_step (by repeat ((with_reducible exact HB.out))) hb)
  have n3_ := Aside0.mk (hbox)
  have n4_ := Aside0.mk ((by rw [hg]; exact (below_size (by repeat ((with_reducible exact HB.out)))) : w.heap.size ≤ gb605))
  have n5_ := Aside0.mk ((by rw [hg]; exact (below_size (by repeat ((with_reducible exact HB.out)))) : w.heap.size ≤ gb605))
  have n6_ := Aside0.mk ((by rw [hg]; exact Nat.ne_of_lt (blk_lt (g := gb588) (o := .cells #[.int .i64 a0_0, .slice A0_1 l0_1.length c0_1] 24 (0, 0)) (by (with_reducible repeat (refine blk_drew ?_)); exact BK588.out)) : gb588 ≠ gb605))
  have n7_ := Aside0.mk ((by rw [hg]; exact Nat.ne_of_gt (blk_lt (g := gb588) (o := .cells #[.int .i64 a0_0, .slice A0_1 l0_1.length c0_1] 24 (0, 0)) (by (with_reducible repeat (refine blk_drew ?_)); exact BK588.out)) : gb605 ≠ gb588))
  have n8_ := Aside0.mk ((by rw [hg]; exact Nat.ne_of_lt (blk_lt (g := gb589) (o := .cells #[.int .i64 a1_0, .slice A1_1 l1_1.length c1_1] 24 (0, 0)) (by (with_reducible repeat (refine blk_drew ?_)); exact BK589.out)) : gb589 ≠ gb605))
  have n9_ := Aside0.mk ((by rw [hg]; exact Nat.ne_of_gt (blk_lt (g := gb589) (o := .cells #[.int .i64 a1_0, .slice A1_1 l1_1.length c1_1] 24 (0, 0)) (by (with_reducible repeat (refine blk_drew ?_)); exact BK589.out)) : gb605 ≠ gb589))
  clear BK588
  clear BK589
  clear HB
  have BK588 := n0_
  have BK589 := n1_
  have HB := n2_
  have BK605 := n3_
  have GW605 := n4_
  have GE605 := n5_
  have NB588_605 := n6_
  have NB605_588 := n7_
  have NB589_605 := n8_
  have NB605_589 := n9_
  clear n0_ n1_ n2_ n3_ n4_ n5_ n6_ n7_ n8_ n9_
  clear hb hbox hg
  refine hK.out _ _ ⟨(blk_cell BK588.out 0).trans rfl, (blk_cell BK588.out 1).trans rfl, (blk_cell BK589.out 0).trans rfl, (blk_cell BK589.out 1).trans rfl⟩ (fun hHeld => ?_)
  clear hK K
  refine norm_ (a' := ?_) ?_ ?_
  rotate_left
  ·show Act.put _ (some 6) _ = _
   simp only [Act.put, List.setIfInBounds_toArray, List.set_cons_zero, List.set_cons_succ, i64_w, i32_w]
   rfl
  refine one_ (i := 1) (N := some 29) #[true, true, true, false, false, false, false, false, true, false, false] rfl rfl (one_of HT_.out (by kernel_rfl)) (by decide) (fun K hK => ?_)
  refine goes_ Try.func12 (by kernel_rfl) rfl #[.agg #[.int .i64 a0_0, .slice A0_1 l0_1.length c0_1]] (by rfl) rfl rfl (by (try simp only [List.map_toArray, List.map_cons, List.map_nil]); rfl) ?_
  with_reducible refine (laws_toSpace.calls k a0_0 _ _ l0_1 t592 t593 _ ?side1 ?side2 A19.out).mono ?_
  (case side1 => repeat (exact (Kd.C_below HR0_1.out HB.out)))
  (case side2 => exact HC0_1.out)
  rintro e w35 ⟨v594, rfl, ho0, hb⟩
  refine ⟨_, rfl, ?_⟩
  have n0_ := Aside0.mk (Kd.R_lower ho0 (below_size (by repeat ((with_reducible exact HB.out)))))
  have n1_ := Aside0.mk (blk_below (g := gb588) (o := .cells #[.int .i64 a0_0, .slice A0_1 l0_1.length c0_1] 24 (0, 0)) (by (with_reducible repeat (refine blk_drew ?_)); exact BK588.out) hb)
  have n2_ := Aside0.mk (blk_below (g := gb589) (o := .cells #[.int .i64 a1_0, .slice A1_1 l1_1.length c1_1] 24 (0, 0)) (by (with_reducible repeat (refine blk_drew ?_)); exact BK589.out) hb)
  have n3_ := Aside0.mk (blk_below (g := gb605) (o := .cells #[.int .i64 0, .slice none 0 0] 28 (0, 0)) (by (with_reducible repeat (refine blk_drew ?_)); exact BK605.out) hb)
  have n4_ := Aside0.mk (below_step (by repeat ((with_reducible exact HB.out))) hb)
  clear BK588
  clear BK589
  clear BK605
  clear HB
  have HO595 := n0_
  have BK588 := n1_
  have BK589 := n2_
  have BK605 := n3_
  have HB := n4_
  clear n0_ n1_ n2_ n3_ n4_
  (try clear hb)
  skip
  skip
  skip
  (try clear ho0)
  refine hK.out _ _ ⟨(blk_cell BK588.out 0).trans rfl, (blk_cell BK588.out 1).trans rfl, (blk_cell BK589.out 0).trans rfl, (blk_cell BK589.out 1).trans rfl⟩ (fun hHeld => ?_)
  clear hK K
  refine norm_ (a' := ?_) ?_ ?_
  rotate_left
  ·show Act.put _ (some 29) _ = _
   simp only [Act.put, List.setIfInBounds_toArray, List.set_cons_zero, List.set_cons_succ, i64_w, i32_w]
   rfl
  refine one_ (i := 3) (N := some 31) #[true, true, true, true, false, false, false, false, true, false, false] rfl rfl (one_of HT_.out (by kernel_rfl)) (by decide) (fun K hK => ?_)
  refine goes_ Try.func12 (by kernel_rfl) rfl #[.agg #[.int .i64 a1_0, .slice A1_1 l1_1.length c1_1]] (by rfl) rfl rfl (by (try simp only [List.map_toArray, List.map_cons, List.map_nil]); rfl) ?_
  with_reducible refine (laws_toSpace.calls k a1_0 _ _ l1_1 t596 t597 _ ?side1 ?side2 A20.out).mono ?_
  (case side1 => repeat (exact (Kd.C_below HR1_1.out HB.out)))
  (case side2 => exact HC1_1.out)
  rintro e w36 ⟨v598, rfl, ho0, hb⟩
  refine ⟨_, rfl, ?_⟩
  have n0_ := Aside0.mk (Kd.R_elder' (by (with_reducible repeat (apply Kd.R_drew)); exact HO595.out) (Kd.R_base ho0) hb)
  have n1_ := Aside0.mk (Kd.R_lower (Kd.R_new' ho0 (Kd.R_lt (by (with_reducible repeat (apply Kd.R_drew)); exact HO595.out))) (below_size (by repeat ((with_reducible exact HB.out)))))
  have n2_ := Aside0.mk (blk_below (g := gb588) (o := .cells #[.int .i64 a0_0, .slice A0_1 l0_1.length c0_1] 24 (0, 0)) (by (with_reducible repeat (refine blk_drew ?_)); exact BK588.out) hb)
  have n3_ := Aside0.mk (blk_below (g := gb589) (o := .cells #[.int .i64 a1_0, .slice A1_1 l1_1.length c1_1] 24 (0, 0)) (by (with_reducible repeat (refine blk_drew ?_)); exact BK589.out) hb)
  have n4_ := Aside0.mk (blk_below (g := gb605) (o := .cells #[.int .i64 0, .slice none 0 0] 28 (0, 0)) (by (with_reducible repeat (refine blk_drew ?_)); exact BK605.out) hb)
  have n5_ := Aside0.mk (below_step (by repeat ((with_reducible exact HB.out))) hb)
  clear HO595
  clear BK588
  clear BK589
  clear BK605
  clear HB
  have HO595 := n0_
  have HO599 := n1_
  have BK588 := n2_
  have BK589 := n3_
  have BK605 := n4_
  have HB := n5_
  clear n0_ n1_ n2_ n3_ n4_ n5_
  (try clear hb)
  skip
  skip
  skip
  (try clear ho0)
  obtain ⟨Ao37, co37, eo37⟩ := Kd.R_slice HO595.out
  (subst eo37)
  obtain ⟨Ao38, co38, eo38⟩ := Kd.R_slice HO599.out
  (subst eo38)
  refine hK.out _ _ ⟨(blk_cell BK588.out 0).trans rfl, (blk_cell BK588.out 1).trans rfl, (blk_cell BK589.out 0).trans rfl, (blk_cell BK589.out 1).trans rfl⟩ (fun hHeld => ?_)
  clear hK K
  refine norm_ (a' := ?_) ?_ ?_
  rotate_left
  ·show Act.put _ (some 31) _ = _
   simp only [Act.put, List.setIfInBounds_toArray, List.set_cons_zero, List.set_cons_succ, i64_w, i32_w]
   rfl
  refine one_ (i := 4) (N := some 32) #[true, true, true, true, true, false, false, false, true, false, false] rfl rfl (one_of HT_.out (by kernel_rfl)) (by decide) (fun K hK => ?_)
  refine goes_ Try.func29 (by kernel_rfl) rfl #[.agg #[.int .i64 t592, .slice Ao37 t593.length co37], .agg #[.int .i64 t596, .slice Ao38 t597.length co38]] (by rfl) rfl rfl (by (try simp only [List.map_toArray, List.map_cons, List.map_nil]); rfl) ?_
  with_reducible refine (spec_UnionSpaces.calls k t592 _ _ t593 t596 _ _ t597 t600 t601 t604 _ ?side1 ?side2 ?side3 ?side4 A21.out).mono ?_
  (case side1 => repeat (exact (Kd.R_reads' HO595.out).2.2))
  (case side2 => exact (Kd.R_reads' HO595.out).2.1)
  (case side3 => repeat (exact (Kd.R_reads' HO599.out).2.2))
  (case side4 => exact (Kd.R_reads' HO599.out).2.1)
  rintro e w39 ⟨v602, rfl, ho0, hb⟩
  refine ⟨_, rfl, ?_⟩
  have n0_ := Aside0.mk (Kd.R_elder' (by (with_reducible repeat (apply Kd.R_drew)); exact HO595.out) (Kd.R_base ho0) hb)
  have n1_ := Aside0.mk (Kd.R_elder' (by (with_reducible repeat (apply Kd.R_drew)); exact HO599.out) (Kd.R_base ho0) hb)
  have n2_ := Aside0.mk (Kd.R_lower (Kd.R_new' (Kd.R_new' ho0 (Kd.R_lt (by (with_reducible repeat (apply Kd.R_drew)); exact HO595.out))) (Kd.R_lt (by (with_reducible repeat (apply Kd.R_drew)); exact HO599.out))) (below_size (by repeat ((with_reducible exact HB.out)))))
  have n3_ := Aside0.mk (blk_below (g := gb588) (o := .cells #[.int .i64 a0_0, .slice A0_1 l0_1.length c0_1] 24 (0, 0)) (by (with_reducible repeat (refine blk_drew ?_)); exact BK588.out) hb)
  have n4_ := Aside0.mk (blk_below (g := gb589) (o := .cells #[.int .i64 a1_0, .slice A1_1 l1_1.length c1_1] 24 (0, 0)) (by (with_reducible repeat (refine blk_drew ?_)); exact BK589.out) hb)
  have n5_ := Aside0.mk (blk_below (g := gb605) (o := .cells #[.int .i64 0, .slice none 0 0] 28 (0, 0)) (by (with_reducible repeat (refine blk_drew ?_)); exact BK605.out) hb)
  have n6_ := Aside0.mk (below_step (by repeat ((with_reducible exact HB.out))) hb)
  clear HO595
  clear HO599
  clear BK588
  clear BK589
  clear BK605
  clear HB
  have HO595 := n0_
  have HO599 := n1_
  have HO603 := n2_
  have BK588 := n3_
  have BK589 := n4_
  have BK605 := n5_
  have HB := n6_
  clear n0_ n1_ n2_ n3_ n4_ n5_ n6_
  (try clear hb)
  skip
  skip
  skip
  (try clear ho0)
  refine hK.out _ _ ⟨(blk_cell BK588.out 0).trans rfl, (blk_cell BK588.out 1).trans rfl, (blk_cell BK589.out 0).trans rfl, (blk_cell BK589.out 1).trans rfl⟩ (fun hHeld => ?_)
  clear hK K
  refine norm_ (a' := ?_) ?_ ?_
  rotate_left
  ·show Act.put _ (some 32) _ = _
   simp only [Act.put, List.setIfInBounds_toArray, List.set_cons_zero, List.set_cons_succ, i64_w, i32_w]
   rfl
  refine pure_ (i := 5) (N := some 27) (v := ?_) (a' := ?_) #[true, true, true, true, true, true, false, false, true, false, false] rfl rfl (any_of HT_.out (by kernel_rfl)) (fun _ _ _ h => h) (Or.inl ⟨by rfl, ?_⟩) ?_ ?_
  rotate_left
  ·intro w'
   go_simp
   with_reducible rfl
  rotate_left
  ·simp only [Act.put, List.setIfInBounds_toArray, List.set_cons_zero, List.set_cons_succ, i64_w, i32_w]
   rfl
  refine pure_ (i := 6) (N := some 33) (v := ?_) (a' := ?_) #[true, true, true, true, true, true, true, false, true, false, false] rfl rfl (any_of HT_.out (by kernel_rfl)) (fun _ _ _ h => h) (Or.inl ⟨by rfl, ?_⟩) ?_ ?_
  rotate_left
  ·intro w'
   go_simp
   with_reducible rfl
  rotate_left
  ·simp only [Act.put, List.setIfInBounds_toArray, List.set_cons_zero, List.set_cons_succ, i64_w, i32_w]
   rfl
  refine pure_ (i := 7) (N := some 34) (v := ?_) (a' := ?_) #[true, true, true, true, true, true, true, true, true, false, false] rfl rfl (any_of HT_.out (by kernel_rfl)) (fun _ _ _ h => h) (Or.inl ⟨by rfl, ?_⟩) ?_ ?_
  rotate_left
  ·intro w'
   go_simp
   with_reducible rfl
  rotate_left
  ·simp only [Act.put, List.setIfInBounds_toArray, List.set_cons_zero, List.set_cons_succ, i64_w, i32_w]
   rfl
  exact norm_ (by simp only [putAll, Act.put, List.setIfInBounds_toArray, List.set_cons_zero, List.set_cons_succ]) (hCont (.slice Ao37 t593.length co37, .slice Ao38 t597.length co38, v602, gb605) _ ⟨hHeld, (by (with_reducible repeat (apply Kd.R_drew)); exact Kd.R_mono HO595.out (fun _ hk => ⟨hk.1.2, hk.2⟩)), (by (with_reducible repeat (apply Kd.R_drew)); exact Kd.R_mono HO599.out (fun _ hk => ⟨hk.1.2, hk.2⟩)), (by (with_reducible repeat (apply Kd.R_drew)); exact Kd.R_mono HO603.out (fun _ hk => ⟨hk.1.2, hk.2⟩)), (by (with_reducible repeat (refine blk_drew ?_)); exact BK588.out), (by (with_reducible repeat (refine blk_drew ?_)); exact BK589.out), (by (with_reducible repeat (refine blk_drew ?_)); exact BK605.out), GW605.out, GE605.out, NB588_605.out, NB605_588.out, NB589_605.out, NB605_589.out, (by repeat ((with_reducible exact HB.out)))⟩)
end Go.Proofs.Ytekllaaohagefaa.P
