/- Functions of the program as plain Lean functions, each with a proof that the Go code computes it; written by a program of this session. Conditions: as each theorem states. -/
import Derived.Test.YtekllaaohagefaaCFnExactUnionSpacesP4
namespace Go.Proofs.Ytekllaaohagefaa.P
open Go.RowKit Go.Proofs.YtekllaaohagefaaW.PrintWords Go.Proofs.YtekllaaohagefaaW.PrintLast Go.Proofs.YtekllaaohagefaaW.PrintMore
attribute [local go_sem] max2_int min2_int max_two min_two max_three min_three max_four min_four   -- for this text's walks alone
set_option linter.unusedVariables false
set_option linter.unusedSimpArgs false

/-! ### laws_FnExactUnionSpaces: function 7 -/
mutual
def laws_FnExactUnionSpaces.j0 : Nat → Bool → Bool → Bool → Int → List Int → Int → List Int → Int → List Int → Int → List Int → Int → List Int → Int → List Int → Option (Bool)
 | 0, _, _, _, _, _, _, _, _, _, _, _, _, _, _, _ => none
 | k + 1, x7, x11, x53, x589000, x589001, x590000, x590001, x606000, x606001, x611000, x611001, x616000, x616001, x622000, x622001 => if x53 = true then (some false) else ((laws_toSpace.f k x589000 x589001).bind fun bt623 => ((laws_eqSpace.f k x611000 x611001 bt623.1 bt623.2).bind fun t627 => (if t627 = true then ((laws_toSpace.f k x590000 x590001).bind fun bt628 => ((laws_eqSpace.f k x616000 x616001 bt628.1 bt628.2).bind fun t632 => (if t632 = true then ((laws_markSpace.f k x611000 x611001 1).bind fun bt633 => ((laws_markSpace.f k x616000 x616001 bt633.1).bind fun bt635 => (if bt635.1 < 0 then (laws_FnExactUnionSpaces.j1 k x7 true x589000 x589001 x590000 x590001 x606000 x606001 x622000 x622001) else ((laws_eqSpace.f k x622000 x622001 x606000 x606001).bind fun t637 => (if t637 = true then (laws_FnExactUnionSpaces.j1 k x7 (x11 != x7) x589000 x589001 x590000 x590001 x606000 x606001 x622000 x622001) else (laws_FnExactUnionSpaces.j1 k x7 true x589000 x589001 x590000 x590001 x606000 x606001 x622000 x622001)))))) else (some false)))) else (some false))))
def laws_FnExactUnionSpaces.j1 : Nat → Bool → Bool → Int → List Int → Int → List Int → Int → List Int → Int → List Int → Option (Bool)
 | 0, _, _, _, _, _, _, _, _, _, _ => none
 | k + 1, x7, x82, x589000, x589001, x590000, x590001, x606000, x606001, x622000, x622001 => if x82 = true then (some false) else ((laws_markSpace.f k x622000 x622001 1).bind fun bt638 => ((laws_heldSpace.f k x622000 bt638.2 1).bind fun t640 => (if t640 < 0 then (some false) else (if t640 = bt638.1 then ((laws_toSpace.f k x589000 x589001).bind fun bt641 => ((laws_toSpace.f k x590000 x590001).bind fun bt645 => ((impl_UnionSpaces.f k bt641.1 bt641.2 bt645.1 bt645.2).bind fun bt649 => ((laws_eqSpace.f k bt649.1 bt649.2.1 x606000 x606001).bind fun t655 => (if t655 = true then (laws_FnExactUnionSpaces.j2 k bt638.1 (bt649.2.2 != x7) x622000 bt638.2) else (laws_FnExactUnionSpaces.j2 k bt638.1 true x622000 bt638.2)))))) else (some false)))))
def laws_FnExactUnionSpaces.j2 : Nat → Int → Bool → Int → List Int → Option (Bool)
 | 0, _, _, _, _ => none
 | k + 1, x13, x110, x622000, x622001 => if x110 = true then (some false) else ((laws_heldSpace.f k x622000 x622001 1).bind fun t656 => (if t656 < 0 then (some false) else (if t656 = x13 then (some true) else (some false))))
end
def laws_FnExactUnionSpaces.f (k : Nat) (a0_0 : Int) (l0_1 : List Int) (a1_0 : Int) (l1_1 : List Int) : Option (Bool) := (laws_szSpace.f a0_0 l0_1 1048576).bind fun t590 => (if t590 < 0 then (some true) else ((laws_szSpace.f a1_0 l1_1 t590).bind fun t591 => (if t591 < 0 then (some true) else ((laws_toSpace.f k a0_0 l0_1).bind fun bt592 => ((laws_toSpace.f k a1_0 l1_1).bind fun bt596 => ((spec_UnionSpaces.f k bt592.1 bt592.2 bt596.1 bt596.2).bind fun bt600 => ((laws_toSpace.f k a0_0 l0_1).bind fun bt606 => ((laws_toSpace.f k a1_0 l1_1).bind fun bt611 => ((impl_UnionSpaces.f k bt606.1 bt606.2 bt611.1 bt611.2).bind fun bt616 => ((laws_eqSpace.f k bt616.1 bt616.2.1 bt600.1 bt600.2.1).bind fun t622 => (if t622 = true then (laws_FnExactUnionSpaces.j0 k bt600.2.2 bt616.2.2 (bt616.2.2 != bt600.2.2) a0_0 l0_1 a1_0 l1_1 bt600.1 bt600.2.1 bt606.1 bt606.2 bt611.1 bt611.2 bt616.1 bt616.2.1) else (laws_FnExactUnionSpaces.j0 k bt600.2.2 bt616.2.2 true a0_0 l0_1 a1_0 l1_1 bt600.1 bt600.2.1 bt606.1 bt606.2 bt611.1 bt611.2 bt616.1 bt616.2.1))))))))))))
theorem laws_FnExactUnionSpaces.mono_l : ∀ k, (∀ y0 y1 y2 y3 y4 y5 y6 y7 y8 y9 y10 y11 y12 y13 y14, LeO (laws_FnExactUnionSpaces.j0 k y0 y1 y2 y3 y4 y5 y6 y7 y8 y9 y10 y11 y12 y13 y14) (laws_FnExactUnionSpaces.j0 (k + 1) y0 y1 y2 y3 y4 y5 y6 y7 y8 y9 y10 y11 y12 y13 y14)) ∧ (∀ y0 y1 y2 y3 y4 y5 y6 y7 y8 y9, LeO (laws_FnExactUnionSpaces.j1 k y0 y1 y2 y3 y4 y5 y6 y7 y8 y9) (laws_FnExactUnionSpaces.j1 (k + 1) y0 y1 y2 y3 y4 y5 y6 y7 y8 y9)) ∧ (∀ y0 y1 y2 y3, LeO (laws_FnExactUnionSpaces.j2 k y0 y1 y2 y3) (laws_FnExactUnionSpaces.j2 (k + 1) y0 y1 y2 y3))
 | 0 => ⟨fun _ _ _ _ _ _ _ _ _ _ _ _ _ _ _ r h => by simp [laws_FnExactUnionSpaces.j0] at h, fun _ _ _ _ _ _ _ _ _ _ r h => by simp [laws_FnExactUnionSpaces.j1] at h, fun _ _ _ _ r h => by simp [laws_FnExactUnionSpaces.j2] at h⟩
 | k + 1 => by
  obtain ⟨ih0, ih1, ih2⟩ := laws_FnExactUnionSpaces.mono_l k
  refine ⟨?_, ?_, ?_⟩
  ·intro y0 y1 y2 y3 y4 y5 y6 y7 y8 y9 y10 y11 y12 y13 y14
   unfold laws_FnExactUnionSpaces.j0
   repeat' first
   | (with_reducible exact ih1 _ _ _ _ _ _ _ _ _ _)
   | (with_reducible exact laws_eqSpace.mono _ _ _ _ _)
   | (with_reducible exact laws_markSpace.mono _ _ _ _)
   | (with_reducible exact laws_toSpace.mono _ _ _)
   | (with_reducible exact LeO.refl _)
   | (with_reducible refine LeO.ite ?_ ?_)
   | (with_reducible refine LeO.bind ?_ (fun _ => ?_))
  ·intro y0 y1 y2 y3 y4 y5 y6 y7 y8 y9
   unfold laws_FnExactUnionSpaces.j1
   repeat' first
   | (with_reducible exact ih2 _ _ _ _)
   | (with_reducible exact impl_UnionSpaces.mono _ _ _ _ _)
   | (with_reducible exact laws_eqSpace.mono _ _ _ _ _)
   | (with_reducible exact laws_heldSpace.mono _ _ _ _)
   | (with_reducible exact laws_markSpace.mono _ _ _ _)
   | (with_reducible exact laws_toSpace.mono _ _ _)
   | (with_reducible exact LeO.refl _)
   | (with_reducible refine LeO.ite ?_ ?_)
   | (with_reducible refine LeO.bind ?_ (fun _ => ?_))
  ·intro y0 y1 y2 y3
   unfold laws_FnExactUnionSpaces.j2
   repeat' first
   | (with_reducible exact laws_heldSpace.mono _ _ _ _)
   | (with_reducible exact LeO.refl _)
   | (with_reducible refine LeO.ite ?_ ?_)
   | (with_reducible refine LeO.bind ?_ (fun _ => ?_))
theorem laws_FnExactUnionSpaces.mono : ∀ a0 a1 a2 a3 k, LeO (laws_FnExactUnionSpaces.f k a0 a1 a2 a3) (laws_FnExactUnionSpaces.f (k + 1) a0 a1 a2 a3) := by
 intro a0 a1 a2 a3 k
 obtain ⟨ih0, ih1, ih2⟩ := laws_FnExactUnionSpaces.mono_l k
 unfold laws_FnExactUnionSpaces.f
 repeat' first
   | (with_reducible exact ih0 _ _ _ _ _ _ _ _ _ _ _ _ _ _ _)
   | (with_reducible exact impl_UnionSpaces.mono _ _ _ _ _)
   | (with_reducible exact laws_eqSpace.mono _ _ _ _ _)
   | (with_reducible exact laws_toSpace.mono _ _ _)
   | (with_reducible exact spec_UnionSpaces.mono _ _ _ _ _)
   | (with_reducible exact LeO.refl _)
   | (with_reducible refine LeO.ite ?_ ?_)
   | (with_reducible refine LeO.bind ?_ (fun _ => ?_))
set_option maxHeartbeats 8000000 in
set_option maxRecDepth 100000 in
theorem laws_FnExactUnionSpaces.calls (k : Nat) (a0_0 : Int) (A0_1 : Option Addr) (c0_1 : Nat) (l0_1 : List Int) (a1_0 : Int) (A1_1 : Option Addr) (c1_1 : Nat) (l1_1 : List Int) (r : Bool) (w : World) (hr0_1 : Kd.C (Kd.int .i64) w A0_1 l0_1.length l0_1) (hc0_1 : l0_1.length ≤ c0_1) (hr1_1 : Kd.C (Kd.int .i64) w A1_1 l1_1.length l1_1) (hc1_1 : l1_1.length ≤ c1_1) (h : laws_FnExactUnionSpaces.f k a0_0 l0_1 a1_0 l1_1 = some r) :
  Calls Try.prog 7 #[.agg #[.int .i64 a0_0, .slice A0_1 l0_1.length c0_1], .agg #[.int .i64 a1_0, .slice A1_1 l1_1.length c1_1]] w fun e w' => e = .returned (.bool r) ∧ Below w.heap.size w w' := by
 have hu24 := Try.underlying24
 have hu28 := Try.underlying28
 have HR0_1 := Aside0.mk hr0_1
 have HC0_1 := Aside0.mk hc0_1
 clear hr0_1 hc0_1
 have HR1_1 := Aside0.mk hr1_1
 have HC1_1 := Aside0.mk hc1_1
 clear hr1_1 hc1_1
 have HB := Aside0.mk (Below.refl w.heap.size w)
 have H : ((laws_szSpace.f a0_0 l0_1 1048576).bind fun t590 => (if t590 < 0 then (some true) else ((laws_szSpace.f a1_0 l1_1 t590).bind fun t591 => (if t591 < 0 then (some true) else ((laws_toSpace.f k a0_0 l0_1).bind fun bt592 => ((laws_toSpace.f k a1_0 l1_1).bind fun bt596 => ((spec_UnionSpaces.f k bt592.1 bt592.2 bt596.1 bt596.2).bind fun bt600 => ((laws_toSpace.f k a0_0 l0_1).bind fun bt606 => ((laws_toSpace.f k a1_0 l1_1).bind fun bt611 => ((impl_UnionSpaces.f k bt606.1 bt606.2 bt611.1 bt611.2).bind fun bt616 => ((laws_eqSpace.f k bt616.1 bt616.2.1 bt600.1 bt600.2.1).bind fun t622 => (if t622 = true then (laws_FnExactUnionSpaces.j0 k bt600.2.2 bt616.2.2 (bt616.2.2 != bt600.2.2) a0_0 l0_1 a1_0 l1_1 bt600.1 bt600.2.1 bt606.1 bt606.2 bt611.1 bt611.2 bt616.1 bt616.2.1) else (laws_FnExactUnionSpaces.j0 k bt600.2.2 bt616.2.2 true a0_0 l0_1 a1_0 l1_1 bt600.1 bt600.2.1 bt606.1 bt606.2 bt611.1 bt611.2 bt616.1 bt616.2.1))))))))))))) = some r := h
 clear h
 replace H := Option.bind_eq_some_iff.mp H
 obtain ⟨t590, A30, H⟩ := H
 replace H : (if t590 < 0 then (some true) else ((laws_szSpace.f a1_0 l1_1 t590).bind fun t591 => (if t591 < 0 then (some true) else ((laws_toSpace.f k a0_0 l0_1).bind fun bt592 => ((laws_toSpace.f k a1_0 l1_1).bind fun bt596 => ((spec_UnionSpaces.f k bt592.1 bt592.2 bt596.1 bt596.2).bind fun bt600 => ((laws_toSpace.f k a0_0 l0_1).bind fun bt606 => ((laws_toSpace.f k a1_0 l1_1).bind fun bt611 => ((impl_UnionSpaces.f k bt606.1 bt606.2 bt611.1 bt611.2).bind fun bt616 => ((laws_eqSpace.f k bt616.1 bt616.2.1 bt600.1 bt600.2.1).bind fun t622 => (if t622 = true then (laws_FnExactUnionSpaces.j0 k bt600.2.2 bt616.2.2 (bt616.2.2 != bt600.2.2) a0_0 l0_1 a1_0 l1_1 bt600.1 bt600.2.1 bt606.1 bt606.2 bt611.1 bt611.2 bt616.1 bt616.2.1) else (laws_FnExactUnionSpaces.j0 k bt600.2.2 bt616.2.2 true a0_0 l0_1 a1_0 l1_1 bt600.1 bt600.2.1 bt606.1 bt606.2 bt611.1 bt611.2 bt616.1 bt616.2.1)))))))))))) = some r := H
 have A3 := Aside0.mk A30
 clear A30
 by_cases c4 : t590 < 0
 ·rw [if_pos c4] at H
  have c4b0 : decide (t590 < 0) = true := decide_eq_true c4
  clear c4
  obtain rfl := Option.some.inj H
  go_enter Try.func7, Try.ntmps7
  go_wp2_with (first | ((with_reducible refine gate_dst (N := 2) rfl ?_); refine box_event ?hg (N := 2) ?hd (cs := #[.int .i64 a0_0, .slice A0_1 l0_1.length c0_1]) (t := 24) ?hr ?_; (case hd => rfl); (case hg => rfl); (case hr => (go_simp; done)); intro gb588 hg w5 hbox hb; have n0_ := Aside0.mk (below_step (by repeat ((with_reducible exact HB.out))) hb); have n1_ := Aside0.mk (hbox); have n2_ := Aside0.mk ((by rw [hg]; exact (below_size (by repeat ((with_reducible exact HB.out)))) : w.heap.size ≤ gb588)); have n3_ := Aside0.mk ((by rw [hg]; exact (below_size (by repeat ((with_reducible exact HB.out)))) : w.heap.size ≤ gb588)); clear HB; have HB := n0_; have BK588 := n1_; have GW588 := n2_; have GE588 := n3_; clear n0_ n1_ n2_ n3_; clear hb hbox hg) | ((with_reducible refine gate_dst (N := 3) rfl ?_); refine box_event ?hg (N := 3) ?hd (cs := #[.int .i64 a1_0, .slice A1_1 l1_1.length c1_1]) (t := 24) ?hr ?_; (case hd => rfl); (case hg => rfl); (case hr => (go_simp; done)); intro gb589 hg w6 hbox hb; have n0_ := Aside0.mk (blk_below (g := gb588) (o := .cells #[.int .i64 a0_0, .slice A0_1 l0_1.length c0_1] 24 (0, 0)) (by (with_reducible repeat (refine blk_drew ?_)); exact BK588.out) hb); have n1_ := Aside0.mk (below_step (by repeat ((with_reducible exact HB.out))) hb); have n2_ := Aside0.mk (hbox); have n3_ := Aside0.mk ((by rw [hg]; exact (below_size (by repeat ((with_reducible exact HB.out)))) : w.heap.size ≤ gb589)); have n4_ := Aside0.mk ((by rw [hg]; exact (below_size (by repeat ((with_reducible exact HB.out)))) : w.heap.size ≤ gb589)); have n5_ := Aside0.mk ((by rw [hg]; exact Nat.ne_of_lt (blk_lt (g := gb588) (o := .cells #[.int .i64 a0_0, .slice A0_1 l0_1.length c0_1] 24 (0, 0)) (by (with_reducible repeat (refine blk_drew ?_)); exact BK588.out)) : gb588 ≠ gb589)); have n6_ := Aside0.mk ((by rw [hg]; exact Nat.ne_of_gt (blk_lt (g := gb588) (o := .cells #[.int .i64 a0_0, .slice A0_1 l0_1.length c0_1] 24 (0, 0)) (by (with_reducible repeat (refine blk_drew ?_)); exact BK588.out)) : gb589 ≠ gb588)); clear BK588; clear HB; have BK588 := n0_; have HB := n1_; have BK589 := n2_; have GW589 := n3_; have GE589 := n4_; have NB588_589 := n5_; have NB589_588 := n6_; clear n0_ n1_ n2_ n3_ n4_ n5_ n6_; clear hb hbox hg; have hnb7 := NB588_589.out; have hnc7 := NB589_588.out; have hcz8_0 : w6.cell? ⟨gb588, 0, none⟩ = some (.int .i64 a0_0) := (blk_cell BK588.out 0).trans rfl; have hcz8_1 : w6.cell? ⟨gb588, 1, none⟩ = some (.slice A0_1 l0_1.length c0_1) := (blk_cell BK588.out 1).trans rfl; have hfz8_0 := blk_frozen BK588.out 0; have hfz8_1 := blk_frozen BK588.out 1) | ((with_reducible refine gate_callee (f := 10) rfl ?_); refine goesL_ (some 19) rfl rfl Try.func10 (by kernel_rfl) rfl #[.agg #[.int .i64 a0_0, .slice A0_1 l0_1.length c0_1], .int .i64 1048576] rfl (by (try simp only [List.map_toArray, List.map_cons, List.map_nil]); rfl) ?_; (with_reducible refine (laws_szSpace.calls a0_0 _ _ l0_1 1048576 t590 _ ?side1 ?side2 A3.out).mono ?_); (case side1 => repeat (exact (Kd.C_below HR0_1.out HB.out))); (case side2 => exact HC0_1.out); rintro e w9 ⟨rfl, hb⟩; refine ⟨_, rfl, ?_⟩; have n0_ := Aside0.mk (blk_below (g := gb588) (o := .cells #[.int .i64 a0_0, .slice A0_1 l0_1.length c0_1] 24 (0, 0)) (by (with_reducible repeat (refine blk_drew ?_)); exact BK588.out) hb); have n1_ := Aside0.mk (blk_below (g := gb589) (o := .cells #[.int .i64 a1_0, .slice A1_1 l1_1.length c1_1] 24 (0, 0)) (by (with_reducible repeat (refine blk_drew ?_)); exact BK589.out) hb); have n2_ := Aside0.mk (below_step (by repeat ((with_reducible exact HB.out))) hb); clear BK588; clear BK589; clear HB; have BK588 := n0_; have BK589 := n1_; have HB := n2_; clear n0_ n1_ n2_; (try clear hb); skip))
  go_ret
  exact ⟨by rfl, by repeat ((with_reducible exact HB.out))⟩
 ·rw [if_neg c4] at H
  have c4b0 : decide (t590 < 0) = false := decide_eq_false c4
  clear c4
  replace H := Option.bind_eq_some_iff.mp H
  obtain ⟨t591, A100, H⟩ := H
  replace H : (if t591 < 0 then (some true) else ((laws_toSpace.f k a0_0 l0_1).bind fun bt592 => ((laws_toSpace.f k a1_0 l1_1).bind fun bt596 => ((spec_UnionSpaces.f k bt592.1 bt592.2 bt596.1 bt596.2).bind fun bt600 => ((laws_toSpace.f k a0_0 l0_1).bind fun bt606 => ((laws_toSpace.f k a1_0 l1_1).bind fun bt611 => ((impl_UnionSpaces.f k bt606.1 bt606.2 bt611.1 bt611.2).bind fun bt616 => ((laws_eqSpace.f k bt616.1 bt616.2.1 bt600.1 bt600.2.1).bind fun t622 => (if t622 = true then (laws_FnExactUnionSpaces.j0 k bt600.2.2 bt616.2.2 (bt616.2.2 != bt600.2.2) a0_0 l0_1 a1_0 l1_1 bt600.1 bt600.2.1 bt606.1 bt606.2 bt611.1 bt611.2 bt616.1 bt616.2.1) else (laws_FnExactUnionSpaces.j0 k bt600.2.2 bt616.2.2 true a0_0 l0_1 a1_0 l1_1 bt600.1 bt600.2.1 bt606.1 bt606.2 bt611.1 bt611.2 bt616.1 bt616.2.1)))))))))) = some r := H
  have A10 := Aside0.mk A100
  clear A100
  by_cases c11 : t591 < 0
  ·rw [if_pos c11] at H
   have c11b0 : decide (t591 < 0) = true := decide_eq_true c11
   clear c11
   obtain rfl := Option.some.inj H
   go_enter Try.func7, Try.ntmps7
   go_wp2_with (first | ((with_reducible refine gate_dst (N := 2) rfl ?_); refine box_event ?hg (N := 2) ?hd (cs := #[.int .i64 a0_0, .slice A0_1 l0_1.length c0_1]) (t := 24) ?hr ?_; (case hd => rfl); (case hg => rfl); (case hr => (go_simp; done)); intro gb588 hg w12 hbox hb; have n0_ := Aside0.mk (below_step (by repeat ((with_reducible exact HB.out))) hb); have n1_ := Aside0.mk (hbox); have n2_ := Aside0.mk ((by rw [hg]; exact (below_size (by repeat ((with_reducible exact HB.out)))) : w.heap.size ≤ gb588)); have n3_ := Aside0.mk ((by rw [hg]; exact (below_size (by repeat ((with_reducible exact HB.out)))) : w.heap.size ≤ gb588)); clear HB; have HB := n0_; have BK588 := n1_; have GW588 := n2_; have GE588 := n3_; clear n0_ n1_ n2_ n3_; clear hb hbox hg) | ((with_reducible refine gate_dst (N := 3) rfl ?_); refine box_event ?hg (N := 3) ?hd (cs := #[.int .i64 a1_0, .slice A1_1 l1_1.length c1_1]) (t := 24) ?hr ?_; (case hd => rfl); (case hg => rfl); (case hr => (go_simp; done)); intro gb589 hg w13 hbox hb; have n0_ := Aside0.mk (blk_below (g := gb588) (o := .cells #[.int .i64 a0_0, .slice A0_1 l0_1.length c0_1] 24 (0, 0)) (by (with_reducible repeat (refine blk_drew ?_)); exact BK588.out) hb); have n1_ := Aside0.mk (below_step (by repeat ((with_reducible exact HB.out))) hb); have n2_ := Aside0.mk (hbox); have n3_ := Aside0.mk ((by rw [hg]; exact (below_size (by repeat ((with_reducible exact HB.out)))) : w.heap.size ≤ gb589)); have n4_ := Aside0.mk ((by rw [hg]; exact (below_size (by repeat ((with_reducible exact HB.out)))) : w.heap.size ≤ gb589)); have n5_ := Aside0.mk ((by rw [hg]; exact Nat.ne_of_lt (blk_lt (g := gb588) (o := .cells #[.int .i64 a0_0, .slice A0_1 l0_1.length c0_1] 24 (0, 0)) (by (with_reducible repeat (refine blk_drew ?_)); exact BK588.out)) : gb588 ≠ gb589)); have n6_ := Aside0.mk ((by rw [hg]; exact Nat.ne_of_gt (blk_lt (g := gb588) (o := .cells #[.int .i64 a0_0, .slice A0_1 l0_1.length c0_1] 24 (0, 0)) (by (with_reducible repeat (refine blk_drew ?_)); exact BK588.out)) : gb589 ≠ gb588)); clear BK588; clear HB; have BK588 := n0_; have HB := n1_; have BK589 := n2_; have GW589 := n3_; have GE589 := n4_; have NB588_589 := n5_; have NB589_588 := n6_; clear n0_ n1_ n2_ n3_ n4_ n5_ n6_; clear hb hbox hg; have hnb14 := NB588_589.out; have hnc14 := NB589_588.out; have hcz15_0 : w13.cell? ⟨gb588, 0, none⟩ = some (.int .i64 a0_0) := (blk_cell BK588.out 0).trans rfl; have hcz15_1 : w13.cell? ⟨gb588, 1, none⟩ = some (.slice A0_1 l0_1.length c0_1) := (blk_cell BK588.out 1).trans rfl; have hfz15_0 := blk_frozen BK588.out 0; have hfz15_1 := blk_frozen BK588.out 1) | ((with_reducible refine gate_callee (f := 10) rfl ?_); refine goesL_ (some 19) rfl rfl Try.func10 (by kernel_rfl) rfl #[.agg #[.int .i64 a0_0, .slice A0_1 l0_1.length c0_1], .int .i64 1048576] rfl (by (try simp only [List.map_toArray, List.map_cons, List.map_nil]); rfl) ?_; (with_reducible refine (laws_szSpace.calls a0_0 _ _ l0_1 1048576 t590 _ ?side1 ?side2 A3.out).mono ?_); (case side1 => repeat (exact (Kd.C_below HR0_1.out HB.out))); (case side2 => exact HC0_1.out); rintro e w16 ⟨rfl, hb⟩; refine ⟨_, rfl, ?_⟩; have n0_ := Aside0.mk (blk_below (g := gb588) (o := .cells #[.int .i64 a0_0, .slice A0_1 l0_1.length c0_1] 24 (0, 0)) (by (with_reducible repeat (refine blk_drew ?_)); exact BK588.out) hb); have n1_ := Aside0.mk (blk_below (g := gb589) (o := .cells #[.int .i64 a1_0, .slice A1_1 l1_1.length c1_1] 24 (0, 0)) (by (with_reducible repeat (refine blk_drew ?_)); exact BK589.out) hb); have n2_ := Aside0.mk (below_step (by repeat ((with_reducible exact HB.out))) hb); clear BK588; clear BK589; clear HB; have BK588 := n0_; have BK589 := n1_; have HB := n2_; clear n0_ n1_ n2_; (try clear hb); have hcz17_0 : w16.cell? ⟨gb589, 0, none⟩ = some (.int .i64 a1_0) := (blk_cell BK589.out 0).trans rfl; have hcz17_1 : w16.cell? ⟨gb589, 1, none⟩ = some (.slice A1_1 l1_1.length c1_1) := (blk_cell BK589.out 1).trans rfl; have hfz17_0 := blk_frozen BK589.out 0; have hfz17_1 := blk_frozen BK589.out 1) | ((with_reducible refine gate_callee (f := 10) rfl ?_); refine goesL_ (some 24) rfl rfl Try.func10 (by kernel_rfl) rfl #[.agg #[.int .i64 a1_0, .slice A1_1 l1_1.length c1_1], .int .i64 t590] rfl (by (try simp only [List.map_toArray, List.map_cons, List.map_nil]); rfl) ?_; (with_reducible refine (laws_szSpace.calls a1_0 _ _ l1_1 t590 t591 _ ?side1 ?side2 A10.out).mono ?_); (case side1 => repeat (exact (Kd.C_below HR1_1.out HB.out))); (case side2 => exact HC1_1.out); rintro e w18 ⟨rfl, hb⟩; refine ⟨_, rfl, ?_⟩; have n0_ := Aside0.mk (blk_below (g := gb588) (o := .cells #[.int .i64 a0_0, .slice A0_1 l0_1.length c0_1] 24 (0, 0)) (by (with_reducible repeat (refine blk_drew ?_)); exact BK588.out) hb); have n1_ := Aside0.mk (blk_below (g := gb589) (o := .cells #[.int .i64 a1_0, .slice A1_1 l1_1.length c1_1] 24 (0, 0)) (by (with_reducible repeat (refine blk_drew ?_)); exact BK589.out) hb); have n2_ := Aside0.mk (below_step (by repeat ((with_reducible exact HB.out))) hb); clear BK588; clear BK589; clear HB; have BK588 := n0_; have BK589 := n1_; have HB := n2_; clear n0_ n1_ n2_; (try clear hb); skip))
   go_ret
   exact ⟨by rfl, by repeat ((with_reducible exact HB.out))⟩
  ·rw [if_neg c11] at H
   have c11b0 : decide (t591 < 0) = false := decide_eq_false c11
   clear c11
   replace H := Option.bind_eq_some_iff.mp H
   obtain ⟨⟨t592, t593⟩, A190, H⟩ := H
   replace H : ((laws_toSpace.f k a1_0 l1_1).bind fun bt596 => ((spec_UnionSpaces.f k t592 t593 bt596.1 bt596.2).bind fun bt600 => ((laws_toSpace.f k a0_0 l0_1).bind fun bt606 => ((laws_toSpace.f k a1_0 l1_1).bind fun bt611 => ((impl_UnionSpaces.f k bt606.1 bt606.2 bt611.1 bt611.2).bind fun bt616 => ((laws_eqSpace.f k bt616.1 bt616.2.1 bt600.1 bt600.2.1).bind fun t622 => (if t622 = true then (laws_FnExactUnionSpaces.j0 k bt600.2.2 bt616.2.2 (bt616.2.2 != bt600.2.2) a0_0 l0_1 a1_0 l1_1 bt600.1 bt600.2.1 bt606.1 bt606.2 bt611.1 bt611.2 bt616.1 bt616.2.1) else (laws_FnExactUnionSpaces.j0 k bt600.2.2 bt616.2.2 true a0_0 l0_1 a1_0 l1_1 bt600.1 bt600.2.1 bt606.1 bt606.2 bt611.1 bt611.2 bt616.1 bt616.2.1)))))))) = some r := H
   have A19 := Aside0.mk A190
   clear A190
   replace H := Option.bind_eq_some_iff.mp H
   obtain ⟨⟨t596, t597⟩, A200, H⟩ := H
   replace H : ((spec_UnionSpaces.f k t592 t593 t596 t597).bind fun bt600 => ((laws_toSpace.f k a0_0 l0_1).bind fun bt606 => ((laws_toSpace.f k a1_0 l1_1).bind fun bt611 => ((impl_UnionSpaces.f k bt606.1 bt606.2 bt611.1 bt611.2).bind fun bt616 => ((laws_eqSpace.f k bt616.1 bt616.2.1 bt600.1 bt600.2.1).bind fun t622 => (if t622 = true then (laws_FnExactUnionSpaces.j0 k bt600.2.2 bt616.2.2 (bt616.2.2 != bt600.2.2) a0_0 l0_1 a1_0 l1_1 bt600.1 bt600.2.1 bt606.1 bt606.2 bt611.1 bt611.2 bt616.1 bt616.2.1) else (laws_FnExactUnionSpaces.j0 k bt600.2.2 bt616.2.2 true a0_0 l0_1 a1_0 l1_1 bt600.1 bt600.2.1 bt606.1 bt606.2 bt611.1 bt611.2 bt616.1 bt616.2.1))))))) = some r := H
   have A20 := Aside0.mk A200
   clear A200
   replace H := Option.bind_eq_some_iff.mp H
   obtain ⟨⟨t600, t601, t604⟩, A210, H⟩ := H
   replace H : ((laws_toSpace.f k a0_0 l0_1).bind fun bt606 => ((laws_toSpace.f k a1_0 l1_1).bind fun bt611 => ((impl_UnionSpaces.f k bt606.1 bt606.2 bt611.1 bt611.2).bind fun bt616 => ((laws_eqSpace.f k bt616.1 bt616.2.1 t600 t601).bind fun t622 => (if t622 = true then (laws_FnExactUnionSpaces.j0 k t604 bt616.2.2 (bt616.2.2 != t604) a0_0 l0_1 a1_0 l1_1 t600 t601 bt606.1 bt606.2 bt611.1 bt611.2 bt616.1 bt616.2.1) else (laws_FnExactUnionSpaces.j0 k t604 bt616.2.2 true a0_0 l0_1 a1_0 l1_1 t600 t601 bt606.1 bt606.2 bt611.1 bt611.2 bt616.1 bt616.2.1)))))) = some r := H
   have A21 := Aside0.mk A210
   clear A210
   replace H := Option.bind_eq_some_iff.mp H
   obtain ⟨⟨t606, t607⟩, A220, H⟩ := H
   replace H : ((laws_toSpace.f k a1_0 l1_1).bind fun bt611 => ((impl_UnionSpaces.f k t606 t607 bt611.1 bt611.2).bind fun bt616 => ((laws_eqSpace.f k bt616.1 bt616.2.1 t600 t601).bind fun t622 => (if t622 = true then (laws_FnExactUnionSpaces.j0 k t604 bt616.2.2 (bt616.2.2 != t604) a0_0 l0_1 a1_0 l1_1 t600 t601 t606 t607 bt611.1 bt611.2 bt616.1 bt616.2.1) else (laws_FnExactUnionSpaces.j0 k t604 bt616.2.2 true a0_0 l0_1 a1_0 l1_1 t600 t601 t606 t607 bt611.1 bt611.2 bt616.1 bt616.2.1))))) = some r := H
   have A22 := Aside0.mk A220
   clear A220
   replace H := Option.bind_eq_some_iff.mp H
   obtain ⟨⟨t611, t612⟩, A230, H⟩ := H
   replace H : ((impl_UnionSpaces.f k t606 t607 t611 t612).bind fun bt616 => ((laws_eqSpace.f k bt616.1 bt616.2.1 t600 t601).bind fun t622 => (if t622 = true then (laws_FnExactUnionSpaces.j0 k t604 bt616.2.2 (bt616.2.2 != t604) a0_0 l0_1 a1_0 l1_1 t600 t601 t606 t607 t611 t612 bt616.1 bt616.2.1) else (laws_FnExactUnionSpaces.j0 k t604 bt616.2.2 true a0_0 l0_1 a1_0 l1_1 t600 t601 t606 t607 t611 t612 bt616.1 bt616.2.1)))) = some r := H
   have A23 := Aside0.mk A230
   clear A230
   replace H := Option.bind_eq_some_iff.mp H
   obtain ⟨⟨t616, t617, t620⟩, A240, H⟩ := H
   replace H : ((laws_eqSpace.f k t616 t617 t600 t601).bind fun t622 => (if t622 = true then (laws_FnExactUnionSpaces.j0 k t604 t620 (t620 != t604) a0_0 l0_1 a1_0 l1_1 t600 t601 t606 t607 t611 t612 t616 t617) else (laws_FnExactUnionSpaces.j0 k t604 t620 true a0_0 l0_1 a1_0 l1_1 t600 t601 t606 t607 t611 t612 t616 t617))) = some r := H
   have A24 := Aside0.mk A240
   clear A240
   have HC25 := Aside0.mk H
   clear H
   go_enter Try.func7, Try.ntmps7
   try go_wp2_with (first | ((with_reducible refine gate_dst (N := 2) rfl ?_); refine box_event ?hg (N := 2) ?hd (cs := #[.int .i64 a0_0, .slice A0_1 l0_1.length c0_1]) (t := 24) ?hr ?_; (case hd => rfl); (case hg => rfl); (case hr => (go_simp; done)); intro gb588 hg w26 hbox hb; have n0_ := Aside0.mk (below_step (by repeat ((with_reducible exact HB.out))) hb); have n1_ := Aside0.mk (hbox); have n2_ := Aside0.mk ((by rw [hg]; exact (below_size (by repeat ((with_reducible exact HB.out)))) : w.heap.size ≤ gb588)); have n3_ := Aside0.mk ((by rw [hg]; exact (below_size (by repeat ((with_reducible exact HB.out)))) : w.heap.size ≤ gb588)); clear HB; have HB := n0_; have BK588 := n1_; have GW588 := n2_; have GE588 := n3_; clear n0_ n1_ n2_ n3_; clear hb hbox hg) | ((with_reducible refine gate_dst (N := 3) rfl ?_); refine box_event ?hg (N := 3) ?hd (cs := #[.int .i64 a1_0, .slice A1_1 l1_1.length c1_1]) (t := 24) ?hr ?_; (case hd => rfl); (case hg => rfl); (case hr => (go_simp; done)); intro gb589 hg w27 hbox hb; have n0_ := Aside0.mk (blk_below (g := gb588) (o := .cells #[.int .i64 a0_0, .slice A0_1 l0_1.length c0_1] 24 (0, 0)) (by (with_reducible repeat (refine blk_drew ?_)); exact BK588.out) hb); have n1_ := Aside0.mk (below_step (by repeat ((with_reducible exact HB.out))) hb); have n2_ := Aside0.mk (hbox); have n3_ := Aside0.mk ((by rw [hg]; exact (below_size (by repeat ((with_reducible exact HB.out)))) : w.heap.size ≤ gb589)); have n4_ := Aside0.mk ((by rw [hg]; exact (below_size (by repeat ((with_reducible exact HB.out)))) : w.heap.size ≤ gb589)); have n5_ := Aside0.mk ((by rw [hg]; exact Nat.ne_of_lt (blk_lt (g := gb588) (o := .cells #[.int .i64 a0_0, .slice A0_1 l0_1.length c0_1] 24 (0, 0)) (by (with_reducible repeat (refine blk_drew ?_)); exact BK588.out)) : gb588 ≠ gb589)); have n6_ := Aside0.mk ((by rw [hg]; exact Nat.ne_of_gt (blk_lt (g := gb588) (o := .cells #[.int .i64 a0_0, .slice A0_1 l0_1.length c0_1] 24 (0, 0)) (by (with_reducible repeat (refine blk_drew ?_)); exact BK588.out)) : gb589 ≠ gb588)); clear BK588; clear HB; have BK588 := n0_; have HB := n1_; have BK589 := n2_; have GW589 := n3_; have GE589 := n4_; have NB588_589 := n5_; have NB589_588 := n6_; clear n0_ n1_ n2_ n3_ n4_ n5_ n6_; clear hb hbox hg; have hnb28 := NB588_589.out; have hnc28 := NB589_588.out; have hcz29_0 : w27.cell? ⟨gb588, 0, none⟩ = some (.int .i64 a0_0) := (blk_cell BK588.out 0).trans rfl; have hcz29_1 : w27.cell? ⟨gb588, 1, none⟩ = some (.slice A0_1 l0_1.length c0_1) := (blk_cell BK588.out 1).trans rfl; have hfz29_0 := blk_frozen BK588.out 0; have hfz29_1 := blk_frozen BK588.out 1) | ((with_reducible refine gate_callee (f := 10) rfl ?_); refine goesL_ (some 19) rfl rfl Try.func10 (by kernel_rfl) rfl #[.agg #[.int .i64 a0_0, .slice A0_1 l0_1.length c0_1], .int .i64 1048576] rfl (by (try simp only [List.map_toArray, List.map_cons, List.map_nil]); rfl) ?_; (with_reducible refine (laws_szSpace.calls a0_0 _ _ l0_1 1048576 t590 _ ?side1 ?side2 A3.out).mono ?_); (case side1 => repeat (exact (Kd.C_below HR0_1.out HB.out))); (case side2 => exact HC0_1.out); rintro e w30 ⟨rfl, hb⟩; refine ⟨_, rfl, ?_⟩; have n0_ := Aside0.mk (blk_below (g := gb588) (o := .cells #[.int .i64 a0_0, .slice A0_1 l0_1.length c0_1] 24 (0, 0)) (by (with_reducible repeat (refine blk_drew ?_)); exact BK588.out) hb); have n1_ := Aside0.mk (blk_below (g := gb589) (o := .cells #[.int .i64 a1_0, .slice A1_1 l1_1.length c1_1] 24 (0, 0)) (by (with_reducible repeat (refine blk_drew ?_)); exact BK589.out) hb); have n2_ := Aside0.mk (below_step (by repeat ((with_reducible exact HB.out))) hb); clear BK588; clear BK589; clear HB; have BK588 := n0_; have BK589 := n1_; have HB := n2_; clear n0_ n1_ n2_; (try clear hb); have hcz31_0 : w30.cell? ⟨gb589, 0, none⟩ = some (.int .i64 a1_0) := (blk_cell BK589.out 0).trans rfl; have hcz31_1 : w30.cell? ⟨gb589, 1, none⟩ = some (.slice A1_1 l1_1.length c1_1) := (blk_cell BK589.out 1).trans rfl; have hfz31_0 := blk_frozen BK589.out 0; have hfz31_1 := blk_frozen BK589.out 1) | ((with_reducible refine gate_callee (f := 10) rfl ?_); refine goesL_ (some 24) rfl rfl Try.func10 (by kernel_rfl) rfl #[.agg #[.int .i64 a1_0, .slice A1_1 l1_1.length c1_1], .int .i64 t590] rfl (by (try simp only [List.map_toArray, List.map_cons, List.map_nil]); rfl) ?_; (with_reducible refine (laws_szSpace.calls a1_0 _ _ l1_1 t590 t591 _ ?side1 ?side2 A10.out).mono ?_); (case side1 => repeat (exact (Kd.C_below HR1_1.out HB.out))); (case side2 => exact HC1_1.out); rintro e w32 ⟨rfl, hb⟩; refine ⟨_, rfl, ?_⟩; have n0_ := Aside0.mk (blk_below (g := gb588) (o := .cells #[.int .i64 a0_0, .slice A0_1 l0_1.length c0_1] 24 (0, 0)) (by (with_reducible repeat (refine blk_drew ?_)); exact BK588.out) hb); have n1_ := Aside0.mk (blk_below (g := gb589) (o := .cells #[.int .i64 a1_0, .slice A1_1 l1_1.length c1_1] 24 (0, 0)) (by (with_reducible repeat (refine blk_drew ?_)); exact BK589.out) hb); have n2_ := Aside0.mk (below_step (by repeat ((with_reducible exact HB.out))) hb); clear BK588; clear BK589; clear HB; have BK588 := n0_; have BK589 := n1_; have HB := n2_; clear n0_ n1_ n2_; (try clear hb); skip))
   have n0_ := Aside0.mk (blk_drew BK588.out)
   have n1_ := Aside0.mk (blk_drew BK589.out)
   have n2_ := Aside0.mk (below_drew1 HB.out)
   clear BK588
   clear BK589
   clear HB
   have BK588 := n0_
   have BK589 := n1_
   have HB := n2_
   clear n0_ n1_ n2_
   refine start_ (n := 11) (S := fun w' => w'.cell? ⟨gb588, 0, none⟩ = some (.int .i64 a0_0) ∧ w'.cell? ⟨gb588, 1, none⟩ = some (.slice A0_1 l0_1.length c0_1) ∧ w'.cell? ⟨gb589, 0, none⟩ = some (.int .i64 a1_0) ∧ w'.cell? ⟨gb589, 1, none⟩ = some (.slice A1_1 l1_1.length c1_1)) (ds := []) #[false, false, false, false, false, false, false, false, false, false, false] (by kernel_rfl) rfl rfl ⟨(blk_cell BK588.out 0).trans rfl, (blk_cell BK588.out 1).trans rfl, (blk_cell BK589.out 0).trans rfl, (blk_cell BK589.out 1).trans rfl⟩ (fun hHeld => ?_); refine with_tabW laws_FnExactUnionSpaces.tab8 laws_FnExactUnionSpaces.bits8 (fun HT_ HW_ => ?_)
   generalize w32.drew = w33 at BK588 BK589 HB hHeld ⊢
   refine take_ (i := 0) (N := some 28) (v := ?_) (a' := ?_) #[true, false, false, false, false, false, false, false, false, false, false] rfl rfl (take_ofW HT_.out HW_.out (by kernel_rfl)) (fun _ _ _ h => h) (Or.inl ⟨by rfl, ?_⟩) hHeld ?_ ?_
   rotate_left
   ·rintro w' ⟨s0, s1, s2, s3⟩
    go_simp
    with_reducible rfl
   rotate_left
   ·simp only [Act.put, List.setIfInBounds_toArray, List.set_cons_zero, List.set_cons_succ, i64_w, i32_w]
    rfl
   refine take_ (i := 2) (N := some 30) (v := ?_) (a' := ?_) #[true, false, true, false, false, false, false, false, false, false, false] rfl rfl (take_ofW HT_.out HW_.out (by kernel_rfl)) (fun _ _ _ h => h) (Or.inl ⟨by rfl, ?_⟩) hHeld ?_ ?_
   rotate_left
   ·rintro w' ⟨s0, s1, s2, s3⟩
    go_simp
    with_reducible rfl
   rotate_left
   ·simp only [Act.put, List.setIfInBounds_toArray, List.set_cons_zero, List.set_cons_succ, i64_w, i32_w]
    rfl
   refine join_ (σ := Value × Value × Value × Nat) 2 #[true, true, true, true, true, true, true, true, true, false, false] (fun s_ => [(29, .agg #[.int .i64 t592, s_.1]), (31, .agg #[.int .i64 t596, s_.2.1]), (32, .tuple #[.agg #[.int .i64 t600, s_.2.2.1], .bool t604]), (6, .pointer (some ⟨s_.2.2.2, 0, none⟩)), (27, .tuple #[.agg #[.int .i64 t600, s_.2.2.1], .bool t604]), (33, .agg #[.int .i64 t600, s_.2.2.1]), (34, .bool t604)]) (fun s_ w' => (w'.cell? ⟨gb588, 0, none⟩ = some (.int .i64 a0_0) ∧ w'.cell? ⟨gb588, 1, none⟩ = some (.slice A0_1 l0_1.length c0_1) ∧ w'.cell? ⟨gb589, 0, none⟩ = some (.int .i64 a1_0) ∧ w'.cell? ⟨gb589, 1, none⟩ = some (.slice A1_1 l1_1.length c1_1)) ∧ (Kd.R (Kd.int .i64) 3 w' w.heap.size (fun k_ => some k_ ≠ (s_.2.1 : Value).ownBlock ∧ some k_ ≠ (s_.2.2.1 : Value).ownBlock) s_.1 t593) ∧ (Kd.R (Kd.int .i64) 3 w' w.heap.size (fun k_ => some k_ ≠ (s_.1 : Value).ownBlock ∧ some k_ ≠ (s_.2.2.1 : Value).ownBlock) s_.2.1 t597) ∧ (Kd.R (Kd.int .i64) 3 w' w.heap.size (fun k_ => some k_ ≠ (s_.1 : Value).ownBlock ∧ some k_ ≠ (s_.2.1 : Value).ownBlock) s_.2.2.1 t601) ∧ (w'.heap[gb588]? = some (.cells #[.int .i64 a0_0, .slice A0_1 l0_1.length c0_1] 24 (0, 0))) ∧ (w'.heap[gb589]? = some (.cells #[.int .i64 a1_0, .slice A1_1 l1_1.length c1_1] 24 (0, 0))) ∧ (w'.heap[s_.2.2.2]? = some (.cells #[.int .i64 0, .slice none 0 0] 28 (0, 0))) ∧ (w.heap.size ≤ s_.2.2.2) ∧ (w.heap.size ≤ s_.2.2.2) ∧ (gb588 ≠ s_.2.2.2) ∧ (s_.2.2.2 ≠ gb588) ∧ (gb589 ≠ s_.2.2.2) ∧ (s_.2.2.2 ≠ gb589) ∧ (Below w.heap.size w w')) ?_ ?_
   rotate_left
   ·exact laws_FnExactUnionSpaces.r8 k a0_0 A0_1 c0_1 l0_1 a1_0 A1_1 c1_1 l1_1 w HR0_1 HC0_1 HR1_1 HC1_1 t590 t591 t592 t593 A19 t596 t597 A20 t600 t601 t604 A21 gb588 GE588 gb589 GE589 HT_ w33 BK588 BK589 HB hHeld _ _
   rintro ⟨v594, v598, v602, gb605⟩ w40 ⟨hS_, h0_, h1_, h2_, h3_, h4_, h5_, h6_, h7_, h8_, h9_, h10_, h11_, h12_⟩
   have n0_ : Aside0 (Kd.R (Kd.int .i64) 3 w40 w.heap.size (fun k_ => some k_ ≠ (v598 : Value).ownBlock ∧ some k_ ≠ (v602 : Value).ownBlock) v594 t593) := ⟨h0_⟩
   have n1_ : Aside0 (Kd.R (Kd.int .i64) 3 w40 w.heap.size (fun k_ => some k_ ≠ (v594 : Value).ownBlock ∧ some k_ ≠ (v602 : Value).ownBlock) v598 t597) := ⟨h1_⟩
   have n2_ : Aside0 (Kd.R (Kd.int .i64) 3 w40 w.heap.size (fun k_ => some k_ ≠ (v594 : Value).ownBlock ∧ some k_ ≠ (v598 : Value).ownBlock) v602 t601) := ⟨h2_⟩
   have n3_ : Aside0 (w40.heap[gb588]? = some (.cells #[.int .i64 a0_0, .slice A0_1 l0_1.length c0_1] 24 (0, 0))) := ⟨h3_⟩
   have n4_ : Aside0 (w40.heap[gb589]? = some (.cells #[.int .i64 a1_0, .slice A1_1 l1_1.length c1_1] 24 (0, 0))) := ⟨h4_⟩
   have n5_ : Aside0 (w40.heap[gb605]? = some (.cells #[.int .i64 0, .slice none 0 0] 28 (0, 0))) := ⟨h5_⟩
   have n6_ : Aside0 (w.heap.size ≤ gb605) := ⟨h6_⟩
   have n7_ : Aside0 (w.heap.size ≤ gb605) := ⟨h7_⟩
   have n8_ : Aside0 (gb588 ≠ gb605) := ⟨h8_⟩
   have n9_ : Aside0 (gb605 ≠ gb588) := ⟨h9_⟩
   have n10_ : Aside0 (gb589 ≠ gb605) := ⟨h10_⟩
   have n11_ : Aside0 (gb605 ≠ gb589) := ⟨h11_⟩
   have n12_ : Aside0 (Below w.heap.size w w40) := ⟨h12_⟩
   clear BK588
   clear BK589
   clear HB
   clear h0_ h1_ h2_ h3_ h4_ h5_ h6_ h7_ h8_ h9_ h10_ h11_ h12_
   have HO595 := n0_
   have HO599 := n1_
   have HO603 := n2_
   have BK588 := n3_
   have BK589 := n4_
   have BK605 := n5_
   have GW605 := n6_
   have GE605 := n7_
   have NB588_605 := n8_
   have NB605_588 := n9_
   have NB589_605 := n10_
   have NB605_589 := n11_
   have HB := n12_
   clear n0_ n1_ n2_ n3_ n4_ n5_ n6_ n7_ n8_ n9_ n10_ n11_ n12_
   have hHeld : w40.cell? ⟨gb588, 0, none⟩ = some (.int .i64 a0_0) ∧ w40.cell? ⟨gb588, 1, none⟩ = some (.slice A0_1 l0_1.length c0_1) ∧ w40.cell? ⟨gb589, 0, none⟩ = some (.int .i64 a1_0) ∧ w40.cell? ⟨gb589, 1, none⟩ = some (.slice A1_1 l1_1.length c1_1) := hS_
   obtain ⟨Ao42, co42, eo42⟩ := Kd.R_slice HO603.out
   (subst eo42)
   refine norm_ (a' := ?_) ?_ ?_
   rotate_left
   ·simp only [putAll, Act.put, List.setIfInBounds_toArray, List.set_cons_zero, List.set_cons_succ]
    rfl
   refine one_ (i := 9) (N := none) #[true, true, true, true, true, true, true, true, true, true, false] rfl rfl (one_of HT_.out (by kernel_rfl)) (by decide) (fun K hK => ?_)
   have hs41 : w40.cell? ⟨gb605, 0, none⟩ = some (.int .i64 0) := (blk_cell BK605.out 0).trans rfl
   have hfs41 := blk_frozen BK605.out 0
   have hns41_0 := NB588_605.out
   have hns41_1 := NB589_605.out
   have hms41_0 := NB605_588.out
   have hms41_1 := NB605_589.out
   have hs43 : w40.cell? ⟨gb605, 1, none⟩ = some (.slice none 0 0) := (blk_cell BK605.out 1).trans rfl
   have hfs43 := blk_frozen BK605.out 1
   have hns43_0 := NB588_605.out
   have hns43_1 := NB589_605.out
   have hms43_0 := NB605_588.out
   have hms43_1 := NB605_589.out
   refine skip_ (w1 := ?_) (by rfl) rfl ?_ ?_
   rotate_left
   ·go_simp
    rfl
   refine hK.out _ _ ⟨((cell_far (p := ⟨gb605, _, none⟩) NB588_605.out _).trans (((cell_far (p := ⟨gb605, _, none⟩) NB588_605.out _).trans (hHeld.1)))), ((cell_far (p := ⟨gb605, _, none⟩) NB588_605.out _).trans (((cell_far (p := ⟨gb605, _, none⟩) NB588_605.out _).trans (hHeld.2.1)))), ((cell_far (p := ⟨gb605, _, none⟩) NB589_605.out _).trans (((cell_far (p := ⟨gb605, _, none⟩) NB589_605.out _).trans (hHeld.2.2.1)))), ((cell_far (p := ⟨gb605, _, none⟩) NB589_605.out _).trans (((cell_far (p := ⟨gb605, _, none⟩) NB589_605.out _).trans (hHeld.2.2.2))))⟩ (fun hHeld => ?_)
   clear hK K
   refine pure_ (i := 10) (N := some 7) (v := ?_) (a' := ?_) #[true, true, true, true, true, true, true, true, true, true, true] rfl rfl (any_of HT_.out (by kernel_rfl)) (fun _ _ _ h => h) (Or.inl ⟨by rfl, ?_⟩) ?_ ?_
   rotate_left
   ·intro w'
    go_simp
    with_reducible rfl
   rotate_left
   ·simp only [Act.put, List.setIfInBounds_toArray, List.set_cons_zero, List.set_cons_succ, i64_w, i32_w]
    rfl
   refine done_ (done_of HT_.out (by kernel_rfl)) ?_
   have n0_ : Aside0 (Kd.R (Kd.int .i64) 3 ((w40.setCell ⟨gb605, 0, none⟩ (.int .i64 t600)).setCell ⟨gb605, 1, none⟩ (.slice Ao42 t601.length co42)) w.heap.size (fun k_ => some k_ ≠ (v598 : Value).ownBlock ∧ some k_ ≠ (.slice Ao42 t601.length co42 : Value).ownBlock) v594 t593) := ⟨by (with_reducible repeat (apply Kd.R_drew)); exact Kd.R_mono (Kd.R_far (p := ⟨gb605, 1, none⟩) (Kd.R_far (p := ⟨gb605, 0, none⟩) (Kd.R_types HO595.out BK605.out (by decide)) (fun _ hk => hk.2) (.int .i64 t600)) (fun _ hk => hk.2) (.slice Ao42 t601.length co42)) (fun _ hk => ⟨hk.1.1, hk.1.2⟩)⟩
   have n1_ : Aside0 (Kd.R (Kd.int .i64) 3 ((w40.setCell ⟨gb605, 0, none⟩ (.int .i64 t600)).setCell ⟨gb605, 1, none⟩ (.slice Ao42 t601.length co42)) w.heap.size (fun k_ => some k_ ≠ (v594 : Value).ownBlock ∧ some k_ ≠ (.slice Ao42 t601.length co42 : Value).ownBlock) v598 t597) := ⟨by (with_reducible repeat (apply Kd.R_drew)); exact Kd.R_mono (Kd.R_far (p := ⟨gb605, 1, none⟩) (Kd.R_far (p := ⟨gb605, 0, none⟩) (Kd.R_types HO599.out BK605.out (by decide)) (fun _ hk => hk.2) (.int .i64 t600)) (fun _ hk => hk.2) (.slice Ao42 t601.length co42)) (fun _ hk => ⟨hk.1.1, hk.1.2⟩)⟩
   have n2_ : Aside0 (Kd.R (Kd.int .i64) 3 ((w40.setCell ⟨gb605, 0, none⟩ (.int .i64 t600)).setCell ⟨gb605, 1, none⟩ (.slice Ao42 t601.length co42)) w.heap.size (fun k_ => some k_ ≠ (v594 : Value).ownBlock ∧ some k_ ≠ (v598 : Value).ownBlock) (.slice Ao42 t601.length co42) t601) := ⟨by (with_reducible repeat (apply Kd.R_drew)); exact Kd.R_mono (Kd.R_far (p := ⟨gb605, 1, none⟩) (Kd.R_far (p := ⟨gb605, 0, none⟩) (Kd.R_types HO603.out BK605.out (by decide)) (fun _ hk => hk.2) (.int .i64 t600)) (fun _ hk => hk.2) (.slice Ao42 t601.length co42)) (fun _ hk => ⟨hk.1.1, hk.1.2⟩)⟩
   have n3_ : Aside0 (((w40.setCell ⟨gb605, 0, none⟩ (.int .i64 t600)).setCell ⟨gb605, 1, none⟩ (.slice Ao42 t601.length co42)).heap[gb588]? = some (.cells #[.int .i64 a0_0, .slice A0_1 l0_1.length c0_1] 24 (0, 0))) := ⟨by (with_reducible repeat (refine blk_drew ?_)); refine blk_far ?_ NB588_605.out _; (with_reducible repeat (refine blk_drew ?_)); refine blk_far ?_ NB588_605.out _; (with_reducible repeat (refine blk_drew ?_)); exact BK588.out⟩
   have n4_ : Aside0 (((w40.setCell ⟨gb605, 0, none⟩ (.int .i64 t600)).setCell ⟨gb605, 1, none⟩ (.slice Ao42 t601.length co42)).heap[gb589]? = some (.cells #[.int .i64 a1_0, .slice A1_1 l1_1.length c1_1] 24 (0, 0))) := ⟨by (with_reducible repeat (refine blk_drew ?_)); refine blk_far ?_ NB589_605.out _; (with_reducible repeat (refine blk_drew ?_)); refine blk_far ?_ NB589_605.out _; (with_reducible repeat (refine blk_drew ?_)); exact BK589.out⟩
   have n5_ : Aside0 (((w40.setCell ⟨gb605, 0, none⟩ (.int .i64 t600)).setCell ⟨gb605, 1, none⟩ (.slice Ao42 t601.length co42)).heap[gb605]? = some (.cells #[.int .i64 t600, .slice Ao42 t601.length co42] 28 (0, 0))) := ⟨by (with_reducible repeat (refine blk_drew ?_)); refine blk_put (cs := #[.int .i64 t600, .slice none 0 0]) ?_ 1 _ rfl; (with_reducible repeat (refine blk_drew ?_)); refine blk_put (cs := #[.int .i64 0, .slice none 0 0]) ?_ 0 _ rfl; (with_reducible repeat (refine blk_drew ?_)); exact BK605.out⟩
   have n6_ : Aside0 (Below w.heap.size w ((w40.setCell ⟨gb605, 0, none⟩ (.int .i64 t600)).setCell ⟨gb605, 1, none⟩ (.slice Ao42 t601.length co42))) := ⟨by repeat ((with_reducible first | exact HB.out | refine below_set ?_ GE605.out))⟩
   (try clear HO595)
   (try clear HO599)
   (try clear HO603)
   (try clear BK588)
   (try clear BK589)
   (try clear BK605)
   (try clear HB)
   generalize ((w40.setCell ⟨gb605, 0, none⟩ (.int .i64 t600)).setCell ⟨gb605, 1, none⟩ (.slice Ao42 t601.length co42)) = w44 at n0_ n1_ n2_ n3_ n4_ n5_ n6_ ⊢
   have HO595 := n0_
   have HO599 := n1_
   have HO603 := n2_
   have BK588 := n3_
   have BK589 := n4_
   have BK605 := n5_
   have HB := n6_
   clear n0_ n1_ n2_ n3_ n4_ n5_ n6_
   have hnb45 := NB588_605.out
   have hnc45 := NB605_588.out
   have hcz46_0 : w44.cell? ⟨gb588, 0, none⟩ = some (.int .i64 a0_0) := (blk_cell BK588.out 0).trans rfl
   have hcz46_1 : w44.cell? ⟨gb588, 1, none⟩ = some (.slice A0_1 l0_1.length c0_1) := (blk_cell BK588.out 1).trans rfl
   have hfz46_0 := blk_frozen BK588.out 0
   have hfz46_1 := blk_frozen BK588.out 1
   go_upto_region 12 with (first | ((with_reducible refine gate_callee (f := 12) rfl ?_); refine goesL_ (some 36) rfl rfl Try.func12 (by kernel_rfl) rfl #[.agg #[.int .i64 a0_0, .slice A0_1 l0_1.length c0_1]] rfl (by (try simp only [List.map_toArray, List.map_cons, List.map_nil]); rfl) ?_; (with_reducible refine (laws_toSpace.calls k a0_0 _ _ l0_1 t606 t607 _ ?side1 ?side2 A22.out).mono ?_); (case side1 => repeat (exact (Kd.C_below HR0_1.out HB.out))); (case side2 => exact HC0_1.out); rintro e w47 ⟨v608, rfl, ho0, hb⟩; refine ⟨_, rfl, ?_⟩; have n0_ := Aside0.mk (Kd.R_elder' (by (with_reducible repeat (apply Kd.R_drew)); exact HO595.out) (Kd.R_base ho0) hb); have n1_ := Aside0.mk (Kd.R_elder' (by (with_reducible repeat (apply Kd.R_drew)); exact HO599.out) (Kd.R_base ho0) hb); have n2_ := Aside0.mk (Kd.R_elder' (by (with_reducible repeat (apply Kd.R_drew)); exact HO603.out) (Kd.R_base ho0) hb); have n3_ := Aside0.mk (Kd.R_lower (Kd.R_new' (Kd.R_new' (Kd.R_new' ho0 (Kd.R_lt (by (with_reducible repeat (apply Kd.R_drew)); exact HO595.out))) (Kd.R_lt (by (with_reducible repeat (apply Kd.R_drew)); exact HO599.out))) (Kd.R_lt (by (with_reducible repeat (apply Kd.R_drew)); exact HO603.out))) (below_size (by repeat ((with_reducible exact HB.out))))); have n4_ := Aside0.mk (blk_below (g := gb588) (o := .cells #[.int .i64 a0_0, .slice A0_1 l0_1.length c0_1] 24 (0, 0)) (by (with_reducible repeat (refine blk_drew ?_)); exact BK588.out) hb); have n5_ := Aside0.mk (blk_below (g := gb589) (o := .cells #[.int .i64 a1_0, .slice A1_1 l1_1.length c1_1] 24 (0, 0)) (by (with_reducible repeat (refine blk_drew ?_)); exact BK589.out) hb); have n6_ := Aside0.mk (blk_below (g := gb605) (o := .cells #[.int .i64 t600, .slice Ao42 t601.length co42] 28 (0, 0)) (by (with_reducible repeat (refine blk_drew ?_)); exact BK605.out) hb); have n7_ := Aside0.mk (below_step (by repeat ((with_reducible exact HB.out))) hb); clear HO595; clear HO599; clear HO603; clear BK588; clear BK589; clear BK605; clear HB; have HO595 := n0_; have HO599 := n1_; have HO603 := n2_; have HO609 := n3_; have BK588 := n4_; have BK589 := n5_; have BK605 := n6_; have HB := n7_; clear n0_ n1_ n2_ n3_ n4_ n5_ n6_ n7_; (try clear hb); (try clear ho0)) | ((with_reducible refine gate_dst (N := 8) rfl ?_); refine box_event ?hg (N := 8) ?hd (cs := #[.int .i64 0, .slice none 0 0]) (t := 28) ?hr ?_; (case hd => rfl); (case hg => rfl); (case hr => (go_simp; done)); intro gb610 hg w48 hbox hb; have n0_ := Aside0.mk (Kd.R_below (by (with_reducible repeat (apply Kd.R_drew)); exact HO595.out) hb); have n1_ := Aside0.mk (Kd.R_below (by (with_reducible repeat (apply Kd.R_drew)); exact HO599.out) hb); have n2_ := Aside0.mk (Kd.R_below (by (with_reducible repeat (apply Kd.R_drew)); exact HO603.out) hb); have n3_ := Aside0.mk (Kd.R_below (by (with_reducible repeat (apply Kd.R_drew)); exact HO609.out) hb); have n4_ := Aside0.mk (blk_below (g := gb588) (o := .cells #[.int .i64 a0_0, .slice A0_1 l0_1.length c0_1] 24 (0, 0)) (by (with_reducible repeat (refine blk_drew ?_)); exact BK588.out) hb); have n5_ := Aside0.mk (blk_below (g := gb589) (o := .cells #[.int .i64 a1_0, .slice A1_1 l1_1.length c1_1] 24 (0, 0)) (by (with_reducible repeat (refine blk_drew ?_)); exact BK589.out) hb); have n6_ := Aside0.mk (blk_below (g := gb605) (o := .cells #[.int .i64 t600, .slice Ao42 t601.length co42] 28 (0, 0)) (by (with_reducible repeat (refine blk_drew ?_)); exact BK605.out) hb); have n7_ := Aside0.mk (below_step (by repeat ((with_reducible exact HB.out))) hb); have n8_ := Aside0.mk (hbox); have n9_ := Aside0.mk ((by rw [hg]; exact (below_size (by repeat ((with_reducible exact HB.out)))) : w.heap.size ≤ gb610)); have n10_ := Aside0.mk ((by rw [hg]; exact (below_size (by repeat ((with_reducible exact HB.out)))) : w.heap.size ≤ gb610)); have n11_ := Aside0.mk ((by rw [hg]; exact Nat.ne_of_lt (blk_lt (g := gb588) (o := .cells #[.int .i64 a0_0, .slice A0_1 l0_1.length c0_1] 24 (0, 0)) (by (with_reducible repeat (refine blk_drew ?_)); exact BK588.out)) : gb588 ≠ gb610)); have n12_ := Aside0.mk ((by rw [hg]; exact Nat.ne_of_gt (blk_lt (g := gb588) (o := .cells #[.int .i64 a0_0, .slice A0_1 l0_1.length c0_1] 24 (0, 0)) (by (with_reducible repeat (refine blk_drew ?_)); exact BK588.out)) : gb610 ≠ gb588)); have n13_ := Aside0.mk ((by rw [hg]; exact Nat.ne_of_lt (blk_lt (g := gb589) (o := .cells #[.int .i64 a1_0, .slice A1_1 l1_1.length c1_1] 24 (0, 0)) (by (with_reducible repeat (refine blk_drew ?_)); exact BK589.out)) : gb589 ≠ gb610)); have n14_ := Aside0.mk ((by rw [hg]; exact Nat.ne_of_gt (blk_lt (g := gb589) (o := .cells #[.int .i64 a1_0, .slice A1_1 l1_1.length c1_1] 24 (0, 0)) (by (with_reducible repeat (refine blk_drew ?_)); exact BK589.out)) : gb610 ≠ gb589)); have n15_ := Aside0.mk ((by rw [hg]; exact Nat.ne_of_lt (blk_lt (g := gb605) (o := .cells #[.int .i64 t600, .slice Ao42 t601.length co42] 28 (0, 0)) (by (with_reducible repeat (refine blk_drew ?_)); exact BK605.out)) : gb605 ≠ gb610)); have n16_ := Aside0.mk ((by rw [hg]; exact Nat.ne_of_gt (blk_lt (g := gb605) (o := .cells #[.int .i64 t600, .slice Ao42 t601.length co42] 28 (0, 0)) (by (with_reducible repeat (refine blk_drew ?_)); exact BK605.out)) : gb610 ≠ gb605)); clear HO595; clear HO599; clear HO603; clear HO609; clear BK588; clear BK589; clear BK605; clear HB; have HO595 := n0_; have HO599 := n1_; have HO603 := n2_; have HO609 := n3_; have BK588 := n4_; have BK589 := n5_; have BK605 := n6_; have HB := n7_; have BK610 := n8_; have GW610 := n9_; have GE610 := n10_; have NB588_610 := n11_; have NB610_588 := n12_; have NB589_610 := n13_; have NB610_589 := n14_; have NB605_610 := n15_; have NB610_605 := n16_; clear n0_ n1_ n2_ n3_ n4_ n5_ n6_ n7_ n8_ n9_ n10_ n11_ n12_ n13_ n14_ n15_ n16_; clear hb hbox hg; have hnb49 := NB610_588.out; have hnc49 := NB588_610.out; have hnb50 := NB610_589.out; have hnc50 := NB589_610.out; have hnb51 := NB610_605.out; have hnc51 := NB605_610.out; have hcz52_0 : w48.cell? ⟨gb610, 0, none⟩ = some (.int .i64 0) := (blk_cell BK610.out 0).trans rfl; have hcz52_1 : w48.cell? ⟨gb610, 1, none⟩ = some (.slice none 0 0) := (blk_cell BK610.out 1).trans rfl; have hfz52_0 := blk_frozen BK610.out 0; have hfz52_1 := blk_frozen BK610.out 1; obtain ⟨Ao53, co53, eo53⟩ := Kd.R_slice HO609.out; subst eo53; have hnb54 := NB589_605.out; have hnc54 := NB605_589.out; have hcz55_0 : w48.cell? ⟨gb589, 0, none⟩ = some (.int .i64 a1_0) := (blk_cell BK589.out 0).trans rfl; have hcz55_1 : w48.cell? ⟨gb589, 1, none⟩ = some (.slice A1_1 l1_1.length c1_1) := (blk_cell BK589.out 1).trans rfl; have hfz55_0 := blk_frozen BK589.out 0; have hfz55_1 := blk_frozen BK589.out 1) | ((with_reducible refine gate_callee (f := 12) rfl ?_); refine goesL_ (some 38) rfl rfl Try.func12 (by kernel_rfl) rfl #[.agg #[.int .i64 a1_0, .slice A1_1 l1_1.length c1_1]] rfl (by (try simp only [List.map_toArray, List.map_cons, List.map_nil]); rfl) ?_; (with_reducible refine (laws_toSpace.calls k a1_0 _ _ l1_1 t611 t612 _ ?side1 ?side2 A23.out).mono ?_); (case side1 => exact Kd.C_below HR1_1.out (by repeat ((with_reducible first | exact HB.out | refine below_set ?_ GE610.out)))); (case side2 => exact HC1_1.out); rintro e w56 ⟨v613, rfl, ho0, hb⟩; refine ⟨_, rfl, ?_⟩; have n0_ := Aside0.mk (Kd.R_elder' (by (with_reducible repeat (apply Kd.R_drew)); exact (Kd.R_mono (Kd.R_far (p := ⟨gb610, 1, none⟩) (Kd.R_far (p := ⟨gb610, 0, none⟩) (Kd.R_types HO595.out BK610.out (by decide)) (fun _ hk => hk.2) (.int .i64 t606)) (fun _ hk => hk.2) (.slice Ao53 t607.length co53)) (fun _ h_ => h_.1))) (Kd.R_base ho0) hb); have n1_ := Aside0.mk (Kd.R_elder' (by (with_reducible repeat (apply Kd.R_drew)); exact (Kd.R_mono (Kd.R_far (p := ⟨gb610, 1, none⟩) (Kd.R_far (p := ⟨gb610, 0, none⟩) (Kd.R_types HO599.out BK610.out (by decide)) (fun _ hk => hk.2) (.int .i64 t606)) (fun _ hk => hk.2) (.slice Ao53 t607.length co53)) (fun _ h_ => h_.1))) (Kd.R_base ho0) hb); have n2_ := Aside0.mk (Kd.R_elder' (by (with_reducible repeat (apply Kd.R_drew)); exact (Kd.R_mono (Kd.R_far (p := ⟨gb610, 1, none⟩) (Kd.R_far (p := ⟨gb610, 0, none⟩) (Kd.R_types HO603.out BK610.out (by decide)) (fun _ hk => hk.2) (.int .i64 t606)) (fun _ hk => hk.2) (.slice Ao53 t607.length co53)) (fun _ h_ => h_.1))) (Kd.R_base ho0) hb); have n3_ := Aside0.mk (Kd.R_elder' (by (with_reducible repeat (apply Kd.R_drew)); exact (Kd.R_mono (Kd.R_far (p := ⟨gb610, 1, none⟩) (Kd.R_far (p := ⟨gb610, 0, none⟩) (Kd.R_types HO609.out BK610.out (by decide)) (fun _ hk => hk.2) (.int .i64 t606)) (fun _ hk => hk.2) (.slice Ao53 t607.length co53)) (fun _ h_ => h_.1))) (Kd.R_base ho0) hb); have n4_ := Aside0.mk (Kd.R_lower (Kd.R_new' (Kd.R_new' (Kd.R_new' (Kd.R_new' ho0 (Kd.R_lt (by (with_reducible repeat (apply Kd.R_drew)); exact (Kd.R_mono (Kd.R_far (p := ⟨gb610, 1, none⟩) (Kd.R_far (p := ⟨gb610, 0, none⟩) (Kd.R_types HO595.out BK610.out (by decide)) (fun _ hk => hk.2) (.int .i64 t606)) (fun _ hk => hk.2) (.slice Ao53 t607.length co53)) (fun _ h_ => h_.1))))) (Kd.R_lt (by (with_reducible repeat (apply Kd.R_drew)); exact (Kd.R_mono (Kd.R_far (p := ⟨gb610, 1, none⟩) (Kd.R_far (p := ⟨gb610, 0, none⟩) (Kd.R_types HO599.out BK610.out (by decide)) (fun _ hk => hk.2) (.int .i64 t606)) (fun _ hk => hk.2) (.slice Ao53 t607.length co53)) (fun _ h_ => h_.1))))) (Kd.R_lt (by (with_reducible repeat (apply Kd.R_drew)); exact (Kd.R_mono (Kd.R_far (p := ⟨gb610, 1, none⟩) (Kd.R_far (p := ⟨gb610, 0, none⟩) (Kd.R_types HO603.out BK610.out (by decide)) (fun _ hk => hk.2) (.int .i64 t606)) (fun _ hk => hk.2) (.slice Ao53 t607.length co53)) (fun _ h_ => h_.1))))) (Kd.R_lt (by (with_reducible repeat (apply Kd.R_drew)); exact (Kd.R_mono (Kd.R_far (p := ⟨gb610, 1, none⟩) (Kd.R_far (p := ⟨gb610, 0, none⟩) (Kd.R_types HO609.out BK610.out (by decide)) (fun _ hk => hk.2) (.int .i64 t606)) (fun _ hk => hk.2) (.slice Ao53 t607.length co53)) (fun _ h_ => h_.1))))) (below_size (by repeat ((with_reducible first | exact HB.out | refine below_set ?_ GE610.out))))); have n5_ := Aside0.mk (blk_below (g := gb588) (o := .cells #[.int .i64 a0_0, .slice A0_1 l0_1.length c0_1] 24 (0, 0)) (by (with_reducible repeat (refine blk_drew ?_)); refine blk_far ?_ NB588_610.out _; (with_reducible repeat (refine blk_drew ?_)); refine blk_far ?_ NB588_610.out _; (with_reducible repeat (refine blk_drew ?_)); exact BK588.out) hb); have n6_ := Aside0.mk (blk_below (g := gb589) (o := .cells #[.int .i64 a1_0, .slice A1_1 l1_1.length c1_1] 24 (0, 0)) (by (with_reducible repeat (refine blk_drew ?_)); refine blk_far ?_ NB589_610.out _; (with_reducible repeat (refine blk_drew ?_)); refine blk_far ?_ NB589_610.out _; (with_reducible repeat (refine blk_drew ?_)); exact BK589.out) hb); have n7_ := Aside0.mk (blk_below (g := gb605) (o := .cells #[.int .i64 t600, .slice Ao42 t601.length co42] 28 (0, 0)) (by (with_reducible repeat (refine blk_drew ?_)); refine blk_far ?_ NB605_610.out _; (with_reducible repeat (refine blk_drew ?_)); refine blk_far ?_ NB605_610.out _; (with_reducible repeat (refine blk_drew ?_)); exact BK605.out) hb); have n8_ := Aside0.mk (blk_below (g := gb610) (o := .cells #[.int .i64 t606, .slice Ao53 t607.length co53] 28 (0, 0)) (by (with_reducible repeat (refine blk_drew ?_)); refine blk_put (cs := #[.int .i64 t606, .slice none 0 0]) ?_ 1 _ rfl; (with_reducible repeat (refine blk_drew ?_)); refine blk_put (cs := #[.int .i64 0, .slice none 0 0]) ?_ 0 _ rfl; (with_reducible repeat (refine blk_drew ?_)); exact BK610.out) hb); have n9_ := Aside0.mk (below_step (by repeat ((with_reducible first | exact HB.out | refine below_set ?_ GE610.out))) hb); clear HO595; clear HO599; clear HO603; clear HO609; clear BK588; clear BK589; clear BK605; clear BK610; clear HB; have HO595 := n0_; have HO599 := n1_; have HO603 := n2_; have HO609 := n3_; have HO614 := n4_; have BK588 := n5_; have BK589 := n6_; have BK605 := n7_; have BK610 := n8_; have HB := n9_; clear n0_ n1_ n2_ n3_ n4_ n5_ n6_ n7_ n8_ n9_; (try clear hb); (try clear ho0)) | ((with_reducible refine gate_dst (N := 9) rfl ?_); refine box_event ?hg (N := 9) ?hd (cs := #[.int .i64 0, .slice none 0 0]) (t := 28) ?hr ?_; (case hd => rfl); (case hg => rfl); (case hr => (go_simp; done)); intro gb615 hg w57 hbox hb; have n0_ := Aside0.mk (Kd.R_below (by (with_reducible repeat (apply Kd.R_drew)); exact HO595.out) hb); have n1_ := Aside0.mk (Kd.R_below (by (with_reducible repeat (apply Kd.R_drew)); exact HO599.out) hb); have n2_ := Aside0.mk (Kd.R_below (by (with_reducible repeat (apply Kd.R_drew)); exact HO603.out) hb); have n3_ := Aside0.mk (Kd.R_below (by (with_reducible repeat (apply Kd.R_drew)); exact HO609.out) hb); have n4_ := Aside0.mk (Kd.R_below (by (with_reducible repeat (apply Kd.R_drew)); exact HO614.out) hb); have n5_ := Aside0.mk (blk_below (g := gb588) (o := .cells #[.int .i64 a0_0, .slice A0_1 l0_1.length c0_1] 24 (0, 0)) (by (with_reducible repeat (refine blk_drew ?_)); exact BK588.out) hb); have n6_ := Aside0.mk (blk_below (g := gb589) (o := .cells #[.int .i64 a1_0, .slice A1_1 l1_1.length c1_1] 24 (0, 0)) (by (with_reducible repeat (refine blk_drew ?_)); exact BK589.out) hb); have n7_ := Aside0.mk (blk_below (g := gb605) (o := .cells #[.int .i64 t600, .slice Ao42 t601.length co42] 28 (0, 0)) (by (with_reducible repeat (refine blk_drew ?_)); exact BK605.out) hb); have n8_ := Aside0.mk (blk_below (g := gb610) (o := .cells #[.int .i64 t606, .slice Ao53 t607.length co53] 28 (0, 0)) (by (with_reducible repeat (refine blk_drew ?_)); exact BK610.out) hb); have n9_ := Aside0.mk (below_step (by repeat ((with_reducible exact HB.out))) hb); have n10_ := Aside0.mk (hbox); have n11_ := Aside0.mk ((by rw [hg]; exact (below_size (by repeat ((with_reducible exact HB.out)))) : w.heap.size ≤ gb615)); have n12_ := Aside0.mk ((by rw [hg]; exact (below_size (by repeat ((with_reducible exact HB.out)))) : w.heap.size ≤ gb615)); have n13_ := Aside0.mk ((by rw [hg]; exact Nat.ne_of_lt (blk_lt (g := gb588) (o := .cells #[.int .i64 a0_0, .slice A0_1 l0_1.length c0_1] 24 (0, 0)) (by (with_reducible repeat (refine blk_drew ?_)); exact BK588.out)) : gb588 ≠ gb615)); have n14_ := Aside0.mk ((by rw [hg]; exact Nat.ne_of_gt (blk_lt (g := gb588) (o := .cells #[.int .i64 a0_0, .slice A0_1 l0_1.length c0_1] 24 (0, 0)) (by (with_reducible repeat (refine blk_drew ?_)); exact BK588.out)) : gb615 ≠ gb588)); have n15_ := Aside0.mk ((by rw [hg]; exact Nat.ne_of_lt (blk_lt (g := gb589) (o := .cells #[.int .i64 a1_0, .slice A1_1 l1_1.length c1_1] 24 (0, 0)) (by (with_reducible repeat (refine blk_drew ?_)); exact BK589.out)) : gb589 ≠ gb615)); have n16_ := Aside0.mk ((by rw [hg]; exact Nat.ne_of_gt (blk_lt (g := gb589) (o := .cells #[.int .i64 a1_0, .slice A1_1 l1_1.length c1_1] 24 (0, 0)) (by (with_reducible repeat (refine blk_drew ?_)); exact BK589.out)) : gb615 ≠ gb589)); have n17_ := Aside0.mk ((by rw [hg]; exact Nat.ne_of_lt (blk_lt (g := gb605) (o := .cells #[.int .i64 t600, .slice Ao42 t601.length co42] 28 (0, 0)) (by (with_reducible repeat (refine blk_drew ?_)); exact BK605.out)) : gb605 ≠ gb615)); have n18_ := Aside0.mk ((by rw [hg]; exact Nat.ne_of_gt (blk_lt (g := gb605) (o := .cells #[.int .i64 t600, .slice Ao42 t601.length co42] 28 (0, 0)) (by (with_reducible repeat (refine blk_drew ?_)); exact BK605.out)) : gb615 ≠ gb605)); have n19_ := Aside0.mk ((by rw [hg]; exact Nat.ne_of_lt (blk_lt (g := gb610) (o := .cells #[.int .i64 t606, .slice Ao53 t607.length co53] 28 (0, 0)) (by (with_reducible repeat (refine blk_drew ?_)); exact BK610.out)) : gb610 ≠ gb615)); have n20_ := Aside0.mk ((by rw [hg]; exact Nat.ne_of_gt (blk_lt (g := gb610) (o := .cells #[.int .i64 t606, .slice Ao53 t607.length co53] 28 (0, 0)) (by (with_reducible repeat (refine blk_drew ?_)); exact BK610.out)) : gb615 ≠ gb610)); clear HO595; clear HO599; clear HO603; clear HO609; clear HO614; clear BK588; clear BK589; clear BK605; clear BK610; clear HB; have HO595 := n0_; have HO599 := n1_; have HO603 := n2_; have HO609 := n3_; have HO614 := n4_; have BK588 := n5_; have BK589 := n6_; have BK605 := n7_; have BK610 := n8_; have HB := n9_; have BK615 := n10_; have GW615 := n11_; have GE615 := n12_; have NB588_615 := n13_; have NB615_588 := n14_; have NB589_615 := n15_; have NB615_589 := n16_; have NB605_615 := n17_; have NB615_605 := n18_; have NB610_615 := n19_; have NB615_610 := n20_; clear n0_ n1_ n2_ n3_ n4_ n5_ n6_ n7_ n8_ n9_ n10_ n11_ n12_ n13_ n14_ n15_ n16_ n17_ n18_ n19_ n20_; clear hb hbox hg; have hnb58 := NB615_588.out; have hnc58 := NB588_615.out; have hnb59 := NB615_589.out; have hnc59 := NB589_615.out; have hnb60 := NB615_605.out; have hnc60 := NB605_615.out; have hnb61 := NB615_610.out; have hnc61 := NB610_615.out; have hcz62_0 : w57.cell? ⟨gb615, 0, none⟩ = some (.int .i64 0) := (blk_cell BK615.out 0).trans rfl; have hcz62_1 : w57.cell? ⟨gb615, 1, none⟩ = some (.slice none 0 0) := (blk_cell BK615.out 1).trans rfl; have hfz62_0 := blk_frozen BK615.out 0; have hfz62_1 := blk_frozen BK615.out 1; obtain ⟨Ao63, co63, eo63⟩ := Kd.R_slice HO614.out; subst eo63; have hcz64_0 : w57.cell? ⟨gb610, 0, none⟩ = some (.int .i64 t606) := (blk_cell BK610.out 0).trans rfl; have hcz64_1 : w57.cell? ⟨gb610, 1, none⟩ = some (.slice Ao53 t607.length co53) := (blk_cell BK610.out 1).trans rfl; have hfz64_0 := blk_frozen BK610.out 0; have hfz64_1 := blk_frozen BK610.out 1) | ((with_reducible refine gate_callee (f := 30) rfl ?_); refine goesL_ (some 42) rfl rfl Try.func30 (by kernel_rfl) rfl #[.agg #[.int .i64 t606, .slice Ao53 t607.length co53], .agg #[.int .i64 t611, .slice Ao63 t612.length co63]] rfl (by (try simp only [List.map_toArray, List.map_cons, List.map_nil]); rfl) ?_; (with_reducible refine (impl_UnionSpaces.calls k t606 _ _ t607 t611 _ _ t612 t616 t617 t620 _ ?side1 ?side2 ?side3 ?side4 A24.out).mono ?_); (case side1 => refine (Kd.R_reads' (e := 3) (base := w.heap.size) (ok := fun k_ => ((((True ∧ some k_ ≠ (v594 : Value).ownBlock) ∧ some k_ ≠ (v598 : Value).ownBlock) ∧ some k_ ≠ (.slice Ao42 t601.length co42 : Value).ownBlock) ∧ some k_ ≠ (.slice Ao63 t612.length co63 : Value).ownBlock)) (n := t607.length) (c := co53) ?_).2.2; exact (by (with_reducible repeat (apply Kd.R_drew)); exact (Kd.R_mono (Kd.R_far (p := ⟨gb615, 1, none⟩) (Kd.R_far (p := ⟨gb615, 0, none⟩) (Kd.R_types HO609.out BK615.out (by decide)) (fun _ hk => hk.2) (.int .i64 t611)) (fun _ hk => hk.2) (.slice Ao63 t612.length co63)) (fun _ h_ => h_.1)))); (case side2 => exact (Kd.R_reads' HO609.out).2.1); (case side3 => refine (Kd.R_reads' (e := 3) (base := w.heap.size) (ok := fun k_ => ((((True ∧ some k_ ≠ (v594 : Value).ownBlock) ∧ some k_ ≠ (v598 : Value).ownBlock) ∧ some k_ ≠ (.slice Ao42 t601.length co42 : Value).ownBlock) ∧ some k_ ≠ (.slice Ao53 t607.length co53 : Value).ownBlock)) (n := t612.length) (c := co63) ?_).2.2; exact (by (with_reducible repeat (apply Kd.R_drew)); exact (Kd.R_mono (Kd.R_far (p := ⟨gb615, 1, none⟩) (Kd.R_far (p := ⟨gb615, 0, none⟩) (Kd.R_types HO614.out BK615.out (by decide)) (fun _ hk => hk.2) (.int .i64 t611)) (fun _ hk => hk.2) (.slice Ao63 t612.length co63)) (fun _ h_ => h_.1)))); (case side4 => exact (Kd.R_reads' HO614.out).2.1); rintro e w65 ⟨v618, rfl, ho0, hb⟩; refine ⟨_, rfl, ?_⟩; have n0_ := Aside0.mk (Kd.R_elder' (by (with_reducible repeat (apply Kd.R_drew)); exact (Kd.R_mono (Kd.R_far (p := ⟨gb615, 1, none⟩) (Kd.R_far (p := ⟨gb615, 0, none⟩) (Kd.R_types HO595.out BK615.out (by decide)) (fun _ hk => hk.2) (.int .i64 t611)) (fun _ hk => hk.2) (.slice Ao63 t612.length co63)) (fun _ h_ => h_.1))) (Kd.R_base ho0) hb); have n1_ := Aside0.mk (Kd.R_elder' (by (with_reducible repeat (apply Kd.R_drew)); exact (Kd.R_mono (Kd.R_far (p := ⟨gb615, 1, none⟩) (Kd.R_far (p := ⟨gb615, 0, none⟩) (Kd.R_types HO599.out BK615.out (by decide)) (fun _ hk => hk.2) (.int .i64 t611)) (fun _ hk => hk.2) (.slice Ao63 t612.length co63)) (fun _ h_ => h_.1))) (Kd.R_base ho0) hb); have n2_ := Aside0.mk (Kd.R_elder' (by (with_reducible repeat (apply Kd.R_drew)); exact (Kd.R_mono (Kd.R_far (p := ⟨gb615, 1, none⟩) (Kd.R_far (p := ⟨gb615, 0, none⟩) (Kd.R_types HO603.out BK615.out (by decide)) (fun _ hk => hk.2) (.int .i64 t611)) (fun _ hk => hk.2) (.slice Ao63 t612.length co63)) (fun _ h_ => h_.1))) (Kd.R_base ho0) hb); have n3_ := Aside0.mk (Kd.R_elder' (by (with_reducible repeat (apply Kd.R_drew)); exact (Kd.R_mono (Kd.R_far (p := ⟨gb615, 1, none⟩) (Kd.R_far (p := ⟨gb615, 0, none⟩) (Kd.R_types HO609.out BK615.out (by decide)) (fun _ hk => hk.2) (.int .i64 t611)) (fun _ hk => hk.2) (.slice Ao63 t612.length co63)) (fun _ h_ => h_.1))) (Kd.R_base ho0) hb); have n4_ := Aside0.mk (Kd.R_elder' (by (with_reducible repeat (apply Kd.R_drew)); exact (Kd.R_mono (Kd.R_far (p := ⟨gb615, 1, none⟩) (Kd.R_far (p := ⟨gb615, 0, none⟩) (Kd.R_types HO614.out BK615.out (by decide)) (fun _ hk => hk.2) (.int .i64 t611)) (fun _ hk => hk.2) (.slice Ao63 t612.length co63)) (fun _ h_ => h_.1))) (Kd.R_base ho0) hb); have n5_ := Aside0.mk (Kd.R_lower (Kd.R_new' (Kd.R_new' (Kd.R_new' (Kd.R_new' (Kd.R_new' ho0 (Kd.R_lt (by (with_reducible repeat (apply Kd.R_drew)); exact (Kd.R_mono (Kd.R_far (p := ⟨gb615, 1, none⟩) (Kd.R_far (p := ⟨gb615, 0, none⟩) (Kd.R_types HO595.out BK615.out (by decide)) (fun _ hk => hk.2) (.int .i64 t611)) (fun _ hk => hk.2) (.slice Ao63 t612.length co63)) (fun _ h_ => h_.1))))) (Kd.R_lt (by (with_reducible repeat (apply Kd.R_drew)); exact (Kd.R_mono (Kd.R_far (p := ⟨gb615, 1, none⟩) (Kd.R_far (p := ⟨gb615, 0, none⟩) (Kd.R_types HO599.out BK615.out (by decide)) (fun _ hk => hk.2) (.int .i64 t611)) (fun _ hk => hk.2) (.slice Ao63 t612.length co63)) (fun _ h_ => h_.1))))) (Kd.R_lt (by (with_reducible repeat (apply Kd.R_drew)); exact (Kd.R_mono (Kd.R_far (p := ⟨gb615, 1, none⟩) (Kd.R_far (p := ⟨gb615, 0, none⟩) (Kd.R_types HO603.out BK615.out (by decide)) (fun _ hk => hk.2) (.int .i64 t611)) (fun _ hk => hk.2) (.slice Ao63 t612.length co63)) (fun _ h_ => h_.1))))) (Kd.R_lt (by (with_reducible repeat (apply Kd.R_drew)); exact (Kd.R_mono (Kd.R_far (p := ⟨gb615, 1, none⟩) (Kd.R_far (p := ⟨gb615, 0, none⟩) (Kd.R_types HO609.out BK615.out (by decide)) (fun _ hk => hk.2) (.int .i64 t611)) (fun _ hk => hk.2) (.slice Ao63 t612.length co63)) (fun _ h_ => h_.1))))) (Kd.R_lt (by (with_reducible repeat (apply Kd.R_drew)); exact (Kd.R_mono (Kd.R_far (p := ⟨gb615, 1, none⟩) (Kd.R_far (p := ⟨gb615, 0, none⟩) (Kd.R_types HO614.out BK615.out (by decide)) (fun _ hk => hk.2) (.int .i64 t611)) (fun _ hk => hk.2) (.slice Ao63 t612.length co63)) (fun _ h_ => h_.1))))) (below_size (by repeat ((with_reducible first | exact HB.out | refine below_set ?_ GE615.out))))); have n6_ := Aside0.mk (blk_below (g := gb588) (o := .cells #[.int .i64 a0_0, .slice A0_1 l0_1.length c0_1] 24 (0, 0)) (by (with_reducible repeat (refine blk_drew ?_)); refine blk_far ?_ NB588_615.out _; (with_reducible repeat (refine blk_drew ?_)); refine blk_far ?_ NB588_615.out _; (with_reducible repeat (refine blk_drew ?_)); exact BK588.out) hb); have n7_ := Aside0.mk (blk_below (g := gb589) (o := .cells #[.int .i64 a1_0, .slice A1_1 l1_1.length c1_1] 24 (0, 0)) (by (with_reducible repeat (refine blk_drew ?_)); refine blk_far ?_ NB589_615.out _; (with_reducible repeat (refine blk_drew ?_)); refine blk_far ?_ NB589_615.out _; (with_reducible repeat (refine blk_drew ?_)); exact BK589.out) hb); have n8_ := Aside0.mk (blk_below (g := gb605) (o := .cells #[.int .i64 t600, .slice Ao42 t601.length co42] 28 (0, 0)) (by (with_reducible repeat (refine blk_drew ?_)); refine blk_far ?_ NB605_615.out _; (with_reducible repeat (refine blk_drew ?_)); refine blk_far ?_ NB605_615.out _; (with_reducible repeat (refine blk_drew ?_)); exact BK605.out) hb); have n9_ := Aside0.mk (blk_below (g := gb610) (o := .cells #[.int .i64 t606, .slice Ao53 t607.length co53] 28 (0, 0)) (by (with_reducible repeat (refine blk_drew ?_)); refine blk_far ?_ NB610_615.out _; (with_reducible repeat (refine blk_drew ?_)); refine blk_far ?_ NB610_615.out _; (with_reducible repeat (refine blk_drew ?_)); exact BK610.out) hb); have n10_ := Aside0.mk (blk_below (g := gb615) (o := .cells #[.int .i64 t611, .slice Ao63 t612.length co63] 28 (0, 0)) (by (with_reducible repeat (refine blk_drew ?_)); refine blk_put (cs := #[.int .i64 t611, .slice none 0 0]) ?_ 1 _ rfl; (with_reducible repeat (refine blk_drew ?_)); refine blk_put (cs := #[.int .i64 0, .slice none 0 0]) ?_ 0 _ rfl; (with_reducible repeat (refine blk_drew ?_)); exact BK615.out) hb); have n11_ := Aside0.mk (below_step (by repeat ((with_reducible first | exact HB.out | refine below_set ?_ GE615.out))) hb); clear HO595; clear HO599; clear HO603; clear HO609; clear HO614; clear BK588; clear BK589; clear BK605; clear BK610; clear BK615; clear HB; have HO595 := n0_; have HO599 := n1_; have HO603 := n2_; have HO609 := n3_; have HO614 := n4_; have HO619 := n5_; have BK588 := n6_; have BK589 := n7_; have BK605 := n8_; have BK610 := n9_; have BK615 := n10_; have HB := n11_; clear n0_ n1_ n2_ n3_ n4_ n5_ n6_ n7_ n8_ n9_ n10_ n11_; (try clear hb); (try clear ho0)) | ((with_reducible refine gate_dst (N := 10) rfl ?_); refine box_event ?hg (N := 10) ?hd (cs := #[.int .i64 0, .slice none 0 0]) (t := 28) ?hr ?_; (case hd => rfl); (case hg => rfl); (case hr => (go_simp; done)); intro gb621 hg w66 hbox hb; have n0_ := Aside0.mk (Kd.R_below (by (with_reducible repeat (apply Kd.R_drew)); exact HO595.out) hb); have n1_ := Aside0.mk (Kd.R_below (by (with_reducible repeat (apply Kd.R_drew)); exact HO599.out) hb); have n2_ := Aside0.mk (Kd.R_below (by (with_reducible repeat (apply Kd.R_drew)); exact HO603.out) hb); have n3_ := Aside0.mk (Kd.R_below (by (with_reducible repeat (apply Kd.R_drew)); exact HO609.out) hb); have n4_ := Aside0.mk (Kd.R_below (by (with_reducible repeat (apply Kd.R_drew)); exact HO614.out) hb); have n5_ := Aside0.mk (Kd.R_below (by (with_reducible repeat (apply Kd.R_drew)); exact HO619.out) hb); have n6_ := Aside0.mk (blk_below (g := gb588) (o := .cells #[.int .i64 a0_0, .slice A0_1 l0_1.length c0_1] 24 (0, 0)) (by (with_reducible repeat (refine blk_drew ?_)); exact BK588.out) hb); have n7_ := Aside0.mk (blk_below (g := gb589) (o := .cells #[.int .i64 a1_0, .slice A1_1 l1_1.length c1_1] 24 (0, 0)) (by (with_reducible repeat (refine blk_drew ?_)); exact BK589.out) hb); have n8_ := Aside0.mk (blk_below (g := gb605) (o := .cells #[.int .i64 t600, .slice Ao42 t601.length co42] 28 (0, 0)) (by (with_reducible repeat (refine blk_drew ?_)); exact BK605.out) hb); have n9_ := Aside0.mk (blk_below (g := gb610) (o := .cells #[.int .i64 t606, .slice Ao53 t607.length co53] 28 (0, 0)) (by (with_reducible repeat (refine blk_drew ?_)); exact BK610.out) hb); have n10_ := Aside0.mk (blk_below (g := gb615) (o := .cells #[.int .i64 t611, .slice Ao63 t612.length co63] 28 (0, 0)) (by (with_reducible repeat (refine blk_drew ?_)); exact BK615.out) hb); have n11_ := Aside0.mk (below_step (by repeat ((with_reducible exact HB.out))) hb); have n12_ := Aside0.mk (hbox); have n13_ := Aside0.mk ((by rw [hg]; exact (below_size (by repeat ((with_reducible exact HB.out)))) : w.heap.size ≤ gb621)); have n14_ := Aside0.mk ((by rw [hg]; exact (below_size (by repeat ((with_reducible exact HB.out)))) : w.heap.size ≤ gb621)); have n15_ := Aside0.mk ((by rw [hg]; exact Nat.ne_of_lt (blk_lt (g := gb588) (o := .cells #[.int .i64 a0_0, .slice A0_1 l0_1.length c0_1] 24 (0, 0)) (by (with_reducible repeat (refine blk_drew ?_)); exact BK588.out)) : gb588 ≠ gb621)); have n16_ := Aside0.mk ((by rw [hg]; exact Nat.ne_of_gt (blk_lt (g := gb588) (o := .cells #[.int .i64 a0_0, .slice A0_1 l0_1.length c0_1] 24 (0, 0)) (by (with_reducible repeat (refine blk_drew ?_)); exact BK588.out)) : gb621 ≠ gb588)); have n17_ := Aside0.mk ((by rw [hg]; exact Nat.ne_of_lt (blk_lt (g := gb589) (o := .cells #[.int .i64 a1_0, .slice A1_1 l1_1.length c1_1] 24 (0, 0)) (by (with_reducible repeat (refine blk_drew ?_)); exact BK589.out)) : gb589 ≠ gb621)); have n18_ := Aside0.mk ((by rw [hg]; exact Nat.ne_of_gt (blk_lt (g := gb589) (o := .cells #[.int .i64 a1_0, .slice A1_1 l1_1.length c1_1] 24 (0, 0)) (by (with_reducible repeat (refine blk_drew ?_)); exact BK589.out)) : gb621 ≠ gb589)); have n19_ := Aside0.mk ((by rw [hg]; exact Nat.ne_of_lt (blk_lt (g := gb605) (o := .cells #[.int .i64 t600, .slice Ao42 t601.length co42] 28 (0, 0)) (by (with_reducible repeat (refine blk_drew ?_)); exact BK605.out)) : gb605 ≠ gb621)); have n20_ := Aside0.mk ((by rw [hg]; exact Nat.ne_of_gt (blk_lt (g := gb605) (o := .cells #[.int .i64 t600, .slice Ao42 t601.length co42] 28 (0, 0)) (by (with_reducible repeat (refine blk_drew ?_)); exact BK605.out)) : gb621 ≠ gb605)); have n21_ := Aside0.mk ((by rw [hg]; exact Nat.ne_of_lt (blk_lt (g := gb610) (o := .cells #[.int .i64 t606, .slice Ao53 t607.length co53] 28 (0, 0)) (by (with_reducible repeat (refine blk_drew ?_)); exact BK610.out)) : gb610 ≠ gb621)); have n22_ := Aside0.mk ((by rw [hg]; exact Nat.ne_of_gt (blk_lt (g := gb610) (o := .cells #[.int .i64 t606, .slice Ao53 t607.length co53] 28 (0, 0)) (by (with_reducible repeat (refine blk_drew ?_)); exact BK610.out)) : gb621 ≠ gb610)); have n23_ := Aside0.mk ((by rw [hg]; exact Nat.ne_of_lt (blk_lt (g := gb615) (o := .cells #[.int .i64 t611, .slice Ao63 t612.length co63] 28 (0, 0)) (by (with_reducible repeat (refine blk_drew ?_)); exact BK615.out)) : gb615 ≠ gb621)); have n24_ := Aside0.mk ((by rw [hg]; exact Nat.ne_of_gt (blk_lt (g := gb615) (o := .cells #[.int .i64 t611, .slice Ao63 t612.length co63] 28 (0, 0)) (by (with_reducible repeat (refine blk_drew ?_)); exact BK615.out)) : gb621 ≠ gb615)); clear HO595; clear HO599; clear HO603; clear HO609; clear HO614; clear HO619; clear BK588; clear BK589; clear BK605; clear BK610; clear BK615; clear HB; have HO595 := n0_; have HO599 := n1_; have HO603 := n2_; have HO609 := n3_; have HO614 := n4_; have HO619 := n5_; have BK588 := n6_; have BK589 := n7_; have BK605 := n8_; have BK610 := n9_; have BK615 := n10_; have HB := n11_; have BK621 := n12_; have GW621 := n13_; have GE621 := n14_; have NB588_621 := n15_; have NB621_588 := n16_; have NB589_621 := n17_; have NB621_589 := n18_; have NB605_621 := n19_; have NB621_605 := n20_; have NB610_621 := n21_; have NB621_610 := n22_; have NB615_621 := n23_; have NB621_615 := n24_; clear n0_ n1_ n2_ n3_ n4_ n5_ n6_ n7_ n8_ n9_ n10_ n11_ n12_ n13_ n14_ n15_ n16_ n17_ n18_ n19_ n20_ n21_ n22_ n23_ n24_; clear hb hbox hg; have hnb67 := NB621_588.out; have hnc67 := NB588_621.out; have hnb68 := NB621_589.out; have hnc68 := NB589_621.out; have hnb69 := NB621_605.out; have hnc69 := NB605_621.out; have hnb70 := NB621_610.out; have hnc70 := NB610_621.out; have hnb71 := NB621_615.out; have hnc71 := NB615_621.out; have hcz72_0 : w66.cell? ⟨gb621, 0, none⟩ = some (.int .i64 0) := (blk_cell BK621.out 0).trans rfl; have hcz72_1 : w66.cell? ⟨gb621, 1, none⟩ = some (.slice none 0 0) := (blk_cell BK621.out 1).trans rfl; have hfz72_0 := blk_frozen BK621.out 0; have hfz72_1 := blk_frozen BK621.out 1; obtain ⟨Ao73, co73, eo73⟩ := Kd.R_slice HO619.out; subst eo73))
   skip
   go_cut [53] (fun v53 wc => ∃ (kq : Nat) (x53_24 : Bool), v53 = .bool x53_24 ∧ Aside0 (laws_FnExactUnionSpaces.j0 kq t604 t620 x53_24 a0_0 l0_1 a1_0 l1_1 t600 t601 t606 t607 t611 t612 t616 t617 = some r) ∧ Aside0 (kq ≤ k) ∧ Aside0 (Kd.R (Kd.int .i64) 3 wc w.heap.size (fun k_ => some k_ ≠ ((.slice Ao53 t607.length co53) : Value).ownBlock ∧ some k_ ≠ ((.slice Ao63 t612.length co63) : Value).ownBlock ∧ some k_ ≠ ((.slice Ao73 t617.length co73) : Value).ownBlock) (.slice Ao42 t601.length co42) t601) ∧ Aside0 (Kd.R (Kd.int .i64) 3 wc w.heap.size (fun k_ => some k_ ≠ ((.slice Ao42 t601.length co42) : Value).ownBlock ∧ some k_ ≠ ((.slice Ao63 t612.length co63) : Value).ownBlock ∧ some k_ ≠ ((.slice Ao73 t617.length co73) : Value).ownBlock) (.slice Ao53 t607.length co53) t607) ∧ Aside0 (Kd.R (Kd.int .i64) 3 wc w.heap.size (fun k_ => some k_ ≠ ((.slice Ao42 t601.length co42) : Value).ownBlock ∧ some k_ ≠ ((.slice Ao53 t607.length co53) : Value).ownBlock ∧ some k_ ≠ ((.slice Ao73 t617.length co73) : Value).ownBlock) (.slice Ao63 t612.length co63) t612) ∧ Aside0 (Kd.R (Kd.int .i64) 3 wc w.heap.size (fun k_ => some k_ ≠ ((.slice Ao42 t601.length co42) : Value).ownBlock ∧ some k_ ≠ ((.slice Ao53 t607.length co53) : Value).ownBlock ∧ some k_ ≠ ((.slice Ao63 t612.length co63) : Value).ownBlock) (.slice Ao73 t617.length co73) t617) ∧ Aside0 (wc.heap[gb588]? = some (.cells #[.int .i64 a0_0, (.slice A0_1 l0_1.length c0_1)] 24 (0, 0))) ∧ Aside0 (wc.heap[gb589]? = some (.cells #[.int .i64 a1_0, (.slice A1_1 l1_1.length c1_1)] 24 (0, 0))) ∧ Aside0 (wc.heap[gb605]? = some (.cells #[.int .i64 t600, (.slice Ao42 t601.length co42)] 28 (0, 0))) ∧ Aside0 (wc.heap[gb610]? = some (.cells #[.int .i64 t606, (.slice Ao53 t607.length co53)] 28 (0, 0))) ∧ Aside0 (wc.heap[gb615]? = some (.cells #[.int .i64 t611, (.slice Ao63 t612.length co63)] 28 (0, 0))) ∧ Aside0 (wc.heap[gb621]? = some (.cells #[.int .i64 t616, (.slice Ao73 t617.length co73)] 28 (0, 0))) ∧ Aside0 (Below w.heap.size w wc))
   case first =>
    have H := HC25.out
    clear HC25
    replace H := Option.bind_eq_some_iff.mp H
    obtain ⟨t622, A740, H⟩ := H
    replace H : (if t622 = true then (laws_FnExactUnionSpaces.j0 k t604 t620 (t620 != t604) a0_0 l0_1 a1_0 l1_1 t600 t601 t606 t607 t611 t612 t616 t617) else (laws_FnExactUnionSpaces.j0 k t604 t620 true a0_0 l0_1 a1_0 l1_1 t600 t601 t606 t607 t611 t612 t616 t617)) = some r := H
    have A74 := Aside0.mk A740
    clear A740
    by_cases c75 : t622 = true
    ·subst c75
     have H1 : (laws_FnExactUnionSpaces.j0 k t604 t620 (t620 != t604) a0_0 l0_1 a1_0 l1_1 t600 t601 t606 t607 t611 t612 t616 t617) = some r := by rw [if_pos rfl] at H; exact H
     clear H
     have H := H1
     clear H1
     have H' := Aside0.mk H
     clear H
     have hnb76 := NB621_588.out
     have hnc76 := NB588_621.out
     have hnb77 := NB621_589.out
     have hnc77 := NB589_621.out
     have hnb78 := NB621_605.out
     have hnc78 := NB605_621.out
     have hnb79 := NB621_610.out
     have hnc79 := NB610_621.out
     have hnb80 := NB621_615.out
     have hnc80 := NB615_621.out
     have hcz81_0 : w66.cell? ⟨gb621, 0, none⟩ = some (.int .i64 0) := (blk_cell BK621.out 0).trans rfl
     have hcz81_1 : w66.cell? ⟨gb621, 1, none⟩ = some (.slice none 0 0) := (blk_cell BK621.out 1).trans rfl
     have hfz81_0 := blk_frozen BK621.out 0
     have hfz81_1 := blk_frozen BK621.out 1
     have hnb82 := NB605_588.out
     have hnc82 := NB588_605.out
     have hnb83 := NB605_589.out
     have hnc83 := NB589_605.out
     have hnb84 := NB605_610.out
     have hnc84 := NB610_605.out
     have hnb85 := NB605_615.out
     have hnc85 := NB615_605.out
     have hcz86_0 : w66.cell? ⟨gb605, 0, none⟩ = some (.int .i64 t600) := (blk_cell BK605.out 0).trans rfl
     have hcz86_1 : w66.cell? ⟨gb605, 1, none⟩ = some (.slice Ao42 t601.length co42) := (blk_cell BK605.out 1).trans rfl
     have hfz86_0 := blk_frozen BK605.out 0
     have hfz86_1 := blk_frozen BK605.out 1
     go_wp2_with (((with_reducible refine gate_callee (f := 15) rfl ?_); refine goesL_ (some 47) rfl rfl Try.func15 (by kernel_rfl) rfl #[.agg #[.int .i64 t616, .slice Ao73 t617.length co73], .agg #[.int .i64 t600, .slice Ao42 t601.length co42]] rfl (by (try simp only [List.map_toArray, List.map_cons, List.map_nil]); rfl) ?_; (with_reducible refine (laws_eqSpace.calls k t616 _ _ t617 t600 _ _ t601 true _ ?side1 ?side2 ?side3 ?side4 A74.out).mono ?_); (case side1 => refine (Kd.R_reads' (e := 3) (base := w.heap.size) (ok := fun k_ => (((((True ∧ some k_ ≠ (v594 : Value).ownBlock) ∧ some k_ ≠ (v598 : Value).ownBlock) ∧ some k_ ≠ (.slice Ao42 t601.length co42 : Value).ownBlock) ∧ some k_ ≠ (.slice Ao53 t607.length co53 : Value).ownBlock) ∧ some k_ ≠ (.slice Ao63 t612.length co63 : Value).ownBlock)) (n := t617.length) (c := co73) ?_).2.2; exact (by (with_reducible repeat (apply Kd.R_drew)); exact (Kd.R_mono (Kd.R_far (p := ⟨gb621, 1, none⟩) (Kd.R_far (p := ⟨gb621, 0, none⟩) (Kd.R_types HO619.out BK621.out (by decide)) (fun _ hk => hk.2) (.int .i64 t616)) (fun _ hk => hk.2) (.slice Ao73 t617.length co73)) (fun _ h_ => h_.1)))); (case side2 => exact (Kd.R_reads' HO619.out).2.1); (case side3 => refine (Kd.R_reads' (e := 3) (base := w.heap.size) (ok := fun k_ => ((((some k_ ≠ (v594 : Value).ownBlock ∧ some k_ ≠ (v598 : Value).ownBlock) ∧ some k_ ≠ (.slice Ao53 t607.length co53 : Value).ownBlock) ∧ some k_ ≠ (.slice Ao63 t612.length co63 : Value).ownBlock) ∧ some k_ ≠ (.slice Ao73 t617.length co73 : Value).ownBlock)) (n := t601.length) (c := co42) ?_).2.2; exact (by (with_reducible repeat (apply Kd.R_drew)); exact (Kd.R_mono (Kd.R_far (p := ⟨gb621, 1, none⟩) (Kd.R_far (p := ⟨gb621, 0, none⟩) (Kd.R_types HO603.out BK621.out (by decide)) (fun _ hk => hk.2) (.int .i64 t616)) (fun _ hk => hk.2) (.slice Ao73 t617.length co73)) (fun _ h_ => h_.1)))); (case side4 => exact (Kd.R_reads' HO603.out).2.1); rintro e w87 ⟨rfl, hb⟩; refine ⟨_, rfl, ?_⟩; have n0_ := Aside0.mk (Kd.R_below (by (with_reducible repeat (apply Kd.R_drew)); exact (Kd.R_mono (Kd.R_far (p := ⟨gb621, 1, none⟩) (Kd.R_far (p := ⟨gb621, 0, none⟩) (Kd.R_types HO595.out BK621.out (by decide)) (fun _ hk => hk.2) (.int .i64 t616)) (fun _ hk => hk.2) (.slice Ao73 t617.length co73)) (fun _ h_ => h_.1))) hb); have n1_ := Aside0.mk (Kd.R_below (by (with_reducible repeat (apply Kd.R_drew)); exact (Kd.R_mono (Kd.R_far (p := ⟨gb621, 1, none⟩) (Kd.R_far (p := ⟨gb621, 0, none⟩) (Kd.R_types HO599.out BK621.out (by decide)) (fun _ hk => hk.2) (.int .i64 t616)) (fun _ hk => hk.2) (.slice Ao73 t617.length co73)) (fun _ h_ => h_.1))) hb); have n2_ := Aside0.mk (Kd.R_below (by (with_reducible repeat (apply Kd.R_drew)); exact (Kd.R_mono (Kd.R_far (p := ⟨gb621, 1, none⟩) (Kd.R_far (p := ⟨gb621, 0, none⟩) (Kd.R_types HO603.out BK621.out (by decide)) (fun _ hk => hk.2) (.int .i64 t616)) (fun _ hk => hk.2) (.slice Ao73 t617.length co73)) (fun _ h_ => h_.1))) hb); have n3_ := Aside0.mk (Kd.R_below (by (with_reducible repeat (apply Kd.R_drew)); exact (Kd.R_mono (Kd.R_far (p := ⟨gb621, 1, none⟩) (Kd.R_far (p := ⟨gb621, 0, none⟩) (Kd.R_types HO609.out BK621.out (by decide)) (fun _ hk => hk.2) (.int .i64 t616)) (fun _ hk => hk.2) (.slice Ao73 t617.length co73)) (fun _ h_ => h_.1))) hb); have n4_ := Aside0.mk (Kd.R_below (by (with_reducible repeat (apply Kd.R_drew)); exact (Kd.R_mono (Kd.R_far (p := ⟨gb621, 1, none⟩) (Kd.R_far (p := ⟨gb621, 0, none⟩) (Kd.R_types HO614.out BK621.out (by decide)) (fun _ hk => hk.2) (.int .i64 t616)) (fun _ hk => hk.2) (.slice Ao73 t617.length co73)) (fun _ h_ => h_.1))) hb); have n5_ := Aside0.mk (Kd.R_below (by (with_reducible repeat (apply Kd.R_drew)); exact (Kd.R_mono (Kd.R_far (p := ⟨gb621, 1, none⟩) (Kd.R_far (p := ⟨gb621, 0, none⟩) (Kd.R_types HO619.out BK621.out (by decide)) (fun _ hk => hk.2) (.int .i64 t616)) (fun _ hk => hk.2) (.slice Ao73 t617.length co73)) (fun _ h_ => h_.1))) hb); have n6_ := Aside0.mk (blk_below (g := gb588) (o := .cells #[.int .i64 a0_0, .slice A0_1 l0_1.length c0_1] 24 (0, 0)) (by (with_reducible repeat (refine blk_drew ?_)); refine blk_far ?_ NB588_621.out _; (with_reducible repeat (refine blk_drew ?_)); refine blk_far ?_ NB588_621.out _; (with_reducible repeat (refine blk_drew ?_)); exact BK588.out) hb); have n7_ := Aside0.mk (blk_below (g := gb589) (o := .cells #[.int .i64 a1_0, .slice A1_1 l1_1.length c1_1] 24 (0, 0)) (by (with_reducible repeat (refine blk_drew ?_)); refine blk_far ?_ NB589_621.out _; (with_reducible repeat (refine blk_drew ?_)); refine blk_far ?_ NB589_621.out _; (with_reducible repeat (refine blk_drew ?_)); exact BK589.out) hb); have n8_ := Aside0.mk (blk_below (g := gb605) (o := .cells #[.int .i64 t600, .slice Ao42 t601.length co42] 28 (0, 0)) (by (with_reducible repeat (refine blk_drew ?_)); refine blk_far ?_ NB605_621.out _; (with_reducible repeat (refine blk_drew ?_)); refine blk_far ?_ NB605_621.out _; (with_reducible repeat (refine blk_drew ?_)); exact BK605.out) hb); have n9_ := Aside0.mk (blk_below (g := gb610) (o := .cells #[.int .i64 t606, .slice Ao53 t607.length co53] 28 (0, 0)) (by (with_reducible repeat (refine blk_drew ?_)); refine blk_far ?_ NB610_621.out _; (with_reducible repeat (refine blk_drew ?_)); refine blk_far ?_ NB610_621.out _; (with_reducible repeat (refine blk_drew ?_)); exact BK610.out) hb); have n10_ := Aside0.mk (blk_below (g := gb615) (o := .cells #[.int .i64 t611, .slice Ao63 t612.length co63] 28 (0, 0)) (by (with_reducible repeat (refine blk_drew ?_)); refine blk_far ?_ NB615_621.out _; (with_reducible repeat (refine blk_drew ?_)); refine blk_far ?_ NB615_621.out _; (with_reducible repeat (refine blk_drew ?_)); exact BK615.out) hb); have n11_ := Aside0.mk (blk_below (g := gb621) (o := .cells #[.int .i64 t616, .slice Ao73 t617.length co73] 28 (0, 0)) (by (with_reducible repeat (refine blk_drew ?_)); refine blk_put (cs := #[.int .i64 t616, .slice none 0 0]) ?_ 1 _ rfl; (with_reducible repeat (refine blk_drew ?_)); refine blk_put (cs := #[.int .i64 0, .slice none 0 0]) ?_ 0 _ rfl; (with_reducible repeat (refine blk_drew ?_)); exact BK621.out) hb); have n12_ := Aside0.mk (below_step (by repeat ((with_reducible first | exact HB.out | refine below_set ?_ GE621.out))) hb); clear HO595; clear HO599; clear HO603; clear HO609; clear HO614; clear HO619; clear BK588; clear BK589; clear BK605; clear BK610; clear BK615; clear BK621; clear HB; have HO595 := n0_; have HO599 := n1_; have HO603 := n2_; have HO609 := n3_; have HO614 := n4_; have HO619 := n5_; have BK588 := n6_; have BK589 := n7_; have BK605 := n8_; have BK610 := n9_; have BK615 := n10_; have BK621 := n11_; have HB := n12_; clear n0_ n1_ n2_ n3_ n4_ n5_ n6_ n7_ n8_ n9_ n10_ n11_ n12_; (try clear hb); skip))
     go_meet
     case rel => exact ⟨_, ((t620 != t604)), (by rfl), H', ⟨by omega⟩, ⟨by (with_reducible repeat (apply Kd.R_drew)); exact Kd.R_mono HO603.out (fun _ hk => ⟨hk.1.1.2, ⟨hk.1.2, hk.2⟩⟩)⟩, ⟨by (with_reducible repeat (apply Kd.R_drew)); exact Kd.R_mono HO609.out (fun _ hk => ⟨hk.1.1.2, ⟨hk.1.2, hk.2⟩⟩)⟩, ⟨by (with_reducible repeat (apply Kd.R_drew)); exact Kd.R_mono HO614.out (fun _ hk => ⟨hk.1.1.2, ⟨hk.1.2, hk.2⟩⟩)⟩, ⟨by (with_reducible repeat (apply Kd.R_drew)); exact Kd.R_mono HO619.out (fun _ hk => ⟨hk.1.1.2, ⟨hk.1.2, hk.2⟩⟩)⟩, ⟨by (with_reducible repeat (refine blk_drew ?_)); exact BK588.out⟩, ⟨by (with_reducible repeat (refine blk_drew ?_)); exact BK589.out⟩, ⟨by (with_reducible repeat (refine blk_drew ?_)); exact BK605.out⟩, ⟨by (with_reducible repeat (refine blk_drew ?_)); exact BK610.out⟩, ⟨by (with_reducible repeat (refine blk_drew ?_)); exact BK615.out⟩, ⟨by (with_reducible repeat (refine blk_drew ?_)); exact BK621.out⟩, ⟨by repeat ((with_reducible exact HB.out))⟩⟩
    ·replace c75 := Bool.eq_false_iff.mpr c75
     subst c75
     have H1 : (laws_FnExactUnionSpaces.j0 k t604 t620 true a0_0 l0_1 a1_0 l1_1 t600 t601 t606 t607 t611 t612 t616 t617) = some r := by rw [if_neg (show ¬ (false = true) by decide)] at H; exact H
     clear H
     have H := H1
     clear H1
     have H' := Aside0.mk H
     clear H
     have hnb88 := NB621_588.out
     have hnc88 := NB588_621.out
     have hnb89 := NB621_589.out
     have hnc89 := NB589_621.out
     have hnb90 := NB621_605.out
     have hnc90 := NB605_621.out
     have hnb91 := NB621_610.out
     have hnc91 := NB610_621.out
     have hnb92 := NB621_615.out
     have hnc92 := NB615_621.out
     have hcz93_0 : w66.cell? ⟨gb621, 0, none⟩ = some (.int .i64 0) := (blk_cell BK621.out 0).trans rfl
     have hcz93_1 : w66.cell? ⟨gb621, 1, none⟩ = some (.slice none 0 0) := (blk_cell BK621.out 1).trans rfl
     have hfz93_0 := blk_frozen BK621.out 0
     have hfz93_1 := blk_frozen BK621.out 1
     have hnb94 := NB605_588.out
     have hnc94 := NB588_605.out
     have hnb95 := NB605_589.out
     have hnc95 := NB589_605.out
     have hnb96 := NB605_610.out
     have hnc96 := NB610_605.out
     have hnb97 := NB605_615.out
     have hnc97 := NB615_605.out
     have hcz98_0 : w66.cell? ⟨gb605, 0, none⟩ = some (.int .i64 t600) := (blk_cell BK605.out 0).trans rfl
     have hcz98_1 : w66.cell? ⟨gb605, 1, none⟩ = some (.slice Ao42 t601.length co42) := (blk_cell BK605.out 1).trans rfl
     have hfz98_0 := blk_frozen BK605.out 0
     have hfz98_1 := blk_frozen BK605.out 1
     go_wp2_with (((with_reducible refine gate_callee (f := 15) rfl ?_); refine goesL_ (some 47) rfl rfl Try.func15 (by kernel_rfl) rfl #[.agg #[.int .i64 t616, .slice Ao73 t617.length co73], .agg #[.int .i64 t600, .slice Ao42 t601.length co42]] rfl (by (try simp only [List.map_toArray, List.map_cons, List.map_nil]); rfl) ?_; (with_reducible refine (laws_eqSpace.calls k t616 _ _ t617 t600 _ _ t601 false _ ?side1 ?side2 ?side3 ?side4 A74.out).mono ?_); (case side1 => refine (Kd.R_reads' (e := 3) (base := w.heap.size) (ok := fun k_ => (((((True ∧ some k_ ≠ (v594 : Value).ownBlock) ∧ some k_ ≠ (v598 : Value).ownBlock) ∧ some k_ ≠ (.slice Ao42 t601.length co42 : Value).ownBlock) ∧ some k_ ≠ (.slice Ao53 t607.length co53 : Value).ownBlock) ∧ some k_ ≠ (.slice Ao63 t612.length co63 : Value).ownBlock)) (n := t617.length) (c := co73) ?_).2.2; exact (by (with_reducible repeat (apply Kd.R_drew)); exact (Kd.R_mono (Kd.R_far (p := ⟨gb621, 1, none⟩) (Kd.R_far (p := ⟨gb621, 0, none⟩) (Kd.R_types HO619.out BK621.out (by decide)) (fun _ hk => hk.2) (.int .i64 t616)) (fun _ hk => hk.2) (.slice Ao73 t617.length co73)) (fun _ h_ => h_.1)))); (case side2 => exact (Kd.R_reads' HO619.out).2.1); (case side3 => refine (Kd.R_reads' (e := 3) (base := w.heap.size) (ok := fun k_ => ((((some k_ ≠ (v594 : Value).ownBlock ∧ some k_ ≠ (v598 : Value).ownBlock) ∧ some k_ ≠ (.slice Ao53 t607.length co53 : Value).ownBlock) ∧ some k_ ≠ (.slice Ao63 t612.length co63 : Value).ownBlock) ∧ some k_ ≠ (.slice Ao73 t617.length co73 : Value).ownBlock)) (n := t601.length) (c := co42) ?_).2.2; exact (by (with_reducible repeat (apply Kd.R_drew)); exact (Kd.R_mono (Kd.R_far (p := ⟨gb621, 1, none⟩) (Kd.R_far (p := ⟨gb621, 0, none⟩) (Kd.R_types HO603.out BK621.out (by decide)) (fun _ hk => hk.2) (.int .i64 t616)) (fun _ hk => hk.2) (.slice Ao73 t617.length co73)) (fun _ h_ => h_.1)))); (case side4 => exact (Kd.R_reads' HO603.out).2.1); rintro e w99 ⟨rfl, hb⟩; refine ⟨_, rfl, ?_⟩; have n0_ := Aside0.mk (Kd.R_below (by (with_reducible repeat (apply Kd.R_drew)); exact (Kd.R_mono (Kd.R_far (p := ⟨gb621, 1, none⟩) (Kd.R_far (p := ⟨gb621, 0, none⟩) (Kd.R_types HO595.out BK621.out (by decide)) (fun _ hk => hk.2) (.int .i64 t616)) (fun _ hk => hk.2) (.slice Ao73 t617.length co73)) (fun _ h_ => h_.1))) hb); have n1_ := Aside0.mk (Kd.R_below (by (with_reducible repeat (apply Kd.R_drew)); exact (Kd.R_mono (Kd.R_far (p := ⟨gb621, 1, none⟩) (Kd.R_far (p := ⟨gb621, 0, none⟩) (Kd.R_types HO599.out BK621.out (by decide)) (fun _ hk => hk.2) (.int .i64 t616)) (fun _ hk => hk.2) (.slice Ao73 t617.length co73)) (fun _ h_ => h_.1))) hb); have n2_ := Aside0.mk (Kd.R_below (by (with_reducible repeat (apply Kd.R_drew)); exact (Kd.R_mono (Kd.R_far (p := ⟨gb621, 1, none⟩) (Kd.R_far (p := ⟨gb621, 0, none⟩) (Kd.R_types HO603.out BK621.out (by decide)) (fun _ hk => hk.2) (.int .i64 t616)) (fun _ hk => hk.2) (.slice Ao73 t617.length co73)) (fun _ h_ => h_.1))) hb); have n3_ := Aside0.mk (Kd.R_below (by (with_reducible repeat (apply Kd.R_drew)); exact (Kd.R_mono (Kd.R_far (p := ⟨gb621, 1, none⟩) (Kd.R_far (p := ⟨gb621, 0, none⟩) (Kd.R_types HO609.out BK621.out (by decide)) (fun _ hk => hk.2) (.int .i64 t616)) (fun _ hk => hk.2) (.slice Ao73 t617.length co73)) (fun _ h_ => h_.1))) hb); have n4_ := Aside0.mk (Kd.R_below (by (with_reducible repeat (apply Kd.R_drew)); exact (Kd.R_mono (Kd.R_far (p := ⟨gb621, 1, none⟩) (Kd.R_far (p := ⟨gb621, 0, none⟩) (Kd.R_types HO614.out BK621.out (by decide)) (fun _ hk => hk.2) (.int .i64 t616)) (fun _ hk => hk.2) (.slice Ao73 t617.length co73)) (fun _ h_ => h_.1))) hb); have n5_ := Aside0.mk (Kd.R_below (by (with_reducible repeat (apply Kd.R_drew)); exact (Kd.R_mono (Kd.R_far (p := ⟨gb621, 1, none⟩) (Kd.R_far (p := ⟨gb621, 0, none⟩) (Kd.R_types HO619.out BK621.out (by decide)) (fun _ hk => hk.2) (.int .i64 t616)) (fun _ hk => hk.2) (.slice Ao73 t617.length co73)) (fun _ h_ => h_.1))) hb); have n6_ := Aside0.mk (blk_below (g := gb588) (o := .cells #[.int .i64 a0_0, .slice A0_1 l0_1.length c0_1] 24 (0, 0)) (by (with_reducible repeat (refine blk_drew ?_)); refine blk_far ?_ NB588_621.out _; (with_reducible repeat (refine blk_drew ?_)); refine blk_far ?_ NB588_621.out _; (with_reducible repeat (refine blk_drew ?_)); exact BK588.out) hb); have n7_ := Aside0.mk (blk_below (g := gb589) (o := .cells #[.int .i64 a1_0, .slice A1_1 l1_1.length c1_1] 24 (0, 0)) (by (with_reducible repeat (refine blk_drew ?_)); refine blk_far ?_ NB589_621.out _; (with_reducible repeat (refine blk_drew ?_)); refine blk_far ?_ NB589_621.out _; (with_reducible repeat (refine blk_drew ?_)); exact BK589.out) hb); have n8_ := Aside0.mk (blk_below (g := gb605) (o := .cells #[.int .i64 t600, .slice Ao42 t601.length co42] 28 (0, 0)) (by (with_reducible repeat (refine blk_drew ?_)); refine blk_far ?_ NB605_621.out _; (with_reducible repeat (refine blk_drew ?_)); refine blk_far ?_ NB605_621.out _; (with_reducible repeat (refine blk_drew ?_)); exact BK605.out) hb); have n9_ := Aside0.mk (blk_below (g := gb610) (o := .cells #[.int .i64 t606, .slice Ao53 t607.length co53] 28 (0, 0)) (by (with_reducible repeat (refine blk_drew ?_)); refine blk_far ?_ NB610_621.out _; (with_reducible repeat (refine blk_drew ?_)); refine blk_far ?_ NB610_621.out _; (with_reducible repeat (refine blk_drew ?_)); exact BK610.out) hb); have n10_ := Aside0.mk (blk_below (g := gb615) (o := .cells #[.int .i64 t611, .slice Ao63 t612.length co63] 28 (0, 0)) (by (with_reducible repeat (refine blk_drew ?_)); refine blk_far ?_ NB615_621.out _; (with_reducible repeat (refine blk_drew ?_)); refine blk_far ?_ NB615_621.out _; (with_reducible repeat (refine blk_drew ?_)); exact BK615.out) hb); have n11_ := Aside0.mk (blk_below (g := gb621) (o := .cells #[.int .i64 t616, .slice Ao73 t617.length co73] 28 (0, 0)) (by (with_reducible repeat (refine blk_drew ?_)); refine blk_put (cs := #[.int .i64 t616, .slice none 0 0]) ?_ 1 _ rfl; (with_reducible repeat (refine blk_drew ?_)); refine blk_put (cs := #[.int .i64 0, .slice none 0 0]) ?_ 0 _ rfl; (with_reducible repeat (refine blk_drew ?_)); exact BK621.out) hb); have n12_ := Aside0.mk (below_step (by repeat ((with_reducible first | exact HB.out | refine below_set ?_ GE621.out))) hb); clear HO595; clear HO599; clear HO603; clear HO609; clear HO614; clear HO619; clear BK588; clear BK589; clear BK605; clear BK610; clear BK615; clear BK621; clear HB; have HO595 := n0_; have HO599 := n1_; have HO603 := n2_; have HO609 := n3_; have HO614 := n4_; have HO619 := n5_; have BK588 := n6_; have BK589 := n7_; have BK605 := n8_; have BK610 := n9_; have BK615 := n10_; have BK621 := n11_; have HB := n12_; clear n0_ n1_ n2_ n3_ n4_ n5_ n6_ n7_ n8_ n9_ n10_ n11_ n12_; (try clear hb); skip))
     go_meet
     case rel => exact ⟨_, (true), (by rfl), H', ⟨by omega⟩, ⟨by (with_reducible repeat (apply Kd.R_drew)); exact Kd.R_mono HO603.out (fun _ hk => ⟨hk.1.1.2, ⟨hk.1.2, hk.2⟩⟩)⟩, ⟨by (with_reducible repeat (apply Kd.R_drew)); exact Kd.R_mono HO609.out (fun _ hk => ⟨hk.1.1.2, ⟨hk.1.2, hk.2⟩⟩)⟩, ⟨by (with_reducible repeat (apply Kd.R_drew)); exact Kd.R_mono HO614.out (fun _ hk => ⟨hk.1.1.2, ⟨hk.1.2, hk.2⟩⟩)⟩, ⟨by (with_reducible repeat (apply Kd.R_drew)); exact Kd.R_mono HO619.out (fun _ hk => ⟨hk.1.1.2, ⟨hk.1.2, hk.2⟩⟩)⟩, ⟨by (with_reducible repeat (refine blk_drew ?_)); exact BK588.out⟩, ⟨by (with_reducible repeat (refine blk_drew ?_)); exact BK589.out⟩, ⟨by (with_reducible repeat (refine blk_drew ?_)); exact BK605.out⟩, ⟨by (with_reducible repeat (refine blk_drew ?_)); exact BK610.out⟩, ⟨by (with_reducible repeat (refine blk_drew ?_)); exact BK615.out⟩, ⟨by (with_reducible repeat (refine blk_drew ?_)); exact BK621.out⟩, ⟨by repeat ((with_reducible exact HB.out))⟩⟩
   case rest =>
    clear HC25
    try clear c1
    try clear c2
    try clear p2
    try clear c3
    try clear c4
    try clear c5
    try clear c6
    try clear c7
    try clear c8
    try clear c9
    try clear c12
    try clear c15
    try clear c29
    try clear c30
    try clear c45
    try clear c49
    try clear c50
    try clear c51
    try clear c54
    try clear c58
    try clear c59
    try clear c60
    try clear c61
    try clear c67
    try clear c68
    try clear c69
    try clear c70
    try clear c71
    try clear c75
    try clear c76
    try clear c77
    try clear c78
    try clear c79
    try clear c80
    try clear c82
    try clear c83
    try clear c84
    try clear c85
    try clear c88
    try clear c89
    try clear c90
    try clear c91
    try clear c92
    try clear c94
    try clear c95
    try clear c96
    try clear c97
    try clear hcz46_0
    try clear hcz46_1
    try clear hcz52_0
    try clear hcz52_1
    try clear hcz55_0
    try clear hcz55_1
    try clear hcz62_0
    try clear hcz62_1
    try clear hcz64_0
    try clear hcz64_1
    try clear hcz72_0
    try clear hcz72_1
    try clear hcz81_0
    try clear hcz81_1
    try clear hcz86_0
    try clear hcz86_1
    try clear hcz93_0
    try clear hcz93_1
    try clear hcz98_0
    try clear hcz98_1
    try clear hfz46_0
    try clear hfz46_1
    try clear hfz52_0
    try clear hfz52_1
    try clear hfz55_0
    try clear hfz55_1
    try clear hfz62_0
    try clear hfz62_1
    try clear hfz64_0
    try clear hfz64_1
    try clear hfz72_0
    try clear hfz72_1
    try clear hfz81_0
    try clear hfz81_1
    try clear hfz86_0
    try clear hfz86_1
    try clear hfz93_0
    try clear hfz93_1
    try clear hfz98_0
    try clear hfz98_1
    obtain ⟨kq, x53_24, rfl, HA, HJ24, HO_606001, HO_611001, HO_616001, HO_622001, BK588, BK589, BK605, BK610, BK615, BK621, HB⟩ := hcut
    cases kq with
    | zero => exact absurd HA.out (by simp [laws_FnExactUnionSpaces.j0])
    | succ kj24 =>
     have H := HA.out
     clear HA
     simp only [laws_FnExactUnionSpaces.j0] at H
     by_cases c100 : x53_24 = true
     ·subst c100
      have H1 : (some false) = some r := by rw [if_pos rfl] at H; exact H
      clear H
      have H := H1
      clear H1
      obtain rfl := Option.some.inj H
      go_wp2
      go_ret
      exact ⟨by rfl, by repeat ((with_reducible exact HB.out))⟩
     ·replace c100 := Bool.eq_false_iff.mpr c100
      subst c100
      have H1 : ((laws_toSpace.f kj24 a0_0 l0_1).bind fun bt623 => ((laws_eqSpace.f kj24 t606 t607 bt623.1 bt623.2).bind fun t627 => (if t627 = true then ((laws_toSpace.f kj24 a1_0 l1_1).bind fun bt628 => ((laws_eqSpace.f kj24 t611 t612 bt628.1 bt628.2).bind fun t632 => (if t632 = true then ((laws_markSpace.f kj24 t606 t607 1).bind fun bt633 => ((laws_markSpace.f kj24 t611 t612 bt633.1).bind fun bt635 => (if bt635.1 < 0 then (laws_FnExactUnionSpaces.j1 kj24 t604 true a0_0 l0_1 a1_0 l1_1 t600 t601 t616 t617) else ((laws_eqSpace.f kj24 t616 t617 t600 t601).bind fun t637 => (if t637 = true then (laws_FnExactUnionSpaces.j1 kj24 t604 (t620 != t604) a0_0 l0_1 a1_0 l1_1 t600 t601 t616 t617) else (laws_FnExactUnionSpaces.j1 kj24 t604 true a0_0 l0_1 a1_0 l1_1 t600 t601 t616 t617)))))) else (some false)))) else (some false)))) = some r := by rw [if_neg (show ¬ (false = true) by decide)] at H; exact H
      clear H
      have H := H1
      clear H1
      replace H := Option.bind_eq_some_iff.mp H
      obtain ⟨⟨t623, t624⟩, A1010, H⟩ := H
      replace H : ((laws_eqSpace.f kj24 t606 t607 t623 t624).bind fun t627 => (if t627 = true then ((laws_toSpace.f kj24 a1_0 l1_1).bind fun bt628 => ((laws_eqSpace.f kj24 t611 t612 bt628.1 bt628.2).bind fun t632 => (if t632 = true then ((laws_markSpace.f kj24 t606 t607 1).bind fun bt633 => ((laws_markSpace.f kj24 t611 t612 bt633.1).bind fun bt635 => (if bt635.1 < 0 then (laws_FnExactUnionSpaces.j1 kj24 t604 true a0_0 l0_1 a1_0 l1_1 t600 t601 t616 t617) else ((laws_eqSpace.f kj24 t616 t617 t600 t601).bind fun t637 => (if t637 = true then (laws_FnExactUnionSpaces.j1 kj24 t604 (t620 != t604) a0_0 l0_1 a1_0 l1_1 t600 t601 t616 t617) else (laws_FnExactUnionSpaces.j1 kj24 t604 true a0_0 l0_1 a1_0 l1_1 t600 t601 t616 t617)))))) else (some false)))) else (some false))) = some r := H
      have A101 := Aside0.mk A1010
      clear A1010
      replace H := Option.bind_eq_some_iff.mp H
      obtain ⟨t627, A1020, H⟩ := H
      replace H : (if t627 = true then ((laws_toSpace.f kj24 a1_0 l1_1).bind fun bt628 => ((laws_eqSpace.f kj24 t611 t612 bt628.1 bt628.2).bind fun t632 => (if t632 = true then ((laws_markSpace.f kj24 t606 t607 1).bind fun bt633 => ((laws_markSpace.f kj24 t611 t612 bt633.1).bind fun bt635 => (if bt635.1 < 0 then (laws_FnExactUnionSpaces.j1 kj24 t604 true a0_0 l0_1 a1_0 l1_1 t600 t601 t616 t617) else ((laws_eqSpace.f kj24 t616 t617 t600 t601).bind fun t637 => (if t637 = true then (laws_FnExactUnionSpaces.j1 kj24 t604 (t620 != t604) a0_0 l0_1 a1_0 l1_1 t600 t601 t616 t617) else (laws_FnExactUnionSpaces.j1 kj24 t604 true a0_0 l0_1 a1_0 l1_1 t600 t601 t616 t617)))))) else (some false)))) else (some false)) = some r := H
      have A102 := Aside0.mk A1020
      clear A1020
      by_cases c103 : t627 = true
      ·subst c103
       have H1 : ((laws_toSpace.f kj24 a1_0 l1_1).bind fun bt628 => ((laws_eqSpace.f kj24 t611 t612 bt628.1 bt628.2).bind fun t632 => (if t632 = true then ((laws_markSpace.f kj24 t606 t607 1).bind fun bt633 => ((laws_markSpace.f kj24 t611 t612 bt633.1).bind fun bt635 => (if bt635.1 < 0 then (laws_FnExactUnionSpaces.j1 kj24 t604 true a0_0 l0_1 a1_0 l1_1 t600 t601 t616 t617) else ((laws_eqSpace.f kj24 t616 t617 t600 t601).bind fun t637 => (if t637 = true then (laws_FnExactUnionSpaces.j1 kj24 t604 (t620 != t604) a0_0 l0_1 a1_0 l1_1 t600 t601 t616 t617) else (laws_FnExactUnionSpaces.j1 kj24 t604 true a0_0 l0_1 a1_0 l1_1 t600 t601 t616 t617)))))) else (some false)))) = some r := by rw [if_pos rfl] at H; exact H
       clear H
       have H := H1
       clear H1
       replace H := Option.bind_eq_some_iff.mp H
       obtain ⟨⟨t628, t629⟩, A1040, H⟩ := H
       replace H : ((laws_eqSpace.f kj24 t611 t612 t628 t629).bind fun t632 => (if t632 = true then ((laws_markSpace.f kj24 t606 t607 1).bind fun bt633 => ((laws_markSpace.f kj24 t611 t612 bt633.1).bind fun bt635 => (if bt635.1 < 0 then (laws_FnExactUnionSpaces.j1 kj24 t604 true a0_0 l0_1 a1_0 l1_1 t600 t601 t616 t617) else ((laws_eqSpace.f kj24 t616 t617 t600 t601).bind fun t637 => (if t637 = true then (laws_FnExactUnionSpaces.j1 kj24 t604 (t620 != t604) a0_0 l0_1 a1_0 l1_1 t600 t601 t616 t617) else (laws_FnExactUnionSpaces.j1 kj24 t604 true a0_0 l0_1 a1_0 l1_1 t600 t601 t616 t617)))))) else (some false))) = some r := H
       have A104 := Aside0.mk A1040
       clear A1040
       replace H := Option.bind_eq_some_iff.mp H
       obtain ⟨t632, A1050, H⟩ := H
       replace H : (if t632 = true then ((laws_markSpace.f kj24 t606 t607 1).bind fun bt633 => ((laws_markSpace.f kj24 t611 t612 bt633.1).bind fun bt635 => (if bt635.1 < 0 then (laws_FnExactUnionSpaces.j1 kj24 t604 true a0_0 l0_1 a1_0 l1_1 t600 t601 t616 t617) else ((laws_eqSpace.f kj24 t616 t617 t600 t601).bind fun t637 => (if t637 = true then (laws_FnExactUnionSpaces.j1 kj24 t604 (t620 != t604) a0_0 l0_1 a1_0 l1_1 t600 t601 t616 t617) else (laws_FnExactUnionSpaces.j1 kj24 t604 true a0_0 l0_1 a1_0 l1_1 t600 t601 t616 t617)))))) else (some false)) = some r := H
       have A105 := Aside0.mk A1050
       clear A1050
       by_cases c106 : t632 = true
       ·subst c106
        have H1 : ((laws_markSpace.f kj24 t606 t607 1).bind fun bt633 => ((laws_markSpace.f kj24 t611 t612 bt633.1).bind fun bt635 => (if bt635.1 < 0 then (laws_FnExactUnionSpaces.j1 kj24 t604 true a0_0 l0_1 a1_0 l1_1 t600 t601 t616 t617) else ((laws_eqSpace.f kj24 t616 t617 t600 t601).bind fun t637 => (if t637 = true then (laws_FnExactUnionSpaces.j1 kj24 t604 (t620 != t604) a0_0 l0_1 a1_0 l1_1 t600 t601 t616 t617) else (laws_FnExactUnionSpaces.j1 kj24 t604 true a0_0 l0_1 a1_0 l1_1 t600 t601 t616 t617)))))) = some r := by rw [if_pos rfl] at H; exact H
        clear H
        have H := H1
        clear H1
        replace H := Option.bind_eq_some_iff.mp H
        obtain ⟨⟨t633, t634⟩, A1070, H⟩ := H
        replace H : ((laws_markSpace.f kj24 t611 t612 t633).bind fun bt635 => (if bt635.1 < 0 then (laws_FnExactUnionSpaces.j1 kj24 t604 true a0_0 l0_1 a1_0 l1_1 t600 t601 t616 t617) else ((laws_eqSpace.f kj24 t616 t617 t600 t601).bind fun t637 => (if t637 = true then (laws_FnExactUnionSpaces.j1 kj24 t604 (t620 != t604) a0_0 l0_1 a1_0 l1_1 t600 t601 t616 t617) else (laws_FnExactUnionSpaces.j1 kj24 t604 true a0_0 l0_1 a1_0 l1_1 t600 t601 t616 t617))))) = some r := H
        have A107 := Aside0.mk A1070
        clear A1070
        replace H := Option.bind_eq_some_iff.mp H
        obtain ⟨⟨t635, t636⟩, A1080, H⟩ := H
        replace H : (if t635 < 0 then (laws_FnExactUnionSpaces.j1 kj24 t604 true a0_0 l0_1 a1_0 l1_1 t600 t601 t616 t617) else ((laws_eqSpace.f kj24 t616 t617 t600 t601).bind fun t637 => (if t637 = true then (laws_FnExactUnionSpaces.j1 kj24 t604 (t620 != t604) a0_0 l0_1 a1_0 l1_1 t600 t601 t616 t617) else (laws_FnExactUnionSpaces.j1 kj24 t604 true a0_0 l0_1 a1_0 l1_1 t600 t601 t616 t617)))) = some r := H
        have A108 := Aside0.mk A1080
        clear A1080
        have HC109 := Aside0.mk H
        clear H
        try go_wp2
        have n0_ := Aside0.mk (Kd.R_drew HO_606001.out)
        have n1_ := Aside0.mk (Kd.R_drew HO_611001.out)
        have n2_ := Aside0.mk (Kd.R_drew HO_616001.out)
        have n3_ := Aside0.mk (Kd.R_drew HO_622001.out)
        have n4_ := Aside0.mk (blk_drew BK588.out)
        have n5_ := Aside0.mk (blk_drew BK589.out)
        have n6_ := Aside0.mk (blk_drew BK605.out)
        have n7_ := Aside0.mk (blk_drew BK610.out)
        have n8_ := Aside0.mk (blk_drew BK615.out)
        have n9_ := Aside0.mk (blk_drew BK621.out)
        have n10_ := Aside0.mk (below_drew1 HB.out)
        clear HO_606001
        clear HO_611001
        clear HO_616001
        clear HO_622001
        clear BK588
        clear BK589
        clear BK605
        clear BK610
        clear BK615
        clear BK621
        clear HB
        have HO_606001 := n0_
        have HO_611001 := n1_
        have HO_616001 := n2_
        have HO_622001 := n3_
        have BK588 := n4_
        have BK589 := n5_
        have BK605 := n6_
        have BK610 := n7_
        have BK615 := n8_
        have BK621 := n9_
        have HB := n10_
        clear n0_ n1_ n2_ n3_ n4_ n5_ n6_ n7_ n8_ n9_ n10_
        refine start_ (n := 5) (S := fun w' => w'.cell? ⟨gb610, 0, none⟩ = some (.int .i64 t606) ∧ w'.cell? ⟨gb610, 1, none⟩ = some (.slice Ao53 t607.length co53) ∧ w'.cell? ⟨gb588, 0, none⟩ = some (.int .i64 a0_0) ∧ w'.cell? ⟨gb588, 1, none⟩ = some (.slice A0_1 l0_1.length c0_1)) (ds := []) #[false, false, false, false, false] (by kernel_rfl) rfl rfl ⟨(blk_cell BK610.out 0).trans rfl, (blk_cell BK610.out 1).trans rfl, (blk_cell BK588.out 0).trans rfl, (blk_cell BK588.out 1).trans rfl⟩ (fun hHeld => ?_)
        generalize wc.drew = w110 at HO_606001 HO_611001 HO_616001 HO_622001 BK588 BK589 BK605 BK610 BK615 BK621 HB hHeld ⊢
        refine take_ (i := 0) (N := some 54) (v := ?_) (a' := ?_) #[true, false, false, false, false] rfl rfl (by kernel_rfl) (fun _ _ _ h => h) (Or.inl ⟨by rfl, ?_⟩) hHeld ?_ ?_
        rotate_left
        ·rintro w' ⟨s0, s1, s2, s3⟩
         go_simp
         with_reducible rfl
        rotate_left
        ·simp only [Act.put, List.setIfInBounds_toArray, List.set_cons_zero, List.set_cons_succ, i64_w, i32_w]
         rfl
        refine take_ (i := 1) (N := some 55) (v := ?_) (a' := ?_) #[true, true, false, false, false] rfl rfl (by kernel_rfl) (fun _ _ _ h => h) (Or.inl ⟨by rfl, ?_⟩) hHeld ?_ ?_
        rotate_left
        ·rintro w' ⟨s0, s1, s2, s3⟩
         go_simp
         with_reducible rfl
        rotate_left
        ·simp only [Act.put, List.setIfInBounds_toArray, List.set_cons_zero, List.set_cons_succ, i64_w, i32_w]
         rfl
        refine one_ (i := 2) (N := some 56) #[true, true, true, false, false] rfl rfl (by kernel_rfl) (by decide) (fun K hK => ?_)
        refine goes_ Try.func12 (by kernel_rfl) rfl #[.agg #[.int .i64 a0_0, .slice A0_1 l0_1.length c0_1]] (by rfl) rfl rfl (by (try simp only [List.map_toArray, List.map_cons, List.map_nil]); rfl) ?_
        with_reducible refine (laws_toSpace.calls kj24 a0_0 _ _ l0_1 t623 t624 _ ?side1 ?side2 A101.out).mono ?_
        (case side1 => repeat (exact (Kd.C_below HR0_1.out HB.out)))
        (case side2 => exact HC0_1.out)
        rintro e w111 ⟨v625, rfl, ho0, hb⟩
        refine ⟨_, rfl, ?_⟩
        have n0_ := Aside0.mk (Kd.R_elder' (by (with_reducible repeat (apply Kd.R_drew)); exact HO_606001.out) (Kd.R_base ho0) hb)
        have n1_ := Aside0.mk (Kd.R_elder' (by (with_reducible repeat (apply Kd.R_drew)); exact HO_611001.out) (Kd.R_base ho0) hb)
        have n2_ := Aside0.mk (Kd.R_elder' (by (with_reducible repeat (apply Kd.R_drew)); exact HO_616001.out) (Kd.R_base ho0) hb)
        have n3_ := Aside0.mk (Kd.R_elder' (by (with_reducible repeat (apply Kd.R_drew)); exact HO_622001.out) (Kd.R_base ho0) hb)
        have n4_ := Aside0.mk (Kd.R_lower (Kd.R_new' (Kd.R_new' (Kd.R_new' (Kd.R_new' ho0 (Kd.R_lt (by (with_reducible repeat (apply Kd.R_drew)); exact HO_606001.out))) (Kd.R_lt (by (with_reducible repeat (apply Kd.R_drew)); exact HO_611001.out))) (Kd.R_lt (by (with_reducible repeat (apply Kd.R_drew)); exact HO_616001.out))) (Kd.R_lt (by (with_reducible repeat (apply Kd.R_drew)); exact HO_622001.out))) (below_size (by repeat ((with_reducible exact HB.out)))))
        have n5_ := Aside0.mk (blk_below (g := gb588) (o := .cells #[.int .i64 a0_0, .slice A0_1 l0_1.length c0_1] 24 (0, 0)) (by (with_reducible repeat (refine blk_drew ?_)); exact BK588.out) hb)
        have n6_ := Aside0.mk (blk_below (g := gb589) (o := .cells #[.int .i64 a1_0, .slice A1_1 l1_1.length c1_1] 24 (0, 0)) (by (with_reducible repeat (refine blk_drew ?_)); exact BK589.out) hb)
        have n7_ := Aside0.mk (blk_below (g := gb605) (o := .cells #[.int .i64 t600, .slice Ao42 t601.length co42] 28 (0, 0)) (by (with_reducible repeat (refine blk_drew ?_)); exact BK605.out) hb)
        have n8_ := Aside0.mk (blk_below (g := gb610) (o := .cells #[.int .i64 t606, .slice Ao53 t607.length co53] 28 (0, 0)) (by (with_reducible repeat (refine blk_drew ?_)); exact BK610.out) hb)
        have n9_ := Aside0.mk (blk_below (g := gb615) (o := .cells #[.int .i64 t611, .slice Ao63 t612.length co63] 28 (0, 0)) (by (with_reducible repeat (refine blk_drew ?_)); exact BK615.out) hb)
        have n10_ := Aside0.mk (blk_below (g := gb621) (o := .cells #[.int .i64 t616, .slice Ao73 t617.length co73] 28 (0, 0)) (by (with_reducible repeat (refine blk_drew ?_)); exact BK621.out) hb)
        have n11_ := Aside0.mk (below_step (by repeat ((with_reducible exact HB.out))) hb)
        clear HO_606001
        clear HO_611001
        clear HO_616001
        clear HO_622001
        clear BK588
        clear BK589
        clear BK605
        clear BK610
        clear BK615
        clear BK621
        clear HB
        have HO_606001 := n0_
        have HO_611001 := n1_
        have HO_616001 := n2_
        have HO_622001 := n3_
        have HO626 := n4_
        have BK588 := n5_
        have BK589 := n6_
        have BK605 := n7_
        have BK610 := n8_
        have BK615 := n9_
        have BK621 := n10_
        have HB := n11_
        clear n0_ n1_ n2_ n3_ n4_ n5_ n6_ n7_ n8_ n9_ n10_ n11_
        (try clear hb)
        skip
        skip
        skip
        (try clear ho0)
        obtain ⟨Ao112, co112, eo112⟩ := Kd.R_slice HO626.out
        (subst eo112)
        refine hK.out _ _ ⟨(blk_cell BK610.out 0).trans rfl, (blk_cell BK610.out 1).trans rfl, (blk_cell BK588.out 0).trans rfl, (blk_cell BK588.out 1).trans rfl⟩ (fun hHeld => ?_)
        clear hK K
        refine norm_ (a' := ?_) ?_ ?_
        rotate_left
        ·show Act.put _ (some 56) _ = _
         simp only [Act.put, List.setIfInBounds_toArray, List.set_cons_zero, List.set_cons_succ, i64_w, i32_w]
         rfl
        refine one_ (i := 3) (N := some 57) #[true, true, true, true, false] rfl rfl (by kernel_rfl) (by decide) (fun K hK => ?_)
        refine goes_ Try.func15 (by kernel_rfl) rfl #[.agg #[.int .i64 t606, .slice Ao53 t607.length co53], .agg #[.int .i64 t623, .slice Ao112 t624.length co112]] (by rfl) rfl rfl (by (try simp only [List.map_toArray, List.map_cons, List.map_nil]); rfl) ?_
        with_reducible refine (laws_eqSpace.calls kj24 t606 _ _ t607 t623 _ _ t624 true _ ?side1 ?side2 ?side3 ?side4 A102.out).mono ?_
        (case side1 => repeat (exact (Kd.R_reads' HO_611001.out).2.2))
        (case side2 => exact (Kd.R_reads' HO_611001.out).2.1)
        (case side3 => repeat (exact (Kd.R_reads' HO626.out).2.2))
        (case side4 => exact (Kd.R_reads' HO626.out).2.1)
        rintro e w113 ⟨rfl, hb⟩
        refine ⟨_, rfl, ?_⟩
        have n0_ := Aside0.mk (Kd.R_below (by (with_reducible repeat (apply Kd.R_drew)); exact HO_606001.out) hb)
        have n1_ := Aside0.mk (Kd.R_below (by (with_reducible repeat (apply Kd.R_drew)); exact HO_611001.out) hb)
        have n2_ := Aside0.mk (Kd.R_below (by (with_reducible repeat (apply Kd.R_drew)); exact HO_616001.out) hb)
        have n3_ := Aside0.mk (Kd.R_below (by (with_reducible repeat (apply Kd.R_drew)); exact HO_622001.out) hb)
        have n4_ := Aside0.mk (Kd.R_below (by (with_reducible repeat (apply Kd.R_drew)); exact HO626.out) hb)
        have n5_ := Aside0.mk (blk_below (g := gb588) (o := .cells #[.int .i64 a0_0, .slice A0_1 l0_1.length c0_1] 24 (0, 0)) (by (with_reducible repeat (refine blk_drew ?_)); exact BK588.out) hb)
        have n6_ := Aside0.mk (blk_below (g := gb589) (o := .cells #[.int .i64 a1_0, .slice A1_1 l1_1.length c1_1] 24 (0, 0)) (by (with_reducible repeat (refine blk_drew ?_)); exact BK589.out) hb)
        have n7_ := Aside0.mk (blk_below (g := gb605) (o := .cells #[.int .i64 t600, .slice Ao42 t601.length co42] 28 (0, 0)) (by (with_reducible repeat (refine blk_drew ?_)); exact BK605.out) hb)
        have n8_ := Aside0.mk (blk_below (g := gb610) (o := .cells #[.int .i64 t606, .slice Ao53 t607.length co53] 28 (0, 0)) (by (with_reducible repeat (refine blk_drew ?_)); exact BK610.out) hb)
        have n9_ := Aside0.mk (blk_below (g := gb615) (o := .cells #[.int .i64 t611, .slice Ao63 t612.length co63] 28 (0, 0)) (by (with_reducible repeat (refine blk_drew ?_)); exact BK615.out) hb)
        have n10_ := Aside0.mk (blk_below (g := gb621) (o := .cells #[.int .i64 t616, .slice Ao73 t617.length co73] 28 (0, 0)) (by (with_reducible repeat (refine blk_drew ?_)); exact BK621.out) hb)
        have n11_ := Aside0.mk (below_step (by repeat ((with_reducible exact HB.out))) hb)
        clear HO_606001
        clear HO_611001
        clear HO_616001
        clear HO_622001
        clear HO626
        clear BK588
        clear BK589
        clear BK605
        clear BK610
        clear BK615
        clear BK621
        clear HB
        have HO_606001 := n0_
        have HO_611001 := n1_
        have HO_616001 := n2_
        have HO_622001 := n3_
        have HO626 := n4_
        have BK588 := n5_
        have BK589 := n6_
        have BK605 := n7_
        have BK610 := n8_
        have BK615 := n9_
        have BK621 := n10_
        have HB := n11_
        clear n0_ n1_ n2_ n3_ n4_ n5_ n6_ n7_ n8_ n9_ n10_ n11_
        (try clear hb)
        skip
        skip
        skip
        refine hK.out _ _ ⟨(blk_cell BK610.out 0).trans rfl, (blk_cell BK610.out 1).trans rfl, (blk_cell BK588.out 0).trans rfl, (blk_cell BK588.out 1).trans rfl⟩ (fun hHeld => ?_)
        clear hK K
        refine norm_ (a' := ?_) ?_ ?_
        rotate_left
        ·show Act.put _ (some 57) _ = _
         simp only [Act.put, List.setIfInBounds_toArray, List.set_cons_zero, List.set_cons_succ, i64_w, i32_w]
         rfl
        refine pure_ (i := 4) (N := some 58) (v := ?_) (a' := ?_) #[true, true, true, true, true] rfl rfl (by kernel_rfl) (fun _ _ _ h => h) (Or.inl ⟨by rfl, ?_⟩) ?_ ?_
        rotate_left
        ·intro w'
         go_simp
         with_reducible rfl
        rotate_left
        ·simp only [Act.put, List.setIfInBounds_toArray, List.set_cons_zero, List.set_cons_succ, i64_w, i32_w]
         rfl
        refine done_ (by kernel_rfl) ?_
        try go_wp2
        have n0_ := Aside0.mk (Kd.R_drew HO_606001.out)
        have n1_ := Aside0.mk (Kd.R_drew HO_611001.out)
        have n2_ := Aside0.mk (Kd.R_drew HO_616001.out)
        have n3_ := Aside0.mk (Kd.R_drew HO_622001.out)
        have n4_ := Aside0.mk (Kd.R_drew HO626.out)
        have n5_ := Aside0.mk (blk_drew BK588.out)
        have n6_ := Aside0.mk (blk_drew BK589.out)
        have n7_ := Aside0.mk (blk_drew BK605.out)
        have n8_ := Aside0.mk (blk_drew BK610.out)
        have n9_ := Aside0.mk (blk_drew BK615.out)
        have n10_ := Aside0.mk (blk_drew BK621.out)
        have n11_ := Aside0.mk (below_drew1 HB.out)
        clear HO_606001
        clear HO_611001
        clear HO_616001
        clear HO_622001
        clear HO626
        clear BK588
        clear BK589
        clear BK605
        clear BK610
        clear BK615
        clear BK621
        clear HB
        have HO_606001 := n0_
        have HO_611001 := n1_
        have HO_616001 := n2_
        have HO_622001 := n3_
        have HO626 := n4_
        have BK588 := n5_
        have BK589 := n6_
        have BK605 := n7_
        have BK610 := n8_
        have BK615 := n9_
        have BK621 := n10_
        have HB := n11_
        clear n0_ n1_ n2_ n3_ n4_ n5_ n6_ n7_ n8_ n9_ n10_ n11_
        refine start_ (n := 5) (S := fun w' => w'.cell? ⟨gb615, 0, none⟩ = some (.int .i64 t611) ∧ w'.cell? ⟨gb615, 1, none⟩ = some (.slice Ao63 t612.length co63) ∧ w'.cell? ⟨gb589, 0, none⟩ = some (.int .i64 a1_0) ∧ w'.cell? ⟨gb589, 1, none⟩ = some (.slice A1_1 l1_1.length c1_1)) (ds := []) #[false, false, false, false, false] (by kernel_rfl) rfl rfl ⟨(blk_cell BK615.out 0).trans rfl, (blk_cell BK615.out 1).trans rfl, (blk_cell BK589.out 0).trans rfl, (blk_cell BK589.out 1).trans rfl⟩ (fun hHeld => ?_)
        generalize w113.drew = w114 at HO_606001 HO_611001 HO_616001 HO_622001 HO626 BK588 BK589 BK605 BK610 BK615 BK621 HB hHeld ⊢
        refine take_ (i := 0) (N := some 59) (v := ?_) (a' := ?_) #[true, false, false, false, false] rfl rfl (by kernel_rfl) (fun _ _ _ h => h) (Or.inl ⟨by rfl, ?_⟩) hHeld ?_ ?_
        rotate_left
        ·rintro w' ⟨s0, s1, s2, s3⟩
         go_simp
         with_reducible rfl
        rotate_left
        ·simp only [Act.put, List.setIfInBounds_toArray, List.set_cons_zero, List.set_cons_succ, i64_w, i32_w]
         rfl
        refine take_ (i := 1) (N := some 60) (v := ?_) (a' := ?_) #[true, true, false, false, false] rfl rfl (by kernel_rfl) (fun _ _ _ h => h) (Or.inl ⟨by rfl, ?_⟩) hHeld ?_ ?_
        rotate_left
        ·rintro w' ⟨s0, s1, s2, s3⟩
         go_simp
         with_reducible rfl
        rotate_left
        ·simp only [Act.put, List.setIfInBounds_toArray, List.set_cons_zero, List.set_cons_succ, i64_w, i32_w]
         rfl
        refine one_ (i := 2) (N := some 61) #[true, true, true, false, false] rfl rfl (by kernel_rfl) (by decide) (fun K hK => ?_)
        refine goes_ Try.func12 (by kernel_rfl) rfl #[.agg #[.int .i64 a1_0, .slice A1_1 l1_1.length c1_1]] (by rfl) rfl rfl (by (try simp only [List.map_toArray, List.map_cons, List.map_nil]); rfl) ?_
        with_reducible refine (laws_toSpace.calls kj24 a1_0 _ _ l1_1 t628 t629 _ ?side1 ?side2 A104.out).mono ?_
        (case side1 => repeat (exact (Kd.C_below HR1_1.out HB.out)))
        (case side2 => exact HC1_1.out)
        rintro e w115 ⟨v630, rfl, ho0, hb⟩
        refine ⟨_, rfl, ?_⟩
        have n0_ := Aside0.mk (Kd.R_elder' (by (with_reducible repeat (apply Kd.R_drew)); exact HO_606001.out) (Kd.R_base ho0) hb)
        have n1_ := Aside0.mk (Kd.R_elder' (by (with_reducible repeat (apply Kd.R_drew)); exact HO_611001.out) (Kd.R_base ho0) hb)
        have n2_ := Aside0.mk (Kd.R_elder' (by (with_reducible repeat (apply Kd.R_drew)); exact HO_616001.out) (Kd.R_base ho0) hb)
        have n3_ := Aside0.mk (Kd.R_elder' (by (with_reducible repeat (apply Kd.R_drew)); exact HO_622001.out) (Kd.R_base ho0) hb)
        have n4_ := Aside0.mk (Kd.R_elder' (by (with_reducible repeat (apply Kd.R_drew)); exact HO626.out) (Kd.R_base ho0) hb)
        have n5_ := Aside0.mk (Kd.R_lower (Kd.R_new' (Kd.R_new' (Kd.R_new' (Kd.R_new' (Kd.R_new' ho0 (Kd.R_lt (by (with_reducible repeat (apply Kd.R_drew)); exact HO_606001.out))) (Kd.R_lt (by (with_reducible repeat (apply Kd.R_drew)); exact HO_611001.out))) (Kd.R_lt (by (with_reducible repeat (apply Kd.R_drew)); exact HO_616001.out))) (Kd.R_lt (by (with_reducible repeat (apply Kd.R_drew)); exact HO_622001.out))) (Kd.R_lt (by (with_reducible repeat (apply Kd.R_drew)); exact HO626.out))) (below_size (by repeat ((with_reducible exact HB.out)))))
        have n6_ := Aside0.mk (blk_below (g := gb588) (o := .cells #[.int .i64 a0_0, .slice A0_1 l0_1.length c0_1] 24 (0, 0)) (by (with_reducible repeat (refine blk_drew ?_)); exact BK588.out) hb)
        have n7_ := Aside0.mk (blk_below (g := gb589) (o := .cells #[.int .i64 a1_0, .slice A1_1 l1_1.length c1_1] 24 (0, 0)) (by (with_reducible repeat (refine blk_drew ?_)); exact BK589.out) hb)
        have n8_ := Aside0.mk (blk_below (g := gb605) (o := .cells #[.int .i64 t600, .slice Ao42 t601.length co42] 28 (0, 0)) (by (with_reducible repeat (refine blk_drew ?_)); exact BK605.out) hb)
        have n9_ := Aside0.mk (blk_below (g := gb610) (o := .cells #[.int .i64 t606, .slice Ao53 t607.length co53] 28 (0, 0)) (by (with_reducible repeat (refine blk_drew ?_)); exact BK610.out) hb)
        have n10_ := Aside0.mk (blk_below (g := gb615) (o := .cells #[.int .i64 t611, .slice Ao63 t612.length co63] 28 (0, 0)) (by (with_reducible repeat (refine blk_drew ?_)); exact BK615.out) hb)
        have n11_ := Aside0.mk (blk_below (g := gb621) (o := .cells #[.int .i64 t616, .slice Ao73 t617.length co73] 28 (0, 0)) (by (with_reducible repeat (refine blk_drew ?_)); exact BK621.out) hb)
        have n12_ := Aside0.mk (below_step (by repeat ((with_reducible exact HB.out))) hb)
        clear HO_606001
        clear HO_611001
        clear HO_616001
        clear HO_622001
        clear HO626
        clear BK588
        clear BK589
        clear BK605
        clear BK610
        clear BK615
        clear BK621
        clear HB
        have HO_606001 := n0_
        have HO_611001 := n1_
        have HO_616001 := n2_
        have HO_622001 := n3_
        have HO626 := n4_
        have HO631 := n5_
        have BK588 := n6_
        have BK589 := n7_
        have BK605 := n8_
        have BK610 := n9_
        have BK615 := n10_
        have BK621 := n11_
        have HB := n12_
        clear n0_ n1_ n2_ n3_ n4_ n5_ n6_ n7_ n8_ n9_ n10_ n11_ n12_
        (try clear hb)
        skip
        skip
        skip
        (try clear ho0)
        obtain ⟨Ao116, co116, eo116⟩ := Kd.R_slice HO631.out
        (subst eo116)
        refine hK.out _ _ ⟨(blk_cell BK615.out 0).trans rfl, (blk_cell BK615.out 1).trans rfl, (blk_cell BK589.out 0).trans rfl, (blk_cell BK589.out 1).trans rfl⟩ (fun hHeld => ?_)
        clear hK K
        refine norm_ (a' := ?_) ?_ ?_
        rotate_left
        ·show Act.put _ (some 61) _ = _
         simp only [Act.put, List.setIfInBounds_toArray, List.set_cons_zero, List.set_cons_succ, i64_w, i32_w]
         rfl
        refine one_ (i := 3) (N := some 62) #[true, true, true, true, false] rfl rfl (by kernel_rfl) (by decide) (fun K hK => ?_)
        refine goes_ Try.func15 (by kernel_rfl) rfl #[.agg #[.int .i64 t611, .slice Ao63 t612.length co63], .agg #[.int .i64 t628, .slice Ao116 t629.length co116]] (by rfl) rfl rfl (by (try simp only [List.map_toArray, List.map_cons, List.map_nil]); rfl) ?_
        with_reducible refine (laws_eqSpace.calls kj24 t611 _ _ t612 t628 _ _ t629 true _ ?side1 ?side2 ?side3 ?side4 A105.out).mono ?_
        (case side1 => repeat (exact (Kd.R_reads' HO_616001.out).2.2))
        (case side2 => exact (Kd.R_reads' HO_616001.out).2.1)
        (case side3 => repeat (exact (Kd.R_reads' HO631.out).2.2))
        (case side4 => exact (Kd.R_reads' HO631.out).2.1)
        rintro e w117 ⟨rfl, hb⟩
        refine ⟨_, rfl, ?_⟩
        have n0_ := Aside0.mk (Kd.R_below (by (with_reducible repeat (apply Kd.R_drew)); exact HO_606001.out) hb)
        have n1_ := Aside0.mk (Kd.R_below (by (with_reducible repeat (apply Kd.R_drew)); exact HO_611001.out) hb)
        have n2_ := Aside0.mk (Kd.R_below (by (with_reducible repeat (apply Kd.R_drew)); exact HO_616001.out) hb)
        have n3_ := Aside0.mk (Kd.R_below (by (with_reducible repeat (apply Kd.R_drew)); exact HO_622001.out) hb)
        have n4_ := Aside0.mk (Kd.R_below (by (with_reducible repeat (apply Kd.R_drew)); exact HO626.out) hb)
        have n5_ := Aside0.mk (Kd.R_below (by (with_reducible repeat (apply Kd.R_drew)); exact HO631.out) hb)
        have n6_ := Aside0.mk (blk_below (g := gb588) (o := .cells #[.int .i64 a0_0, .slice A0_1 l0_1.length c0_1] 24 (0, 0)) (by (with_reducible repeat (refine blk_drew ?_)); exact BK588.out) hb)
        have n7_ := Aside0.mk (blk_below (g := gb589) (o := .cells #[.int .i64 a1_0, .slice A1_1 l1_1.length c1_1] 24 (0, 0)) (by (with_reducible repeat (refine blk_drew ?_)); exact BK589.out) hb)
        have n8_ := Aside0.mk (blk_below (g := gb605) (o := .cells #[.int .i64 t600, .slice Ao42 t601.length co42] 28 (0, 0)) (by (with_reducible repeat (refine blk_drew ?_)); exact BK605.out) hb)
        have n9_ := Aside0.mk (blk_below (g := gb610) (o := .cells #[.int .i64 t606, .slice Ao53 t607.length co53] 28 (0, 0)) (by (with_reducible repeat (refine blk_drew ?_)); exact BK610.out) hb)
        have n10_ := Aside0.mk (blk_below (g := gb615) (o := .cells #[.int .i64 t611, .slice Ao63 t612.length co63] 28 (0, 0)) (by (with_reducible repeat (refine blk_drew ?_)); exact BK615.out) hb)
        have n11_ := Aside0.mk (blk_below (g := gb621) (o := .cells #[.int .i64 t616, .slice Ao73 t617.length co73] 28 (0, 0)) (by (with_reducible repeat (refine blk_drew ?_)); exact BK621.out) hb)
        have n12_ := Aside0.mk (below_step (by repeat ((with_reducible exact HB.out))) hb)
        clear HO_606001
        clear HO_611001
        clear HO_616001
        clear HO_622001
        clear HO626
        clear HO631
        clear BK588
        clear BK589
        clear BK605
        clear BK610
        clear BK615
        clear BK621
        clear HB
        have HO_606001 := n0_
        have HO_611001 := n1_
        have HO_616001 := n2_
        have HO_622001 := n3_
        have HO626 := n4_
        have HO631 := n5_
        have BK588 := n6_
        have BK589 := n7_
        have BK605 := n8_
        have BK610 := n9_
        have BK615 := n10_
        have BK621 := n11_
        have HB := n12_
        clear n0_ n1_ n2_ n3_ n4_ n5_ n6_ n7_ n8_ n9_ n10_ n11_ n12_
        (try clear hb)
        skip
        skip
        skip
        refine hK.out _ _ ⟨(blk_cell BK615.out 0).trans rfl, (blk_cell BK615.out 1).trans rfl, (blk_cell BK589.out 0).trans rfl, (blk_cell BK589.out 1).trans rfl⟩ (fun hHeld => ?_)
        clear hK K
        refine norm_ (a' := ?_) ?_ ?_
        rotate_left
        ·show Act.put _ (some 62) _ = _
         simp only [Act.put, List.setIfInBounds_toArray, List.set_cons_zero, List.set_cons_succ, i64_w, i32_w]
         rfl
        refine pure_ (i := 4) (N := some 63) (v := ?_) (a' := ?_) #[true, true, true, true, true] rfl rfl (by kernel_rfl) (fun _ _ _ h => h) (Or.inl ⟨by rfl, ?_⟩) ?_ ?_
        rotate_left
        ·intro w'
         go_simp
         with_reducible rfl
        rotate_left
        ·simp only [Act.put, List.setIfInBounds_toArray, List.set_cons_zero, List.set_cons_succ, i64_w, i32_w]
         rfl
        refine done_ (by kernel_rfl) ?_
        have hnb118 := NB610_588.out
        have hnc118 := NB588_610.out
        have hnb119 := NB610_589.out
        have hnc119 := NB589_610.out
        have hnb120 := NB610_605.out
        have hnc120 := NB605_610.out
        have hnb121 := NB610_615.out
        have hnc121 := NB615_610.out
        have hnb122 := NB610_621.out
        have hnc122 := NB621_610.out
        have hcz123_0 : w117.cell? ⟨gb610, 0, none⟩ = some (.int .i64 t606) := (blk_cell BK610.out 0).trans rfl
        have hcz123_1 : w117.cell? ⟨gb610, 1, none⟩ = some (.slice Ao53 t607.length co53) := (blk_cell BK610.out 1).trans rfl
        have hfz123_0 := blk_frozen BK610.out 0
        have hfz123_1 := blk_frozen BK610.out 1
        go_upto_region 21 with (first | ((with_reducible refine gate_callee (f := 27) rfl ?_); refine goesL_ (some 66) rfl rfl Try.func27 (by kernel_rfl) rfl #[.agg #[.int .i64 t606, .slice Ao53 t607.length co53], .int .i64 1] rfl (by (try simp only [List.map_toArray, List.map_cons, List.map_nil]); rfl) ?_; (with_reducible refine (laws_markSpace.calls kj24 t606 (fun k_ => some k_ = (.slice Ao53 t607.length co53 : Value).ownBlock) (.slice Ao53 t607.length co53) t607 1 t633 t634 w _ ?side1 ?side2 A107.out).mono ?_); (case side1 => repeat ((with_reducible exact HB.out))); (case side2 => exact Kd.R_tight rfl HO_611001.out); rintro e w124 ⟨rfl, hy0, hb, hkp⟩; refine ⟨_, rfl, ?_⟩; have n0_ := Aside0.mk (Kd.R_mono (ok' := fun k_ => some k_ ≠ (.slice Ao53 t607.length co53 : Value).ownBlock ∧ some k_ ≠ (.slice Ao63 t612.length co63 : Value).ownBlock ∧ some k_ ≠ (.slice Ao73 t617.length co73 : Value).ownBlock ∧ some k_ ≠ (.slice Ao112 t624.length co112 : Value).ownBlock ∧ some k_ ≠ (.slice Ao116 t629.length co116 : Value).ownBlock) (Kd.R_keptB (HO_606001.out) hkp (fun k_ hk_ hs_ => (hk_.1.1.1) hs_)) (fun k_ hk_ => ⟨hk_.1.1.1.1, hk_.1.1.1.2.1, hk_.1.1.1.2.2, hk_.1.1.2, hk_.1.2⟩)); have n1_ := Aside0.mk (Kd.R_reok rfl hy0 (fun k_ e_ => HO_611001.out.1 k_ e_)); have n2_ := Aside0.mk (Kd.R_mono (ok' := fun k_ => some k_ ≠ (.slice Ao42 t601.length co42 : Value).ownBlock ∧ some k_ ≠ (.slice Ao53 t607.length co53 : Value).ownBlock ∧ some k_ ≠ (.slice Ao73 t617.length co73 : Value).ownBlock ∧ some k_ ≠ (.slice Ao112 t624.length co112 : Value).ownBlock ∧ some k_ ≠ (.slice Ao116 t629.length co116 : Value).ownBlock) (Kd.R_keptB (HO_616001.out) hkp (fun k_ hk_ hs_ => (hk_.1.1.2.1) hs_)) (fun k_ hk_ => ⟨hk_.1.1.1.1, hk_.1.1.1.2.1, hk_.1.1.1.2.2, hk_.1.1.2, hk_.1.2⟩)); have n3_ := Aside0.mk (Kd.R_mono (ok' := fun k_ => some k_ ≠ (.slice Ao42 t601.length co42 : Value).ownBlock ∧ some k_ ≠ (.slice Ao53 t607.length co53 : Value).ownBlock ∧ some k_ ≠ (.slice Ao63 t612.length co63 : Value).ownBlock ∧ some k_ ≠ (.slice Ao112 t624.length co112 : Value).ownBlock ∧ some k_ ≠ (.slice Ao116 t629.length co116 : Value).ownBlock) (Kd.R_keptB (HO_622001.out) hkp (fun k_ hk_ hs_ => (hk_.1.1.2.1) hs_)) (fun k_ hk_ => ⟨hk_.1.1.1.1, hk_.1.1.1.2.1, hk_.1.1.1.2.2, hk_.1.1.2, hk_.1.2⟩)); have n4_ := Aside0.mk (blk_kept (by (with_reducible repeat (refine blk_drew ?_)); exact BK588.out) hkp (fun hs_ => (fun e_ => (Kd.R_ne HO_611001.out BK588.out (by decide)) e_) hs_)); have n5_ := Aside0.mk (blk_kept (by (with_reducible repeat (refine blk_drew ?_)); exact BK589.out) hkp (fun hs_ => (fun e_ => (Kd.R_ne HO_611001.out BK589.out (by decide)) e_) hs_)); have n6_ := Aside0.mk (blk_kept (by (with_reducible repeat (refine blk_drew ?_)); exact BK605.out) hkp (fun hs_ => (fun e_ => (Kd.R_ne HO_611001.out BK605.out (by decide)) e_) hs_)); have n7_ := Aside0.mk (blk_kept (by (with_reducible repeat (refine blk_drew ?_)); exact BK610.out) hkp (fun hs_ => (fun e_ => (Kd.R_ne HO_611001.out BK610.out (by decide)) e_) hs_)); have n8_ := Aside0.mk (blk_kept (by (with_reducible repeat (refine blk_drew ?_)); exact BK615.out) hkp (fun hs_ => (fun e_ => (Kd.R_ne HO_611001.out BK615.out (by decide)) e_) hs_)); have n9_ := Aside0.mk (blk_kept (by (with_reducible repeat (refine blk_drew ?_)); exact BK621.out) hkp (fun hs_ => (fun e_ => (Kd.R_ne HO_611001.out BK621.out (by decide)) e_) hs_)); have n10_ := Aside0.mk (Kd.R_mono (ok' := fun k_ => some k_ ≠ (.slice Ao42 t601.length co42 : Value).ownBlock ∧ some k_ ≠ (.slice Ao53 t607.length co53 : Value).ownBlock ∧ some k_ ≠ (.slice Ao63 t612.length co63 : Value).ownBlock ∧ some k_ ≠ (.slice Ao73 t617.length co73 : Value).ownBlock ∧ some k_ ≠ (.slice Ao116 t629.length co116 : Value).ownBlock) (Kd.R_keptB (HO626.out) hkp (fun k_ hk_ hs_ => (hk_.1.1.1.2) hs_)) (fun k_ hk_ => ⟨hk_.1.1.1.1.1.2, hk_.1.1.1.1.2, hk_.1.1.1.2, hk_.1.1.2, hk_.1.2⟩)); have n11_ := Aside0.mk (Kd.R_mono (ok' := fun k_ => some k_ ≠ (.slice Ao42 t601.length co42 : Value).ownBlock ∧ some k_ ≠ (.slice Ao53 t607.length co53 : Value).ownBlock ∧ some k_ ≠ (.slice Ao63 t612.length co63 : Value).ownBlock ∧ some k_ ≠ (.slice Ao73 t617.length co73 : Value).ownBlock ∧ some k_ ≠ (.slice Ao112 t624.length co112 : Value).ownBlock) (Kd.R_keptB (HO631.out) hkp (fun k_ hk_ hs_ => (hk_.1.1.1.2) hs_)) (fun k_ hk_ => ⟨hk_.1.1.1.1.1.2, hk_.1.1.1.1.2, hk_.1.1.1.2, hk_.1.1.2, hk_.1.2⟩)); have n12_ := Aside0.mk (hb); clear HO_606001; clear HO_611001; clear HO_616001; clear HO_622001; clear BK588; clear BK589; clear BK605; clear BK610; clear BK615; clear BK621; clear HO626; clear HO631; clear HB; have HO_606001 := n0_; have HO_611001 := n1_; have HO_616001 := n2_; have HO_622001 := n3_; have BK588 := n4_; have BK589 := n5_; have BK605 := n6_; have BK610 := n7_; have BK615 := n8_; have BK621 := n9_; have HO626 := n10_; have HO631 := n11_; have HB := n12_; clear n0_ n1_ n2_ n3_ n4_ n5_ n6_ n7_ n8_ n9_ n10_ n11_ n12_; (try clear hb); (try clear hkp); (try clear hy0); have hnb125 := NB615_588.out; have hnc125 := NB588_615.out; have hnb126 := NB615_589.out; have hnc126 := NB589_615.out; have hnb127 := NB615_605.out; have hnc127 := NB605_615.out; have hnb128 := NB615_621.out; have hnc128 := NB621_615.out; have hcz129_0 : w124.cell? ⟨gb615, 0, none⟩ = some (.int .i64 t611) := (blk_cell BK615.out 0).trans rfl; have hcz129_1 : w124.cell? ⟨gb615, 1, none⟩ = some (.slice Ao63 t612.length co63) := (blk_cell BK615.out 1).trans rfl; have hfz129_0 := blk_frozen BK615.out 0; have hfz129_1 := blk_frozen BK615.out 1) | ((with_reducible refine gate_callee (f := 27) rfl ?_); refine goesL_ (some 69) rfl rfl Try.func27 (by kernel_rfl) rfl #[.agg #[.int .i64 t611, .slice Ao63 t612.length co63], .int .i64 t633] rfl (by (try simp only [List.map_toArray, List.map_cons, List.map_nil]); rfl) ?_; (with_reducible refine (laws_markSpace.calls kj24 t611 (fun k_ => some k_ = (.slice Ao63 t612.length co63 : Value).ownBlock) (.slice Ao63 t612.length co63) t612 t633 t635 t636 w _ ?side1 ?side2 A108.out).mono ?_); (case side1 => repeat ((with_reducible exact HB.out))); (case side2 => exact Kd.R_tight rfl HO_616001.out); rintro e w130 ⟨rfl, hy0, hb, hkp⟩; refine ⟨_, rfl, ?_⟩; have n0_ := Aside0.mk (Kd.R_mono (ok' := fun k_ => some k_ ≠ (.slice Ao53 t607.length co53 : Value).ownBlock ∧ some k_ ≠ (.slice Ao63 t612.length co63 : Value).ownBlock ∧ some k_ ≠ (.slice Ao73 t617.length co73 : Value).ownBlock ∧ some k_ ≠ (.slice Ao112 t624.length co112 : Value).ownBlock ∧ some k_ ≠ (.slice Ao116 t629.length co116 : Value).ownBlock) (Kd.R_keptB (HO_606001.out) hkp (fun k_ hk_ hs_ => (hk_.2.1) hs_)) (fun k_ hk_ => ⟨hk_.1.1, hk_.1.2.1, hk_.1.2.2.1, hk_.1.2.2.2.1, hk_.1.2.2.2.2⟩)); have n1_ := Aside0.mk (Kd.R_mono (ok' := fun k_ => some k_ ≠ (.slice Ao42 t601.length co42 : Value).ownBlock ∧ some k_ ≠ (.slice Ao63 t612.length co63 : Value).ownBlock ∧ some k_ ≠ (.slice Ao73 t617.length co73 : Value).ownBlock ∧ some k_ ≠ (.slice Ao112 t624.length co112 : Value).ownBlock ∧ some k_ ≠ (.slice Ao116 t629.length co116 : Value).ownBlock) (Kd.R_keptB (HO_611001.out) hkp (fun k_ hk_ hs_ => (hk_.1.1.2.1) hs_)) (fun k_ hk_ => ⟨hk_.1.1.1.1, hk_.1.1.1.2.1, hk_.1.1.1.2.2, hk_.1.1.2, hk_.1.2⟩)); have n2_ := Aside0.mk (Kd.R_reok rfl hy0 (fun k_ e_ => HO_616001.out.1 k_ e_)); have n3_ := Aside0.mk (Kd.R_mono (ok' := fun k_ => some k_ ≠ (.slice Ao42 t601.length co42 : Value).ownBlock ∧ some k_ ≠ (.slice Ao53 t607.length co53 : Value).ownBlock ∧ some k_ ≠ (.slice Ao63 t612.length co63 : Value).ownBlock ∧ some k_ ≠ (.slice Ao112 t624.length co112 : Value).ownBlock ∧ some k_ ≠ (.slice Ao116 t629.length co116 : Value).ownBlock) (Kd.R_keptB (HO_622001.out) hkp (fun k_ hk_ hs_ => (hk_.2.2.1) hs_)) (fun k_ hk_ => ⟨hk_.1.1, hk_.1.2.1, hk_.1.2.2.1, hk_.1.2.2.2.1, hk_.1.2.2.2.2⟩)); have n4_ := Aside0.mk (blk_kept (by (with_reducible repeat (refine blk_drew ?_)); exact BK588.out) hkp (fun hs_ => (fun e_ => (Kd.R_ne HO_616001.out BK588.out (by decide)) e_) hs_)); have n5_ := Aside0.mk (blk_kept (by (with_reducible repeat (refine blk_drew ?_)); exact BK589.out) hkp (fun hs_ => (fun e_ => (Kd.R_ne HO_616001.out BK589.out (by decide)) e_) hs_)); have n6_ := Aside0.mk (blk_kept (by (with_reducible repeat (refine blk_drew ?_)); exact BK605.out) hkp (fun hs_ => (fun e_ => (Kd.R_ne HO_616001.out BK605.out (by decide)) e_) hs_)); have n7_ := Aside0.mk (blk_kept (by (with_reducible repeat (refine blk_drew ?_)); exact BK610.out) hkp (fun hs_ => (fun e_ => (Kd.R_ne HO_616001.out BK610.out (by decide)) e_) hs_)); have n8_ := Aside0.mk (blk_kept (by (with_reducible repeat (refine blk_drew ?_)); exact BK615.out) hkp (fun hs_ => (fun e_ => (Kd.R_ne HO_616001.out BK615.out (by decide)) e_) hs_)); have n9_ := Aside0.mk (blk_kept (by (with_reducible repeat (refine blk_drew ?_)); exact BK621.out) hkp (fun hs_ => (fun e_ => (Kd.R_ne HO_616001.out BK621.out (by decide)) e_) hs_)); have n10_ := Aside0.mk (Kd.R_mono (ok' := fun k_ => some k_ ≠ (.slice Ao42 t601.length co42 : Value).ownBlock ∧ some k_ ≠ (.slice Ao53 t607.length co53 : Value).ownBlock ∧ some k_ ≠ (.slice Ao63 t612.length co63 : Value).ownBlock ∧ some k_ ≠ (.slice Ao73 t617.length co73 : Value).ownBlock ∧ some k_ ≠ (.slice Ao116 t629.length co116 : Value).ownBlock) (Kd.R_keptB (HO626.out) hkp (fun k_ hk_ hs_ => (hk_.2.2.1) hs_)) (fun k_ hk_ => ⟨hk_.1.1, hk_.1.2.1, hk_.1.2.2.1, hk_.1.2.2.2.1, hk_.1.2.2.2.2⟩)); have n11_ := Aside0.mk (Kd.R_mono (ok' := fun k_ => some k_ ≠ (.slice Ao42 t601.length co42 : Value).ownBlock ∧ some k_ ≠ (.slice Ao53 t607.length co53 : Value).ownBlock ∧ some k_ ≠ (.slice Ao63 t612.length co63 : Value).ownBlock ∧ some k_ ≠ (.slice Ao73 t617.length co73 : Value).ownBlock ∧ some k_ ≠ (.slice Ao112 t624.length co112 : Value).ownBlock) (Kd.R_keptB (HO631.out) hkp (fun k_ hk_ hs_ => (hk_.2.2.1) hs_)) (fun k_ hk_ => ⟨hk_.1.1, hk_.1.2.1, hk_.1.2.2.1, hk_.1.2.2.2.1, hk_.1.2.2.2.2⟩)); have n12_ := Aside0.mk (hb); clear HO_606001; clear HO_611001; clear HO_616001; clear HO_622001; clear BK588; clear BK589; clear BK605; clear BK610; clear BK615; clear BK621; clear HO626; clear HO631; clear HB; have HO_606001 := n0_; have HO_611001 := n1_; have HO_616001 := n2_; have HO_622001 := n3_; have BK588 := n4_; have BK589 := n5_; have BK605 := n6_; have BK610 := n7_; have BK615 := n8_; have BK621 := n9_; have HO626 := n10_; have HO631 := n11_; have HB := n12_; clear n0_ n1_ n2_ n3_ n4_ n5_ n6_ n7_ n8_ n9_ n10_ n11_ n12_; (try clear hb); (try clear hkp); (try clear hy0)))
        skip
        go_cut [82] (fun v82 wc => ∃ (kq : Nat) (x82_108 : Bool), v82 = .bool x82_108 ∧ Aside0 (laws_FnExactUnionSpaces.j1 kq t604 x82_108 a0_0 l0_1 a1_0 l1_1 t600 t601 t616 t617 = some r) ∧ Aside0 (kq ≤ kj24) ∧ Aside0 (Kd.R (Kd.int .i64) 3 wc w.heap.size (fun k_ => some k_ ≠ ((.slice Ao53 t607.length co53) : Value).ownBlock ∧ some k_ ≠ ((.slice Ao63 t612.length co63) : Value).ownBlock ∧ some k_ ≠ ((.slice Ao73 t617.length co73) : Value).ownBlock) (.slice Ao42 t601.length co42) t601) ∧ Aside0 (Kd.R (Kd.int .i64) 3 wc w.heap.size (fun k_ => some k_ ≠ ((.slice Ao42 t601.length co42) : Value).ownBlock ∧ some k_ ≠ ((.slice Ao63 t612.length co63) : Value).ownBlock ∧ some k_ ≠ ((.slice Ao73 t617.length co73) : Value).ownBlock) (.slice Ao53 t607.length co53) t634) ∧ Aside0 (Kd.R (Kd.int .i64) 3 wc w.heap.size (fun k_ => some k_ ≠ ((.slice Ao42 t601.length co42) : Value).ownBlock ∧ some k_ ≠ ((.slice Ao53 t607.length co53) : Value).ownBlock ∧ some k_ ≠ ((.slice Ao73 t617.length co73) : Value).ownBlock) (.slice Ao63 t612.length co63) t636) ∧ Aside0 (Kd.R (Kd.int .i64) 3 wc w.heap.size (fun k_ => some k_ ≠ ((.slice Ao42 t601.length co42) : Value).ownBlock ∧ some k_ ≠ ((.slice Ao53 t607.length co53) : Value).ownBlock ∧ some k_ ≠ ((.slice Ao63 t612.length co63) : Value).ownBlock) (.slice Ao73 t617.length co73) t617) ∧ Aside0 (wc.heap[gb588]? = some (.cells #[.int .i64 a0_0, (.slice A0_1 l0_1.length c0_1)] 24 (0, 0))) ∧ Aside0 (wc.heap[gb589]? = some (.cells #[.int .i64 a1_0, (.slice A1_1 l1_1.length c1_1)] 24 (0, 0))) ∧ Aside0 (wc.heap[gb605]? = some (.cells #[.int .i64 t600, (.slice Ao42 t601.length co42)] 28 (0, 0))) ∧ Aside0 (wc.heap[gb610]? = some (.cells #[.int .i64 t606, (.slice Ao53 t607.length co53)] 28 (0, 0))) ∧ Aside0 (wc.heap[gb615]? = some (.cells #[.int .i64 t611, (.slice Ao63 t612.length co63)] 28 (0, 0))) ∧ Aside0 (wc.heap[gb621]? = some (.cells #[.int .i64 t616, (.slice Ao73 t617.length co73)] 28 (0, 0))) ∧ Aside0 (Below w.heap.size w wc))
        case first =>
         have H := HC109.out
         clear HC109
         by_cases c131 : t635 < 0
         ·rw [if_pos c131] at H
          have c131b0 : decide (t635 < 0) = true := decide_eq_true c131
          clear c131
          (skip)
          have H' := Aside0.mk H
          clear H
          go_wp2
          go_meet
          case rel => exact ⟨_, (true), (by rfl), H', ⟨by have := HJ24.out; omega⟩, ⟨by (with_reducible repeat (apply Kd.R_drew)); exact Kd.R_mono HO_606001.out (fun _ hk => ⟨hk.1, ⟨hk.2.1, hk.2.2.1⟩⟩)⟩, ⟨by (with_reducible repeat (apply Kd.R_drew)); exact Kd.R_mono HO_611001.out (fun _ hk => ⟨hk.1, ⟨hk.2.1, hk.2.2.1⟩⟩)⟩, ⟨by (with_reducible repeat (apply Kd.R_drew)); exact Kd.R_mono HO_616001.out (fun _ hk => ⟨hk.1, ⟨hk.2.1, hk.2.2.1⟩⟩)⟩, ⟨by (with_reducible repeat (apply Kd.R_drew)); exact Kd.R_mono HO_622001.out (fun _ hk => ⟨hk.1, ⟨hk.2.1, hk.2.2.1⟩⟩)⟩, ⟨by (with_reducible repeat (refine blk_drew ?_)); exact BK588.out⟩, ⟨by (with_reducible repeat (refine blk_drew ?_)); exact BK589.out⟩, ⟨by (with_reducible repeat (refine blk_drew ?_)); exact BK605.out⟩, ⟨by (with_reducible repeat (refine blk_drew ?_)); exact BK610.out⟩, ⟨by (with_reducible repeat (refine blk_drew ?_)); exact BK615.out⟩, ⟨by (with_reducible repeat (refine blk_drew ?_)); exact BK621.out⟩, ⟨by repeat ((with_reducible exact HB.out))⟩⟩
         ·rw [if_neg c131] at H
          have c131b0 : decide (t635 < 0) = false := decide_eq_false c131
          clear c131
          (skip)
          replace H := Option.bind_eq_some_iff.mp H
          obtain ⟨t637, A1320, H⟩ := H
          replace H : (if t637 = true then (laws_FnExactUnionSpaces.j1 kj24 t604 (t620 != t604) a0_0 l0_1 a1_0 l1_1 t600 t601 t616 t617) else (laws_FnExactUnionSpaces.j1 kj24 t604 true a0_0 l0_1 a1_0 l1_1 t600 t601 t616 t617)) = some r := H
          have A132 := Aside0.mk A1320
          clear A1320
          by_cases c133 : t637 = true
          ·subst c133
           have H1 : (laws_FnExactUnionSpaces.j1 kj24 t604 (t620 != t604) a0_0 l0_1 a1_0 l1_1 t600 t601 t616 t617) = some r := by rw [if_pos rfl] at H; exact H
           clear H
           have H := H1
           clear H1
           have H' := Aside0.mk H
           clear H
           have hnb134 := NB621_588.out
           have hnc134 := NB588_621.out
           have hnb135 := NB621_589.out
           have hnc135 := NB589_621.out
           have hnb136 := NB621_605.out
           have hnc136 := NB605_621.out
           have hnb137 := NB621_610.out
           have hnc137 := NB610_621.out
           have hnb138 := NB621_615.out
           have hnc138 := NB615_621.out
           have hcz139_0 : w130.cell? ⟨gb621, 0, none⟩ = some (.int .i64 t616) := (blk_cell BK621.out 0).trans rfl
           have hcz139_1 : w130.cell? ⟨gb621, 1, none⟩ = some (.slice Ao73 t617.length co73) := (blk_cell BK621.out 1).trans rfl
           have hfz139_0 := blk_frozen BK621.out 0
           have hfz139_1 := blk_frozen BK621.out 1
           have hnb140 := NB605_588.out
           have hnc140 := NB588_605.out
           have hnb141 := NB605_589.out
           have hnc141 := NB589_605.out
           have hnb142 := NB605_610.out
           have hnc142 := NB610_605.out
           have hnb143 := NB605_615.out
           have hnc143 := NB615_605.out
           have hcz144_0 : w130.cell? ⟨gb605, 0, none⟩ = some (.int .i64 t600) := (blk_cell BK605.out 0).trans rfl
           have hcz144_1 : w130.cell? ⟨gb605, 1, none⟩ = some (.slice Ao42 t601.length co42) := (blk_cell BK605.out 1).trans rfl
           have hfz144_0 := blk_frozen BK605.out 0
           have hfz144_1 := blk_frozen BK605.out 1
           go_wp2_with ((go_at_call 15; (with_reducible refine (laws_eqSpace.calls kj24 t616 _ _ t617 t600 _ _ t601 true _ ?side1 ?side2 ?side3 ?side4 A132.out).mono ?_); (case side1 => repeat (exact (Kd.R_reads' HO_622001.out).2.2)); (case side2 => exact (Kd.R_reads' HO_622001.out).2.1); (case side3 => repeat (exact (Kd.R_reads' HO_606001.out).2.2)); (case side4 => exact (Kd.R_reads' HO_606001.out).2.1); rintro e w145 ⟨rfl, hb⟩; have n0_ := Aside0.mk (Kd.R_below (by (with_reducible repeat (apply Kd.R_drew)); exact HO_606001.out) hb); have n1_ := Aside0.mk (Kd.R_below (by (with_reducible repeat (apply Kd.R_drew)); exact HO_611001.out) hb); have n2_ := Aside0.mk (Kd.R_below (by (with_reducible repeat (apply Kd.R_drew)); exact HO_616001.out) hb); have n3_ := Aside0.mk (Kd.R_below (by (with_reducible repeat (apply Kd.R_drew)); exact HO_622001.out) hb); have n4_ := Aside0.mk (Kd.R_below (by (with_reducible repeat (apply Kd.R_drew)); exact HO626.out) hb); have n5_ := Aside0.mk (Kd.R_below (by (with_reducible repeat (apply Kd.R_drew)); exact HO631.out) hb); have n6_ := Aside0.mk (blk_below (g := gb588) (o := .cells #[.int .i64 a0_0, .slice A0_1 l0_1.length c0_1] 24 (0, 0)) (by (with_reducible repeat (refine blk_drew ?_)); exact BK588.out) hb); have n7_ := Aside0.mk (blk_below (g := gb589) (o := .cells #[.int .i64 a1_0, .slice A1_1 l1_1.length c1_1] 24 (0, 0)) (by (with_reducible repeat (refine blk_drew ?_)); exact BK589.out) hb); have n8_ := Aside0.mk (blk_below (g := gb605) (o := .cells #[.int .i64 t600, .slice Ao42 t601.length co42] 28 (0, 0)) (by (with_reducible repeat (refine blk_drew ?_)); exact BK605.out) hb); have n9_ := Aside0.mk (blk_below (g := gb610) (o := .cells #[.int .i64 t606, .slice Ao53 t607.length co53] 28 (0, 0)) (by (with_reducible repeat (refine blk_drew ?_)); exact BK610.out) hb); have n10_ := Aside0.mk (blk_below (g := gb615) (o := .cells #[.int .i64 t611, .slice Ao63 t612.length co63] 28 (0, 0)) (by (with_reducible repeat (refine blk_drew ?_)); exact BK615.out) hb); have n11_ := Aside0.mk (blk_below (g := gb621) (o := .cells #[.int .i64 t616, .slice Ao73 t617.length co73] 28 (0, 0)) (by (with_reducible repeat (refine blk_drew ?_)); exact BK621.out) hb); have n12_ := Aside0.mk (below_step (by repeat ((with_reducible exact HB.out))) hb); clear HO_606001; clear HO_611001; clear HO_616001; clear HO_622001; clear HO626; clear HO631; clear BK588; clear BK589; clear BK605; clear BK610; clear BK615; clear BK621; clear HB; have HO_606001 := n0_; have HO_611001 := n1_; have HO_616001 := n2_; have HO_622001 := n3_; have HO626 := n4_; have HO631 := n5_; have BK588 := n6_; have BK589 := n7_; have BK605 := n8_; have BK610 := n9_; have BK615 := n10_; have BK621 := n11_; have HB := n12_; clear n0_ n1_ n2_ n3_ n4_ n5_ n6_ n7_ n8_ n9_ n10_ n11_ n12_; (try clear hb); skip))
           go_meet
           case rel => exact ⟨_, ((t620 != t604)), (by rfl), H', ⟨by have := HJ24.out; omega⟩, ⟨by (with_reducible repeat (apply Kd.R_drew)); exact Kd.R_mono HO_606001.out (fun _ hk => ⟨hk.1, ⟨hk.2.1, hk.2.2.1⟩⟩)⟩, ⟨by (with_reducible repeat (apply Kd.R_drew)); exact Kd.R_mono HO_611001.out (fun _ hk => ⟨hk.1, ⟨hk.2.1, hk.2.2.1⟩⟩)⟩, ⟨by (with_reducible repeat (apply Kd.R_drew)); exact Kd.R_mono HO_616001.out (fun _ hk => ⟨hk.1, ⟨hk.2.1, hk.2.2.1⟩⟩)⟩, ⟨by (with_reducible repeat (apply Kd.R_drew)); exact Kd.R_mono HO_622001.out (fun _ hk => ⟨hk.1, ⟨hk.2.1, hk.2.2.1⟩⟩)⟩, ⟨by (with_reducible repeat (refine blk_drew ?_)); exact BK588.out⟩, ⟨by (with_reducible repeat (refine blk_drew ?_)); exact BK589.out⟩, ⟨by (with_reducible repeat (refine blk_drew ?_)); exact BK605.out⟩, ⟨by (with_reducible repeat (refine blk_drew ?_)); exact BK610.out⟩, ⟨by (with_reducible repeat (refine blk_drew ?_)); exact BK615.out⟩, ⟨by (with_reducible repeat (refine blk_drew ?_)); exact BK621.out⟩, ⟨by repeat ((with_reducible exact HB.out))⟩⟩
          ·replace c133 := Bool.eq_false_iff.mpr c133
           subst c133
           have H1 : (laws_FnExactUnionSpaces.j1 kj24 t604 true a0_0 l0_1 a1_0 l1_1 t600 t601 t616 t617) = some r := by rw [if_neg (show ¬ (false = true) by decide)] at H; exact H
           clear H
           have H := H1
           clear H1
           have H' := Aside0.mk H
           clear H
           have hnb146 := NB621_588.out
           have hnc146 := NB588_621.out
           have hnb147 := NB621_589.out
           have hnc147 := NB589_621.out
           have hnb148 := NB621_605.out
           have hnc148 := NB605_621.out
           have hnb149 := NB621_610.out
           have hnc149 := NB610_621.out
           have hnb150 := NB621_615.out
           have hnc150 := NB615_621.out
           have hcz151_0 : w130.cell? ⟨gb621, 0, none⟩ = some (.int .i64 t616) := (blk_cell BK621.out 0).trans rfl
           have hcz151_1 : w130.cell? ⟨gb621, 1, none⟩ = some (.slice Ao73 t617.length co73) := (blk_cell BK621.out 1).trans rfl
           have hfz151_0 := blk_frozen BK621.out 0
           have hfz151_1 := blk_frozen BK621.out 1
           have hnb152 := NB605_588.out
           have hnc152 := NB588_605.out
           have hnb153 := NB605_589.out
           have hnc153 := NB589_605.out
           have hnb154 := NB605_610.out
           have hnc154 := NB610_605.out
           have hnb155 := NB605_615.out
           have hnc155 := NB615_605.out
           have hcz156_0 : w130.cell? ⟨gb605, 0, none⟩ = some (.int .i64 t600) := (blk_cell BK605.out 0).trans rfl
           have hcz156_1 : w130.cell? ⟨gb605, 1, none⟩ = some (.slice Ao42 t601.length co42) := (blk_cell BK605.out 1).trans rfl
           have hfz156_0 := blk_frozen BK605.out 0
           have hfz156_1 := blk_frozen BK605.out 1
           go_wp2_with ((go_at_call 15; (with_reducible refine (laws_eqSpace.calls kj24 t616 _ _ t617 t600 _ _ t601 false _ ?side1 ?side2 ?side3 ?side4 A132.out).mono ?_); (case side1 => repeat (exact (Kd.R_reads' HO_622001.out).2.2)); (case side2 => exact (Kd.R_reads' HO_622001.out).2.1); (case side3 => repeat (exact (Kd.R_reads' HO_606001.out).2.2)); (case side4 => exact (Kd.R_reads' HO_606001.out).2.1); rintro e w157 ⟨rfl, hb⟩; have n0_ := Aside0.mk (Kd.R_below (by (with_reducible repeat (apply Kd.R_drew)); exact HO_606001.out) hb); have n1_ := Aside0.mk (Kd.R_below (by (with_reducible repeat (apply Kd.R_drew)); exact HO_611001.out) hb); have n2_ := Aside0.mk (Kd.R_below (by (with_reducible repeat (apply Kd.R_drew)); exact HO_616001.out) hb); have n3_ := Aside0.mk (Kd.R_below (by (with_reducible repeat (apply Kd.R_drew)); exact HO_622001.out) hb); have n4_ := Aside0.mk (Kd.R_below (by (with_reducible repeat (apply Kd.R_drew)); exact HO626.out) hb); have n5_ := Aside0.mk (Kd.R_below (by (with_reducible repeat (apply Kd.R_drew)); exact HO631.out) hb); have n6_ := Aside0.mk (blk_below (g := gb588) (o := .cells #[.int .i64 a0_0, .slice A0_1 l0_1.length c0_1] 24 (0, 0)) (by (with_reducible repeat (refine blk_drew ?_)); exact BK588.out) hb); have n7_ := Aside0.mk (blk_below (g := gb589) (o := .cells #[.int .i64 a1_0, .slice A1_1 l1_1.length c1_1] 24 (0, 0)) (by (with_reducible repeat (refine blk_drew ?_)); exact BK589.out) hb); have n8_ := Aside0.mk (blk_below (g := gb605) (o := .cells #[.int .i64 t600, .slice Ao42 t601.length co42] 28 (0, 0)) (by (with_reducible repeat (refine blk_drew ?_)); exact BK605.out) hb); have n9_ := Aside0.mk (blk_below (g := gb610) (o := .cells #[.int .i64 t606, .slice Ao53 t607.length co53] 28 (0, 0)) (by (with_reducible repeat (refine blk_drew ?_)); exact BK610.out) hb); have n10_ := Aside0.mk (blk_below (g := gb615) (o := .cells #[.int .i64 t611, .slice Ao63 t612.length co63] 28 (0, 0)) (by (with_reducible repeat (refine blk_drew ?_)); exact BK615.out) hb); have n11_ := Aside0.mk (blk_below (g := gb621) (o := .cells #[.int .i64 t616, .slice Ao73 t617.length co73] 28 (0, 0)) (by (with_reducible repeat (refine blk_drew ?_)); exact BK621.out) hb); have n12_ := Aside0.mk (below_step (by repeat ((with_reducible exact HB.out))) hb); clear HO_606001; clear HO_611001; clear HO_616001; clear HO_622001; clear HO626; clear HO631; clear BK588; clear BK589; clear BK605; clear BK610; clear BK615; clear BK621; clear HB; have HO_606001 := n0_; have HO_611001 := n1_; have HO_616001 := n2_; have HO_622001 := n3_; have HO626 := n4_; have HO631 := n5_; have BK588 := n6_; have BK589 := n7_; have BK605 := n8_; have BK610 := n9_; have BK615 := n10_; have BK621 := n11_; have HB := n12_; clear n0_ n1_ n2_ n3_ n4_ n5_ n6_ n7_ n8_ n9_ n10_ n11_ n12_; (try clear hb); skip))
           go_meet
           case rel => exact ⟨_, (true), (by rfl), H', ⟨by have := HJ24.out; omega⟩, ⟨by (with_reducible repeat (apply Kd.R_drew)); exact Kd.R_mono HO_606001.out (fun _ hk => ⟨hk.1, ⟨hk.2.1, hk.2.2.1⟩⟩)⟩, ⟨by (with_reducible repeat (apply Kd.R_drew)); exact Kd.R_mono HO_611001.out (fun _ hk => ⟨hk.1, ⟨hk.2.1, hk.2.2.1⟩⟩)⟩, ⟨by (with_reducible repeat (apply Kd.R_drew)); exact Kd.R_mono HO_616001.out (fun _ hk => ⟨hk.1, ⟨hk.2.1, hk.2.2.1⟩⟩)⟩, ⟨by (with_reducible repeat (apply Kd.R_drew)); exact Kd.R_mono HO_622001.out (fun _ hk => ⟨hk.1, ⟨hk.2.1, hk.2.2.1⟩⟩)⟩, ⟨by (with_reducible repeat (refine blk_drew ?_)); exact BK588.out⟩, ⟨by (with_reducible repeat (refine blk_drew ?_)); exact BK589.out⟩, ⟨by (with_reducible repeat (refine blk_drew ?_)); exact BK605.out⟩, ⟨by (with_reducible repeat (refine blk_drew ?_)); exact BK610.out⟩, ⟨by (with_reducible repeat (refine blk_drew ?_)); exact BK615.out⟩, ⟨by (with_reducible repeat (refine blk_drew ?_)); exact BK621.out⟩, ⟨by repeat ((with_reducible exact HB.out))⟩⟩
        case rest =>
         clear HC109
         try clear c1
         try clear c2
         try clear p2
         try clear c7
         try clear c8
         try clear c9
         try clear c10
         try clear c11
         try clear c12
         try clear c13
         try clear c14
         try clear c15
         try clear c27
         try clear c77
         try clear c78
         try clear c79
         try clear c80
         try clear c82
         try clear c83
         try clear c84
         try clear c85
         try clear c88
         try clear c89
         try clear c90
         try clear c91
         try clear c92
         try clear c94
         try clear c95
         try clear c96
         try clear c97
         try clear c100
         try clear c103
         try clear c106
         try clear c118
         try clear c119
         try clear c120
         try clear c121
         try clear c122
         try clear c125
         try clear c126
         try clear c127
         try clear c128
         try clear c131
         try clear c131b0
         try clear c133
         try clear c134
         try clear c135
         try clear c136
         try clear c137
         try clear c138
         try clear c140
         try clear c141
         try clear c142
         try clear c143
         try clear c146
         try clear c147
         try clear c148
         try clear c149
         try clear c150
         try clear c152
         try clear c153
         try clear c154
         try clear c155
         try clear hcz123_0
         try clear hcz123_1
         try clear hcz129_0
         try clear hcz129_1
         try clear hcz139_0
         try clear hcz139_1
         try clear hcz144_0
         try clear hcz144_1
         try clear hcz151_0
         try clear hcz151_1
         try clear hcz156_0
         try clear hcz156_1
         try clear hcz46_0
         try clear hcz46_1
         try clear hcz52_0
         try clear hcz52_1
         try clear hcz55_0
         try clear hcz55_1
         try clear hcz62_0
         try clear hcz62_1
         try clear hcz64_0
         try clear hcz64_1
         try clear hcz72_0
         try clear hcz72_1
         try clear hcz81_0
         try clear hcz81_1
         try clear hcz86_0
         try clear hcz86_1
         try clear hcz93_0
         try clear hcz93_1
         try clear hcz98_0
         try clear hcz98_1
         try clear hfz123_0
         try clear hfz123_1
         try clear hfz129_0
         try clear hfz129_1
         try clear hfz139_0
         try clear hfz139_1
         try clear hfz144_0
         try clear hfz144_1
         try clear hfz151_0
         try clear hfz151_1
         try clear hfz156_0
         try clear hfz156_1
         try clear hfz46_0
         try clear hfz46_1
         try clear hfz52_0
         try clear hfz52_1
         try clear hfz55_0
         try clear hfz55_1
         try clear hfz62_0
         try clear hfz62_1
         try clear hfz64_0
         try clear hfz64_1
         try clear hfz72_0
         try clear hfz72_1
         try clear hfz81_0
         try clear hfz81_1
         try clear hfz86_0
         try clear hfz86_1
         try clear hfz93_0
         try clear hfz93_1
         try clear hfz98_0
         try clear hfz98_1
         obtain ⟨kq, x82_108, rfl, HA, HJ108, HO_606001, HO_611001, HO_616001, HO_622001, BK588, BK589, BK605, BK610, BK615, BK621, HB⟩ := hcut
         have hl611001_108 := (Kd.R_reads' HO_611001.out).1
         rw [hl611001_108] at HO_611001
         skip
         skip
         skip
         skip
         (try simp only [hl611001_108] at BK610)
         skip
         skip
         (try simp only [hl611001_108] at HO_606001)
         (try simp only [hl611001_108] at HO_616001)
         (try simp only [hl611001_108] at HO_622001)
         have hl616001_108 := (Kd.R_reads' HO_616001.out).1
         rw [hl616001_108] at HO_616001
         skip
         skip
         skip
         skip
         skip
         (try simp only [hl616001_108] at BK615)
         skip
         (try simp only [hl616001_108] at HO_606001)
         (try simp only [hl616001_108] at HO_611001)
         (try simp only [hl616001_108] at HO_622001)
         cases kq with
         | zero => exact absurd HA.out (by simp [laws_FnExactUnionSpaces.j1])
         | succ kj108 =>
          have H := HA.out
          clear HA
          simp only [laws_FnExactUnionSpaces.j1] at H
          by_cases c158 : x82_108 = true
          ·subst c158
           have H1 : (some false) = some r := by rw [if_pos rfl] at H; exact H
           clear H
           have H := H1
           clear H1
           obtain rfl := Option.some.inj H
           go_wp2
           go_ret
           exact ⟨by rfl, by repeat ((with_reducible exact HB.out))⟩
          ·replace c158 := Bool.eq_false_iff.mpr c158
           subst c158
           have H1 : ((laws_markSpace.f kj108 t616 t617 1).bind fun bt638 => ((laws_heldSpace.f kj108 t616 bt638.2 1).bind fun t640 => (if t640 < 0 then (some false) else (if t640 = bt638.1 then ((laws_toSpace.f kj108 a0_0 l0_1).bind fun bt641 => ((laws_toSpace.f kj108 a1_0 l1_1).bind fun bt645 => ((impl_UnionSpaces.f kj108 bt641.1 bt641.2 bt645.1 bt645.2).bind fun bt649 => ((laws_eqSpace.f kj108 bt649.1 bt649.2.1 t600 t601).bind fun t655 => (if t655 = true then (laws_FnExactUnionSpaces.j2 kj108 bt638.1 (bt649.2.2 != t604) t616 bt638.2) else (laws_FnExactUnionSpaces.j2 kj108 bt638.1 true t616 bt638.2)))))) else (some false))))) = some r := by rw [if_neg (show ¬ (false = true) by decide)] at H; exact H
           clear H
           have H := H1
           clear H1
           replace H := Option.bind_eq_some_iff.mp H
           obtain ⟨⟨t638, t639⟩, A1590, H⟩ := H
           replace H : ((laws_heldSpace.f kj108 t616 t639 1).bind fun t640 => (if t640 < 0 then (some false) else (if t640 = t638 then ((laws_toSpace.f kj108 a0_0 l0_1).bind fun bt641 => ((laws_toSpace.f kj108 a1_0 l1_1).bind fun bt645 => ((impl_UnionSpaces.f kj108 bt641.1 bt641.2 bt645.1 bt645.2).bind fun bt649 => ((laws_eqSpace.f kj108 bt649.1 bt649.2.1 t600 t601).bind fun t655 => (if t655 = true then (laws_FnExactUnionSpaces.j2 kj108 t638 (bt649.2.2 != t604) t616 t639) else (laws_FnExactUnionSpaces.j2 kj108 t638 true t616 t639)))))) else (some false)))) = some r := H
           have A159 := Aside0.mk A1590
           clear A1590
           replace H := Option.bind_eq_some_iff.mp H
           obtain ⟨t640, A1600, H⟩ := H
           replace H : (if t640 < 0 then (some false) else (if t640 = t638 then ((laws_toSpace.f kj108 a0_0 l0_1).bind fun bt641 => ((laws_toSpace.f kj108 a1_0 l1_1).bind fun bt645 => ((impl_UnionSpaces.f kj108 bt641.1 bt641.2 bt645.1 bt645.2).bind fun bt649 => ((laws_eqSpace.f kj108 bt649.1 bt649.2.1 t600 t601).bind fun t655 => (if t655 = true then (laws_FnExactUnionSpaces.j2 kj108 t638 (bt649.2.2 != t604) t616 t639) else (laws_FnExactUnionSpaces.j2 kj108 t638 true t616 t639)))))) else (some false))) = some r := H
           have A160 := Aside0.mk A1600
           clear A1600
           by_cases c161 : t640 < 0
           ·rw [if_pos c161] at H
            have c161b0 : decide (t640 < 0) = true := decide_eq_true c161
            clear c161
            obtain rfl := Option.some.inj H
            have hnb162 := NB621_588.out
            have hnc162 := NB588_621.out
            have hnb163 := NB621_589.out
            have hnc163 := NB589_621.out
            have hnb164 := NB621_605.out
            have hnc164 := NB605_621.out
            have hnb165 := NB621_610.out
            have hnc165 := NB610_621.out
            have hnb166 := NB621_615.out
            have hnc166 := NB615_621.out
            have hcz167_0 : wc.cell? ⟨gb621, 0, none⟩ = some (.int .i64 t616) := (blk_cell BK621.out 0).trans rfl
            have hcz167_1 : wc.cell? ⟨gb621, 1, none⟩ = some (.slice Ao73 t617.length co73) := (blk_cell BK621.out 1).trans rfl
            have hfz167_0 := blk_frozen BK621.out 0
            have hfz167_1 := blk_frozen BK621.out 1
            go_wp2_with (first | ((with_reducible refine gate_callee (f := 27) rfl ?_); refine goesL_ (some 85) rfl rfl Try.func27 (by kernel_rfl) rfl #[.agg #[.int .i64 t616, .slice Ao73 t617.length co73], .int .i64 1] rfl (by (try simp only [List.map_toArray, List.map_cons, List.map_nil]); rfl) ?_; (with_reducible refine (laws_markSpace.calls kj108 t616 (fun k_ => some k_ = (.slice Ao73 t617.length co73 : Value).ownBlock) (.slice Ao73 t617.length co73) t617 1 t638 t639 w _ ?side1 ?side2 A159.out).mono ?_); (case side1 => repeat ((with_reducible exact HB.out))); (case side2 => exact Kd.R_tight rfl HO_622001.out); rintro e w168 ⟨rfl, hy0, hb, hkp⟩; refine ⟨_, rfl, ?_⟩; have n0_ := Aside0.mk (Kd.R_mono (ok' := fun k_ => some k_ ≠ (.slice Ao53 t634.length co53 : Value).ownBlock ∧ some k_ ≠ (.slice Ao63 t636.length co63 : Value).ownBlock ∧ some k_ ≠ (.slice Ao73 t617.length co73 : Value).ownBlock) (Kd.R_keptB (HO_606001.out) hkp (fun k_ hk_ hs_ => (hk_.2.2) hs_)) (fun k_ hk_ => ⟨hk_.1.1, hk_.1.2.1, hk_.1.2.2⟩)); have n1_ := Aside0.mk (Kd.R_mono (ok' := fun k_ => some k_ ≠ (.slice Ao42 t601.length co42 : Value).ownBlock ∧ some k_ ≠ (.slice Ao63 t636.length co63 : Value).ownBlock ∧ some k_ ≠ (.slice Ao73 t617.length co73 : Value).ownBlock) (Kd.R_keptB (HO_611001.out) hkp (fun k_ hk_ hs_ => (hk_.2.2) hs_)) (fun k_ hk_ => ⟨hk_.1.1, hk_.1.2.1, hk_.1.2.2⟩)); have n2_ := Aside0.mk (Kd.R_mono (ok' := fun k_ => some k_ ≠ (.slice Ao42 t601.length co42 : Value).ownBlock ∧ some k_ ≠ (.slice Ao53 t634.length co53 : Value).ownBlock ∧ some k_ ≠ (.slice Ao73 t617.length co73 : Value).ownBlock) (Kd.R_keptB (HO_616001.out) hkp (fun k_ hk_ hs_ => (hk_.2.2) hs_)) (fun k_ hk_ => ⟨hk_.1.1, hk_.1.2.1, hk_.1.2.2⟩)); have n3_ := Aside0.mk (Kd.R_reok rfl hy0 (fun k_ e_ => HO_622001.out.1 k_ e_)); have n4_ := Aside0.mk (blk_kept (by (with_reducible repeat (refine blk_drew ?_)); exact BK588.out) hkp (fun hs_ => (fun e_ => (Kd.R_ne HO_622001.out BK588.out (by decide)) e_) hs_)); have n5_ := Aside0.mk (blk_kept (by (with_reducible repeat (refine blk_drew ?_)); exact BK589.out) hkp (fun hs_ => (fun e_ => (Kd.R_ne HO_622001.out BK589.out (by decide)) e_) hs_)); have n6_ := Aside0.mk (blk_kept (by (with_reducible repeat (refine blk_drew ?_)); exact BK605.out) hkp (fun hs_ => (fun e_ => (Kd.R_ne HO_622001.out BK605.out (by decide)) e_) hs_)); have n7_ := Aside0.mk (blk_kept (by (with_reducible repeat (refine blk_drew ?_)); exact BK610.out) hkp (fun hs_ => (fun e_ => (Kd.R_ne HO_622001.out BK610.out (by decide)) e_) hs_)); have n8_ := Aside0.mk (blk_kept (by (with_reducible repeat (refine blk_drew ?_)); exact BK615.out) hkp (fun hs_ => (fun e_ => (Kd.R_ne HO_622001.out BK615.out (by decide)) e_) hs_)); have n9_ := Aside0.mk (blk_kept (by (with_reducible repeat (refine blk_drew ?_)); exact BK621.out) hkp (fun hs_ => (fun e_ => (Kd.R_ne HO_622001.out BK621.out (by decide)) e_) hs_)); have n10_ := Aside0.mk (hb); clear HO_606001; clear HO_611001; clear HO_616001; clear HO_622001; clear BK588; clear BK589; clear BK605; clear BK610; clear BK615; clear BK621; clear HB; have HO_606001 := n0_; have HO_611001 := n1_; have HO_616001 := n2_; have HO_622001 := n3_; have BK588 := n4_; have BK589 := n5_; have BK605 := n6_; have BK610 := n7_; have BK615 := n8_; have BK621 := n9_; have HB := n10_; clear n0_ n1_ n2_ n3_ n4_ n5_ n6_ n7_ n8_ n9_ n10_; (try clear hb); (try clear hkp); (try clear hy0); have hcz169_0 : w168.cell? ⟨gb621, 0, none⟩ = some (.int .i64 t616) := (blk_cell BK621.out 0).trans rfl; have hcz169_1 : w168.cell? ⟨gb621, 1, none⟩ = some (.slice Ao73 t617.length co73) := (blk_cell BK621.out 1).trans rfl; have hfz169_0 := blk_frozen BK621.out 0; have hfz169_1 := blk_frozen BK621.out 1) | ((with_reducible refine gate_callee (f := 28) rfl ?_); refine goesL_ (some 88) rfl rfl Try.func28 (by kernel_rfl) rfl #[.agg #[.int .i64 t616, .slice Ao73 t639.length co73], .int .i64 1] rfl (by (try simp only [List.map_toArray, List.map_cons, List.map_nil]); (rw [show t639.length = t617.length from (Kd.R_reads' HO_622001.out).1.symm] <;> rfl)) ?_; (with_reducible refine (laws_heldSpace.calls kj108 t616 _ _ t639 1 t640 _ ?side1 ?side2 A160.out).mono ?_); (case side1 => repeat (exact (Kd.R_reads' HO_622001.out).2.2)); (case side2 => rw [show t639.length = t617.length from (Kd.R_reads' HO_622001.out).1.symm]; exact (Kd.R_reads' HO_622001.out).2.1); rintro e w170 ⟨rfl, hb⟩; refine ⟨_, rfl, ?_⟩; have n0_ := Aside0.mk (Kd.R_below (by (with_reducible repeat (apply Kd.R_drew)); exact HO_606001.out) hb); have n1_ := Aside0.mk (Kd.R_below (by (with_reducible repeat (apply Kd.R_drew)); exact HO_611001.out) hb); have n2_ := Aside0.mk (Kd.R_below (by (with_reducible repeat (apply Kd.R_drew)); exact HO_616001.out) hb); have n3_ := Aside0.mk (Kd.R_below (by (with_reducible repeat (apply Kd.R_drew)); exact HO_622001.out) hb); have n4_ := Aside0.mk (blk_below (g := gb588) (o := .cells #[.int .i64 a0_0, .slice A0_1 l0_1.length c0_1] 24 (0, 0)) (by (with_reducible repeat (refine blk_drew ?_)); exact BK588.out) hb); have n5_ := Aside0.mk (blk_below (g := gb589) (o := .cells #[.int .i64 a1_0, .slice A1_1 l1_1.length c1_1] 24 (0, 0)) (by (with_reducible repeat (refine blk_drew ?_)); exact BK589.out) hb); have n6_ := Aside0.mk (blk_below (g := gb605) (o := .cells #[.int .i64 t600, .slice Ao42 t601.length co42] 28 (0, 0)) (by (with_reducible repeat (refine blk_drew ?_)); exact BK605.out) hb); have n7_ := Aside0.mk (blk_below (g := gb610) (o := .cells #[.int .i64 t606, .slice Ao53 t634.length co53] 28 (0, 0)) (by (with_reducible repeat (refine blk_drew ?_)); exact BK610.out) hb); have n8_ := Aside0.mk (blk_below (g := gb615) (o := .cells #[.int .i64 t611, .slice Ao63 t636.length co63] 28 (0, 0)) (by (with_reducible repeat (refine blk_drew ?_)); exact BK615.out) hb); have n9_ := Aside0.mk (blk_below (g := gb621) (o := .cells #[.int .i64 t616, .slice Ao73 t617.length co73] 28 (0, 0)) (by (with_reducible repeat (refine blk_drew ?_)); exact BK621.out) hb); have n10_ := Aside0.mk (below_step (by repeat ((with_reducible exact HB.out))) hb); clear HO_606001; clear HO_611001; clear HO_616001; clear HO_622001; clear BK588; clear BK589; clear BK605; clear BK610; clear BK615; clear BK621; clear HB; have HO_606001 := n0_; have HO_611001 := n1_; have HO_616001 := n2_; have HO_622001 := n3_; have BK588 := n4_; have BK589 := n5_; have BK605 := n6_; have BK610 := n7_; have BK615 := n8_; have BK621 := n9_; have HB := n10_; clear n0_ n1_ n2_ n3_ n4_ n5_ n6_ n7_ n8_ n9_ n10_; (try clear hb); skip))
            go_ret
            exact ⟨by rfl, by repeat ((with_reducible exact HB.out))⟩
           ·rw [if_neg c161] at H
            have c161b0 : decide (t640 < 0) = false := decide_eq_false c161
            clear c161
            by_cases c171 : t640 = t638
            ·rw [if_pos c171] at H
             have c171b0 : (t640 == t638) = true := beq_iff_eq.mpr c171
             have c171b1 : (t640 != t638) = false := bne_eq_false_iff_eq.mpr c171
             clear c171
             replace H := Option.bind_eq_some_iff.mp H
             obtain ⟨⟨t641, t642⟩, A1720, H⟩ := H
             replace H : ((laws_toSpace.f kj108 a1_0 l1_1).bind fun bt645 => ((impl_UnionSpaces.f kj108 t641 t642 bt645.1 bt645.2).bind fun bt649 => ((laws_eqSpace.f kj108 bt649.1 bt649.2.1 t600 t601).bind fun t655 => (if t655 = true then (laws_FnExactUnionSpaces.j2 kj108 t638 (bt649.2.2 != t604) t616 t639) else (laws_FnExactUnionSpaces.j2 kj108 t638 true t616 t639))))) = some r := H
             have A172 := Aside0.mk A1720
             clear A1720
             replace H := Option.bind_eq_some_iff.mp H
             obtain ⟨⟨t645, t646⟩, A1730, H⟩ := H
             replace H : ((impl_UnionSpaces.f kj108 t641 t642 t645 t646).bind fun bt649 => ((laws_eqSpace.f kj108 bt649.1 bt649.2.1 t600 t601).bind fun t655 => (if t655 = true then (laws_FnExactUnionSpaces.j2 kj108 t638 (bt649.2.2 != t604) t616 t639) else (laws_FnExactUnionSpaces.j2 kj108 t638 true t616 t639)))) = some r := H
             have A173 := Aside0.mk A1730
             clear A1730
             replace H := Option.bind_eq_some_iff.mp H
             obtain ⟨⟨t649, t650, t653⟩, A1740, H⟩ := H
             replace H : ((laws_eqSpace.f kj108 t649 t650 t600 t601).bind fun t655 => (if t655 = true then (laws_FnExactUnionSpaces.j2 kj108 t638 (t653 != t604) t616 t639) else (laws_FnExactUnionSpaces.j2 kj108 t638 true t616 t639))) = some r := H
             have A174 := Aside0.mk A1740
             clear A1740
             have HC175 := Aside0.mk H
             clear H
             have hnb176 := NB621_588.out
             have hnc176 := NB588_621.out
             have hnb177 := NB621_589.out
             have hnc177 := NB589_621.out
             have hnb178 := NB621_605.out
             have hnc178 := NB605_621.out
             have hnb179 := NB621_610.out
             have hnc179 := NB610_621.out
             have hnb180 := NB621_615.out
             have hnc180 := NB615_621.out
             have hcz181_0 : wc.cell? ⟨gb621, 0, none⟩ = some (.int .i64 t616) := (blk_cell BK621.out 0).trans rfl
             have hcz181_1 : wc.cell? ⟨gb621, 1, none⟩ = some (.slice Ao73 t617.length co73) := (blk_cell BK621.out 1).trans rfl
             have hfz181_0 := blk_frozen BK621.out 0
             have hfz181_1 := blk_frozen BK621.out 1
             try go_wp2_with (first | ((with_reducible refine gate_callee (f := 27) rfl ?_); refine goesL_ (some 85) rfl rfl Try.func27 (by kernel_rfl) rfl #[.agg #[.int .i64 t616, .slice Ao73 t617.length co73], .int .i64 1] rfl (by (try simp only [List.map_toArray, List.map_cons, List.map_nil]); rfl) ?_; (with_reducible refine (laws_markSpace.calls kj108 t616 (fun k_ => some k_ = (.slice Ao73 t617.length co73 : Value).ownBlock) (.slice Ao73 t617.length co73) t617 1 t638 t639 w _ ?side1 ?side2 A159.out).mono ?_); (case side1 => repeat ((with_reducible exact HB.out))); (case side2 => exact Kd.R_tight rfl HO_622001.out); rintro e w182 ⟨rfl, hy0, hb, hkp⟩; refine ⟨_, rfl, ?_⟩; have n0_ := Aside0.mk (Kd.R_mono (ok' := fun k_ => some k_ ≠ (.slice Ao53 t634.length co53 : Value).ownBlock ∧ some k_ ≠ (.slice Ao63 t636.length co63 : Value).ownBlock ∧ some k_ ≠ (.slice Ao73 t617.length co73 : Value).ownBlock) (Kd.R_keptB (HO_606001.out) hkp (fun k_ hk_ hs_ => (hk_.2.2) hs_)) (fun k_ hk_ => ⟨hk_.1.1, hk_.1.2.1, hk_.1.2.2⟩)); have n1_ := Aside0.mk (Kd.R_mono (ok' := fun k_ => some k_ ≠ (.slice Ao42 t601.length co42 : Value).ownBlock ∧ some k_ ≠ (.slice Ao63 t636.length co63 : Value).ownBlock ∧ some k_ ≠ (.slice Ao73 t617.length co73 : Value).ownBlock) (Kd.R_keptB (HO_611001.out) hkp (fun k_ hk_ hs_ => (hk_.2.2) hs_)) (fun k_ hk_ => ⟨hk_.1.1, hk_.1.2.1, hk_.1.2.2⟩)); have n2_ := Aside0.mk (Kd.R_mono (ok' := fun k_ => some k_ ≠ (.slice Ao42 t601.length co42 : Value).ownBlock ∧ some k_ ≠ (.slice Ao53 t634.length co53 : Value).ownBlock ∧ some k_ ≠ (.slice Ao73 t617.length co73 : Value).ownBlock) (Kd.R_keptB (HO_616001.out) hkp (fun k_ hk_ hs_ => (hk_.2.2) hs_)) (fun k_ hk_ => ⟨hk_.1.1, hk_.1.2.1, hk_.1.2.2⟩)); have n3_ := Aside0.mk (Kd.R_reok rfl hy0 (fun k_ e_ => HO_622001.out.1 k_ e_)); have n4_ := Aside0.mk (blk_kept (by (with_reducible repeat (refine blk_drew ?_)); exact BK588.out) hkp (fun hs_ => (fun e_ => (Kd.R_ne HO_622001.out BK588.out (by decide)) e_) hs_)); have n5_ := Aside0.mk (blk_kept (by (with_reducible repeat (refine blk_drew ?_)); exact BK589.out) hkp (fun hs_ => (fun e_ => (Kd.R_ne HO_622001.out BK589.out (by decide)) e_) hs_)); have n6_ := Aside0.mk (blk_kept (by (with_reducible repeat (refine blk_drew ?_)); exact BK605.out) hkp (fun hs_ => (fun e_ => (Kd.R_ne HO_622001.out BK605.out (by decide)) e_) hs_)); have n7_ := Aside0.mk (blk_kept (by (with_reducible repeat (refine blk_drew ?_)); exact BK610.out) hkp (fun hs_ => (fun e_ => (Kd.R_ne HO_622001.out BK610.out (by decide)) e_) hs_)); have n8_ := Aside0.mk (blk_kept (by (with_reducible repeat (refine blk_drew ?_)); exact BK615.out) hkp (fun hs_ => (fun e_ => (Kd.R_ne HO_622001.out BK615.out (by decide)) e_) hs_)); have n9_ := Aside0.mk (blk_kept (by (with_reducible repeat (refine blk_drew ?_)); exact BK621.out) hkp (fun hs_ => (fun e_ => (Kd.R_ne HO_622001.out BK621.out (by decide)) e_) hs_)); have n10_ := Aside0.mk (hb); clear HO_606001; clear HO_611001; clear HO_616001; clear HO_622001; clear BK588; clear BK589; clear BK605; clear BK610; clear BK615; clear BK621; clear HB; have HO_606001 := n0_; have HO_611001 := n1_; have HO_616001 := n2_; have HO_622001 := n3_; have BK588 := n4_; have BK589 := n5_; have BK605 := n6_; have BK610 := n7_; have BK615 := n8_; have BK621 := n9_; have HB := n10_; clear n0_ n1_ n2_ n3_ n4_ n5_ n6_ n7_ n8_ n9_ n10_; (try clear hb); (try clear hkp); (try clear hy0); have hcz183_0 : w182.cell? ⟨gb621, 0, none⟩ = some (.int .i64 t616) := (blk_cell BK621.out 0).trans rfl; have hcz183_1 : w182.cell? ⟨gb621, 1, none⟩ = some (.slice Ao73 t617.length co73) := (blk_cell BK621.out 1).trans rfl; have hfz183_0 := blk_frozen BK621.out 0; have hfz183_1 := blk_frozen BK621.out 1) | ((with_reducible refine gate_callee (f := 28) rfl ?_); refine goesL_ (some 88) rfl rfl Try.func28 (by kernel_rfl) rfl #[.agg #[.int .i64 t616, .slice Ao73 t639.length co73], .int .i64 1] rfl (by (try simp only [List.map_toArray, List.map_cons, List.map_nil]); (rw [show t639.length = t617.length from (Kd.R_reads' HO_622001.out).1.symm] <;> rfl)) ?_; (with_reducible refine (laws_heldSpace.calls kj108 t616 _ _ t639 1 t640 _ ?side1 ?side2 A160.out).mono ?_); (case side1 => repeat (exact (Kd.R_reads' HO_622001.out).2.2)); (case side2 => rw [show t639.length = t617.length from (Kd.R_reads' HO_622001.out).1.symm]; exact (Kd.R_reads' HO_622001.out).2.1); rintro e w184 ⟨rfl, hb⟩; refine ⟨_, rfl, ?_⟩; have n0_ := Aside0.mk (Kd.R_below (by (with_reducible repeat (apply Kd.R_drew)); exact HO_606001.out) hb); have n1_ := Aside0.mk (Kd.R_below (by (with_reducible repeat (apply Kd.R_drew)); exact HO_611001.out) hb); have n2_ := Aside0.mk (Kd.R_below (by (with_reducible repeat (apply Kd.R_drew)); exact HO_616001.out) hb); have n3_ := Aside0.mk (Kd.R_below (by (with_reducible repeat (apply Kd.R_drew)); exact HO_622001.out) hb); have n4_ := Aside0.mk (blk_below (g := gb588) (o := .cells #[.int .i64 a0_0, .slice A0_1 l0_1.length c0_1] 24 (0, 0)) (by (with_reducible repeat (refine blk_drew ?_)); exact BK588.out) hb); have n5_ := Aside0.mk (blk_below (g := gb589) (o := .cells #[.int .i64 a1_0, .slice A1_1 l1_1.length c1_1] 24 (0, 0)) (by (with_reducible repeat (refine blk_drew ?_)); exact BK589.out) hb); have n6_ := Aside0.mk (blk_below (g := gb605) (o := .cells #[.int .i64 t600, .slice Ao42 t601.length co42] 28 (0, 0)) (by (with_reducible repeat (refine blk_drew ?_)); exact BK605.out) hb); have n7_ := Aside0.mk (blk_below (g := gb610) (o := .cells #[.int .i64 t606, .slice Ao53 t634.length co53] 28 (0, 0)) (by (with_reducible repeat (refine blk_drew ?_)); exact BK610.out) hb); have n8_ := Aside0.mk (blk_below (g := gb615) (o := .cells #[.int .i64 t611, .slice Ao63 t636.length co63] 28 (0, 0)) (by (with_reducible repeat (refine blk_drew ?_)); exact BK615.out) hb); have n9_ := Aside0.mk (blk_below (g := gb621) (o := .cells #[.int .i64 t616, .slice Ao73 t617.length co73] 28 (0, 0)) (by (with_reducible repeat (refine blk_drew ?_)); exact BK621.out) hb); have n10_ := Aside0.mk (below_step (by repeat ((with_reducible exact HB.out))) hb); clear HO_606001; clear HO_611001; clear HO_616001; clear HO_622001; clear BK588; clear BK589; clear BK605; clear BK610; clear BK615; clear BK621; clear HB; have HO_606001 := n0_; have HO_611001 := n1_; have HO_616001 := n2_; have HO_622001 := n3_; have BK588 := n4_; have BK589 := n5_; have BK605 := n6_; have BK610 := n7_; have BK615 := n8_; have BK621 := n9_; have HB := n10_; clear n0_ n1_ n2_ n3_ n4_ n5_ n6_ n7_ n8_ n9_ n10_; (try clear hb); skip))
             have n0_ := Aside0.mk (Kd.R_drew HO_606001.out)
             have n1_ := Aside0.mk (Kd.R_drew HO_611001.out)
             have n2_ := Aside0.mk (Kd.R_drew HO_616001.out)
             have n3_ := Aside0.mk (Kd.R_drew HO_622001.out)
             have n4_ := Aside0.mk (blk_drew BK588.out)
             have n5_ := Aside0.mk (blk_drew BK589.out)
             have n6_ := Aside0.mk (blk_drew BK605.out)
             have n7_ := Aside0.mk (blk_drew BK610.out)
             have n8_ := Aside0.mk (blk_drew BK615.out)
             have n9_ := Aside0.mk (blk_drew BK621.out)
             have n10_ := Aside0.mk (below_drew1 HB.out)
             clear HO_606001
             clear HO_611001
             clear HO_616001
             clear HO_622001
             clear BK588
             clear BK589
             clear BK605
             clear BK610
             clear BK615
             clear BK621
             clear HB
             have HO_606001 := n0_
             have HO_611001 := n1_
             have HO_616001 := n2_
             have HO_622001 := n3_
             have BK588 := n4_
             have BK589 := n5_
             have BK605 := n6_
             have BK610 := n7_
             have BK615 := n8_
             have BK621 := n9_
             have HB := n10_
             clear n0_ n1_ n2_ n3_ n4_ n5_ n6_ n7_ n8_ n9_ n10_
             refine start_ (n := 11) (S := fun w' => w'.cell? ⟨gb588, 0, none⟩ = some (.int .i64 a0_0) ∧ w'.cell? ⟨gb588, 1, none⟩ = some (.slice A0_1 l0_1.length c0_1) ∧ w'.cell? ⟨gb589, 0, none⟩ = some (.int .i64 a1_0) ∧ w'.cell? ⟨gb589, 1, none⟩ = some (.slice A1_1 l1_1.length c1_1)) (ds := []) #[false, false, false, false, false, false, false, false, false, false, false] (by kernel_rfl) rfl rfl ⟨(blk_cell BK588.out 0).trans rfl, (blk_cell BK588.out 1).trans rfl, (blk_cell BK589.out 0).trans rfl, (blk_cell BK589.out 1).trans rfl⟩ (fun hHeld => ?_); refine with_tabW laws_FnExactUnionSpaces.tab31 laws_FnExactUnionSpaces.bits31 (fun HT_ HW_ => ?_)
             generalize w184.drew = w185 at HO_606001 HO_611001 HO_616001 HO_622001 BK588 BK589 BK605 BK610 BK615 BK621 HB hHeld ⊢
             refine take_ (i := 0) (N := some 95) (v := ?_) (a' := ?_) #[true, false, false, false, false, false, false, false, false, false, false] rfl rfl (take_ofW HT_.out HW_.out (by kernel_rfl)) (fun _ _ _ h => h) (Or.inl ⟨by rfl, ?_⟩) hHeld ?_ ?_
             rotate_left
             ·rintro w' ⟨s0, s1, s2, s3⟩
              go_simp
              with_reducible rfl
             rotate_left
             ·simp only [Act.put, List.setIfInBounds_toArray, List.set_cons_zero, List.set_cons_succ, i64_w, i32_w]
              rfl
             refine take_ (i := 2) (N := some 97) (v := ?_) (a' := ?_) #[true, false, true, false, false, false, false, false, false, false, false] rfl rfl (take_ofW HT_.out HW_.out (by kernel_rfl)) (fun _ _ _ h => h) (Or.inl ⟨by rfl, ?_⟩) hHeld ?_ ?_
             rotate_left
             ·rintro w' ⟨s0, s1, s2, s3⟩
              go_simp
              with_reducible rfl
             rotate_left
             ·simp only [Act.put, List.setIfInBounds_toArray, List.set_cons_zero, List.set_cons_succ, i64_w, i32_w]
              rfl
             refine join_ (σ := Value × Value × Value × Nat) 2 #[true, true, true, true, true, true, true, true, true, false, false] (fun s_ => [(96, .agg #[.int .i64 t641, s_.1]), (98, .agg #[.int .i64 t645, s_.2.1]), (99, .tuple #[.agg #[.int .i64 t649, s_.2.2.1], .bool t653]), (15, .pointer (some ⟨s_.2.2.2, 0, none⟩)), (94, .tuple #[.agg #[.int .i64 t649, s_.2.2.1], .bool t653]), (100, .agg #[.int .i64 t649, s_.2.2.1]), (101, .bool t653)]) (fun s_ w' => (w'.cell? ⟨gb588, 0, none⟩ = some (.int .i64 a0_0) ∧ w'.cell? ⟨gb588, 1, none⟩ = some (.slice A0_1 l0_1.length c0_1) ∧ w'.cell? ⟨gb589, 0, none⟩ = some (.int .i64 a1_0) ∧ w'.cell? ⟨gb589, 1, none⟩ = some (.slice A1_1 l1_1.length c1_1)) ∧ (Kd.R (Kd.int .i64) 3 w' w.heap.size (fun k_ => some k_ ≠ (s_.2.1 : Value).ownBlock ∧ some k_ ≠ (s_.2.2.1 : Value).ownBlock ∧ some k_ ≠ (.slice Ao42 t601.length co42 : Value).ownBlock ∧ some k_ ≠ (.slice Ao53 t634.length co53 : Value).ownBlock ∧ some k_ ≠ (.slice Ao63 t636.length co63 : Value).ownBlock ∧ some k_ ≠ (.slice Ao73 t617.length co73 : Value).ownBlock) s_.1 t642) ∧ (Kd.R (Kd.int .i64) 3 w' w.heap.size (fun k_ => some k_ ≠ (s_.1 : Value).ownBlock ∧ some k_ ≠ (s_.2.2.1 : Value).ownBlock ∧ some k_ ≠ (.slice Ao42 t601.length co42 : Value).ownBlock ∧ some k_ ≠ (.slice Ao53 t634.length co53 : Value).ownBlock ∧ some k_ ≠ (.slice Ao63 t636.length co63 : Value).ownBlock ∧ some k_ ≠ (.slice Ao73 t617.length co73 : Value).ownBlock) s_.2.1 t646) ∧ (Kd.R (Kd.int .i64) 3 w' w.heap.size (fun k_ => some k_ ≠ (s_.1 : Value).ownBlock ∧ some k_ ≠ (s_.2.1 : Value).ownBlock ∧ some k_ ≠ (.slice Ao42 t601.length co42 : Value).ownBlock ∧ some k_ ≠ (.slice Ao53 t634.length co53 : Value).ownBlock ∧ some k_ ≠ (.slice Ao63 t636.length co63 : Value).ownBlock ∧ some k_ ≠ (.slice Ao73 t617.length co73 : Value).ownBlock) s_.2.2.1 t650) ∧ (Kd.R (Kd.int .i64) 3 w' w.heap.size (fun k_ => some k_ ≠ (s_.1 : Value).ownBlock ∧ some k_ ≠ (s_.2.1 : Value).ownBlock ∧ some k_ ≠ (s_.2.2.1 : Value).ownBlock ∧ some k_ ≠ (.slice Ao53 t634.length co53 : Value).ownBlock ∧ some k_ ≠ (.slice Ao63 t636.length co63 : Value).ownBlock ∧ some k_ ≠ (.slice Ao73 t617.length co73 : Value).ownBlock) (.slice Ao42 t601.length co42) t601) ∧ (Kd.R (Kd.int .i64) 3 w' w.heap.size (fun k_ => some k_ ≠ (s_.1 : Value).ownBlock ∧ some k_ ≠ (s_.2.1 : Value).ownBlock ∧ some k_ ≠ (s_.2.2.1 : Value).ownBlock ∧ some k_ ≠ (.slice Ao42 t601.length co42 : Value).ownBlock ∧ some k_ ≠ (.slice Ao63 t636.length co63 : Value).ownBlock ∧ some k_ ≠ (.slice Ao73 t617.length co73 : Value).ownBlock) (.slice Ao53 t634.length co53) t634) ∧ (Kd.R (Kd.int .i64) 3 w' w.heap.size (fun k_ => some k_ ≠ (s_.1 : Value).ownBlock ∧ some k_ ≠ (s_.2.1 : Value).ownBlock ∧ some k_ ≠ (s_.2.2.1 : Value).ownBlock ∧ some k_ ≠ (.slice Ao42 t601.length co42 : Value).ownBlock ∧ some k_ ≠ (.slice Ao53 t634.length co53 : Value).ownBlock ∧ some k_ ≠ (.slice Ao73 t617.length co73 : Value).ownBlock) (.slice Ao63 t636.length co63) t636) ∧ (Kd.R (Kd.int .i64) 3 w' w.heap.size (fun k_ => some k_ ≠ (s_.1 : Value).ownBlock ∧ some k_ ≠ (s_.2.1 : Value).ownBlock ∧ some k_ ≠ (s_.2.2.1 : Value).ownBlock ∧ some k_ ≠ (.slice Ao42 t601.length co42 : Value).ownBlock ∧ some k_ ≠ (.slice Ao53 t634.length co53 : Value).ownBlock ∧ some k_ ≠ (.slice Ao63 t636.length co63 : Value).ownBlock) (.slice Ao73 t617.length co73) t639) ∧ (w'.heap[gb588]? = some (.cells #[.int .i64 a0_0, .slice A0_1 l0_1.length c0_1] 24 (0, 0))) ∧ (w'.heap[gb589]? = some (.cells #[.int .i64 a1_0, .slice A1_1 l1_1.length c1_1] 24 (0, 0))) ∧ (w'.heap[gb605]? = some (.cells #[.int .i64 t600, .slice Ao42 t601.length co42] 28 (0, 0))) ∧ (w'.heap[gb610]? = some (.cells #[.int .i64 t606, .slice Ao53 t634.length co53] 28 (0, 0))) ∧ (w'.heap[gb615]? = some (.cells #[.int .i64 t611, .slice Ao63 t636.length co63] 28 (0, 0))) ∧ (w'.heap[gb621]? = some (.cells #[.int .i64 t616, .slice Ao73 t617.length co73] 28 (0, 0))) ∧ (w'.heap[s_.2.2.2]? = some (.cells #[.int .i64 0, .slice none 0 0] 28 (0, 0))) ∧ (w.heap.size ≤ s_.2.2.2) ∧ (w.heap.size ≤ s_.2.2.2) ∧ (gb588 ≠ s_.2.2.2) ∧ (s_.2.2.2 ≠ gb588) ∧ (gb589 ≠ s_.2.2.2) ∧ (s_.2.2.2 ≠ gb589) ∧ (gb605 ≠ s_.2.2.2) ∧ (s_.2.2.2 ≠ gb605) ∧ (gb610 ≠ s_.2.2.2) ∧ (s_.2.2.2 ≠ gb610) ∧ (gb615 ≠ s_.2.2.2) ∧ (s_.2.2.2 ≠ gb615) ∧ (gb621 ≠ s_.2.2.2) ∧ (s_.2.2.2 ≠ gb621) ∧ (Below w.heap.size w w')) ?_ ?_
             rotate_left
             ·exact laws_FnExactUnionSpaces.r31 a0_0 A0_1 c0_1 l0_1 a1_0 A1_1 c1_1 l1_1 w HR0_1 HC0_1 HR1_1 HC1_1 t591 t600 t601 t604 t606 t611 t616 t617 t620 gb588 GE588 gb589 GE589 gb605 GE605 Ao42 co42 gb610 GE610 Ao53 co53 gb615 GE615 Ao63 co63 gb621 GE621 Ao73 co73 t634 t635 t636 u17 u18 u19 u20 u21 u22 u23 u24 u25 u26 u27 u28 u29 u30 u31 u32 u33 u34 u35 u36 u37 u38 u39 u40 u41 u42 u43 u44 u45 u46 u47 u48 u49 u50 u51 u52 u53 u54 u55 u56 u57 u58 u59 u60 u61 u62 u63 u64 u65 u66 u67 u68 u69 u70 u71 u72 u73 u74 u75 u76 u77 u78 u79 u80 u81 u94 u96 u98 u99 u100 u101 u102 u103 u104 u105 u106 u107 u108 u109 u110 u111 u112 u113 u114 u115 u116 u117 u118 kj108 t638 t639 t640 t641 t642 A172 t645 t646 A173 t649 t650 t653 A174 HT_ w185 HO_606001 HO_611001 HO_616001 HO_622001 BK588 BK589 BK605 BK610 BK615 BK621 HB hHeld _ _
             rintro ⟨v643, v647, v651, gb654⟩ w192 ⟨hS_, h0_, h1_, h2_, h3_, h4_, h5_, h6_, h7_, h8_, h9_, h10_, h11_, h12_, h13_, h14_, h15_, h16_, h17_, h18_, h19_, h20_, h21_, h22_, h23_, h24_, h25_, h26_, h27_, h28_⟩
             have n0_ : Aside0 (Kd.R (Kd.int .i64) 3 w192 w.heap.size (fun k_ => some k_ ≠ (v647 : Value).ownBlock ∧ some k_ ≠ (v651 : Value).ownBlock ∧ some k_ ≠ (.slice Ao42 t601.length co42 : Value).ownBlock ∧ some k_ ≠ (.slice Ao53 t634.length co53 : Value).ownBlock ∧ some k_ ≠ (.slice Ao63 t636.length co63 : Value).ownBlock ∧ some k_ ≠ (.slice Ao73 t617.length co73 : Value).ownBlock) v643 t642) := ⟨h0_⟩
             have n1_ : Aside0 (Kd.R (Kd.int .i64) 3 w192 w.heap.size (fun k_ => some k_ ≠ (v643 : Value).ownBlock ∧ some k_ ≠ (v651 : Value).ownBlock ∧ some k_ ≠ (.slice Ao42 t601.length co42 : Value).ownBlock ∧ some k_ ≠ (.slice Ao53 t634.length co53 : Value).ownBlock ∧ some k_ ≠ (.slice Ao63 t636.length co63 : Value).ownBlock ∧ some k_ ≠ (.slice Ao73 t617.length co73 : Value).ownBlock) v647 t646) := ⟨h1_⟩
             have n2_ : Aside0 (Kd.R (Kd.int .i64) 3 w192 w.heap.size (fun k_ => some k_ ≠ (v643 : Value).ownBlock ∧ some k_ ≠ (v647 : Value).ownBlock ∧ some k_ ≠ (.slice Ao42 t601.length co42 : Value).ownBlock ∧ some k_ ≠ (.slice Ao53 t634.length co53 : Value).ownBlock ∧ some k_ ≠ (.slice Ao63 t636.length co63 : Value).ownBlock ∧ some k_ ≠ (.slice Ao73 t617.length co73 : Value).ownBlock) v651 t650) := ⟨h2_⟩
             have n3_ : Aside0 (Kd.R (Kd.int .i64) 3 w192 w.heap.size (fun k_ => some k_ ≠ (v643 : Value).ownBlock ∧ some k_ ≠ (v647 : Value).ownBlock ∧ some k_ ≠ (v651 : Value).ownBlock ∧ some k_ ≠ (.slice Ao53 t634.length co53 : Value).ownBlock ∧ some k_ ≠ (.slice Ao63 t636.length co63 : Value).ownBlock ∧ some k_ ≠ (.slice Ao73 t617.length co73 : Value).ownBlock) (.slice Ao42 t601.length co42) t601) := ⟨h3_⟩
             have n4_ : Aside0 (Kd.R (Kd.int .i64) 3 w192 w.heap.size (fun k_ => some k_ ≠ (v643 : Value).ownBlock ∧ some k_ ≠ (v647 : Value).ownBlock ∧ some k_ ≠ (v651 : Value).ownBlock ∧ some k_ ≠ (.slice Ao42 t601.length co42 : Value).ownBlock ∧ some k_ ≠ (.slice Ao63 t636.length co63 : Value).ownBlock ∧ some k_ ≠ (.slice Ao73 t617.length co73 : Value).ownBlock) (.slice Ao53 t634.length co53) t634) := ⟨h4_⟩
             have n5_ : Aside0 (Kd.R (Kd.int .i64) 3 w192 w.heap.size (fun k_ => some k_ ≠ (v643 : Value).ownBlock ∧ some k_ ≠ (v647 : Value).ownBlock ∧ some k_ ≠ (v651 : Value).ownBlock ∧ some k_ ≠ (.slice Ao42 t601.length co42 : Value).ownBlock ∧ some k_ ≠ (.slice Ao53 t634.length co53 : Value).ownBlock ∧ some k_ ≠ (.slice Ao73 t617.length co73 : Value).ownBlock) (.slice Ao63 t636.length co63) t636) := ⟨h5_⟩
             have n6_ : Aside0 (Kd.R (Kd.int .i64) 3 w192 w.heap.size (fun k_ => some k_ ≠ (v643 : Value).ownBlock ∧ some k_ ≠ (v647 : Value).ownBlock ∧ some k_ ≠ (v651 : Value).ownBlock ∧ some k_ ≠ (.slice Ao42 t601.length co42 : Value).ownBlock ∧ some k_ ≠ (.slice Ao53 t634.length co53 : Value).ownBlock ∧ some k_ ≠ (.slice Ao63 t636.length co63 : Value).ownBlock) (.slice Ao73 t617.length co73) t639) := ⟨h6_⟩
             have n7_ : Aside0 (w192.heap[gb588]? = some (.cells #[.int .i64 a0_0, .slice A0_1 l0_1.length c0_1] 24 (0, 0))) := ⟨h7_⟩
             have n8_ : Aside0 (w192.heap[gb589]? = some (.cells #[.int .i64 a1_0, .slice A1_1 l1_1.length c1_1] 24 (0, 0))) := ⟨h8_⟩
             have n9_ : Aside0 (w192.heap[gb605]? = some (.cells #[.int .i64 t600, .slice Ao42 t601.length co42] 28 (0, 0))) := ⟨h9_⟩
             have n10_ : Aside0 (w192.heap[gb610]? = some (.cells #[.int .i64 t606, .slice Ao53 t634.length co53] 28 (0, 0))) := ⟨h10_⟩
             have n11_ : Aside0 (w192.heap[gb615]? = some (.cells #[.int .i64 t611, .slice Ao63 t636.length co63] 28 (0, 0))) := ⟨h11_⟩
             have n12_ : Aside0 (w192.heap[gb621]? = some (.cells #[.int .i64 t616, .slice Ao73 t617.length co73] 28 (0, 0))) := ⟨h12_⟩
             have n13_ : Aside0 (w192.heap[gb654]? = some (.cells #[.int .i64 0, .slice none 0 0] 28 (0, 0))) := ⟨h13_⟩
             have n14_ : Aside0 (w.heap.size ≤ gb654) := ⟨h14_⟩
             have n15_ : Aside0 (w.heap.size ≤ gb654) := ⟨h15_⟩
             have n16_ : Aside0 (gb588 ≠ gb654) := ⟨h16_⟩
             have n17_ : Aside0 (gb654 ≠ gb588) := ⟨h17_⟩
             have n18_ : Aside0 (gb589 ≠ gb654) := ⟨h18_⟩
             have n19_ : Aside0 (gb654 ≠ gb589) := ⟨h19_⟩
             have n20_ : Aside0 (gb605 ≠ gb654) := ⟨h20_⟩
             have n21_ : Aside0 (gb654 ≠ gb605) := ⟨h21_⟩
             have n22_ : Aside0 (gb610 ≠ gb654) := ⟨h22_⟩
             have n23_ : Aside0 (gb654 ≠ gb610) := ⟨h23_⟩
             have n24_ : Aside0 (gb615 ≠ gb654) := ⟨h24_⟩
             have n25_ : Aside0 (gb654 ≠ gb615) := ⟨h25_⟩
             have n26_ : Aside0 (gb621 ≠ gb654) := ⟨h26_⟩
             have n27_ : Aside0 (gb654 ≠ gb621) := ⟨h27_⟩
             have n28_ : Aside0 (Below w.heap.size w w192) := ⟨h28_⟩
             clear HO_606001
             clear HO_611001
             clear HO_616001
             clear HO_622001
             clear BK588
             clear BK589
             clear BK605
             clear BK610
             clear BK615
             clear BK621
             clear HB
             clear h0_ h1_ h2_ h3_ h4_ h5_ h6_ h7_ h8_ h9_ h10_ h11_ h12_ h13_ h14_ h15_ h16_ h17_ h18_ h19_ h20_ h21_ h22_ h23_ h24_ h25_ h26_ h27_ h28_
             have HO644 := n0_
             have HO648 := n1_
             have HO652 := n2_
             have HO_606001 := n3_
             have HO_611001 := n4_
             have HO_616001 := n5_
             have HO_622001 := n6_
             have BK588 := n7_
             have BK589 := n8_
             have BK605 := n9_
             have BK610 := n10_
             have BK615 := n11_
             have BK621 := n12_
             have BK654 := n13_
             have GW654 := n14_
             have GE654 := n15_
             have NB588_654 := n16_
             have NB654_588 := n17_
             have NB589_654 := n18_
             have NB654_589 := n19_
             have NB605_654 := n20_
             have NB654_605 := n21_
             have NB610_654 := n22_
             have NB654_610 := n23_
             have NB615_654 := n24_
             have NB654_615 := n25_
             have NB621_654 := n26_
             have NB654_621 := n27_
             have HB := n28_
             clear n0_ n1_ n2_ n3_ n4_ n5_ n6_ n7_ n8_ n9_ n10_ n11_ n12_ n13_ n14_ n15_ n16_ n17_ n18_ n19_ n20_ n21_ n22_ n23_ n24_ n25_ n26_ n27_ n28_
             have hHeld : w192.cell? ⟨gb588, 0, none⟩ = some (.int .i64 a0_0) ∧ w192.cell? ⟨gb588, 1, none⟩ = some (.slice A0_1 l0_1.length c0_1) ∧ w192.cell? ⟨gb589, 0, none⟩ = some (.int .i64 a1_0) ∧ w192.cell? ⟨gb589, 1, none⟩ = some (.slice A1_1 l1_1.length c1_1) := hS_
             obtain ⟨Ao194, co194, eo194⟩ := Kd.R_slice HO652.out
             (subst eo194)
             refine norm_ (a' := ?_) ?_ ?_
             rotate_left
             ·simp only [putAll, Act.put, List.setIfInBounds_toArray, List.set_cons_zero, List.set_cons_succ]
              rfl
             refine one_ (i := 9) (N := none) #[true, true, true, true, true, true, true, true, true, true, false] rfl rfl (one_of HT_.out (by kernel_rfl)) (by decide) (fun K hK => ?_)
             have hs193 : w192.cell? ⟨gb654, 0, none⟩ = some (.int .i64 0) := (blk_cell BK654.out 0).trans rfl
             have hfs193 := blk_frozen BK654.out 0
             have hns193_0 := NB588_654.out
             have hns193_1 := NB589_654.out
             have hns193_2 := NB605_654.out
             have hns193_3 := NB610_654.out
             have hns193_4 := NB615_654.out
             have hns193_5 := NB621_654.out
             have hms193_0 := NB654_588.out
             have hms193_1 := NB654_589.out
             have hms193_2 := NB654_605.out
             have hms193_3 := NB654_610.out
             have hms193_4 := NB654_615.out
             have hms193_5 := NB654_621.out
             have hs195 : w192.cell? ⟨gb654, 1, none⟩ = some (.slice none 0 0) := (blk_cell BK654.out 1).trans rfl
             have hfs195 := blk_frozen BK654.out 1
             have hns195_0 := NB588_654.out
             have hns195_1 := NB589_654.out
             have hns195_2 := NB605_654.out
             have hns195_3 := NB610_654.out
             have hns195_4 := NB615_654.out
             have hns195_5 := NB621_654.out
             have hms195_0 := NB654_588.out
             have hms195_1 := NB654_589.out
             have hms195_2 := NB654_605.out
             have hms195_3 := NB654_610.out
             have hms195_4 := NB654_615.out
             have hms195_5 := NB654_621.out
             refine skip_ (w1 := ?_) (by rfl) rfl ?_ ?_
             rotate_left
             ·go_simp
              rfl
             refine hK.out _ _ ⟨((cell_far (p := ⟨gb654, _, none⟩) NB588_654.out _).trans (((cell_far (p := ⟨gb654, _, none⟩) NB588_654.out _).trans (hHeld.1)))), ((cell_far (p := ⟨gb654, _, none⟩) NB588_654.out _).trans (((cell_far (p := ⟨gb654, _, none⟩) NB588_654.out _).trans (hHeld.2.1)))), ((cell_far (p := ⟨gb654, _, none⟩) NB589_654.out _).trans (((cell_far (p := ⟨gb654, _, none⟩) NB589_654.out _).trans (hHeld.2.2.1)))), ((cell_far (p := ⟨gb654, _, none⟩) NB589_654.out _).trans (((cell_far (p := ⟨gb654, _, none⟩) NB589_654.out _).trans (hHeld.2.2.2))))⟩ (fun hHeld => ?_)
             clear hK K
             refine pure_ (i := 10) (N := some 16) (v := ?_) (a' := ?_) #[true, true, true, true, true, true, true, true, true, true, true] rfl rfl (any_of HT_.out (by kernel_rfl)) (fun _ _ _ h => h) (Or.inl ⟨by rfl, ?_⟩) ?_ ?_
             rotate_left
             ·intro w'
              go_simp
              with_reducible rfl
             rotate_left
             ·simp only [Act.put, List.setIfInBounds_toArray, List.set_cons_zero, List.set_cons_succ, i64_w, i32_w]
              rfl
             refine done_ (done_of HT_.out (by kernel_rfl)) ?_
             go_upto_region 32 with (fail)
             go_cut [110] (fun v110 wc => ∃ (kq : Nat) (x110_174 : Bool), v110 = .bool x110_174 ∧ Aside0 (laws_FnExactUnionSpaces.j2 kq t638 x110_174 t616 t639 = some r) ∧ Aside0 (kq ≤ kj108) ∧ Aside0 (Kd.R (Kd.int .i64) 3 wc w.heap.size (fun k_ => some k_ ≠ ((.slice Ao53 t634.length co53) : Value).ownBlock ∧ some k_ ≠ ((.slice Ao63 t636.length co63) : Value).ownBlock ∧ some k_ ≠ ((.slice Ao73 t617.length co73) : Value).ownBlock ∧ some k_ ≠ ((.slice Ao194 t650.length co194) : Value).ownBlock) (.slice Ao42 t601.length co42) t601) ∧ Aside0 (Kd.R (Kd.int .i64) 3 wc w.heap.size (fun k_ => some k_ ≠ ((.slice Ao42 t601.length co42) : Value).ownBlock ∧ some k_ ≠ ((.slice Ao63 t636.length co63) : Value).ownBlock ∧ some k_ ≠ ((.slice Ao73 t617.length co73) : Value).ownBlock ∧ some k_ ≠ ((.slice Ao194 t650.length co194) : Value).ownBlock) (.slice Ao53 t634.length co53) t634) ∧ Aside0 (Kd.R (Kd.int .i64) 3 wc w.heap.size (fun k_ => some k_ ≠ ((.slice Ao42 t601.length co42) : Value).ownBlock ∧ some k_ ≠ ((.slice Ao53 t634.length co53) : Value).ownBlock ∧ some k_ ≠ ((.slice Ao73 t617.length co73) : Value).ownBlock ∧ some k_ ≠ ((.slice Ao194 t650.length co194) : Value).ownBlock) (.slice Ao63 t636.length co63) t636) ∧ Aside0 (Kd.R (Kd.int .i64) 3 wc w.heap.size (fun k_ => some k_ ≠ ((.slice Ao42 t601.length co42) : Value).ownBlock ∧ some k_ ≠ ((.slice Ao53 t634.length co53) : Value).ownBlock ∧ some k_ ≠ ((.slice Ao63 t636.length co63) : Value).ownBlock ∧ some k_ ≠ ((.slice Ao194 t650.length co194) : Value).ownBlock) (.slice Ao73 t617.length co73) t639) ∧ Aside0 (Kd.R (Kd.int .i64) 3 wc w.heap.size (fun k_ => some k_ ≠ ((.slice Ao42 t601.length co42) : Value).ownBlock ∧ some k_ ≠ ((.slice Ao53 t634.length co53) : Value).ownBlock ∧ some k_ ≠ ((.slice Ao63 t636.length co63) : Value).ownBlock ∧ some k_ ≠ ((.slice Ao73 t617.length co73) : Value).ownBlock) (.slice Ao194 t650.length co194) t650) ∧ Aside0 (wc.heap[gb588]? = some (.cells #[.int .i64 a0_0, (.slice A0_1 l0_1.length c0_1)] 24 (0, 0))) ∧ Aside0 (wc.heap[gb589]? = some (.cells #[.int .i64 a1_0, (.slice A1_1 l1_1.length c1_1)] 24 (0, 0))) ∧ Aside0 (wc.heap[gb605]? = some (.cells #[.int .i64 t600, (.slice Ao42 t601.length co42)] 28 (0, 0))) ∧ Aside0 (wc.heap[gb610]? = some (.cells #[.int .i64 t606, (.slice Ao53 t634.length co53)] 28 (0, 0))) ∧ Aside0 (wc.heap[gb615]? = some (.cells #[.int .i64 t611, (.slice Ao63 t636.length co63)] 28 (0, 0))) ∧ Aside0 (wc.heap[gb621]? = some (.cells #[.int .i64 t616, (.slice Ao73 t617.length co73)] 28 (0, 0))) ∧ Aside0 (wc.heap[gb654]? = some (.cells #[.int .i64 t649, (.slice Ao194 t650.length co194)] 28 (0, 0))) ∧ Aside0 (Below w.heap.size w wc))
             case first =>
              have H := HC175.out
              clear HC175
              replace H := Option.bind_eq_some_iff.mp H
              obtain ⟨t655, A1960, H⟩ := H
              replace H : (if t655 = true then (laws_FnExactUnionSpaces.j2 kj108 t638 (t653 != t604) t616 t639) else (laws_FnExactUnionSpaces.j2 kj108 t638 true t616 t639)) = some r := H
              have A196 := Aside0.mk A1960
              clear A1960
              by_cases c197 : t655 = true
              ·subst c197
               have H1 : (laws_FnExactUnionSpaces.j2 kj108 t638 (t653 != t604) t616 t639) = some r := by rw [if_pos rfl] at H; exact H
               clear H
               have H := H1
               clear H1
               have H' := Aside0.mk H
               clear H
               have hnb198 := NB654_588.out
               have hnc198 := NB588_654.out
               have hnb199 := NB654_589.out
               have hnc199 := NB589_654.out
               have hnb200 := NB654_605.out
               have hnc200 := NB605_654.out
               have hnb201 := NB654_610.out
               have hnc201 := NB610_654.out
               have hnb202 := NB654_615.out
               have hnc202 := NB615_654.out
               have hnb203 := NB654_621.out
               have hnc203 := NB621_654.out
               have hcz204_0 : w192.cell? ⟨gb654, 0, none⟩ = some (.int .i64 0) := (blk_cell BK654.out 0).trans rfl
               have hcz204_1 : w192.cell? ⟨gb654, 1, none⟩ = some (.slice none 0 0) := (blk_cell BK654.out 1).trans rfl
               have hfz204_0 := blk_frozen BK654.out 0
               have hfz204_1 := blk_frozen BK654.out 1
               have hnb205 := NB605_588.out
               have hnc205 := NB588_605.out
               have hnb206 := NB605_589.out
               have hnc206 := NB589_605.out
               have hnb207 := NB605_610.out
               have hnc207 := NB610_605.out
               have hnb208 := NB605_615.out
               have hnc208 := NB615_605.out
               have hnb209 := NB605_621.out
               have hnc209 := NB621_605.out
               have hcz210_0 : w192.cell? ⟨gb605, 0, none⟩ = some (.int .i64 t600) := (blk_cell BK605.out 0).trans rfl
               have hcz210_1 : w192.cell? ⟨gb605, 1, none⟩ = some (.slice Ao42 t601.length co42) := (blk_cell BK605.out 1).trans rfl
               have hfz210_0 := blk_frozen BK605.out 0
               have hfz210_1 := blk_frozen BK605.out 1
               go_wp2_with (((with_reducible refine gate_callee (f := 15) rfl ?_); refine goesL_ (some 104) rfl rfl Try.func15 (by kernel_rfl) rfl #[.agg #[.int .i64 t649, .slice Ao194 t650.length co194], .agg #[.int .i64 t600, .slice Ao42 t601.length co42]] rfl (by (try simp only [List.map_toArray, List.map_cons, List.map_nil]); rfl) ?_; (with_reducible refine (laws_eqSpace.calls kj108 t649 _ _ t650 t600 _ _ t601 true _ ?side1 ?side2 ?side3 ?side4 A196.out).mono ?_); (case side1 => refine (Kd.R_reads' (e := 3) (base := w.heap.size) (ok := fun k_ => (some k_ ≠ (v643 : Value).ownBlock ∧ (some k_ ≠ (v647 : Value).ownBlock ∧ (some k_ ≠ (.slice Ao42 t601.length co42 : Value).ownBlock ∧ (some k_ ≠ (.slice Ao53 t634.length co53 : Value).ownBlock ∧ (some k_ ≠ (.slice Ao63 t636.length co63 : Value).ownBlock ∧ some k_ ≠ (.slice Ao73 t617.length co73 : Value).ownBlock)))))) (n := t650.length) (c := co194) ?_).2.2; exact (by (with_reducible repeat (apply Kd.R_drew)); exact (Kd.R_mono (Kd.R_far (p := ⟨gb654, 1, none⟩) (Kd.R_far (p := ⟨gb654, 0, none⟩) (Kd.R_types HO652.out BK654.out (by decide)) (fun _ hk => hk.2) (.int .i64 t649)) (fun _ hk => hk.2) (.slice Ao194 t650.length co194)) (fun _ h_ => h_.1)))); (case side2 => exact (Kd.R_reads' HO652.out).2.1); (case side3 => refine (Kd.R_reads' (e := 3) (base := w.heap.size) (ok := fun k_ => (some k_ ≠ (v643 : Value).ownBlock ∧ (some k_ ≠ (v647 : Value).ownBlock ∧ (some k_ ≠ (.slice Ao194 t650.length co194 : Value).ownBlock ∧ (some k_ ≠ (.slice Ao53 t634.length co53 : Value).ownBlock ∧ (some k_ ≠ (.slice Ao63 t636.length co63 : Value).ownBlock ∧ some k_ ≠ (.slice Ao73 t617.length co73 : Value).ownBlock)))))) (n := t601.length) (c := co42) ?_).2.2; exact (by (with_reducible repeat (apply Kd.R_drew)); exact (Kd.R_mono (Kd.R_far (p := ⟨gb654, 1, none⟩) (Kd.R_far (p := ⟨gb654, 0, none⟩) (Kd.R_types HO_606001.out BK654.out (by decide)) (fun _ hk => hk.2) (.int .i64 t649)) (fun _ hk => hk.2) (.slice Ao194 t650.length co194)) (fun _ h_ => h_.1)))); (case side4 => exact (Kd.R_reads' HO_606001.out).2.1); rintro e w211 ⟨rfl, hb⟩; refine ⟨_, rfl, ?_⟩; have n0_ := Aside0.mk (Kd.R_below (by (with_reducible repeat (apply Kd.R_drew)); exact (Kd.R_mono (Kd.R_far (p := ⟨gb654, 1, none⟩) (Kd.R_far (p := ⟨gb654, 0, none⟩) (Kd.R_types HO_606001.out BK654.out (by decide)) (fun _ hk => hk.2) (.int .i64 t649)) (fun _ hk => hk.2) (.slice Ao194 t650.length co194)) (fun _ h_ => h_.1))) hb); have n1_ := Aside0.mk (Kd.R_below (by (with_reducible repeat (apply Kd.R_drew)); exact (Kd.R_mono (Kd.R_far (p := ⟨gb654, 1, none⟩) (Kd.R_far (p := ⟨gb654, 0, none⟩) (Kd.R_types HO_611001.out BK654.out (by decide)) (fun _ hk => hk.2) (.int .i64 t649)) (fun _ hk => hk.2) (.slice Ao194 t650.length co194)) (fun _ h_ => h_.1))) hb); have n2_ := Aside0.mk (Kd.R_below (by (with_reducible repeat (apply Kd.R_drew)); exact (Kd.R_mono (Kd.R_far (p := ⟨gb654, 1, none⟩) (Kd.R_far (p := ⟨gb654, 0, none⟩) (Kd.R_types HO_616001.out BK654.out (by decide)) (fun _ hk => hk.2) (.int .i64 t649)) (fun _ hk => hk.2) (.slice Ao194 t650.length co194)) (fun _ h_ => h_.1))) hb); have n3_ := Aside0.mk (Kd.R_below (by (with_reducible repeat (apply Kd.R_drew)); exact (Kd.R_mono (Kd.R_far (p := ⟨gb654, 1, none⟩) (Kd.R_far (p := ⟨gb654, 0, none⟩) (Kd.R_types HO_622001.out BK654.out (by decide)) (fun _ hk => hk.2) (.int .i64 t649)) (fun _ hk => hk.2) (.slice Ao194 t650.length co194)) (fun _ h_ => h_.1))) hb); have n4_ := Aside0.mk (Kd.R_below (by (with_reducible repeat (apply Kd.R_drew)); exact (Kd.R_mono (Kd.R_far (p := ⟨gb654, 1, none⟩) (Kd.R_far (p := ⟨gb654, 0, none⟩) (Kd.R_types HO644.out BK654.out (by decide)) (fun _ hk => hk.2) (.int .i64 t649)) (fun _ hk => hk.2) (.slice Ao194 t650.length co194)) (fun _ h_ => h_.1))) hb); have n5_ := Aside0.mk (Kd.R_below (by (with_reducible repeat (apply Kd.R_drew)); exact (Kd.R_mono (Kd.R_far (p := ⟨gb654, 1, none⟩) (Kd.R_far (p := ⟨gb654, 0, none⟩) (Kd.R_types HO648.out BK654.out (by decide)) (fun _ hk => hk.2) (.int .i64 t649)) (fun _ hk => hk.2) (.slice Ao194 t650.length co194)) (fun _ h_ => h_.1))) hb); have n6_ := Aside0.mk (Kd.R_below (by (with_reducible repeat (apply Kd.R_drew)); exact (Kd.R_mono (Kd.R_far (p := ⟨gb654, 1, none⟩) (Kd.R_far (p := ⟨gb654, 0, none⟩) (Kd.R_types HO652.out BK654.out (by decide)) (fun _ hk => hk.2) (.int .i64 t649)) (fun _ hk => hk.2) (.slice Ao194 t650.length co194)) (fun _ h_ => h_.1))) hb); have n7_ := Aside0.mk (blk_below (g := gb588) (o := .cells #[.int .i64 a0_0, .slice A0_1 l0_1.length c0_1] 24 (0, 0)) (by (with_reducible repeat (refine blk_drew ?_)); refine blk_far ?_ NB588_654.out _; (with_reducible repeat (refine blk_drew ?_)); refine blk_far ?_ NB588_654.out _; (with_reducible repeat (refine blk_drew ?_)); exact BK588.out) hb); have n8_ := Aside0.mk (blk_below (g := gb589) (o := .cells #[.int .i64 a1_0, .slice A1_1 l1_1.length c1_1] 24 (0, 0)) (by (with_reducible repeat (refine blk_drew ?_)); refine blk_far ?_ NB589_654.out _; (with_reducible repeat (refine blk_drew ?_)); refine blk_far ?_ NB589_654.out _; (with_reducible repeat (refine blk_drew ?_)); exact BK589.out) hb); have n9_ := Aside0.mk (blk_below (g := gb605) (o := .cells #[.int .i64 t600, .slice Ao42 t601.length co42] 28 (0, 0)) (by (with_reducible repeat (refine blk_drew ?_)); refine blk_far ?_ NB605_654.out _; (with_reducible repeat (refine blk_drew ?_)); refine blk_far ?_ NB605_654.out _; (with_reducible repeat (refine blk_drew ?_)); exact BK605.out) hb); have n10_ := Aside0.mk (blk_below (g := gb610) (o := .cells #[.int .i64 t606, .slice Ao53 t634.length co53] 28 (0, 0)) (by (with_reducible repeat (refine blk_drew ?_)); refine blk_far ?_ NB610_654.out _; (with_reducible repeat (refine blk_drew ?_)); refine blk_far ?_ NB610_654.out _; (with_reducible repeat (refine blk_drew ?_)); exact BK610.out) hb); have n11_ := Aside0.mk (blk_below (g := gb615) (o := .cells #[.int .i64 t611, .slice Ao63 t636.length co63] 28 (0, 0)) (by (with_reducible repeat (refine blk_drew ?_)); refine blk_far ?_ NB615_654.out _; (with_reducible repeat (refine blk_drew ?_)); refine blk_far ?_ NB615_654.out _; (with_reducible repeat (refine blk_drew ?_)); exact BK615.out) hb); have n12_ := Aside0.mk (blk_below (g := gb621) (o := .cells #[.int .i64 t616, .slice Ao73 t617.length co73] 28 (0, 0)) (by (with_reducible repeat (refine blk_drew ?_)); refine blk_far ?_ NB621_654.out _; (with_reducible repeat (refine blk_drew ?_)); refine blk_far ?_ NB621_654.out _; (with_reducible repeat (refine blk_drew ?_)); exact BK621.out) hb); have n13_ := Aside0.mk (blk_below (g := gb654) (o := .cells #[.int .i64 t649, .slice Ao194 t650.length co194] 28 (0, 0)) (by (with_reducible repeat (refine blk_drew ?_)); refine blk_put (cs := #[.int .i64 t649, .slice none 0 0]) ?_ 1 _ rfl; (with_reducible repeat (refine blk_drew ?_)); refine blk_put (cs := #[.int .i64 0, .slice none 0 0]) ?_ 0 _ rfl; (with_reducible repeat (refine blk_drew ?_)); exact BK654.out) hb); have n14_ := Aside0.mk (below_step (by repeat ((with_reducible first | exact HB.out | refine below_set ?_ GE654.out))) hb); clear HO_606001; clear HO_611001; clear HO_616001; clear HO_622001; clear HO644; clear HO648; clear HO652; clear BK588; clear BK589; clear BK605; clear BK610; clear BK615; clear BK621; clear BK654; clear HB; have HO_606001 := n0_; have HO_611001 := n1_; have HO_616001 := n2_; have HO_622001 := n3_; have HO644 := n4_; have HO648 := n5_; have HO652 := n6_; have BK588 := n7_; have BK589 := n8_; have BK605 := n9_; have BK610 := n10_; have BK615 := n11_; have BK621 := n12_; have BK654 := n13_; have HB := n14_; clear n0_ n1_ n2_ n3_ n4_ n5_ n6_ n7_ n8_ n9_ n10_ n11_ n12_ n13_ n14_; (try clear hb); skip))
               go_meet
               case rel => exact ⟨_, ((t653 != t604)), (by rfl), H', ⟨by have := HJ24.out; have := HJ108.out; omega⟩, ⟨by (with_reducible repeat (apply Kd.R_drew)); exact Kd.R_mono HO_606001.out (fun _ hk => ⟨hk.2.2.2.1, ⟨hk.2.2.2.2.1, ⟨hk.2.2.2.2.2, hk.2.2.1⟩⟩⟩)⟩, ⟨by (with_reducible repeat (apply Kd.R_drew)); exact Kd.R_mono HO_611001.out (fun _ hk => ⟨hk.2.2.2.1, ⟨hk.2.2.2.2.1, ⟨hk.2.2.2.2.2, hk.2.2.1⟩⟩⟩)⟩, ⟨by (with_reducible repeat (apply Kd.R_drew)); exact Kd.R_mono HO_616001.out (fun _ hk => ⟨hk.2.2.2.1, ⟨hk.2.2.2.2.1, ⟨hk.2.2.2.2.2, hk.2.2.1⟩⟩⟩)⟩, ⟨by (with_reducible repeat (apply Kd.R_drew)); exact Kd.R_mono HO_622001.out (fun _ hk => ⟨hk.2.2.2.1, ⟨hk.2.2.2.2.1, ⟨hk.2.2.2.2.2, hk.2.2.1⟩⟩⟩)⟩, ⟨by (with_reducible repeat (apply Kd.R_drew)); exact Kd.R_mono HO652.out (fun _ hk => ⟨hk.2.2.1, ⟨hk.2.2.2.1, ⟨hk.2.2.2.2.1, hk.2.2.2.2.2⟩⟩⟩)⟩, ⟨by (with_reducible repeat (refine blk_drew ?_)); exact BK588.out⟩, ⟨by (with_reducible repeat (refine blk_drew ?_)); exact BK589.out⟩, ⟨by (with_reducible repeat (refine blk_drew ?_)); exact BK605.out⟩, ⟨by (with_reducible repeat (refine blk_drew ?_)); exact BK610.out⟩, ⟨by (with_reducible repeat (refine blk_drew ?_)); exact BK615.out⟩, ⟨by (with_reducible repeat (refine blk_drew ?_)); exact BK621.out⟩, ⟨by (with_reducible repeat (refine blk_drew ?_)); exact BK654.out⟩, ⟨by repeat ((with_reducible exact HB.out))⟩⟩
              ·replace c197 := Bool.eq_false_iff.mpr c197
               subst c197
               have H1 : (laws_FnExactUnionSpaces.j2 kj108 t638 true t616 t639) = some r := by rw [if_neg (show ¬ (false = true) by decide)] at H; exact H
               clear H
               have H := H1
               clear H1
               have H' := Aside0.mk H
               clear H
               have hnb212 := NB654_588.out
               have hnc212 := NB588_654.out
               have hnb213 := NB654_589.out
               have hnc213 := NB589_654.out
               have hnb214 := NB654_605.out
               have hnc214 := NB605_654.out
               have hnb215 := NB654_610.out
               have hnc215 := NB610_654.out
               have hnb216 := NB654_615.out
               have hnc216 := NB615_654.out
               have hnb217 := NB654_621.out
               have hnc217 := NB621_654.out
               have hcz218_0 : w192.cell? ⟨gb654, 0, none⟩ = some (.int .i64 0) := (blk_cell BK654.out 0).trans rfl
               have hcz218_1 : w192.cell? ⟨gb654, 1, none⟩ = some (.slice none 0 0) := (blk_cell BK654.out 1).trans rfl
               have hfz218_0 := blk_frozen BK654.out 0
               have hfz218_1 := blk_frozen BK654.out 1
               have hnb219 := NB605_588.out
               have hnc219 := NB588_605.out
               have hnb220 := NB605_589.out
               have hnc220 := NB589_605.out
               have hnb221 := NB605_610.out
               have hnc221 := NB610_605.out
               have hnb222 := NB605_615.out
               have hnc222 := NB615_605.out
               have hnb223 := NB605_621.out
               have hnc223 := NB621_605.out
               have hcz224_0 : w192.cell? ⟨gb605, 0, none⟩ = some (.int .i64 t600) := (blk_cell BK605.out 0).trans rfl
               have hcz224_1 : w192.cell? ⟨gb605, 1, none⟩ = some (.slice Ao42 t601.length co42) := (blk_cell BK605.out 1).trans rfl
               have hfz224_0 := blk_frozen BK605.out 0
               have hfz224_1 := blk_frozen BK605.out 1
               go_wp2_with (((with_reducible refine gate_callee (f := 15) rfl ?_); refine goesL_ (some 104) rfl rfl Try.func15 (by kernel_rfl) rfl #[.agg #[.int .i64 t649, .slice Ao194 t650.length co194], .agg #[.int .i64 t600, .slice Ao42 t601.length co42]] rfl (by (try simp only [List.map_toArray, List.map_cons, List.map_nil]); rfl) ?_; (with_reducible refine (laws_eqSpace.calls kj108 t649 _ _ t650 t600 _ _ t601 false _ ?side1 ?side2 ?side3 ?side4 A196.out).mono ?_); (case side1 => refine (Kd.R_reads' (e := 3) (base := w.heap.size) (ok := fun k_ => (some k_ ≠ (v643 : Value).ownBlock ∧ (some k_ ≠ (v647 : Value).ownBlock ∧ (some k_ ≠ (.slice Ao42 t601.length co42 : Value).ownBlock ∧ (some k_ ≠ (.slice Ao53 t634.length co53 : Value).ownBlock ∧ (some k_ ≠ (.slice Ao63 t636.length co63 : Value).ownBlock ∧ some k_ ≠ (.slice Ao73 t617.length co73 : Value).ownBlock)))))) (n := t650.length) (c := co194) ?_).2.2; exact (by (with_reducible repeat (apply Kd.R_drew)); exact (Kd.R_mono (Kd.R_far (p := ⟨gb654, 1, none⟩) (Kd.R_far (p := ⟨gb654, 0, none⟩) (Kd.R_types HO652.out BK654.out (by decide)) (fun _ hk => hk.2) (.int .i64 t649)) (fun _ hk => hk.2) (.slice Ao194 t650.length co194)) (fun _ h_ => h_.1)))); (case side2 => exact (Kd.R_reads' HO652.out).2.1); (case side3 => refine (Kd.R_reads' (e := 3) (base := w.heap.size) (ok := fun k_ => (some k_ ≠ (v643 : Value).ownBlock ∧ (some k_ ≠ (v647 : Value).ownBlock ∧ (some k_ ≠ (.slice Ao194 t650.length co194 : Value).ownBlock ∧ (some k_ ≠ (.slice Ao53 t634.length co53 : Value).ownBlock ∧ (some k_ ≠ (.slice Ao63 t636.length co63 : Value).ownBlock ∧ some k_ ≠ (.slice Ao73 t617.length co73 : Value).ownBlock)))))) (n := t601.length) (c := co42) ?_).2.2; exact (by (with_reducible repeat (apply Kd.R_drew)); exact (Kd.R_mono (Kd.R_far (p := ⟨gb654, 1, none⟩) (Kd.R_far (p := ⟨gb654, 0, none⟩) (Kd.R_types HO_606001.out BK654.out (by decide)) (fun _ hk => hk.2) (.int .i64 t649)) (fun _ hk => hk.2) (.slice Ao194 t650.length co194)) (fun _ h_ => h_.1)))); (case side4 => exact (Kd.R_reads' HO_606001.out).2.1); rintro e w225 ⟨rfl, hb⟩; refine ⟨_, rfl, ?_⟩; have n0_ := Aside0.mk (Kd.R_below (by (with_reducible repeat (apply Kd.R_drew)); exact (Kd.R_mono (Kd.R_far (p := ⟨gb654, 1, none⟩) (Kd.R_far (p := ⟨gb654, 0, none⟩) (Kd.R_types HO_606001.out BK654.out (by decide)) (fun _ hk => hk.2) (.int .i64 t649)) (fun _ hk => hk.2) (.slice Ao194 t650.length co194)) (fun _ h_ => h_.1))) hb); have n1_ := Aside0.mk (Kd.R_below (by (with_reducible repeat (apply Kd.R_drew)); exact (Kd.R_mono (Kd.R_far (p := ⟨gb654, 1, none⟩) (Kd.R_far (p := ⟨gb654, 0, none⟩) (Kd.R_types HO_611001.out BK654.out (by decide)) (fun _ hk => hk.2) (.int .i64 t649)) (fun _ hk => hk.2) (.slice Ao194 t650.length co194)) (fun _ h_ => h_.1))) hb); have n2_ := Aside0.mk (Kd.R_below (by (with_reducible repeat (apply Kd.R_drew)); exact (Kd.R_mono (Kd.R_far (p := ⟨gb654, 1, none⟩) (Kd.R_far (p := ⟨gb654, 0, none⟩) (Kd.R_types HO_616001.out BK654.out (by decide)) (fun _ hk => hk.2) (.int .i64 t649)) (fun _ hk => hk.2) (.slice Ao194 t650.length co194)) (fun _ h_ => h_.1))) hb); have n3_ := Aside0.mk (Kd.R_below (by (with_reducible repeat (apply Kd.R_drew)); exact (Kd.R_mono (Kd.R_far (p := ⟨gb654, 1, none⟩) (Kd.R_far (p := ⟨gb654, 0, none⟩) (Kd.R_types HO_622001.out BK654.out (by decide)) (fun _ hk => hk.2) (.int .i64 t649)) (fun _ hk => hk.2) (.slice Ao194 t650.length co194)) (fun _ h_ => h_.1))) hb); have n4_ := Aside0.mk (Kd.R_below (by (with_reducible repeat (apply Kd.R_drew)); exact (Kd.R_mono (Kd.R_far (p := ⟨gb654, 1, none⟩) (Kd.R_far (p := ⟨gb654, 0, none⟩) (Kd.R_types HO644.out BK654.out (by decide)) (fun _ hk => hk.2) (.int .i64 t649)) (fun _ hk => hk.2) (.slice Ao194 t650.length co194)) (fun _ h_ => h_.1))) hb); have n5_ := Aside0.mk (Kd.R_below (by (with_reducible repeat (apply Kd.R_drew)); exact (Kd.R_mono (Kd.R_far (p := ⟨gb654, 1, none⟩) (Kd.R_far (p := ⟨gb654, 0, none⟩) (Kd.R_types HO648.out BK654.out (by decide)) (fun _ hk => hk.2) (.int .i64 t649)) (fun _ hk => hk.2) (.slice Ao194 t650.length co194)) (fun _ h_ => h_.1))) hb); have n6_ := Aside0.mk (Kd.R_below (by (with_reducible repeat (apply Kd.R_drew)); exact (Kd.R_mono (Kd.R_far (p := ⟨gb654, 1, none⟩) (Kd.R_far (p := ⟨gb654, 0, none⟩) (Kd.R_types HO652.out BK654.out (by decide)) (fun _ hk => hk.2) (.int .i64 t649)) (fun _ hk => hk.2) (.slice Ao194 t650.length co194)) (fun _ h_ => h_.1))) hb); have n7_ := Aside0.mk (blk_below (g := gb588) (o := .cells #[.int .i64 a0_0, .slice A0_1 l0_1.length c0_1] 24 (0, 0)) (by (with_reducible repeat (refine blk_drew ?_)); refine blk_far ?_ NB588_654.out _; (with_reducible repeat (refine blk_drew ?_)); refine blk_far ?_ NB588_654.out _; (with_reducible repeat (refine blk_drew ?_)); exact BK588.out) hb); have n8_ := Aside0.mk (blk_below (g := gb589) (o := .cells #[.int .i64 a1_0, .slice A1_1 l1_1.length c1_1] 24 (0, 0)) (by (with_reducible repeat (refine blk_drew ?_)); refine blk_far ?_ NB589_654.out _; (with_reducible repeat (refine blk_drew ?_)); refine blk_far ?_ NB589_654.out _; (with_reducible repeat (refine blk_drew ?_)); exact BK589.out) hb); have n9_ := Aside0.mk (blk_below (g := gb605) (o := .cells #[.int .i64 t600, .slice Ao42 t601.length co42] 28 (0, 0)) (by (with_reducible repeat (refine blk_drew ?_)); refine blk_far ?_ NB605_654.out _; (with_reducible repeat (refine blk_drew ?_)); refine blk_far ?_ NB605_654.out _; (with_reducible repeat (refine blk_drew ?_)); exact BK605.out) hb); have n10_ := Aside0.mk (blk_below (g := gb610) (o := .cells #[.int .i64 t606, .slice Ao53 t634.length co53] 28 (0, 0)) (by (with_reducible repeat (refine blk_drew ?_)); refine blk_far ?_ NB610_654.out _; (with_reducible repeat (refine blk_drew ?_)); refine blk_far ?_ NB610_654.out _; (with_reducible repeat (refine blk_drew ?_)); exact BK610.out) hb); have n11_ := Aside0.mk (blk_below (g := gb615) (o := .cells #[.int .i64 t611, .slice Ao63 t636.length co63] 28 (0, 0)) (by (with_reducible repeat (refine blk_drew ?_)); refine blk_far ?_ NB615_654.out _; (with_reducible repeat (refine blk_drew ?_)); refine blk_far ?_ NB615_654.out _; (with_reducible repeat (refine blk_drew ?_)); exact BK615.out) hb); have n12_ := Aside0.mk (blk_below (g := gb621) (o := .cells #[.int .i64 t616, .slice Ao73 t617.length co73] 28 (0, 0)) (by (with_reducible repeat (refine blk_drew ?_)); refine blk_far ?_ NB621_654.out _; (with_reducible repeat (refine blk_drew ?_)); refine blk_far ?_ NB621_654.out _; (with_reducible repeat (refine blk_drew ?_)); exact BK621.out) hb); have n13_ := Aside0.mk (blk_below (g := gb654) (o := .cells #[.int .i64 t649, .slice Ao194 t650.length co194] 28 (0, 0)) (by (with_reducible repeat (refine blk_drew ?_)); refine blk_put (cs := #[.int .i64 t649, .slice none 0 0]) ?_ 1 _ rfl; (with_reducible repeat (refine blk_drew ?_)); refine blk_put (cs := #[.int .i64 0, .slice none 0 0]) ?_ 0 _ rfl; (with_reducible repeat (refine blk_drew ?_)); exact BK654.out) hb); have n14_ := Aside0.mk (below_step (by repeat ((with_reducible first | exact HB.out | refine below_set ?_ GE654.out))) hb); clear HO_606001; clear HO_611001; clear HO_616001; clear HO_622001; clear HO644; clear HO648; clear HO652; clear BK588; clear BK589; clear BK605; clear BK610; clear BK615; clear BK621; clear BK654; clear HB; have HO_606001 := n0_; have HO_611001 := n1_; have HO_616001 := n2_; have HO_622001 := n3_; have HO644 := n4_; have HO648 := n5_; have HO652 := n6_; have BK588 := n7_; have BK589 := n8_; have BK605 := n9_; have BK610 := n10_; have BK615 := n11_; have BK621 := n12_; have BK654 := n13_; have HB := n14_; clear n0_ n1_ n2_ n3_ n4_ n5_ n6_ n7_ n8_ n9_ n10_ n11_ n12_ n13_ n14_; (try clear hb); skip))
               go_meet
               case rel => exact ⟨_, (true), (by rfl), H', ⟨by have := HJ24.out; have := HJ108.out; omega⟩, ⟨by (with_reducible repeat (apply Kd.R_drew)); exact Kd.R_mono HO_606001.out (fun _ hk => ⟨hk.2.2.2.1, ⟨hk.2.2.2.2.1, ⟨hk.2.2.2.2.2, hk.2.2.1⟩⟩⟩)⟩, ⟨by (with_reducible repeat (apply Kd.R_drew)); exact Kd.R_mono HO_611001.out (fun _ hk => ⟨hk.2.2.2.1, ⟨hk.2.2.2.2.1, ⟨hk.2.2.2.2.2, hk.2.2.1⟩⟩⟩)⟩, ⟨by (with_reducible repeat (apply Kd.R_drew)); exact Kd.R_mono HO_616001.out (fun _ hk => ⟨hk.2.2.2.1, ⟨hk.2.2.2.2.1, ⟨hk.2.2.2.2.2, hk.2.2.1⟩⟩⟩)⟩, ⟨by (with_reducible repeat (apply Kd.R_drew)); exact Kd.R_mono HO_622001.out (fun _ hk => ⟨hk.2.2.2.1, ⟨hk.2.2.2.2.1, ⟨hk.2.2.2.2.2, hk.2.2.1⟩⟩⟩)⟩, ⟨by (with_reducible repeat (apply Kd.R_drew)); exact Kd.R_mono HO652.out (fun _ hk => ⟨hk.2.2.1, ⟨hk.2.2.2.1, ⟨hk.2.2.2.2.1, hk.2.2.2.2.2⟩⟩⟩)⟩, ⟨by (with_reducible repeat (refine blk_drew ?_)); exact BK588.out⟩, ⟨by (with_reducible repeat (refine blk_drew ?_)); exact BK589.out⟩, ⟨by (with_reducible repeat (refine blk_drew ?_)); exact BK605.out⟩, ⟨by (with_reducible repeat (refine blk_drew ?_)); exact BK610.out⟩, ⟨by (with_reducible repeat (refine blk_drew ?_)); exact BK615.out⟩, ⟨by (with_reducible repeat (refine blk_drew ?_)); exact BK621.out⟩, ⟨by (with_reducible repeat (refine blk_drew ?_)); exact BK654.out⟩, ⟨by repeat ((with_reducible exact HB.out))⟩⟩
             case rest =>
              clear HC175
              try clear c1
              try clear c2
              try clear p2
              try clear c3
              try clear c12
              try clear c15
              try clear c19
              try clear c20
              try clear c21
              try clear c22
              try clear c30
              try clear c197
              try clear c198
              try clear c199
              try clear c200
              try clear c201
              try clear c202
              try clear c203
              try clear c205
              try clear c206
              try clear c207
              try clear c208
              try clear c209
              try clear c212
              try clear c213
              try clear c214
              try clear c215
              try clear c216
              try clear c217
              try clear c219
              try clear c220
              try clear c221
              try clear c222
              try clear c223
              try clear hcz204_0
              try clear hcz204_1
              try clear hcz210_0
              try clear hcz210_1
              try clear hcz218_0
              try clear hcz218_1
              try clear hcz224_0
              try clear hcz224_1
              try clear hfz204_0
              try clear hfz204_1
              try clear hfz210_0
              try clear hfz210_1
              try clear hfz218_0
              try clear hfz218_1
              try clear hfz224_0
              try clear hfz224_1
              obtain ⟨kq, x110_174, rfl, HA, HJ174, HO_606001, HO_611001, HO_616001, HO_622001, HO_655001, BK588, BK589, BK605, BK610, BK615, BK621, BK654, HB⟩ := hcut
              have hl622001_174 := (Kd.R_reads' HO_622001.out).1
              rw [hl622001_174] at HO_622001
              skip
              skip
              skip
              skip
              skip
              skip
              (try simp only [hl622001_174] at BK621)
              skip
              (try simp only [hl622001_174] at HO_606001)
              (try simp only [hl622001_174] at HO_611001)
              (try simp only [hl622001_174] at HO_616001)
              (try simp only [hl622001_174] at HO_655001)
              cases kq with
              | zero => exact absurd HA.out (by simp [laws_FnExactUnionSpaces.j2])
              | succ kj174 =>
               have H := HA.out
               clear HA
               simp only [laws_FnExactUnionSpaces.j2] at H
               by_cases c226 : x110_174 = true
               ·subst c226
                have H1 : (some false) = some r := by rw [if_pos rfl] at H; exact H
                clear H
                have H := H1
                clear H1
                obtain rfl := Option.some.inj H
                go_wp2
                go_ret
                exact ⟨by rfl, by repeat ((with_reducible exact HB.out))⟩
               ·replace c226 := Bool.eq_false_iff.mpr c226
                subst c226
                have H1 : ((laws_heldSpace.f kj174 t616 t639 1).bind fun t656 => (if t656 < 0 then (some false) else (if t656 = t638 then (some true) else (some false)))) = some r := by rw [if_neg (show ¬ (false = true) by decide)] at H; exact H
                clear H
                have H := H1
                clear H1
                replace H := Option.bind_eq_some_iff.mp H
                obtain ⟨t656, A2270, H⟩ := H
                replace H : (if t656 < 0 then (some false) else (if t656 = t638 then (some true) else (some false))) = some r := H
                have A227 := Aside0.mk A2270
                clear A2270
                by_cases c228 : t656 < 0
                ·rw [if_pos c228] at H
                 have c228b0 : decide (t656 < 0) = true := decide_eq_true c228
                 clear c228
                 obtain rfl := Option.some.inj H
                 have hnb229 := NB621_588.out
                 have hnc229 := NB588_621.out
                 have hnb230 := NB621_589.out
                 have hnc230 := NB589_621.out
                 have hnb231 := NB621_605.out
                 have hnc231 := NB605_621.out
                 have hnb232 := NB621_610.out
                 have hnc232 := NB610_621.out
                 have hnb233 := NB621_615.out
                 have hnc233 := NB615_621.out
                 have hnb234 := NB621_654.out
                 have hnc234 := NB654_621.out
                 have hcz235_0 : wc.cell? ⟨gb621, 0, none⟩ = some (.int .i64 t616) := (blk_cell BK621.out 0).trans rfl
                 have hcz235_1 : wc.cell? ⟨gb621, 1, none⟩ = some (.slice Ao73 t639.length co73) := (blk_cell BK621.out 1).trans rfl
                 have hfz235_0 := blk_frozen BK621.out 0
                 have hfz235_1 := blk_frozen BK621.out 1
                 go_wp2_with (((with_reducible refine gate_callee (f := 28) rfl ?_); refine goesL_ (some 113) rfl rfl Try.func28 (by kernel_rfl) rfl #[.agg #[.int .i64 t616, .slice Ao73 t639.length co73], .int .i64 1] rfl (by (try simp only [List.map_toArray, List.map_cons, List.map_nil]); rfl) ?_; (with_reducible refine (laws_heldSpace.calls kj174 t616 _ _ t639 1 t656 _ ?side1 ?side2 A227.out).mono ?_); (case side1 => repeat (exact (Kd.R_reads' HO_622001.out).2.2)); (case side2 => exact (Kd.R_reads' HO_622001.out).2.1); rintro e w236 ⟨rfl, hb⟩; refine ⟨_, rfl, ?_⟩; have n0_ := Aside0.mk (Kd.R_below (by (with_reducible repeat (apply Kd.R_drew)); exact HO_606001.out) hb); have n1_ := Aside0.mk (Kd.R_below (by (with_reducible repeat (apply Kd.R_drew)); exact HO_611001.out) hb); have n2_ := Aside0.mk (Kd.R_below (by (with_reducible repeat (apply Kd.R_drew)); exact HO_616001.out) hb); have n3_ := Aside0.mk (Kd.R_below (by (with_reducible repeat (apply Kd.R_drew)); exact HO_622001.out) hb); have n4_ := Aside0.mk (Kd.R_below (by (with_reducible repeat (apply Kd.R_drew)); exact HO_655001.out) hb); have n5_ := Aside0.mk (blk_below (g := gb588) (o := .cells #[.int .i64 a0_0, .slice A0_1 l0_1.length c0_1] 24 (0, 0)) (by (with_reducible repeat (refine blk_drew ?_)); exact BK588.out) hb); have n6_ := Aside0.mk (blk_below (g := gb589) (o := .cells #[.int .i64 a1_0, .slice A1_1 l1_1.length c1_1] 24 (0, 0)) (by (with_reducible repeat (refine blk_drew ?_)); exact BK589.out) hb); have n7_ := Aside0.mk (blk_below (g := gb605) (o := .cells #[.int .i64 t600, .slice Ao42 t601.length co42] 28 (0, 0)) (by (with_reducible repeat (refine blk_drew ?_)); exact BK605.out) hb); have n8_ := Aside0.mk (blk_below (g := gb610) (o := .cells #[.int .i64 t606, .slice Ao53 t634.length co53] 28 (0, 0)) (by (with_reducible repeat (refine blk_drew ?_)); exact BK610.out) hb); have n9_ := Aside0.mk (blk_below (g := gb615) (o := .cells #[.int .i64 t611, .slice Ao63 t636.length co63] 28 (0, 0)) (by (with_reducible repeat (refine blk_drew ?_)); exact BK615.out) hb); have n10_ := Aside0.mk (blk_below (g := gb621) (o := .cells #[.int .i64 t616, .slice Ao73 t639.length co73] 28 (0, 0)) (by (with_reducible repeat (refine blk_drew ?_)); exact BK621.out) hb); have n11_ := Aside0.mk (blk_below (g := gb654) (o := .cells #[.int .i64 t649, .slice Ao194 t650.length co194] 28 (0, 0)) (by (with_reducible repeat (refine blk_drew ?_)); exact BK654.out) hb); have n12_ := Aside0.mk (below_step (by repeat ((with_reducible exact HB.out))) hb); clear HO_606001; clear HO_611001; clear HO_616001; clear HO_622001; clear HO_655001; clear BK588; clear BK589; clear BK605; clear BK610; clear BK615; clear BK621; clear BK654; clear HB; have HO_606001 := n0_; have HO_611001 := n1_; have HO_616001 := n2_; have HO_622001 := n3_; have HO_655001 := n4_; have BK588 := n5_; have BK589 := n6_; have BK605 := n7_; have BK610 := n8_; have BK615 := n9_; have BK621 := n10_; have BK654 := n11_; have HB := n12_; clear n0_ n1_ n2_ n3_ n4_ n5_ n6_ n7_ n8_ n9_ n10_ n11_ n12_; (try clear hb); skip))
                 go_ret
                 exact ⟨by rfl, by repeat ((with_reducible exact HB.out))⟩
                ·rw [if_neg c228] at H
                 have c228b0 : decide (t656 < 0) = false := decide_eq_false c228
                 clear c228
                 by_cases c237 : t656 = t638
                 ·rw [if_pos c237] at H
                  have c237b0 : (t656 == t638) = true := beq_iff_eq.mpr c237
                  have c237b1 : (t656 != t638) = false := bne_eq_false_iff_eq.mpr c237
                  clear c237
                  obtain rfl := Option.some.inj H
                  have hnb238 := NB621_588.out
                  have hnc238 := NB588_621.out
                  have hnb239 := NB621_589.out
                  have hnc239 := NB589_621.out
                  have hnb240 := NB621_605.out
                  have hnc240 := NB605_621.out
                  have hnb241 := NB621_610.out
                  have hnc241 := NB610_621.out
                  have hnb242 := NB621_615.out
                  have hnc242 := NB615_621.out
                  have hnb243 := NB621_654.out
                  have hnc243 := NB654_621.out
                  have hcz244_0 : wc.cell? ⟨gb621, 0, none⟩ = some (.int .i64 t616) := (blk_cell BK621.out 0).trans rfl
                  have hcz244_1 : wc.cell? ⟨gb621, 1, none⟩ = some (.slice Ao73 t639.length co73) := (blk_cell BK621.out 1).trans rfl
                  have hfz244_0 := blk_frozen BK621.out 0
                  have hfz244_1 := blk_frozen BK621.out 1
                  go_wp2_with (((with_reducible refine gate_callee (f := 28) rfl ?_); refine goesL_ (some 113) rfl rfl Try.func28 (by kernel_rfl) rfl #[.agg #[.int .i64 t616, .slice Ao73 t639.length co73], .int .i64 1] rfl (by (try simp only [List.map_toArray, List.map_cons, List.map_nil]); rfl) ?_; (with_reducible refine (laws_heldSpace.calls kj174 t616 _ _ t639 1 t656 _ ?side1 ?side2 A227.out).mono ?_); (case side1 => repeat (exact (Kd.R_reads' HO_622001.out).2.2)); (case side2 => exact (Kd.R_reads' HO_622001.out).2.1); rintro e w245 ⟨rfl, hb⟩; refine ⟨_, rfl, ?_⟩; have n0_ := Aside0.mk (Kd.R_below (by (with_reducible repeat (apply Kd.R_drew)); exact HO_606001.out) hb); have n1_ := Aside0.mk (Kd.R_below (by (with_reducible repeat (apply Kd.R_drew)); exact HO_611001.out) hb); have n2_ := Aside0.mk (Kd.R_below (by (with_reducible repeat (apply Kd.R_drew)); exact HO_616001.out) hb); have n3_ := Aside0.mk (Kd.R_below (by (with_reducible repeat (apply Kd.R_drew)); exact HO_622001.out) hb); have n4_ := Aside0.mk (Kd.R_below (by (with_reducible repeat (apply Kd.R_drew)); exact HO_655001.out) hb); have n5_ := Aside0.mk (blk_below (g := gb588) (o := .cells #[.int .i64 a0_0, .slice A0_1 l0_1.length c0_1] 24 (0, 0)) (by (with_reducible repeat (refine blk_drew ?_)); exact BK588.out) hb); have n6_ := Aside0.mk (blk_below (g := gb589) (o := .cells #[.int .i64 a1_0, .slice A1_1 l1_1.length c1_1] 24 (0, 0)) (by (with_reducible repeat (refine blk_drew ?_)); exact BK589.out) hb); have n7_ := Aside0.mk (blk_below (g := gb605) (o := .cells #[.int .i64 t600, .slice Ao42 t601.length co42] 28 (0, 0)) (by (with_reducible repeat (refine blk_drew ?_)); exact BK605.out) hb); have n8_ := Aside0.mk (blk_below (g := gb610) (o := .cells #[.int .i64 t606, .slice Ao53 t634.length co53] 28 (0, 0)) (by (with_reducible repeat (refine blk_drew ?_)); exact BK610.out) hb); have n9_ := Aside0.mk (blk_below (g := gb615) (o := .cells #[.int .i64 t611, .slice Ao63 t636.length co63] 28 (0, 0)) (by (with_reducible repeat (refine blk_drew ?_)); exact BK615.out) hb); have n10_ := Aside0.mk (blk_below (g := gb621) (o := .cells #[.int .i64 t616, .slice Ao73 t639.length co73] 28 (0, 0)) (by (with_reducible repeat (refine blk_drew ?_)); exact BK621.out) hb); have n11_ := Aside0.mk (blk_below (g := gb654) (o := .cells #[.int .i64 t649, .slice Ao194 t650.length co194] 28 (0, 0)) (by (with_reducible repeat (refine blk_drew ?_)); exact BK654.out) hb); have n12_ := Aside0.mk (below_step (by repeat ((with_reducible exact HB.out))) hb); clear HO_606001; clear HO_611001; clear HO_616001; clear HO_622001; clear HO_655001; clear BK588; clear BK589; clear BK605; clear BK610; clear BK615; clear BK621; clear BK654; clear HB; have HO_606001 := n0_; have HO_611001 := n1_; have HO_616001 := n2_; have HO_622001 := n3_; have HO_655001 := n4_; have BK588 := n5_; have BK589 := n6_; have BK605 := n7_; have BK610 := n8_; have BK615 := n9_; have BK621 := n10_; have BK654 := n11_; have HB := n12_; clear n0_ n1_ n2_ n3_ n4_ n5_ n6_ n7_ n8_ n9_ n10_ n11_ n12_; (try clear hb); skip))
                  go_ret
                  exact ⟨by rfl, by repeat ((with_reducible exact HB.out))⟩
                 ·rw [if_neg c237] at H
                  have c237b0 : (t656 == t638) = false := beq_eq_false_iff_ne.mpr c237
                  have c237b1 : (t656 != t638) = true := bne_iff_ne.mpr c237
                  obtain rfl := Option.some.inj H
                  have hnb246 := NB621_588.out
                  have hnc246 := NB588_621.out
                  have hnb247 := NB621_589.out
                  have hnc247 := NB589_621.out
                  have hnb248 := NB621_605.out
                  have hnc248 := NB605_621.out
                  have hnb249 := NB621_610.out
                  have hnc249 := NB610_621.out
                  have hnb250 := NB621_615.out
                  have hnc250 := NB615_621.out
                  have hnb251 := NB621_654.out
                  have hnc251 := NB654_621.out
                  have hcz252_0 : wc.cell? ⟨gb621, 0, none⟩ = some (.int .i64 t616) := (blk_cell BK621.out 0).trans rfl
                  have hcz252_1 : wc.cell? ⟨gb621, 1, none⟩ = some (.slice Ao73 t639.length co73) := (blk_cell BK621.out 1).trans rfl
                  have hfz252_0 := blk_frozen BK621.out 0
                  have hfz252_1 := blk_frozen BK621.out 1
                  go_wp2_with (((with_reducible refine gate_callee (f := 28) rfl ?_); refine goesL_ (some 113) rfl rfl Try.func28 (by kernel_rfl) rfl #[.agg #[.int .i64 t616, .slice Ao73 t639.length co73], .int .i64 1] rfl (by (try simp only [List.map_toArray, List.map_cons, List.map_nil]); rfl) ?_; (with_reducible refine (laws_heldSpace.calls kj174 t616 _ _ t639 1 t656 _ ?side1 ?side2 A227.out).mono ?_); (case side1 => repeat (exact (Kd.R_reads' HO_622001.out).2.2)); (case side2 => exact (Kd.R_reads' HO_622001.out).2.1); rintro e w253 ⟨rfl, hb⟩; refine ⟨_, rfl, ?_⟩; have n0_ := Aside0.mk (Kd.R_below (by (with_reducible repeat (apply Kd.R_drew)); exact HO_606001.out) hb); have n1_ := Aside0.mk (Kd.R_below (by (with_reducible repeat (apply Kd.R_drew)); exact HO_611001.out) hb); have n2_ := Aside0.mk (Kd.R_below (by (with_reducible repeat (apply Kd.R_drew)); exact HO_616001.out) hb); have n3_ := Aside0.mk (Kd.R_below (by (with_reducible repeat (apply Kd.R_drew)); exact HO_622001.out) hb); have n4_ := Aside0.mk (Kd.R_below (by (with_reducible repeat (apply Kd.R_drew)); exact HO_655001.out) hb); have n5_ := Aside0.mk (blk_below (g := gb588) (o := .cells #[.int .i64 a0_0, .slice A0_1 l0_1.length c0_1] 24 (0, 0)) (by (with_reducible repeat (refine blk_drew ?_)); exact BK588.out) hb); have n6_ := Aside0.mk (blk_below (g := gb589) (o := .cells #[.int .i64 a1_0, .slice A1_1 l1_1.length c1_1] 24 (0, 0)) (by (with_reducible repeat (refine blk_drew ?_)); exact BK589.out) hb); have n7_ := Aside0.mk (blk_below (g := gb605) (o := .cells #[.int .i64 t600, .slice Ao42 t601.length co42] 28 (0, 0)) (by (with_reducible repeat (refine blk_drew ?_)); exact BK605.out) hb); have n8_ := Aside0.mk (blk_below (g := gb610) (o := .cells #[.int .i64 t606, .slice Ao53 t634.length co53] 28 (0, 0)) (by (with_reducible repeat (refine blk_drew ?_)); exact BK610.out) hb); have n9_ := Aside0.mk (blk_below (g := gb615) (o := .cells #[.int .i64 t611, .slice Ao63 t636.length co63] 28 (0, 0)) (by (with_reducible repeat (refine blk_drew ?_)); exact BK615.out) hb); have n10_ := Aside0.mk (blk_below (g := gb621) (o := .cells #[.int .i64 t616, .slice Ao73 t639.length co73] 28 (0, 0)) (by (with_reducible repeat (refine blk_drew ?_)); exact BK621.out) hb); have n11_ := Aside0.mk (blk_below (g := gb654) (o := .cells #[.int .i64 t649, .slice Ao194 t650.length co194] 28 (0, 0)) (by (with_reducible repeat (refine blk_drew ?_)); exact BK654.out) hb); have n12_ := Aside0.mk (below_step (by repeat ((with_reducible exact HB.out))) hb); clear HO_606001; clear HO_611001; clear HO_616001; clear HO_622001; clear HO_655001; clear BK588; clear BK589; clear BK605; clear BK610; clear BK615; clear BK621; clear BK654; clear HB; have HO_606001 := n0_; have HO_611001 := n1_; have HO_616001 := n2_; have HO_622001 := n3_; have HO_655001 := n4_; have BK588 := n5_; have BK589 := n6_; have BK605 := n7_; have BK610 := n8_; have BK615 := n9_; have BK621 := n10_; have BK654 := n11_; have HB := n12_; clear n0_ n1_ n2_ n3_ n4_ n5_ n6_ n7_ n8_ n9_ n10_ n11_ n12_; (try clear hb); skip))
                  go_ret
                  exact ⟨by rfl, by repeat ((with_reducible exact HB.out))⟩
            ·rw [if_neg c171] at H
             have c171b0 : (t640 == t638) = false := beq_eq_false_iff_ne.mpr c171
             have c171b1 : (t640 != t638) = true := bne_iff_ne.mpr c171
             obtain rfl := Option.some.inj H
             have hnb254 := NB621_588.out
             have hnc254 := NB588_621.out
             have hnb255 := NB621_589.out
             have hnc255 := NB589_621.out
             have hnb256 := NB621_605.out
             have hnc256 := NB605_621.out
             have hnb257 := NB621_610.out
             have hnc257 := NB610_621.out
             have hnb258 := NB621_615.out
             have hnc258 := NB615_621.out
             have hcz259_0 : wc.cell? ⟨gb621, 0, none⟩ = some (.int .i64 t616) := (blk_cell BK621.out 0).trans rfl
             have hcz259_1 : wc.cell? ⟨gb621, 1, none⟩ = some (.slice Ao73 t617.length co73) := (blk_cell BK621.out 1).trans rfl
             have hfz259_0 := blk_frozen BK621.out 0
             have hfz259_1 := blk_frozen BK621.out 1
             go_wp2_with (first | ((with_reducible refine gate_callee (f := 27) rfl ?_); refine goesL_ (some 85) rfl rfl Try.func27 (by kernel_rfl) rfl #[.agg #[.int .i64 t616, .slice Ao73 t617.length co73], .int .i64 1] rfl (by (try simp only [List.map_toArray, List.map_cons, List.map_nil]); rfl) ?_; (with_reducible refine (laws_markSpace.calls kj108 t616 (fun k_ => some k_ = (.slice Ao73 t617.length co73 : Value).ownBlock) (.slice Ao73 t617.length co73) t617 1 t638 t639 w _ ?side1 ?side2 A159.out).mono ?_); (case side1 => repeat ((with_reducible exact HB.out))); (case side2 => exact Kd.R_tight rfl HO_622001.out); rintro e w260 ⟨rfl, hy0, hb, hkp⟩; refine ⟨_, rfl, ?_⟩; have n0_ := Aside0.mk (Kd.R_mono (ok' := fun k_ => some k_ ≠ (.slice Ao53 t634.length co53 : Value).ownBlock ∧ some k_ ≠ (.slice Ao63 t636.length co63 : Value).ownBlock ∧ some k_ ≠ (.slice Ao73 t617.length co73 : Value).ownBlock) (Kd.R_keptB (HO_606001.out) hkp (fun k_ hk_ hs_ => (hk_.2.2) hs_)) (fun k_ hk_ => ⟨hk_.1.1, hk_.1.2.1, hk_.1.2.2⟩)); have n1_ := Aside0.mk (Kd.R_mono (ok' := fun k_ => some k_ ≠ (.slice Ao42 t601.length co42 : Value).ownBlock ∧ some k_ ≠ (.slice Ao63 t636.length co63 : Value).ownBlock ∧ some k_ ≠ (.slice Ao73 t617.length co73 : Value).ownBlock) (Kd.R_keptB (HO_611001.out) hkp (fun k_ hk_ hs_ => (hk_.2.2) hs_)) (fun k_ hk_ => ⟨hk_.1.1, hk_.1.2.1, hk_.1.2.2⟩)); have n2_ := Aside0.mk (Kd.R_mono (ok' := fun k_ => some k_ ≠ (.slice Ao42 t601.length co42 : Value).ownBlock ∧ some k_ ≠ (.slice Ao53 t634.length co53 : Value).ownBlock ∧ some k_ ≠ (.slice Ao73 t617.length co73 : Value).ownBlock) (Kd.R_keptB (HO_616001.out) hkp (fun k_ hk_ hs_ => (hk_.2.2) hs_)) (fun k_ hk_ => ⟨hk_.1.1, hk_.1.2.1, hk_.1.2.2⟩)); have n3_ := Aside0.mk (Kd.R_reok rfl hy0 (fun k_ e_ => HO_622001.out.1 k_ e_)); have n4_ := Aside0.mk (blk_kept (by (with_reducible repeat (refine blk_drew ?_)); exact BK588.out) hkp (fun hs_ => (fun e_ => (Kd.R_ne HO_622001.out BK588.out (by decide)) e_) hs_)); have n5_ := Aside0.mk (blk_kept (by (with_reducible repeat (refine blk_drew ?_)); exact BK589.out) hkp (fun hs_ => (fun e_ => (Kd.R_ne HO_622001.out BK589.out (by decide)) e_) hs_)); have n6_ := Aside0.mk (blk_kept (by (with_reducible repeat (refine blk_drew ?_)); exact BK605.out) hkp (fun hs_ => (fun e_ => (Kd.R_ne HO_622001.out BK605.out (by decide)) e_) hs_)); have n7_ := Aside0.mk (blk_kept (by (with_reducible repeat (refine blk_drew ?_)); exact BK610.out) hkp (fun hs_ => (fun e_ => (Kd.R_ne HO_622001.out BK610.out (by decide)) e_) hs_)); have n8_ := Aside0.mk (blk_kept (by (with_reducible repeat (refine blk_drew ?_)); exact BK615.out) hkp (fun hs_ => (fun e_ => (Kd.R_ne HO_622001.out BK615.out (by decide)) e_) hs_)); have n9_ := Aside0.mk (blk_kept (by (with_reducible repeat (refine blk_drew ?_)); exact BK621.out) hkp (fun hs_ => (fun e_ => (Kd.R_ne HO_622001.out BK621.out (by decide)) e_) hs_)); have n10_ := Aside0.mk (hb); clear HO_606001; clear HO_611001; clear HO_616001; clear HO_622001; clear BK588; clear BK589; clear BK605; clear BK610; clear BK615; clear BK621; clear HB; have HO_606001 := n0_; have HO_611001 := n1_; have HO_616001 := n2_; have HO_622001 := n3_; have BK588 := n4_; have BK589 := n5_; have BK605 := n6_; have BK610 := n7_; have BK615 := n8_; have BK621 := n9_; have HB := n10_; clear n0_ n1_ n2_ n3_ n4_ n5_ n6_ n7_ n8_ n9_ n10_; (try clear hb); (try clear hkp); (try clear hy0); have hcz261_0 : w260.cell? ⟨gb621, 0, none⟩ = some (.int .i64 t616) := (blk_cell BK621.out 0).trans rfl; have hcz261_1 : w260.cell? ⟨gb621, 1, none⟩ = some (.slice Ao73 t617.length co73) := (blk_cell BK621.out 1).trans rfl; have hfz261_0 := blk_frozen BK621.out 0; have hfz261_1 := blk_frozen BK621.out 1) | ((with_reducible refine gate_callee (f := 28) rfl ?_); refine goesL_ (some 88) rfl rfl Try.func28 (by kernel_rfl) rfl #[.agg #[.int .i64 t616, .slice Ao73 t639.length co73], .int .i64 1] rfl (by (try simp only [List.map_toArray, List.map_cons, List.map_nil]); (rw [show t639.length = t617.length from (Kd.R_reads' HO_622001.out).1.symm] <;> rfl)) ?_; (with_reducible refine (laws_heldSpace.calls kj108 t616 _ _ t639 1 t640 _ ?side1 ?side2 A160.out).mono ?_); (case side1 => repeat (exact (Kd.R_reads' HO_622001.out).2.2)); (case side2 => rw [show t639.length = t617.length from (Kd.R_reads' HO_622001.out).1.symm]; exact (Kd.R_reads' HO_622001.out).2.1); rintro e w262 ⟨rfl, hb⟩; refine ⟨_, rfl, ?_⟩; have n0_ := Aside0.mk (Kd.R_below (by (with_reducible repeat (apply Kd.R_drew)); exact HO_606001.out) hb); have n1_ := Aside0.mk (Kd.R_below (by (with_reducible repeat (apply Kd.R_drew)); exact HO_611001.out) hb); have n2_ := Aside0.mk (Kd.R_below (by (with_reducible repeat (apply Kd.R_drew)); exact HO_616001.out) hb); have n3_ := Aside0.mk (Kd.R_below (by (with_reducible repeat (apply Kd.R_drew)); exact HO_622001.out) hb); have n4_ := Aside0.mk (blk_below (g := gb588) (o := .cells #[.int .i64 a0_0, .slice A0_1 l0_1.length c0_1] 24 (0, 0)) (by (with_reducible repeat (refine blk_drew ?_)); exact BK588.out) hb); have n5_ := Aside0.mk (blk_below (g := gb589) (o := .cells #[.int .i64 a1_0, .slice A1_1 l1_1.length c1_1] 24 (0, 0)) (by (with_reducible repeat (refine blk_drew ?_)); exact BK589.out) hb); have n6_ := Aside0.mk (blk_below (g := gb605) (o := .cells #[.int .i64 t600, .slice Ao42 t601.length co42] 28 (0, 0)) (by (with_reducible repeat (refine blk_drew ?_)); exact BK605.out) hb); have n7_ := Aside0.mk (blk_below (g := gb610) (o := .cells #[.int .i64 t606, .slice Ao53 t634.length co53] 28 (0, 0)) (by (with_reducible repeat (refine blk_drew ?_)); exact BK610.out) hb); have n8_ := Aside0.mk (blk_below (g := gb615) (o := .cells #[.int .i64 t611, .slice Ao63 t636.length co63] 28 (0, 0)) (by (with_reducible repeat (refine blk_drew ?_)); exact BK615.out) hb); have n9_ := Aside0.mk (blk_below (g := gb621) (o := .cells #[.int .i64 t616, .slice Ao73 t617.length co73] 28 (0, 0)) (by (with_reducible repeat (refine blk_drew ?_)); exact BK621.out) hb); have n10_ := Aside0.mk (below_step (by repeat ((with_reducible exact HB.out))) hb); clear HO_606001; clear HO_611001; clear HO_616001; clear HO_622001; clear BK588; clear BK589; clear BK605; clear BK610; clear BK615; clear BK621; clear HB; have HO_606001 := n0_; have HO_611001 := n1_; have HO_616001 := n2_; have HO_622001 := n3_; have BK588 := n4_; have BK589 := n5_; have BK605 := n6_; have BK610 := n7_; have BK615 := n8_; have BK621 := n9_; have HB := n10_; clear n0_ n1_ n2_ n3_ n4_ n5_ n6_ n7_ n8_ n9_ n10_; (try clear hb); skip))
             go_ret
             exact ⟨by rfl, by repeat ((with_reducible exact HB.out))⟩
       ·replace c106 := Bool.eq_false_iff.mpr c106
        subst c106
        have H1 : (some false) = some r := by rw [if_neg (show ¬ (false = true) by decide)] at H; exact H
        clear H
        have H := H1
        clear H1
        obtain rfl := Option.some.inj H
        try go_wp2
        have n0_ := Aside0.mk (Kd.R_drew HO_606001.out)
        have n1_ := Aside0.mk (Kd.R_drew HO_611001.out)
        have n2_ := Aside0.mk (Kd.R_drew HO_616001.out)
        have n3_ := Aside0.mk (Kd.R_drew HO_622001.out)
        have n4_ := Aside0.mk (blk_drew BK588.out)
        have n5_ := Aside0.mk (blk_drew BK589.out)
        have n6_ := Aside0.mk (blk_drew BK605.out)
        have n7_ := Aside0.mk (blk_drew BK610.out)
        have n8_ := Aside0.mk (blk_drew BK615.out)
        have n9_ := Aside0.mk (blk_drew BK621.out)
        have n10_ := Aside0.mk (below_drew1 HB.out)
        clear HO_606001
        clear HO_611001
        clear HO_616001
        clear HO_622001
        clear BK588
        clear BK589
        clear BK605
        clear BK610
        clear BK615
        clear BK621
        clear HB
        have HO_606001 := n0_
        have HO_611001 := n1_
        have HO_616001 := n2_
        have HO_622001 := n3_
        have BK588 := n4_
        have BK589 := n5_
        have BK605 := n6_
        have BK610 := n7_
        have BK615 := n8_
        have BK621 := n9_
        have HB := n10_
        clear n0_ n1_ n2_ n3_ n4_ n5_ n6_ n7_ n8_ n9_ n10_
        refine start_ (n := 5) (S := fun w' => w'.cell? ⟨gb610, 0, none⟩ = some (.int .i64 t606) ∧ w'.cell? ⟨gb610, 1, none⟩ = some (.slice Ao53 t607.length co53) ∧ w'.cell? ⟨gb588, 0, none⟩ = some (.int .i64 a0_0) ∧ w'.cell? ⟨gb588, 1, none⟩ = some (.slice A0_1 l0_1.length c0_1)) (ds := []) #[false, false, false, false, false] (by kernel_rfl) rfl rfl ⟨(blk_cell BK610.out 0).trans rfl, (blk_cell BK610.out 1).trans rfl, (blk_cell BK588.out 0).trans rfl, (blk_cell BK588.out 1).trans rfl⟩ (fun hHeld => ?_)
        generalize wc.drew = w263 at HO_606001 HO_611001 HO_616001 HO_622001 BK588 BK589 BK605 BK610 BK615 BK621 HB hHeld ⊢
        refine take_ (i := 0) (N := some 54) (v := ?_) (a' := ?_) #[true, false, false, false, false] rfl rfl (by kernel_rfl) (fun _ _ _ h => h) (Or.inl ⟨by rfl, ?_⟩) hHeld ?_ ?_
        rotate_left
        ·rintro w' ⟨s0, s1, s2, s3⟩
         go_simp
         with_reducible rfl
        rotate_left
        ·simp only [Act.put, List.setIfInBounds_toArray, List.set_cons_zero, List.set_cons_succ, i64_w, i32_w]
         rfl
        refine take_ (i := 1) (N := some 55) (v := ?_) (a' := ?_) #[true, true, false, false, false] rfl rfl (by kernel_rfl) (fun _ _ _ h => h) (Or.inl ⟨by rfl, ?_⟩) hHeld ?_ ?_
        rotate_left
        ·rintro w' ⟨s0, s1, s2, s3⟩
         go_simp
         with_reducible rfl
        rotate_left
        ·simp only [Act.put, List.setIfInBounds_toArray, List.set_cons_zero, List.set_cons_succ, i64_w, i32_w]
         rfl
        refine one_ (i := 2) (N := some 56) #[true, true, true, false, false] rfl rfl (by kernel_rfl) (by decide) (fun K hK => ?_)
        refine goes_ Try.func12 (by kernel_rfl) rfl #[.agg #[.int .i64 a0_0, .slice A0_1 l0_1.length c0_1]] (by rfl) rfl rfl (by (try simp only [List.map_toArray, List.map_cons, List.map_nil]); rfl) ?_
        with_reducible refine (laws_toSpace.calls kj24 a0_0 _ _ l0_1 t623 t624 _ ?side1 ?side2 A101.out).mono ?_
        (case side1 => repeat (exact (Kd.C_below HR0_1.out HB.out)))
        (case side2 => exact HC0_1.out)
        rintro e w264 ⟨v625, rfl, ho0, hb⟩
        refine ⟨_, rfl, ?_⟩
        have n0_ := Aside0.mk (Kd.R_elder' (by (with_reducible repeat (apply Kd.R_drew)); exact HO_606001.out) (Kd.R_base ho0) hb)
        have n1_ := Aside0.mk (Kd.R_elder' (by (with_reducible repeat (apply Kd.R_drew)); exact HO_611001.out) (Kd.R_base ho0) hb)
        have n2_ := Aside0.mk (Kd.R_elder' (by (with_reducible repeat (apply Kd.R_drew)); exact HO_616001.out) (Kd.R_base ho0) hb)
        have n3_ := Aside0.mk (Kd.R_elder' (by (with_reducible repeat (apply Kd.R_drew)); exact HO_622001.out) (Kd.R_base ho0) hb)
        have n4_ := Aside0.mk (Kd.R_lower (Kd.R_new' (Kd.R_new' (Kd.R_new' (Kd.R_new' ho0 (Kd.R_lt (by (with_reducible repeat (apply Kd.R_drew)); exact HO_606001.out))) (Kd.R_lt (by (with_reducible repeat (apply Kd.R_drew)); exact HO_611001.out))) (Kd.R_lt (by (with_reducible repeat (apply Kd.R_drew)); exact HO_616001.out))) (Kd.R_lt (by (with_reducible repeat (apply Kd.R_drew)); exact HO_622001.out))) (below_size (by repeat ((with_reducible exact HB.out)))))
        have n5_ := Aside0.mk (blk_below (g := gb588) (o := .cells #[.int .i64 a0_0, .slice A0_1 l0_1.length c0_1] 24 (0, 0)) (by (with_reducible repeat (refine blk_drew ?_)); exact BK588.out) hb)
        have n6_ := Aside0.mk (blk_below (g := gb589) (o := .cells #[.int .i64 a1_0, .slice A1_1 l1_1.length c1_1] 24 (0, 0)) (by (with_reducible repeat (refine blk_drew ?_)); exact BK589.out) hb)
        have n7_ := Aside0.mk (blk_below (g := gb605) (o := .cells #[.int .i64 t600, .slice Ao42 t601.length co42] 28 (0, 0)) (by (with_reducible repeat (refine blk_drew ?_)); exact BK605.out) hb)
        have n8_ := Aside0.mk (blk_below (g := gb610) (o := .cells #[.int .i64 t606, .slice Ao53 t607.length co53] 28 (0, 0)) (by (with_reducible repeat (refine blk_drew ?_)); exact BK610.out) hb)
        have n9_ := Aside0.mk (blk_below (g := gb615) (o := .cells #[.int .i64 t611, .slice Ao63 t612.length co63] 28 (0, 0)) (by (with_reducible repeat (refine blk_drew ?_)); exact BK615.out) hb)
        have n10_ := Aside0.mk (blk_below (g := gb621) (o := .cells #[.int .i64 t616, .slice Ao73 t617.length co73] 28 (0, 0)) (by (with_reducible repeat (refine blk_drew ?_)); exact BK621.out) hb)
        have n11_ := Aside0.mk (below_step (by repeat ((with_reducible exact HB.out))) hb)
        clear HO_606001
        clear HO_611001
        clear HO_616001
        clear HO_622001
        clear BK588
        clear BK589
        clear BK605
        clear BK610
        clear BK615
        clear BK621
        clear HB
        have HO_606001 := n0_
        have HO_611001 := n1_
        have HO_616001 := n2_
        have HO_622001 := n3_
        have HO626 := n4_
        have BK588 := n5_
        have BK589 := n6_
        have BK605 := n7_
        have BK610 := n8_
        have BK615 := n9_
        have BK621 := n10_
        have HB := n11_
        clear n0_ n1_ n2_ n3_ n4_ n5_ n6_ n7_ n8_ n9_ n10_ n11_
        (try clear hb)
        skip
        skip
        skip
        (try clear ho0)
        obtain ⟨Ao265, co265, eo265⟩ := Kd.R_slice HO626.out
        (subst eo265)
        refine hK.out _ _ ⟨(blk_cell BK610.out 0).trans rfl, (blk_cell BK610.out 1).trans rfl, (blk_cell BK588.out 0).trans rfl, (blk_cell BK588.out 1).trans rfl⟩ (fun hHeld => ?_)
        clear hK K
        refine norm_ (a' := ?_) ?_ ?_
        rotate_left
        ·show Act.put _ (some 56) _ = _
         simp only [Act.put, List.setIfInBounds_toArray, List.set_cons_zero, List.set_cons_succ, i64_w, i32_w]
         rfl
        refine one_ (i := 3) (N := some 57) #[true, true, true, true, false] rfl rfl (by kernel_rfl) (by decide) (fun K hK => ?_)
        refine goes_ Try.func15 (by kernel_rfl) rfl #[.agg #[.int .i64 t606, .slice Ao53 t607.length co53], .agg #[.int .i64 t623, .slice Ao265 t624.length co265]] (by rfl) rfl rfl (by (try simp only [List.map_toArray, List.map_cons, List.map_nil]); rfl) ?_
        with_reducible refine (laws_eqSpace.calls kj24 t606 _ _ t607 t623 _ _ t624 true _ ?side1 ?side2 ?side3 ?side4 A102.out).mono ?_
        (case side1 => repeat (exact (Kd.R_reads' HO_611001.out).2.2))
        (case side2 => exact (Kd.R_reads' HO_611001.out).2.1)
        (case side3 => repeat (exact (Kd.R_reads' HO626.out).2.2))
        (case side4 => exact (Kd.R_reads' HO626.out).2.1)
        rintro e w266 ⟨rfl, hb⟩
        refine ⟨_, rfl, ?_⟩
        have n0_ := Aside0.mk (Kd.R_below (by (with_reducible repeat (apply Kd.R_drew)); exact HO_606001.out) hb)
        have n1_ := Aside0.mk (Kd.R_below (by (with_reducible repeat (apply Kd.R_drew)); exact HO_611001.out) hb)
        have n2_ := Aside0.mk (Kd.R_below (by (with_reducible repeat (apply Kd.R_drew)); exact HO_616001.out) hb)
        have n3_ := Aside0.mk (Kd.R_below (by (with_reducible repeat (apply Kd.R_drew)); exact HO_622001.out) hb)
        have n4_ := Aside0.mk (Kd.R_below (by (with_reducible repeat (apply Kd.R_drew)); exact HO626.out) hb)
        have n5_ := Aside0.mk (blk_below (g := gb588) (o := .cells #[.int .i64 a0_0, .slice A0_1 l0_1.length c0_1] 24 (0, 0)) (by (with_reducible repeat (refine blk_drew ?_)); exact BK588.out) hb)
        have n6_ := Aside0.mk (blk_below (g := gb589) (o := .cells #[.int .i64 a1_0, .slice A1_1 l1_1.length c1_1] 24 (0, 0)) (by (with_reducible repeat (refine blk_drew ?_)); exact BK589.out) hb)
        have n7_ := Aside0.mk (blk_below (g := gb605) (o := .cells #[.int .i64 t600, .slice Ao42 t601.length co42] 28 (0, 0)) (by (with_reducible repeat (refine blk_drew ?_)); exact BK605.out) hb)
        have n8_ := Aside0.mk (blk_below (g := gb610) (o := .cells #[.int .i64 t606, .slice Ao53 t607.length co53] 28 (0, 0)) (by (with_reducible repeat (refine blk_drew ?_)); exact BK610.out) hb)
        have n9_ := Aside0.mk (blk_below (g := gb615) (o := .cells #[.int .i64 t611, .slice Ao63 t612.length co63] 28 (0, 0)) (by (with_reducible repeat (refine blk_drew ?_)); exact BK615.out) hb)
        have n10_ := Aside0.mk (blk_below (g := gb621) (o := .cells #[.int .i64 t616, .slice Ao73 t617.length co73] 28 (0, 0)) (by (with_reducible repeat (refine blk_drew ?_)); exact BK621.out) hb)
        have n11_ := Aside0.mk (below_step (by repeat ((with_reducible exact HB.out))) hb)
        clear HO_606001
        clear HO_611001
        clear HO_616001
        clear HO_622001
        clear HO626
        clear BK588
        clear BK589
        clear BK605
        clear BK610
        clear BK615
        clear BK621
        clear HB
        have HO_606001 := n0_
        have HO_611001 := n1_
        have HO_616001 := n2_
        have HO_622001 := n3_
        have HO626 := n4_
        have BK588 := n5_
        have BK589 := n6_
        have BK605 := n7_
        have BK610 := n8_
        have BK615 := n9_
        have BK621 := n10_
        have HB := n11_
        clear n0_ n1_ n2_ n3_ n4_ n5_ n6_ n7_ n8_ n9_ n10_ n11_
        (try clear hb)
        skip
        skip
        skip
        refine hK.out _ _ ⟨(blk_cell BK610.out 0).trans rfl, (blk_cell BK610.out 1).trans rfl, (blk_cell BK588.out 0).trans rfl, (blk_cell BK588.out 1).trans rfl⟩ (fun hHeld => ?_)
        clear hK K
        refine norm_ (a' := ?_) ?_ ?_
        rotate_left
        ·show Act.put _ (some 57) _ = _
         simp only [Act.put, List.setIfInBounds_toArray, List.set_cons_zero, List.set_cons_succ, i64_w, i32_w]
         rfl
        refine pure_ (i := 4) (N := some 58) (v := ?_) (a' := ?_) #[true, true, true, true, true] rfl rfl (by kernel_rfl) (fun _ _ _ h => h) (Or.inl ⟨by rfl, ?_⟩) ?_ ?_
        rotate_left
        ·intro w'
         go_simp
         with_reducible rfl
        rotate_left
        ·simp only [Act.put, List.setIfInBounds_toArray, List.set_cons_zero, List.set_cons_succ, i64_w, i32_w]
         rfl
        refine done_ (by kernel_rfl) ?_
        try go_wp2
        have n0_ := Aside0.mk (Kd.R_drew HO_606001.out)
        have n1_ := Aside0.mk (Kd.R_drew HO_611001.out)
        have n2_ := Aside0.mk (Kd.R_drew HO_616001.out)
        have n3_ := Aside0.mk (Kd.R_drew HO_622001.out)
        have n4_ := Aside0.mk (Kd.R_drew HO626.out)
        have n5_ := Aside0.mk (blk_drew BK588.out)
        have n6_ := Aside0.mk (blk_drew BK589.out)
        have n7_ := Aside0.mk (blk_drew BK605.out)
        have n8_ := Aside0.mk (blk_drew BK610.out)
        have n9_ := Aside0.mk (blk_drew BK615.out)
        have n10_ := Aside0.mk (blk_drew BK621.out)
        have n11_ := Aside0.mk (below_drew1 HB.out)
        clear HO_606001
        clear HO_611001
        clear HO_616001
        clear HO_622001
        clear HO626
        clear BK588
        clear BK589
        clear BK605
        clear BK610
        clear BK615
        clear BK621
        clear HB
        have HO_606001 := n0_
        have HO_611001 := n1_
        have HO_616001 := n2_
        have HO_622001 := n3_
        have HO626 := n4_
        have BK588 := n5_
        have BK589 := n6_
        have BK605 := n7_
        have BK610 := n8_
        have BK615 := n9_
        have BK621 := n10_
        have HB := n11_
        clear n0_ n1_ n2_ n3_ n4_ n5_ n6_ n7_ n8_ n9_ n10_ n11_
        refine start_ (n := 5) (S := fun w' => w'.cell? ⟨gb615, 0, none⟩ = some (.int .i64 t611) ∧ w'.cell? ⟨gb615, 1, none⟩ = some (.slice Ao63 t612.length co63) ∧ w'.cell? ⟨gb589, 0, none⟩ = some (.int .i64 a1_0) ∧ w'.cell? ⟨gb589, 1, none⟩ = some (.slice A1_1 l1_1.length c1_1)) (ds := []) #[false, false, false, false, false] (by kernel_rfl) rfl rfl ⟨(blk_cell BK615.out 0).trans rfl, (blk_cell BK615.out 1).trans rfl, (blk_cell BK589.out 0).trans rfl, (blk_cell BK589.out 1).trans rfl⟩ (fun hHeld => ?_)
        generalize w266.drew = w267 at HO_606001 HO_611001 HO_616001 HO_622001 HO626 BK588 BK589 BK605 BK610 BK615 BK621 HB hHeld ⊢
        refine take_ (i := 0) (N := some 59) (v := ?_) (a' := ?_) #[true, false, false, false, false] rfl rfl (by kernel_rfl) (fun _ _ _ h => h) (Or.inl ⟨by rfl, ?_⟩) hHeld ?_ ?_
        rotate_left
        ·rintro w' ⟨s0, s1, s2, s3⟩
         go_simp
         with_reducible rfl
        rotate_left
        ·simp only [Act.put, List.setIfInBounds_toArray, List.set_cons_zero, List.set_cons_succ, i64_w, i32_w]
         rfl
        refine take_ (i := 1) (N := some 60) (v := ?_) (a' := ?_) #[true, true, false, false, false] rfl rfl (by kernel_rfl) (fun _ _ _ h => h) (Or.inl ⟨by rfl, ?_⟩) hHeld ?_ ?_
        rotate_left
        ·rintro w' ⟨s0, s1, s2, s3⟩
         go_simp
         with_reducible rfl
        rotate_left
        ·simp only [Act.put, List.setIfInBounds_toArray, List.set_cons_zero, List.set_cons_succ, i64_w, i32_w]
         rfl
        refine one_ (i := 2) (N := some 61) #[true, true, true, false, false] rfl rfl (by kernel_rfl) (by decide) (fun K hK => ?_)
        refine goes_ Try.func12 (by kernel_rfl) rfl #[.agg #[.int .i64 a1_0, .slice A1_1 l1_1.length c1_1]] (by rfl) rfl rfl (by (try simp only [List.map_toArray, List.map_cons, List.map_nil]); rfl) ?_
        with_reducible refine (laws_toSpace.calls kj24 a1_0 _ _ l1_1 t628 t629 _ ?side1 ?side2 A104.out).mono ?_
        (case side1 => repeat (exact (Kd.C_below HR1_1.out HB.out)))
        (case side2 => exact HC1_1.out)
        rintro e w268 ⟨v630, rfl, ho0, hb⟩
        refine ⟨_, rfl, ?_⟩
        have n0_ := Aside0.mk (Kd.R_elder' (by (with_reducible repeat (apply Kd.R_drew)); exact HO_606001.out) (Kd.R_base ho0) hb)
        have n1_ := Aside0.mk (Kd.R_elder' (by (with_reducible repeat (apply Kd.R_drew)); exact HO_611001.out) (Kd.R_base ho0) hb)
        have n2_ := Aside0.mk (Kd.R_elder' (by (with_reducible repeat (apply Kd.R_drew)); exact HO_616001.out) (Kd.R_base ho0) hb)
        have n3_ := Aside0.mk (Kd.R_elder' (by (with_reducible repeat (apply Kd.R_drew)); exact HO_622001.out) (Kd.R_base ho0) hb)
        have n4_ := Aside0.mk (Kd.R_elder' (by (with_reducible repeat (apply Kd.R_drew)); exact HO626.out) (Kd.R_base ho0) hb)
        have n5_ := Aside0.mk (Kd.R_lower (Kd.R_new' (Kd.R_new' (Kd.R_new' (Kd.R_new' (Kd.R_new' ho0 (Kd.R_lt (by (with_reducible repeat (apply Kd.R_drew)); exact HO_606001.out))) (Kd.R_lt (by (with_reducible repeat (apply Kd.R_drew)); exact HO_611001.out))) (Kd.R_lt (by (with_reducible repeat (apply Kd.R_drew)); exact HO_616001.out))) (Kd.R_lt (by (with_reducible repeat (apply Kd.R_drew)); exact HO_622001.out))) (Kd.R_lt (by (with_reducible repeat (apply Kd.R_drew)); exact HO626.out))) (below_size (by repeat ((with_reducible exact HB.out)))))
        have n6_ := Aside0.mk (blk_below (g := gb588) (o := .cells #[.int .i64 a0_0, .slice A0_1 l0_1.length c0_1] 24 (0, 0)) (by (with_reducible repeat (refine blk_drew ?_)); exact BK588.out) hb)
        have n7_ := Aside0.mk (blk_below (g := gb589) (o := .cells #[.int .i64 a1_0, .slice A1_1 l1_1.length c1_1] 24 (0, 0)) (by (with_reducible repeat (refine blk_drew ?_)); exact BK589.out) hb)
        have n8_ := Aside0.mk (blk_below (g := gb605) (o := .cells #[.int .i64 t600, .slice Ao42 t601.length co42] 28 (0, 0)) (by (with_reducible repeat (refine blk_drew ?_)); exact BK605.out) hb)
        have n9_ := Aside0.mk (blk_below (g := gb610) (o := .cells #[.int .i64 t606, .slice Ao53 t607.length co53] 28 (0, 0)) (by (with_reducible repeat (refine blk_drew ?_)); exact BK610.out) hb)
        have n10_ := Aside0.mk (blk_below (g := gb615) (o := .cells #[.int .i64 t611, .slice Ao63 t612.length co63] 28 (0, 0)) (by (with_reducible repeat (refine blk_drew ?_)); exact BK615.out) hb)
        have n11_ := Aside0.mk (blk_below (g := gb621) (o := .cells #[.int .i64 t616, .slice Ao73 t617.length co73] 28 (0, 0)) (by (with_reducible repeat (refine blk_drew ?_)); exact BK621.out) hb)
        have n12_ := Aside0.mk (below_step (by repeat ((with_reducible exact HB.out))) hb)
        clear HO_606001
        clear HO_611001
        clear HO_616001
        clear HO_622001
        clear HO626
        clear BK588
        clear BK589
        clear BK605
        clear BK610
        clear BK615
        clear BK621
        clear HB
        have HO_606001 := n0_
        have HO_611001 := n1_
        have HO_616001 := n2_
        have HO_622001 := n3_
        have HO626 := n4_
        have HO631 := n5_
        have BK588 := n6_
        have BK589 := n7_
        have BK605 := n8_
        have BK610 := n9_
        have BK615 := n10_
        have BK621 := n11_
        have HB := n12_
        clear n0_ n1_ n2_ n3_ n4_ n5_ n6_ n7_ n8_ n9_ n10_ n11_ n12_
        (try clear hb)
        skip
        skip
        skip
        (try clear ho0)
        obtain ⟨Ao269, co269, eo269⟩ := Kd.R_slice HO631.out
        (subst eo269)
        refine hK.out _ _ ⟨(blk_cell BK615.out 0).trans rfl, (blk_cell BK615.out 1).trans rfl, (blk_cell BK589.out 0).trans rfl, (blk_cell BK589.out 1).trans rfl⟩ (fun hHeld => ?_)
        clear hK K
        refine norm_ (a' := ?_) ?_ ?_
        rotate_left
        ·show Act.put _ (some 61) _ = _
         simp only [Act.put, List.setIfInBounds_toArray, List.set_cons_zero, List.set_cons_succ, i64_w, i32_w]
         rfl
        refine one_ (i := 3) (N := some 62) #[true, true, true, true, false] rfl rfl (by kernel_rfl) (by decide) (fun K hK => ?_)
        refine goes_ Try.func15 (by kernel_rfl) rfl #[.agg #[.int .i64 t611, .slice Ao63 t612.length co63], .agg #[.int .i64 t628, .slice Ao269 t629.length co269]] (by rfl) rfl rfl (by (try simp only [List.map_toArray, List.map_cons, List.map_nil]); rfl) ?_
        with_reducible refine (laws_eqSpace.calls kj24 t611 _ _ t612 t628 _ _ t629 false _ ?side1 ?side2 ?side3 ?side4 A105.out).mono ?_
        (case side1 => repeat (exact (Kd.R_reads' HO_616001.out).2.2))
        (case side2 => exact (Kd.R_reads' HO_616001.out).2.1)
        (case side3 => repeat (exact (Kd.R_reads' HO631.out).2.2))
        (case side4 => exact (Kd.R_reads' HO631.out).2.1)
        rintro e w270 ⟨rfl, hb⟩
        refine ⟨_, rfl, ?_⟩
        have n0_ := Aside0.mk (Kd.R_below (by (with_reducible repeat (apply Kd.R_drew)); exact HO_606001.out) hb)
        have n1_ := Aside0.mk (Kd.R_below (by (with_reducible repeat (apply Kd.R_drew)); exact HO_611001.out) hb)
        have n2_ := Aside0.mk (Kd.R_below (by (with_reducible repeat (apply Kd.R_drew)); exact HO_616001.out) hb)
        have n3_ := Aside0.mk (Kd.R_below (by (with_reducible repeat (apply Kd.R_drew)); exact HO_622001.out) hb)
        have n4_ := Aside0.mk (Kd.R_below (by (with_reducible repeat (apply Kd.R_drew)); exact HO626.out) hb)
        have n5_ := Aside0.mk (Kd.R_below (by (with_reducible repeat (apply Kd.R_drew)); exact HO631.out) hb)
        have n6_ := Aside0.mk (blk_below (g := gb588) (o := .cells #[.int .i64 a0_0, .slice A0_1 l0_1.length c0_1] 24 (0, 0)) (by (with_reducible repeat (refine blk_drew ?_)); exact BK588.out) hb)
        have n7_ := Aside0.mk (blk_below (g := gb589) (o := .cells #[.int .i64 a1_0, .slice A1_1 l1_1.length c1_1] 24 (0, 0)) (by (with_reducible repeat (refine blk_drew ?_)); exact BK589.out) hb)
        have n8_ := Aside0.mk (blk_below (g := gb605) (o := .cells #[.int .i64 t600, .slice Ao42 t601.length co42] 28 (0, 0)) (by (with_reducible repeat (refine blk_drew ?_)); exact BK605.out) hb)
        have n9_ := Aside0.mk (blk_below (g := gb610) (o := .cells #[.int .i64 t606, .slice Ao53 t607.length co53] 28 (0, 0)) (by (with_reducible repeat (refine blk_drew ?_)); exact BK610.out) hb)
        have n10_ := Aside0.mk (blk_below (g := gb615) (o := .cells #[.int .i64 t611, .slice Ao63 t612.length co63] 28 (0, 0)) (by (with_reducible repeat (refine blk_drew ?_)); exact BK615.out) hb)
        have n11_ := Aside0.mk (blk_below (g := gb621) (o := .cells #[.int .i64 t616, .slice Ao73 t617.length co73] 28 (0, 0)) (by (with_reducible repeat (refine blk_drew ?_)); exact BK621.out) hb)
        have n12_ := Aside0.mk (below_step (by repeat ((with_reducible exact HB.out))) hb)
        clear HO_606001
        clear HO_611001
        clear HO_616001
        clear HO_622001
        clear HO626
        clear HO631
        clear BK588
        clear BK589
        clear BK605
        clear BK610
        clear BK615
        clear BK621
        clear HB
        have HO_606001 := n0_
        have HO_611001 := n1_
        have HO_616001 := n2_
        have HO_622001 := n3_
        have HO626 := n4_
        have HO631 := n5_
        have BK588 := n6_
        have BK589 := n7_
        have BK605 := n8_
        have BK610 := n9_
        have BK615 := n10_
        have BK621 := n11_
        have HB := n12_
        clear n0_ n1_ n2_ n3_ n4_ n5_ n6_ n7_ n8_ n9_ n10_ n11_ n12_
        (try clear hb)
        skip
        skip
        skip
        refine hK.out _ _ ⟨(blk_cell BK615.out 0).trans rfl, (blk_cell BK615.out 1).trans rfl, (blk_cell BK589.out 0).trans rfl, (blk_cell BK589.out 1).trans rfl⟩ (fun hHeld => ?_)
        clear hK K
        refine norm_ (a' := ?_) ?_ ?_
        rotate_left
        ·show Act.put _ (some 62) _ = _
         simp only [Act.put, List.setIfInBounds_toArray, List.set_cons_zero, List.set_cons_succ, i64_w, i32_w]
         rfl
        refine pure_ (i := 4) (N := some 63) (v := ?_) (a' := ?_) #[true, true, true, true, true] rfl rfl (by kernel_rfl) (fun _ _ _ h => h) (Or.inl ⟨by rfl, ?_⟩) ?_ ?_
        rotate_left
        ·intro w'
         go_simp
         with_reducible rfl
        rotate_left
        ·simp only [Act.put, List.setIfInBounds_toArray, List.set_cons_zero, List.set_cons_succ, i64_w, i32_w]
         rfl
        refine done_ (by kernel_rfl) ?_
        try go_wp2
        go_ret
        exact ⟨by rfl, by repeat ((with_reducible exact HB.out))⟩
      ·replace c103 := Bool.eq_false_iff.mpr c103
       subst c103
       have H1 : (some false) = some r := by rw [if_neg (show ¬ (false = true) by decide)] at H; exact H
       clear H
       have H := H1
       clear H1
       obtain rfl := Option.some.inj H
       try go_wp2
       have n0_ := Aside0.mk (Kd.R_drew HO_606001.out)
       have n1_ := Aside0.mk (Kd.R_drew HO_611001.out)
       have n2_ := Aside0.mk (Kd.R_drew HO_616001.out)
       have n3_ := Aside0.mk (Kd.R_drew HO_622001.out)
       have n4_ := Aside0.mk (blk_drew BK588.out)
       have n5_ := Aside0.mk (blk_drew BK589.out)
       have n6_ := Aside0.mk (blk_drew BK605.out)
       have n7_ := Aside0.mk (blk_drew BK610.out)
       have n8_ := Aside0.mk (blk_drew BK615.out)
       have n9_ := Aside0.mk (blk_drew BK621.out)
       have n10_ := Aside0.mk (below_drew1 HB.out)
       clear HO_606001
       clear HO_611001
       clear HO_616001
       clear HO_622001
       clear BK588
       clear BK589
       clear BK605
       clear BK610
       clear BK615
       clear BK621
       clear HB
       have HO_606001 := n0_
       have HO_611001 := n1_
       have HO_616001 := n2_
       have HO_622001 := n3_
       have BK588 := n4_
       have BK589 := n5_
       have BK605 := n6_
       have BK610 := n7_
       have BK615 := n8_
       have BK621 := n9_
       have HB := n10_
       clear n0_ n1_ n2_ n3_ n4_ n5_ n6_ n7_ n8_ n9_ n10_
       refine start_ (n := 5) (S := fun w' => w'.cell? ⟨gb610, 0, none⟩ = some (.int .i64 t606) ∧ w'.cell? ⟨gb610, 1, none⟩ = some (.slice Ao53 t607.length co53) ∧ w'.cell? ⟨gb588, 0, none⟩ = some (.int .i64 a0_0) ∧ w'.cell? ⟨gb588, 1, none⟩ = some (.slice A0_1 l0_1.length c0_1)) (ds := []) #[false, false, false, false, false] (by kernel_rfl) rfl rfl ⟨(blk_cell BK610.out 0).trans rfl, (blk_cell BK610.out 1).trans rfl, (blk_cell BK588.out 0).trans rfl, (blk_cell BK588.out 1).trans rfl⟩ (fun hHeld => ?_)
       generalize wc.drew = w271 at HO_606001 HO_611001 HO_616001 HO_622001 BK588 BK589 BK605 BK610 BK615 BK621 HB hHeld ⊢
       refine take_ (i := 0) (N := some 54) (v := ?_) (a' := ?_) #[true, false, false, false, false] rfl rfl (by kernel_rfl) (fun _ _ _ h => h) (Or.inl ⟨by rfl, ?_⟩) hHeld ?_ ?_
       rotate_left
       ·rintro w' ⟨s0, s1, s2, s3⟩
        go_simp
        with_reducible rfl
       rotate_left
       ·simp only [Act.put, List.setIfInBounds_toArray, List.set_cons_zero, List.set_cons_succ, i64_w, i32_w]
        rfl
       refine take_ (i := 1) (N := some 55) (v := ?_) (a' := ?_) #[true, true, false, false, false] rfl rfl (by kernel_rfl) (fun _ _ _ h => h) (Or.inl ⟨by rfl, ?_⟩) hHeld ?_ ?_
       rotate_left
       ·rintro w' ⟨s0, s1, s2, s3⟩
        go_simp
        with_reducible rfl
       rotate_left
       ·simp only [Act.put, List.setIfInBounds_toArray, List.set_cons_zero, List.set_cons_succ, i64_w, i32_w]
        rfl
       refine one_ (i := 2) (N := some 56) #[true, true, true, false, false] rfl rfl (by kernel_rfl) (by decide) (fun K hK => ?_)
       refine goes_ Try.func12 (by kernel_rfl) rfl #[.agg #[.int .i64 a0_0, .slice A0_1 l0_1.length c0_1]] (by rfl) rfl rfl (by (try simp only [List.map_toArray, List.map_cons, List.map_nil]); rfl) ?_
       with_reducible refine (laws_toSpace.calls kj24 a0_0 _ _ l0_1 t623 t624 _ ?side1 ?side2 A101.out).mono ?_
       (case side1 => repeat (exact (Kd.C_below HR0_1.out HB.out)))
       (case side2 => exact HC0_1.out)
       rintro e w272 ⟨v625, rfl, ho0, hb⟩
       refine ⟨_, rfl, ?_⟩
       have n0_ := Aside0.mk (Kd.R_elder' (by (with_reducible repeat (apply Kd.R_drew)); exact HO_606001.out) (Kd.R_base ho0) hb)
       have n1_ := Aside0.mk (Kd.R_elder' (by (with_reducible repeat (apply Kd.R_drew)); exact HO_611001.out) (Kd.R_base ho0) hb)
       have n2_ := Aside0.mk (Kd.R_elder' (by (with_reducible repeat (apply Kd.R_drew)); exact HO_616001.out) (Kd.R_base ho0) hb)
       have n3_ := Aside0.mk (Kd.R_elder' (by (with_reducible repeat (apply Kd.R_drew)); exact HO_622001.out) (Kd.R_base ho0) hb)
       have n4_ := Aside0.mk (Kd.R_lower (Kd.R_new' (Kd.R_new' (Kd.R_new' (Kd.R_new' ho0 (Kd.R_lt (by (with_reducible repeat (apply Kd.R_drew)); exact HO_606001.out))) (Kd.R_lt (by (with_reducible repeat (apply Kd.R_drew)); exact HO_611001.out))) (Kd.R_lt (by (with_reducible repeat (apply Kd.R_drew)); exact HO_616001.out))) (Kd.R_lt (by (with_reducible repeat (apply Kd.R_drew)); exact HO_622001.out))) (below_size (by repeat ((with_reducible exact HB.out)))))
       have n5_ := Aside0.mk (blk_below (g := gb588) (o := .cells #[.int .i64 a0_0, .slice A0_1 l0_1.length c0_1] 24 (0, 0)) (by (with_reducible repeat (refine blk_drew ?_)); exact BK588.out) hb)
       have n6_ := Aside0.mk (blk_below (g := gb589) (o := .cells #[.int .i64 a1_0, .slice A1_1 l1_1.length c1_1] 24 (0, 0)) (by (with_reducible repeat (refine blk_drew ?_)); exact BK589.out) hb)
       have n7_ := Aside0.mk (blk_below (g := gb605) (o := .cells #[.int .i64 t600, .slice Ao42 t601.length co42] 28 (0, 0)) (by (with_reducible repeat (refine blk_drew ?_)); exact BK605.out) hb)
       have n8_ := Aside0.mk (blk_below (g := gb610) (o := .cells #[.int .i64 t606, .slice Ao53 t607.length co53] 28 (0, 0)) (by (with_reducible repeat (refine blk_drew ?_)); exact BK610.out) hb)
       have n9_ := Aside0.mk (blk_below (g := gb615) (o := .cells #[.int .i64 t611, .slice Ao63 t612.length co63] 28 (0, 0)) (by (with_reducible repeat (refine blk_drew ?_)); exact BK615.out) hb)
       have n10_ := Aside0.mk (blk_below (g := gb621) (o := .cells #[.int .i64 t616, .slice Ao73 t617.length co73] 28 (0, 0)) (by (with_reducible repeat (refine blk_drew ?_)); exact BK621.out) hb)
       have n11_ := Aside0.mk (below_step (by repeat ((with_reducible exact HB.out))) hb)
       clear HO_606001
       clear HO_611001
       clear HO_616001
       clear HO_622001
       clear BK588
       clear BK589
       clear BK605
       clear BK610
       clear BK615
       clear BK621
       clear HB
       have HO_606001 := n0_
       have HO_611001 := n1_
       have HO_616001 := n2_
       have HO_622001 := n3_
       have HO626 := n4_
       have BK588 := n5_
       have BK589 := n6_
       have BK605 := n7_
       have BK610 := n8_
       have BK615 := n9_
       have BK621 := n10_
       have HB := n11_
       clear n0_ n1_ n2_ n3_ n4_ n5_ n6_ n7_ n8_ n9_ n10_ n11_
       (try clear hb)
       skip
       skip
       skip
       (try clear ho0)
       obtain ⟨Ao273, co273, eo273⟩ := Kd.R_slice HO626.out
       (subst eo273)
       refine hK.out _ _ ⟨(blk_cell BK610.out 0).trans rfl, (blk_cell BK610.out 1).trans rfl, (blk_cell BK588.out 0).trans rfl, (blk_cell BK588.out 1).trans rfl⟩ (fun hHeld => ?_)
       clear hK K
       refine norm_ (a' := ?_) ?_ ?_
       rotate_left
       ·show Act.put _ (some 56) _ = _
        simp only [Act.put, List.setIfInBounds_toArray, List.set_cons_zero, List.set_cons_succ, i64_w, i32_w]
        rfl
       refine one_ (i := 3) (N := some 57) #[true, true, true, true, false] rfl rfl (by kernel_rfl) (by decide) (fun K hK => ?_)
       refine goes_ Try.func15 (by kernel_rfl) rfl #[.agg #[.int .i64 t606, .slice Ao53 t607.length co53], .agg #[.int .i64 t623, .slice Ao273 t624.length co273]] (by rfl) rfl rfl (by (try simp only [List.map_toArray, List.map_cons, List.map_nil]); rfl) ?_
       with_reducible refine (laws_eqSpace.calls kj24 t606 _ _ t607 t623 _ _ t624 false _ ?side1 ?side2 ?side3 ?side4 A102.out).mono ?_
       (case side1 => repeat (exact (Kd.R_reads' HO_611001.out).2.2))
       (case side2 => exact (Kd.R_reads' HO_611001.out).2.1)
       (case side3 => repeat (exact (Kd.R_reads' HO626.out).2.2))
       (case side4 => exact (Kd.R_reads' HO626.out).2.1)
       rintro e w274 ⟨rfl, hb⟩
       refine ⟨_, rfl, ?_⟩
       have n0_ := Aside0.mk (Kd.R_below (by (with_reducible repeat (apply Kd.R_drew)); exact HO_606001.out) hb)
       have n1_ := Aside0.mk (Kd.R_below (by (with_reducible repeat (apply Kd.R_drew)); exact HO_611001.out) hb)
       have n2_ := Aside0.mk (Kd.R_below (by (with_reducible repeat (apply Kd.R_drew)); exact HO_616001.out) hb)
       have n3_ := Aside0.mk (Kd.R_below (by (with_reducible repeat (apply Kd.R_drew)); exact HO_622001.out) hb)
       have n4_ := Aside0.mk (Kd.R_below (by (with_reducible repeat (apply Kd.R_drew)); exact HO626.out) hb)
       have n5_ := Aside0.mk (blk_below (g := gb588) (o := .cells #[.int .i64 a0_0, .slice A0_1 l0_1.length c0_1] 24 (0, 0)) (by (with_reducible repeat (refine blk_drew ?_)); exact BK588.out) hb)
       have n6_ := Aside0.mk (blk_below (g := gb589) (o := .cells #[.int .i64 a1_0, .slice A1_1 l1_1.length c1_1] 24 (0, 0)) (by (with_reducible repeat (refine blk_drew ?_)); exact BK589.out) hb)
       have n7_ := Aside0.mk (blk_below (g := gb605) (o := .cells #[.int .i64 t600, .slice Ao42 t601.length co42] 28 (0, 0)) (by (with_reducible repeat (refine blk_drew ?_)); exact BK605.out) hb)
       have n8_ := Aside0.mk (blk_below (g := gb610) (o := .cells #[.int .i64 t606, .slice Ao53 t607.length co53] 28 (0, 0)) (by (with_reducible repeat (refine blk_drew ?_)); exact BK610.out) hb)
       have n9_ := Aside0.mk (blk_below (g := gb615) (o := .cells #[.int .i64 t611, .slice Ao63 t612.length co63] 28 (0, 0)) (by (with_reducible repeat (refine blk_drew ?_)); exact BK615.out) hb)
       have n10_ := Aside0.mk (blk_below (g := gb621) (o := .cells #[.int .i64 t616, .slice Ao73 t617.length co73] 28 (0, 0)) (by (with_reducible repeat (refine blk_drew ?_)); exact BK621.out) hb)
       have n11_ := Aside0.mk (below_step (by repeat ((with_reducible exact HB.out))) hb)
       clear HO_606001
       clear HO_611001
       clear HO_616001
       clear HO_622001
       clear HO626
       clear BK588
       clear BK589
       clear BK605
       clear BK610
       clear BK615
       clear BK621
       clear HB
       have HO_606001 := n0_
       have HO_611001 := n1_
       have HO_616001 := n2_
       have HO_622001 := n3_
       have HO626 := n4_
       have BK588 := n5_
       have BK589 := n6_
       have BK605 := n7_
       have BK610 := n8_
       have BK615 := n9_
       have BK621 := n10_
       have HB := n11_
       clear n0_ n1_ n2_ n3_ n4_ n5_ n6_ n7_ n8_ n9_ n10_ n11_
       (try clear hb)
       skip
       skip
       skip
       refine hK.out _ _ ⟨(blk_cell BK610.out 0).trans rfl, (blk_cell BK610.out 1).trans rfl, (blk_cell BK588.out 0).trans rfl, (blk_cell BK588.out 1).trans rfl⟩ (fun hHeld => ?_)
       clear hK K
       refine norm_ (a' := ?_) ?_ ?_
       rotate_left
       ·show Act.put _ (some 57) _ = _
        simp only [Act.put, List.setIfInBounds_toArray, List.set_cons_zero, List.set_cons_succ, i64_w, i32_w]
        rfl
       refine pure_ (i := 4) (N := some 58) (v := ?_) (a' := ?_) #[true, true, true, true, true] rfl rfl (by kernel_rfl) (fun _ _ _ h => h) (Or.inl ⟨by rfl, ?_⟩) ?_ ?_
       rotate_left
       ·intro w'
        go_simp
        with_reducible rfl
       rotate_left
       ·simp only [Act.put, List.setIfInBounds_toArray, List.set_cons_zero, List.set_cons_succ, i64_w, i32_w]
        rfl
       refine done_ (by kernel_rfl) ?_
       try go_wp2
       go_ret
       exact ⟨by rfl, by repeat ((with_reducible exact HB.out))⟩

/-- THE ONE PURE STATEMENT of laws_FnExactUnionSpaces. -/
def laws_FnExactUnionSpaces.Pure : Prop := ∀ (a0_0 : Int) (l0_1 : List Int) (a1_0 : Int) (l1_1 : List Int), (Lit.int .i64 a0_0).wf = true → l0_1.length ≤ maxLen → (∀ x ∈ l0_1, (Lit.int .i64 x).wf = true) → (Lit.int .i64 a1_0).wf = true → l1_1.length ≤ maxLen → (∀ x ∈ l1_1, (Lit.int .i64 x).wf = true) → ∃ k, laws_FnExactUnionSpaces.f k a0_0 l0_1 a1_0 l1_1 = some true
theorem laws_FnExactUnionSpaces.walk (P : laws_FnExactUnionSpaces.Pure) (a0_0 : Int) (A0_1 : Option Addr) (c0_1 : Nat) (l0_1 : List Int) (a1_0 : Int) (A1_1 : Option Addr) (c1_1 : Nat) (l1_1 : List Int) (w : World) (w0_0 : (Lit.int .i64 a0_0).wf = true) (hr0_1 : Kd.C (Kd.int .i64) w A0_1 l0_1.length l0_1) (hc0_1 : l0_1.length ≤ c0_1) (hm0_1 : l0_1.length ≤ maxLen) (hw0_1 : ∀ x ∈ l0_1, (Lit.int .i64 x).wf = true) (w1_0 : (Lit.int .i64 a1_0).wf = true) (hr1_1 : Kd.C (Kd.int .i64) w A1_1 l1_1.length l1_1) (hc1_1 : l1_1.length ≤ c1_1) (hm1_1 : l1_1.length ≤ maxLen) (hw1_1 : ∀ x ∈ l1_1, (Lit.int .i64 x).wf = true) :
  Calls Try.prog 7 #[.agg #[.int .i64 a0_0, .slice A0_1 l0_1.length c0_1], .agg #[.int .i64 a1_0, .slice A1_1 l1_1.length c1_1]] w fun e w' => e = .returned (.bool true) ∧ Below w.heap.size w w' := by
 obtain ⟨k, h⟩ := P a0_0 l0_1 a1_0 l1_1 w0_0 hm0_1 hw0_1 w1_0 hm1_1 hw1_1
 refine (laws_FnExactUnionSpaces.calls k a0_0 A0_1 c0_1 l0_1 a1_0 A1_1 c1_1 l1_1 true w hr0_1 hc0_1 hr1_1 hc1_1 h).mono ?_
 rintro e w' ⟨rfl, hd⟩
 exact ⟨rfl, hd⟩

end Go.Proofs.Ytekllaaohagefaa.P
