/- Functions of the program as plain Lean functions, each with a proof that the Go code computes it; written by a program of this session. Conditions: as each theorem states. -/
import Derived.Test.YthpbmecinoninaaCFnExactSpaceOfClausesP2
namespace Go.Proofs.Ythpbmecinoninaa.P
open Go.RowKit Go.Proofs.YthpbmecinoninaaW.PrintWords Go.Proofs.YthpbmecinoninaaW.PrintLast Go.Proofs.YthpbmecinoninaaW.PrintMore
attribute [local go_sem] max2_int min2_int max_two min_two max_three min_three max_four min_four   -- for this text's walks alone
set_option linter.unusedVariables false
set_option linter.unusedSimpArgs false

/-! ### spec_spUnions: function 97 -/
mutual
def spec_spUnions.l0 : Nat → List Int → List Int → Int → Int → Option (List Int)
 | 0, _, _, _, _ => none
 | k + 1, x3, x9, x10, x11 => if x11 < x10 then (if 0 ≤ x11 then (if x11 < (x9.length : Int) then ((spec_l1Own.f x3).bind fun t779 => (spec_spUnions.l1 k x3 (rd x9 x11) x9 x10 x11 t779 (t779.length : Int) 0)) else (none)) else (none)) else (some x3)
def spec_spUnions.l1 : Nat → List Int → Int → List Int → Int → Int → List Int → Int → Int → Option (List Int)
 | 0, _, _, _, _, _, _, _, _ => none
 | k + 1, x3, x5, x9, x10, x11, x16, x17, x18 => if x18 < x17 then (if 0 ≤ x18 then (if x18 < (x16.length : Int) then ((spec_spPut.f k x3 (Go.bits .or .i64 x5 (rd x16 x18))).bind fun t783 => (spec_spUnions.l1 k t783 x5 x9 x10 x11 x16 x17 (wrap64 (x18 + 1)))) else (none)) else (none)) else (spec_spUnions.l0 k x3 x9 x10 (wrap64 (x11 + 1)))
end
def spec_spUnions.f (k : Nat) (l0 : List Int) : Option (List Int) := spec_spUnions.l0 k (([0] : List Int)) l0 (l0.length : Int) 0
theorem spec_spUnions.mono_l : ∀ k, (∀ y0 y1 y2 y3, LeO (spec_spUnions.l0 k y0 y1 y2 y3) (spec_spUnions.l0 (k + 1) y0 y1 y2 y3)) ∧ (∀ y0 y1 y2 y3 y4 y5 y6 y7, LeO (spec_spUnions.l1 k y0 y1 y2 y3 y4 y5 y6 y7) (spec_spUnions.l1 (k + 1) y0 y1 y2 y3 y4 y5 y6 y7))
 | 0 => ⟨fun _ _ _ _ r h => by simp [spec_spUnions.l0] at h, fun _ _ _ _ _ _ _ _ r h => by simp [spec_spUnions.l1] at h⟩
 | k + 1 => by
  obtain ⟨ih0, ih1⟩ := spec_spUnions.mono_l k
  refine ⟨?_, ?_⟩
  ·intro y0 y1 y2 y3
   unfold spec_spUnions.l0
   repeat' first
   | (with_reducible exact ih1 _ _ _ _ _ _ _ _)
   | (with_reducible exact LeO.refl _)
   | (with_reducible refine LeO.ite ?_ ?_)
   | (with_reducible refine LeO.bind ?_ (fun _ => ?_))
  ·intro y0 y1 y2 y3 y4 y5 y6 y7
   unfold spec_spUnions.l1
   repeat' first
   | (with_reducible exact ih0 _ _ _ _)
   | (with_reducible exact ih1 _ _ _ _ _ _ _ _)
   | (with_reducible exact spec_spPut.mono _ _ _)
   | (with_reducible exact LeO.refl _)
   | (with_reducible refine LeO.ite ?_ ?_)
   | (with_reducible refine LeO.bind ?_ (fun _ => ?_))
theorem spec_spUnions.mono : ∀ a0 k, LeO (spec_spUnions.f k a0) (spec_spUnions.f (k + 1) a0) := by
 intro a0 k
 obtain ⟨ih0, ih1⟩ := spec_spUnions.mono_l k
 unfold spec_spUnions.f
 repeat' first
   | (with_reducible exact ih0 _ _ _ _)
set_option maxHeartbeats 8000000 in
set_option maxRecDepth 100000 in
theorem spec_spUnions.calls (k : Nat) (A0 : Option Addr) (c0 : Nat) (l0 : List Int) (r : List Int) (w : World) (hr0 : Kd.C (Kd.int .i64) w A0 l0.length l0) (hc0 : l0.length ≤ c0) (h : spec_spUnions.f k l0 = some r) :
  Calls Try.prog 97 #[.slice A0 l0.length c0] w fun e w' => ∃ v0_ : Value, e = .returned (v0_) ∧ Kd.R (Kd.int .i64) 3 w' w.heap.size (fun _ => True) v0_ r ∧ Below w.heap.size w w' := by
 have HR0 := Aside0.mk hr0
 have HC0 := Aside0.mk hc0
 clear hr0 hc0
 have HB := Aside0.mk (Below.refl w.heap.size w)
 have H : (spec_spUnions.l0 k (([0] : List Int)) l0 (l0.length : Int) 0) = some r := h
 clear h
 obtain ⟨y775, hy775⟩ : ∃ y_ : List Int, y_ = (([0] : List Int)) := ⟨_, rfl⟩
 replace H : (spec_spUnions.l0 k y775 l0 (l0.length : Int) 0) = some r := by (rw [hy775]; with_reducible exact H)
 have Ny775 := Aside0.mk hy775
 clear hy775
 have H' := Aside0.mk H
 clear H
 go_enter Try.func97, Try.ntmps97
 go_wp2_with (((with_reducible refine gate_dst (N := 8) rfl ?_); refine Kd.R_lit (Kd.int .i64) _ 3 ?hg (N := 8) ?hd (xs := ([0] : List Int)) (inner := [.int .i64 0]) (ok := fun _ => True) (okp := fun _ => True) ?hr ?hp (fun _ hk => hk) trivial (Below.refl _ _) (Nat.le_refl _) (by simp) ?_; (case hd => rfl); (case hg => rfl); (case hr => (go_simp; done)); (case hp => exact (Reps.one (show Kd.M (Kd.int .i64) _ _ _ 0 [.int .i64 0] from rfl) (Reps.none _ _))); intro v776 w2 ho3 hb hg_ hnew_; clear hg_ hnew_; (rw [← Ny775.out] at ho3); have n0_ := Aside0.mk (Kd.R_lower ho3 (below_size (by repeat ((with_reducible exact HB.out))))); have n1_ := Aside0.mk (below_step (by repeat ((with_reducible exact HB.out))) hb); clear HB; have HO777 := n0_; have HB := n1_; clear n0_ n1_; clear hb ho3))
 go_loopg [3, 11] k (fun kq v3 v11 w' => ∃ (x3_1 : List Int) (x11_1 : Int), v11 = .int .i64 x11_1 ∧ Aside0 (spec_spUnions.l0 kq x3_1 l0 (l0.length : Int) x11_1 = some r) ∧ Aside0 (kq ≤ k) ∧ Aside0 (Kd.R (Kd.int .i64) 3 w' w.heap.size (fun _ => True) v3 x3_1) ∧ Aside0 (Below w.heap.size w w'))
 case atStart => exact ⟨(y775), (0), (by rfl), H', ⟨Nat.le_refl _⟩, ⟨by (with_reducible repeat (apply Kd.R_drew)); exact HO777.out⟩, ⟨by repeat ((with_reducible exact HB.out))⟩⟩
 case round =>
  clear H'
  try clear p2
  obtain ⟨x3_1, x11_1, rfl, HA, HK1, HO_3, HB⟩ := hrel
  cases gk with
  | zero => exact absurd HA.out (by simp [spec_spUnions.l0])
  | succ k1 =>
   have H := HA.out
   clear HA
   simp only [spec_spUnions.l0] at H
   by_cases c4 : x11_1 < (l0.length : Int)
   ·rw [if_pos c4] at H
    have c4b0 : decide (x11_1 < (l0.length : Int)) = true := decide_eq_true c4
    clear c4
    by_cases c5 : 0 ≤ x11_1
    ·rw [if_pos c5] at H
     have c5b0 : decide (0 ≤ x11_1) = true := decide_eq_true c5
     clear c5
     by_cases c6 : x11_1 < (l0.length : Int)
     ·rw [if_pos c6] at H
      have c6b0 : decide (x11_1 < (l0.length : Int)) = true := decide_eq_true c6
      clear c6
      replace H := Option.bind_eq_some_iff.mp H
      obtain ⟨t779, A70, H⟩ := H
      replace H : (spec_spUnions.l1 k1 x3_1 (rd l0 x11_1) l0 (l0.length : Int) x11_1 t779 (t779.length : Int) 0) = some r := H
      have A7 := Aside0.mk A70
      clear A70
      have H' := Aside0.mk H
      clear H
      have p778 : 0 ≤ (x11_1 : Int) := of_decide_eq_true (by (with_reducible assumption))
      have q778 : x11_1 < (l0.length : Int) := of_decide_eq_true (by (with_reducible assumption))
      obtain ⟨ad778, e778, hx778_0⟩ := Kd.at_int HR0.out x11_1 p778 q778
      cases e778
      replace hx778_0 := (HB.out.cell (World.block_lt_of_cell? w _ hx778_0)).trans hx778_0
      replace p778 := eq_true p778
      replace q778 := eq_true q778
      obtain ⟨Ao8, co8, eo8⟩ := Kd.R_slice HO_3.out
      subst eo8
      go_wp2_with (((with_reducible refine gate_callee (f := 103) rfl ?_); refine goesL_ (some 16) rfl rfl Try.func103 (by kernel_rfl) rfl #[.slice Ao8 x3_1.length co8] rfl (by (try simp only [List.map_toArray, List.map_cons, List.map_nil]); rfl) ?_; (with_reducible refine (spec_l1Own.calls _ _ x3_1 t779 _ ?side1 ?side2 A7.out).mono ?_); (case side1 => repeat (exact (Kd.R_reads' HO_3.out).2.2)); (case side2 => exact (Kd.R_reads' HO_3.out).2.1); rintro e w9 ⟨v780, rfl, ho0, hb⟩; refine ⟨_, rfl, ?_⟩; have n0_ := Aside0.mk (Kd.R_elder' (by (with_reducible repeat (apply Kd.R_drew)); exact HO_3.out) (Kd.R_base ho0) hb); have n1_ := Aside0.mk (Kd.R_lower (Kd.R_new' ho0 (Kd.R_lt (by (with_reducible repeat (apply Kd.R_drew)); exact HO_3.out))) (below_size (by repeat ((with_reducible exact HB.out))))); have n2_ := Aside0.mk (below_step (by repeat ((with_reducible exact HB.out))) hb); clear HO_3; clear HB; have HO_3 := n0_; have HO781 := n1_; have HB := n2_; clear n0_ n1_ n2_; (try clear hb); (try clear ho0); obtain ⟨Ao10, co10, eo10⟩ := Kd.R_slice HO781.out; subst eo10))
      go_loopg [3, 18] k1 (fun kq v3 v18 w' => ∃ (x3_2 : List Int) (x18_2 : Int), v18 = .int .i64 x18_2 ∧ Aside0 (spec_spUnions.l1 kq x3_2 (rd l0 x11_1) l0 (l0.length : Int) x11_1 t779 (t779.length : Int) x18_2 = some r) ∧ Aside0 (kq ≤ k1) ∧ Aside0 (Kd.R (Kd.int .i64) 3 w' w.heap.size (fun k_ => some k_ ≠ ((.slice Ao10 t779.length co10) : Value).ownBlock) v3 x3_2) ∧ Aside0 (Kd.R (Kd.int .i64) 3 w' w.heap.size (fun k_ => some k_ ≠ (v3 : Value).ownBlock) (.slice Ao10 t779.length co10) t779) ∧ Aside0 (Below w.heap.size w w'))
      case atStart => exact ⟨(x3_1), (0), (by rfl), H', ⟨Nat.le_refl _⟩, ⟨by (with_reducible repeat (apply Kd.R_drew)); exact Kd.R_mono HO_3.out (fun _ hk => hk.2)⟩, ⟨by (with_reducible repeat (apply Kd.R_drew)); exact Kd.R_mono HO781.out (fun _ hk => hk.2)⟩, ⟨by repeat ((with_reducible exact HB.out))⟩⟩
      case round =>
       clear H'
       try clear c1
       try clear p2
       try clear c4
       try clear c4b0
       try clear c5
       try clear c5b0
       try clear c6
       try clear c6b0
       try clear p7
       try clear q7
       try clear hx7
       try clear c9
       try clear c10
       try clear hx778_0
       try clear p2
       try clear p778
       try clear q778
       obtain ⟨x3_2, x18_2, rfl, HA, HK2, HO_3, HO_16, HB⟩ := hrel
       cases gk with
       | zero => exact absurd HA.out (by simp [spec_spUnions.l1])
       | succ k2 =>
        have H := HA.out
        clear HA
        simp only [spec_spUnions.l1] at H
        by_cases c11 : x18_2 < (t779.length : Int)
        ·rw [if_pos c11] at H
         have c11b0 : decide (x18_2 < (t779.length : Int)) = true := decide_eq_true c11
         clear c11
         by_cases c12 : 0 ≤ x18_2
         ·rw [if_pos c12] at H
          have c12b0 : decide (0 ≤ x18_2) = true := decide_eq_true c12
          clear c12
          by_cases c13 : x18_2 < (t779.length : Int)
          ·rw [if_pos c13] at H
           have c13b0 : decide (x18_2 < (t779.length : Int)) = true := decide_eq_true c13
           clear c13
           replace H := Option.bind_eq_some_iff.mp H
           obtain ⟨t783, A140, H⟩ := H
           replace H : (spec_spUnions.l1 k2 t783 (rd l0 x11_1) l0 (l0.length : Int) x11_1 t779 (t779.length : Int) (wrap64 (x18_2 + 1))) = some r := H
           have A14 := Aside0.mk A140
           clear A140
           have H' := Aside0.mk H
           clear H
           have p782 : 0 ≤ (x18_2 : Int) := of_decide_eq_true (by (with_reducible assumption))
           have q782 : x18_2 < (t779.length : Int) := of_decide_eq_true (by (with_reducible assumption))
           obtain ⟨ad782, e782, hx782_0⟩ := Kd.at_int (Kd.R_reads' HO_16.out).2.2 x18_2 p782 q782
           cases e782
           replace p782 := eq_true p782
           replace q782 := eq_true q782
           obtain ⟨Ao15, co15, eo15⟩ := Kd.R_slice HO_3.out
           subst eo15
           go_wp2_with (((with_reducible refine gate_callee (f := 95) rfl ?_); refine goesL_ (some 26) rfl rfl Try.func95 (by kernel_rfl) rfl #[.slice Ao15 x3_2.length co15, .int .i64 (Go.bits .or .i64 (rd l0 x11_1) (rd t779 x18_2))] rfl (by (try simp only [List.map_toArray, List.map_cons, List.map_nil]); rfl) ?_; (with_reducible refine (spec_spPut.calls k2 (fun k_ => some k_ = (.slice Ao15 x3_2.length co15 : Value).ownBlock) (.slice Ao15 x3_2.length co15) x3_2 (Go.bits .or .i64 (rd l0 x11_1) (rd t779 x18_2)) t783 w _ ?side1 ?side2 A14.out).mono ?_); (case side1 => repeat ((with_reducible exact HB.out))); (case side2 => exact Kd.R_tight rfl HO_3.out); rintro e w16 ⟨v784, rfl, ho0, hb, hkp⟩; refine ⟨_, rfl, ?_⟩; have n0_ := Aside0.mk (Kd.R_mono (ok' := fun k_ => some k_ ≠ (v784 : Value).ownBlock) (Kd.R_keptB (HO_16.out) hkp (fun k_ hk_ hs_ => (hk_) hs_)) (fun k_ hk_ => fun e_ => Or.elim (ho0.1 k_ e_.symm) (fun hs_ => hk_.2.1 hs_) (fun hn_ => Nat.not_le.2 hk_.2.2 hn_))); have n1_ := Aside0.mk (Kd.R_mono (ok' := fun k_ => some k_ ≠ (.slice (some ad782) t779.length co10 : Value).ownBlock) ho0 (fun k_ hk_ => Or.elim hk_ (fun hs_ => fun e_ => (((HO_16.out).1 k_ e_.symm)) hs_) (fun hn_ => (Kd.fresh' (Kd.R_lt (by (with_reducible repeat (apply Kd.R_drew)); exact HO_16.out)) k_ hn_)))); have n2_ := Aside0.mk (hb); clear HO_16; clear HB; clear HO_3; have HO_16 := n0_; have HO785 := n1_; have HB := n2_; clear n0_ n1_ n2_; (try clear hb); (try clear hkp); (try clear ho0)))
           go_roundg k2
           case measure => have := HK1.out; have := HK2.out; omega
           case rel => exact ⟨(t783), (wrap64 (x18_2 + 1)), (by rfl), H', ⟨by have := HK1.out; have := HK2.out; omega⟩, ⟨by (with_reducible repeat (apply Kd.R_drew)); exact HO785.out⟩, ⟨by (with_reducible repeat (apply Kd.R_drew)); exact HO_16.out⟩, ⟨by repeat ((with_reducible exact HB.out))⟩⟩
          ·rw [if_neg c13] at H
           exact absurd H (by simp)
         ·rw [if_neg c12] at H
          exact absurd H (by simp)
        ·rw [if_neg c11] at H
         have c11b0 : decide (x18_2 < (t779.length : Int)) = false := decide_eq_false c11
         clear c11
         have H' := Aside0.mk H
         clear H
         go_wp2
         go_roundg k2
         case measure => have := HK1.out; have := HK2.out; omega
         case rel => exact ⟨(x3_2), (wrap64 (x11_1 + 1)), (by rfl), H', ⟨by have := HK1.out; have := HK2.out; omega⟩, ⟨by (with_reducible repeat (apply Kd.R_drew)); exact Kd.R_mono HO_3.out (fun _ hk => trivial)⟩, ⟨by repeat ((with_reducible exact HB.out))⟩⟩
     ·rw [if_neg c6] at H
      exact absurd H (by simp)
    ·rw [if_neg c5] at H
     exact absurd H (by simp)
   ·rw [if_neg c4] at H
    have c4b0 : decide (x11_1 < (l0.length : Int)) = false := decide_eq_false c4
    clear c4
    obtain rfl := Option.some.inj H
    go_wp2
    go_ret
    exact ⟨_, by rfl, by (with_reducible repeat (apply Kd.R_drew)); exact HO_3.out, by repeat ((with_reducible exact HB.out))⟩

/-! ### spec_spIf: function 98 -/
def spec_spIf.f (k : Nat) (a0_0 : Int) (l0_1 : List Int) : Option (Int × List Int × Bool) := (spec_spGood.f k a0_0 l0_1).bind fun t788 => (if t788 = true then (some (a0_0, l0_1, true)) else (some (0, ([] : List Int), false)))
theorem spec_spIf.mono : ∀ a0 a1 k, LeO (spec_spIf.f k a0 a1) (spec_spIf.f (k + 1) a0 a1) := by
 intro a0 a1 k
 unfold spec_spIf.f
 repeat' first
   | (with_reducible exact spec_spGood.mono _ _ _)
   | (with_reducible exact LeO.refl _)
   | (with_reducible refine LeO.bind ?_ (fun _ => ?_))
set_option maxHeartbeats 8000000 in
set_option maxRecDepth 100000 in
theorem spec_spIf.calls (k : Nat) (a0_0 : Int) (P0_1_ : Nat → Prop) (u9000_ : Value) (l0_1 : List Int) (r1 : Int) (r2 : List Int) (r3 : Bool) (w0 w : World) (hB : Below w0.heap.size w0 w) (ho0_1 : Kd.R (Kd.int .i64) 3 w w0.heap.size P0_1_ u9000_ l0_1) (h : spec_spIf.f k a0_0 l0_1 = some (r1, r2, r3)) :
  Calls Try.prog 98 #[.agg #[.int .i64 a0_0, u9000_]] w fun e w' => ∃ v1_ : Value, e = .returned (.tuple #[.agg #[.int .i64 r1, v1_], .bool r3]) ∧ Kd.R (Kd.int .i64) 3 w' w0.heap.size (fun k_ => (P0_1_ k_ ∨ w.heap.size ≤ k_)) v1_ r2 ∧ Below w0.heap.size w0 w' ∧ Kept w w' (fun k_ => P0_1_ k_) := by
 have hu37 := Try.underlying37
 have HO0_1 := Aside0.mk (show Kd.R (Kd.int .i64) 3 w w0.heap.size (fun k_ => (P0_1_ k_ ∨ w.heap.size ≤ k_)) u9000_ l0_1 from Kd.R_mono ho0_1 (fun k_ hk => (.inl hk)))
 have HK := Aside0.mk (Kept.refl w (fun k_ => P0_1_ k_))
 have HW0 := Aside0.mk hB.size
 have HB := Aside0.mk hB
 clear hB
 have H : ((spec_spGood.f k a0_0 l0_1).bind fun t788 => (if t788 = true then (some (a0_0, l0_1, true)) else (some (0, ([] : List Int), false)))) = some (r1, r2, r3) := h
 clear h
 replace H := Option.bind_eq_some_iff.mp H
 obtain ⟨t788, A20, H⟩ := H
 replace H : (if t788 = true then (some (a0_0, l0_1, true)) else (some (0, ([] : List Int), false))) = some (r1, r2, r3) := H
 have A2 := Aside0.mk A20
 clear A20
 by_cases c3 : t788 = true
 ·subst c3
  have H1 : (some (a0_0, l0_1, true)) = some (r1, r2, r3) := by rw [if_pos rfl] at H; exact H
  clear H
  have H := H1
  clear H1
  simp only [Option.some.injEq, Prod.mk.injEq] at H
  obtain ⟨rfl, rfl, rfl⟩ := H
  obtain ⟨Ao4, co4, eo4⟩ := Kd.R_slice HO0_1.out
  subst eo4
  go_enter Try.func98, Try.ntmps98
  go_wp2_with (first | ((with_reducible refine gate_dst (N := 1) rfl ?_); refine box_event ?hg (N := 1) ?hd (cs := #[.int .i64 a0_0, .slice Ao4 l0_1.length co4]) (t := 37) ?hr ?_; (case hd => rfl); (case hg => rfl); (case hr => (go_simp; done)); intro gb786 hg w5 hbox hb; have n0_ := Aside0.mk (Kd.R_below (by (with_reducible repeat (apply Kd.R_drew)); exact HO0_1.out) hb); have n1_ := Aside0.mk (Kept.below (S := (fun k_ => P0_1_ k_)) (by repeat ((with_reducible exact HK.out))) hb); have n2_ := Aside0.mk (below_step (by repeat ((with_reducible exact HB.out))) hb); have n3_ := Aside0.mk (hbox); have n4_ := Aside0.mk ((by rw [hg]; exact (by exact HK.out.1) : w.heap.size ≤ gb786)); have n5_ := Aside0.mk ((by rw [hg]; exact (below_size (by repeat ((with_reducible exact HB.out)))) : w0.heap.size ≤ gb786)); clear HO0_1; clear HK; clear HB; have HO0_1 := n0_; have HK := n1_; have HB := n2_; have BK786 := n3_; have GW786 := n4_; have GE786 := n5_; clear n0_ n1_ n2_ n3_ n4_ n5_; clear hb hbox hg) | ((with_reducible refine gate_dst (N := 2) rfl ?_); refine box_event ?hg (N := 2) ?hd (cs := #[.int .i64 0, .slice none 0 0]) (t := 37) ?hr ?_; (case hd => rfl); (case hg => rfl); (case hr => (go_simp; done)); intro gb787 hg w6 hbox hb; have n0_ := Aside0.mk (Kd.R_below (by (with_reducible repeat (apply Kd.R_drew)); exact HO0_1.out) hb); have n1_ := Aside0.mk (blk_below (g := gb786) (o := .cells #[.int .i64 a0_0, .slice Ao4 l0_1.length co4] 37 (0, 0)) (by (with_reducible repeat (refine blk_drew ?_)); exact BK786.out) hb); have n2_ := Aside0.mk (Kept.below (S := (fun k_ => P0_1_ k_)) (by repeat ((with_reducible exact HK.out))) hb); have n3_ := Aside0.mk (below_step (by repeat ((with_reducible exact HB.out))) hb); have n4_ := Aside0.mk (hbox); have n5_ := Aside0.mk ((by rw [hg]; exact (by exact HK.out.1) : w.heap.size ≤ gb787)); have n6_ := Aside0.mk ((by rw [hg]; exact (below_size (by repeat ((with_reducible exact HB.out)))) : w0.heap.size ≤ gb787)); have n7_ := Aside0.mk ((by rw [hg]; exact Nat.ne_of_lt (blk_lt (g := gb786) (o := .cells #[.int .i64 a0_0, .slice Ao4 l0_1.length co4] 37 (0, 0)) (by (with_reducible repeat (refine blk_drew ?_)); exact BK786.out)) : gb786 ≠ gb787)); have n8_ := Aside0.mk ((by rw [hg]; exact Nat.ne_of_gt (blk_lt (g := gb786) (o := .cells #[.int .i64 a0_0, .slice Ao4 l0_1.length co4] 37 (0, 0)) (by (with_reducible repeat (refine blk_drew ?_)); exact BK786.out)) : gb787 ≠ gb786)); clear HO0_1; clear BK786; clear HK; clear HB; have HO0_1 := n0_; have BK786 := n1_; have HK := n2_; have HB := n3_; have BK787 := n4_; have GW787 := n5_; have GE787 := n6_; have NB786_787 := n7_; have NB787_786 := n8_; clear n0_ n1_ n2_ n3_ n4_ n5_ n6_ n7_ n8_; clear hb hbox hg; have hnb7 := NB786_787.out; have hnc7 := NB787_786.out; have hcz8_0 : w6.cell? ⟨gb786, 0, none⟩ = some (.int .i64 a0_0) := (blk_cell BK786.out 0).trans rfl; have hcz8_1 : w6.cell? ⟨gb786, 1, none⟩ = some (.slice Ao4 l0_1.length co4) := (blk_cell BK786.out 1).trans rfl; have hfz8_0 := blk_frozen BK786.out 0; have hfz8_1 := blk_frozen BK786.out 1) | ((with_reducible refine gate_callee (f := 60) rfl ?_); refine goesL_ (some 5) rfl rfl Try.func60 (by kernel_rfl) rfl #[.agg #[.int .i64 a0_0, .slice Ao4 l0_1.length co4]] rfl (by (try simp only [List.map_toArray, List.map_cons, List.map_nil]); rfl) ?_; (with_reducible refine (spec_spGood.calls k a0_0 _ _ l0_1 true _ ?side1 ?side2 A2.out).mono ?_); (case side1 => repeat (exact (Kd.R_reads' HO0_1.out).2.2)); (case side2 => exact (Kd.R_reads' HO0_1.out).2.1); rintro e w9 ⟨rfl, hb⟩; refine ⟨_, rfl, ?_⟩; have n0_ := Aside0.mk (Kd.R_below (by (with_reducible repeat (apply Kd.R_drew)); exact HO0_1.out) hb); have n1_ := Aside0.mk (blk_below (g := gb786) (o := .cells #[.int .i64 a0_0, .slice Ao4 l0_1.length co4] 37 (0, 0)) (by (with_reducible repeat (refine blk_drew ?_)); exact BK786.out) hb); have n2_ := Aside0.mk (blk_below (g := gb787) (o := .cells #[.int .i64 0, .slice none 0 0] 37 (0, 0)) (by (with_reducible repeat (refine blk_drew ?_)); exact BK787.out) hb); have n3_ := Aside0.mk (Kept.below (S := (fun k_ => P0_1_ k_)) (by repeat ((with_reducible exact HK.out))) hb); have n4_ := Aside0.mk (below_step (by repeat ((with_reducible exact HB.out))) hb); clear HO0_1; clear BK786; clear BK787; clear HK; clear HB; have HO0_1 := n0_; have BK786 := n1_; have BK787 := n2_; have HK := n3_; have HB := n4_; clear n0_ n1_ n2_ n3_ n4_; (try clear hb); have hcz10_0 : w9.cell? ⟨gb786, 0, none⟩ = some (.int .i64 a0_0) := (blk_cell BK786.out 0).trans rfl; have hcz10_1 : w9.cell? ⟨gb786, 1, none⟩ = some (.slice Ao4 l0_1.length co4) := (blk_cell BK786.out 1).trans rfl; have hfz10_0 := blk_frozen BK786.out 0; have hfz10_1 := blk_frozen BK786.out 1; have hcz11_0 : w9.cell? ⟨gb787, 0, none⟩ = some (.int .i64 0) := (blk_cell BK787.out 0).trans rfl; have hcz11_1 : w9.cell? ⟨gb787, 1, none⟩ = some (.slice none 0 0) := (blk_cell BK787.out 1).trans rfl; have hfz11_0 := blk_frozen BK787.out 0; have hfz11_1 := blk_frozen BK787.out 1))
  refine bodyPost_ret (results_ct rfl _ _ gb787 37 #[.int .i64 a0_0, .slice Ao4 l0_1.length co4] (0, 0) _ rfl (by (with_reducible repeat (refine blk_drew ?_)); refine blk_put (cs := #[.int .i64 a0_0, .slice none 0 0]) ?_ 1 _ rfl; (with_reducible repeat (refine blk_drew ?_)); refine blk_put (cs := #[.int .i64 0, .slice none 0 0]) ?_ 0 _ rfl; (with_reducible repeat (refine blk_drew ?_)); exact BK787.out) Try.underlying37 rfl (by kernel_rfl)) rfl ?_
  exact ⟨_, by rfl, by (with_reducible repeat (apply Kd.R_drew)); exact Kd.R_mono (Kd.R_far (p := ⟨gb787, 1, none⟩) (Kd.R_far (p := ⟨gb787, 0, none⟩) (Kd.R_types HO0_1.out BK787.out (by decide)) (fun _ hk => hk.2) (.int .i64 a0_0)) (fun _ hk => hk.2) (.slice Ao4 l0_1.length co4)) (fun _ hk => hk.1), by repeat ((with_reducible first | exact HB.out | refine below_set ?_ GE787.out)), by repeat ((with_reducible first | exact HK.out | refine Kept.setCell ?_ (.inr GW787.out) _))⟩
 ·replace c3 := Bool.eq_false_iff.mpr c3
  subst c3
  have H1 : (some (0, ([] : List Int), false)) = some (r1, r2, r3) := by rw [if_neg (show ¬ (false = true) by decide)] at H; exact H
  clear H
  have H := H1
  clear H1
  simp only [Option.some.injEq, Prod.mk.injEq] at H
  obtain ⟨rfl, rfl, rfl⟩ := H
  obtain ⟨Ao12, co12, eo12⟩ := Kd.R_slice HO0_1.out
  subst eo12
  go_enter Try.func98, Try.ntmps98
  go_wp2_with (first | ((with_reducible refine gate_dst (N := 1) rfl ?_); refine box_event ?hg (N := 1) ?hd (cs := #[.int .i64 a0_0, .slice Ao12 l0_1.length co12]) (t := 37) ?hr ?_; (case hd => rfl); (case hg => rfl); (case hr => (go_simp; done)); intro gb786 hg w13 hbox hb; have n0_ := Aside0.mk (Kd.R_below (by (with_reducible repeat (apply Kd.R_drew)); exact HO0_1.out) hb); have n1_ := Aside0.mk (Kept.below (S := (fun k_ => P0_1_ k_)) (by repeat ((with_reducible exact HK.out))) hb); have n2_ := Aside0.mk (below_step (by repeat ((with_reducible exact HB.out))) hb); have n3_ := Aside0.mk (hbox); have n4_ := Aside0.mk ((by rw [hg]; exact (by exact HK.out.1) : w.heap.size ≤ gb786)); have n5_ := Aside0.mk ((by rw [hg]; exact (below_size (by repeat ((with_reducible exact HB.out)))) : w0.heap.size ≤ gb786)); clear HO0_1; clear HK; clear HB; have HO0_1 := n0_; have HK := n1_; have HB := n2_; have BK786 := n3_; have GW786 := n4_; have GE786 := n5_; clear n0_ n1_ n2_ n3_ n4_ n5_; clear hb hbox hg) | ((with_reducible refine gate_dst (N := 2) rfl ?_); refine box_event ?hg (N := 2) ?hd (cs := #[.int .i64 0, .slice none 0 0]) (t := 37) ?hr ?_; (case hd => rfl); (case hg => rfl); (case hr => (go_simp; done)); intro gb787 hg w14 hbox hb; have n0_ := Aside0.mk (Kd.R_below (by (with_reducible repeat (apply Kd.R_drew)); exact HO0_1.out) hb); have n1_ := Aside0.mk (blk_below (g := gb786) (o := .cells #[.int .i64 a0_0, .slice Ao12 l0_1.length co12] 37 (0, 0)) (by (with_reducible repeat (refine blk_drew ?_)); exact BK786.out) hb); have n2_ := Aside0.mk (Kept.below (S := (fun k_ => P0_1_ k_)) (by repeat ((with_reducible exact HK.out))) hb); have n3_ := Aside0.mk (below_step (by repeat ((with_reducible exact HB.out))) hb); have n4_ := Aside0.mk (hbox); have n5_ := Aside0.mk ((by rw [hg]; exact (by exact HK.out.1) : w.heap.size ≤ gb787)); have n6_ := Aside0.mk ((by rw [hg]; exact (below_size (by repeat ((with_reducible exact HB.out)))) : w0.heap.size ≤ gb787)); have n7_ := Aside0.mk ((by rw [hg]; exact Nat.ne_of_lt (blk_lt (g := gb786) (o := .cells #[.int .i64 a0_0, .slice Ao12 l0_1.length co12] 37 (0, 0)) (by (with_reducible repeat (refine blk_drew ?_)); exact BK786.out)) : gb786 ≠ gb787)); have n8_ := Aside0.mk ((by rw [hg]; exact Nat.ne_of_gt (blk_lt (g := gb786) (o := .cells #[.int .i64 a0_0, .slice Ao12 l0_1.length co12] 37 (0, 0)) (by (with_reducible repeat (refine blk_drew ?_)); exact BK786.out)) : gb787 ≠ gb786)); clear HO0_1; clear BK786; clear HK; clear HB; have HO0_1 := n0_; have BK786 := n1_; have HK := n2_; have HB := n3_; have BK787 := n4_; have GW787 := n5_; have GE787 := n6_; have NB786_787 := n7_; have NB787_786 := n8_; clear n0_ n1_ n2_ n3_ n4_ n5_ n6_ n7_ n8_; clear hb hbox hg; have hnb15 := NB786_787.out; have hnc15 := NB787_786.out; have hcz16_0 : w14.cell? ⟨gb786, 0, none⟩ = some (.int .i64 a0_0) := (blk_cell BK786.out 0).trans rfl; have hcz16_1 : w14.cell? ⟨gb786, 1, none⟩ = some (.slice Ao12 l0_1.length co12) := (blk_cell BK786.out 1).trans rfl; have hfz16_0 := blk_frozen BK786.out 0; have hfz16_1 := blk_frozen BK786.out 1) | ((with_reducible refine gate_callee (f := 60) rfl ?_); refine goesL_ (some 5) rfl rfl Try.func60 (by kernel_rfl) rfl #[.agg #[.int .i64 a0_0, .slice Ao12 l0_1.length co12]] rfl (by (try simp only [List.map_toArray, List.map_cons, List.map_nil]); rfl) ?_; (with_reducible refine (spec_spGood.calls k a0_0 _ _ l0_1 false _ ?side1 ?side2 A2.out).mono ?_); (case side1 => repeat (exact (Kd.R_reads' HO0_1.out).2.2)); (case side2 => exact (Kd.R_reads' HO0_1.out).2.1); rintro e w17 ⟨rfl, hb⟩; refine ⟨_, rfl, ?_⟩; have n0_ := Aside0.mk (Kd.R_below (by (with_reducible repeat (apply Kd.R_drew)); exact HO0_1.out) hb); have n1_ := Aside0.mk (blk_below (g := gb786) (o := .cells #[.int .i64 a0_0, .slice Ao12 l0_1.length co12] 37 (0, 0)) (by (with_reducible repeat (refine blk_drew ?_)); exact BK786.out) hb); have n2_ := Aside0.mk (blk_below (g := gb787) (o := .cells #[.int .i64 0, .slice none 0 0] 37 (0, 0)) (by (with_reducible repeat (refine blk_drew ?_)); exact BK787.out) hb); have n3_ := Aside0.mk (Kept.below (S := (fun k_ => P0_1_ k_)) (by repeat ((with_reducible exact HK.out))) hb); have n4_ := Aside0.mk (below_step (by repeat ((with_reducible exact HB.out))) hb); clear HO0_1; clear BK786; clear BK787; clear HK; clear HB; have HO0_1 := n0_; have BK786 := n1_; have BK787 := n2_; have HK := n3_; have HB := n4_; clear n0_ n1_ n2_ n3_ n4_; (try clear hb); have hcz18_0 : w17.cell? ⟨gb787, 0, none⟩ = some (.int .i64 0) := (blk_cell BK787.out 0).trans rfl; have hcz18_1 : w17.cell? ⟨gb787, 1, none⟩ = some (.slice none 0 0) := (blk_cell BK787.out 1).trans rfl; have hfz18_0 := blk_frozen BK787.out 0; have hfz18_1 := blk_frozen BK787.out 1))
  refine bodyPost_ret (results_ct rfl _ _ gb787 37 #[.int .i64 0, .slice none 0 0] (0, 0) _ rfl (by (with_reducible repeat (refine blk_drew ?_)); refine blk_put (cs := #[.int .i64 0, .slice none 0 0]) ?_ 1 _ rfl; (with_reducible repeat (refine blk_drew ?_)); refine blk_put (cs := #[.int .i64 0, .slice none 0 0]) ?_ 0 _ rfl; (with_reducible repeat (refine blk_drew ?_)); exact BK787.out) Try.underlying37 rfl (by kernel_rfl)) rfl ?_
  exact ⟨_, by rfl, by exact Kd.R_nil _ _ _ _ _, by repeat ((with_reducible first | exact HB.out | refine below_set ?_ GE787.out)), by repeat ((with_reducible first | exact HK.out | refine Kept.setCell ?_ (.inr GW787.out) _))⟩

/-! ### impl_family_closed: function 101 -/
mutual
def impl_family_closed.l0 : Nat → List Bool → Int → Option (List Bool)
 | 0, _, _ => none
 | k + 1, x0, x8 => if x8 < 128 then (impl_family_closed.l1 k x0 x8 x8 x8 0) else (some x0)
def impl_family_closed.l1 : Nat → List Bool → Int → Int → Int → Int → Option (List Bool)
 | 0, _, _, _, _, _ => none
 | k + 1, x0, x3, x8, x11, x12 => if x12 < x11 then (if 0 ≤ x3 then (if x3 < (x0.length : Int) then (if x3 < 128 then (if rdOf false x0 x3 = true then (if 0 ≤ x12 then (if x12 < (x0.length : Int) then (if x12 < 128 then (if rdOf false x0 x12 = true then (if 0 ≤ (Go.bits .or .i64 x3 x12) then (if (Go.bits .or .i64 x3 x12) < (x0.length : Int) then (if (Go.bits .or .i64 x3 x12) < 128 then (impl_family_closed.l1 k (x0.set ((Go.bits .or .i64 x3 x12) : Int).toNat true) x3 x8 x11 (wrap64 (x12 + 1))) else (none)) else (none)) else (none)) else (impl_family_closed.l1 k x0 x3 x8 x11 (wrap64 (x12 + 1)))) else (none)) else (none)) else (none)) else (impl_family_closed.l1 k x0 x3 x8 x11 (wrap64 (x12 + 1)))) else (none)) else (none)) else (none)) else (impl_family_closed.l0 k x0 (wrap64 (x8 + 1)))
end
def impl_family_closed.f (k : Nat) (l0 : List Bool) : Option (List Bool) := if 0 < (l0.length : Int) then (impl_family_closed.l0 k (l0.set (0 : Int).toNat true) 0) else (none)
theorem impl_family_closed.mono_l : ∀ k, (∀ y0 y1, LeO (impl_family_closed.l0 k y0 y1) (impl_family_closed.l0 (k + 1) y0 y1)) ∧ (∀ y0 y1 y2 y3 y4, LeO (impl_family_closed.l1 k y0 y1 y2 y3 y4) (impl_family_closed.l1 (k + 1) y0 y1 y2 y3 y4))
 | 0 => ⟨fun _ _ r h => by simp [impl_family_closed.l0] at h, fun _ _ _ _ _ r h => by simp [impl_family_closed.l1] at h⟩
 | k + 1 => by
  obtain ⟨ih0, ih1⟩ := impl_family_closed.mono_l k
  refine ⟨?_, ?_⟩
  ·intro y0 y1
   unfold impl_family_closed.l0
   repeat' first
   | (with_reducible exact ih1 _ _ _ _ _)
   | (with_reducible exact LeO.refl _)
   | (with_reducible refine LeO.ite ?_ ?_)
  ·intro y0 y1 y2 y3 y4
   unfold impl_family_closed.l1
   repeat' first
   | (with_reducible exact ih0 _ _)
   | (with_reducible exact ih1 _ _ _ _ _)
   | (with_reducible exact LeO.refl _)
   | (with_reducible refine LeO.ite ?_ ?_)
theorem impl_family_closed.mono : ∀ a0 k, LeO (impl_family_closed.f k a0) (impl_family_closed.f (k + 1) a0) := by
 intro a0 k
 obtain ⟨ih0, ih1⟩ := impl_family_closed.mono_l k
 unfold impl_family_closed.f
 repeat' first
   | (with_reducible exact ih0 _ _)
   | (with_reducible exact LeO.refl _)
   | (with_reducible refine LeO.ite ?_ ?_)
set_option maxHeartbeats 8000000 in
set_option maxRecDepth 100000 in
theorem impl_family_closed.calls (k : Nat) (P0_ : Nat → Prop) (u9000_ : Value) (l0 : List Bool) (r : List Bool) (w0 w : World) (hB : Below w0.heap.size w0 w) (ho0 : Kd.R Kd.bool 91 w w0.heap.size P0_ u9000_ l0) (h : impl_family_closed.f k l0 = some r) :
  Calls Try.prog 101 #[asP u9000_] w fun e w' => ∃ v0_ : Value, e = .returned (asP v0_) ∧ Kd.R Kd.bool 91 w' w0.heap.size (fun k_ => (P0_ k_ ∨ w.heap.size ≤ k_)) v0_ r ∧ Below w0.heap.size w0 w' ∧ Kept w w' (fun k_ => P0_ k_) := by
 have HO0 := Aside0.mk (show Kd.R Kd.bool 91 w w0.heap.size (fun k_ => (P0_ k_ ∨ w.heap.size ≤ k_)) u9000_ l0 from Kd.R_mono ho0 (fun k_ hk => (.inl hk)))
 have HK := Aside0.mk (Kept.refl w (fun k_ => P0_ k_))
 have HW0 := Aside0.mk hB.size
 have HB := Aside0.mk hB
 clear hB
 have H : (if 0 < (l0.length : Int) then (impl_family_closed.l0 k (l0.set (0 : Int).toNat true) 0) else (none)) = some r := h
 clear h
 by_cases c2 : 0 < (l0.length : Int)
 ·rw [if_pos c2] at H
  have c2b0 : decide (0 < (l0.length : Int)) = true := decide_eq_true c2
  have c2b1 : decide (0 < l0.length) = true := decide_eq_true (by omega)
  clear c2
  obtain ⟨y817, hy817⟩ : ∃ y_ : List Bool, y_ = (l0.set (0 : Int).toNat true) := ⟨_, rfl⟩
  replace H : (impl_family_closed.l0 k y817 0) = some r := by (rw [hy817]; with_reducible exact H)
  have Ny817 := Aside0.mk hy817
  clear hy817
  have H' := Aside0.mk H
  clear H
  have p3 : 0 ≤ (0 : Int) := (by omega)
  have q3 : (0 : Int) < ((l0.length : Int) : Int) := of_decide_eq_true (by (with_reducible assumption))
  have qi3 : (0 < l0.length) = True := eq_true (by omega)
  obtain ⟨go3, co3, eo3, gb3, gl3, cl3, HG3⟩ := Kd.R_form HO0.out (by omega)
  (cases eo3)
  have GB3 := Aside0.mk gb3
  have GG3 := Aside0.mk HG3
  clear gb3 gl3 HG3
  (try simp only [asP_slice])
  have HMgo3 := Aside0.mk (show (P0_ go3 ∨ w.heap.size ≤ go3) from (HO0.out.1 _ rfl))
  obtain ⟨hx3_0, hf3_0⟩ := Kd.R_celln false HO0.out (0 : Int) p3 q3
  (try rw [show ((0 : Int)).toNat = 0 from rfl] at hx3_0)
  skip
  (try rw [show ((0 : Int)).toNat = 0 from rfl] at hf3_0)
  skip
  replace p3 := eq_true p3
  replace q3 := eq_true q3
  have HP4 := Kd.R_putg HO0.out (0 : Int) true
  go_enter Try.func101, Try.ntmps101
  go_wp2_with (((with_reducible refine gate_store (t := 4) (p := 7) rfl ?_); refine store_event (t := 4) (p := 7) (v := ?vo_w5) (w1 := (w.setCell ⟨go3, (0 : Int).toNat, none⟩ (.bool true))) ?hg ?ho ?hn ?hr ?_; (case ho => rfl); (case hg => rfl); (case hn => rfl); (case hr => (go_simp; done)); intro w5 hw; have hg : w.grownBy w5 (some go3) := (by rw [hw]; exact HP4.2); have hp_ : Kd.R Kd.bool 91 w5 w0.heap.size (fun k_ => (P0_ k_ ∨ w.heap.size ≤ k_)) (.slice (some ⟨go3, 0, none⟩) l0.length co3) y817 := (by rw [hw, Ny817.out]; exact HP4.1); clear HP4; have n0_ := Aside0.mk (hp_); have n1_ := Aside0.mk ((by rw [hw]; exact below_set (HB.out) GB3.out : Below w0.heap.size w0 w5)); have n2_ := Aside0.mk (Kept.of_grown (S := (fun k_ => P0_ k_)) hg (by repeat ((with_reducible exact HK.out))) (fun k_ e_ => (HO0.out.1 k_ e_))); clear HO0; clear HB; clear HK; have HO0 := n0_; have HB := n1_; have HK := n2_; clear n0_ n1_ n2_; clear hg hw hp_))
  go_loopg [8] k (fun kq v8 w' => ∃ (x0_1 : List Bool) (x8_1 : Int), v8 = .int .i64 x8_1 ∧ Aside0 (impl_family_closed.l0 kq x0_1 x8_1 = some r) ∧ Aside0 (kq ≤ k) ∧ Aside0 (Kd.R Kd.bool 91 w' w0.heap.size (fun k_ => (P0_ k_ ∨ w.heap.size ≤ k_)) (.slice (some ⟨go3, 0, none⟩) l0.length co3) x0_1) ∧ Aside0 (Kept w w' (fun k_ => P0_ k_)) ∧ Aside0 (Below w0.heap.size w0 w'))
  case atStart => exact ⟨(y817), (0), (by rfl), H', ⟨Nat.le_refl _⟩, ⟨by (with_reducible repeat (apply Kd.R_drew)); exact HO0.out⟩, ⟨by repeat ((with_reducible exact HK.out))⟩, ⟨by repeat ((with_reducible exact HB.out))⟩⟩
  case round =>
   clear H'
   try clear c1
   try clear c2
   try clear c2b0
   try clear c2b1
   try clear p2
   try clear p3
   try clear q3
   try clear hx3
   try clear qi3
   try clear hf3
   try clear hx3_0
   try clear p3
   try clear q3
   obtain ⟨x0_1, x8_1, rfl, HA, HK1, HO_0, HK, HB⟩ := hrel
   have hl0_1 := (Kd.R_reads' HO_0.out).1
   rw [hl0_1] at HO_0
   skip
   cases gk with
   | zero => exact absurd HA.out (by simp [impl_family_closed.l0])
   | succ k1 =>
    have H := HA.out
    clear HA
    simp only [impl_family_closed.l0] at H
    by_cases c6 : x8_1 < 128
    ·rw [if_pos c6] at H
     have c6b0 : decide (x8_1 < 128) = true := decide_eq_true c6
     clear c6
     have H' := Aside0.mk H
     clear H
     go_wp2
     go_loopg [12] k1 (fun kq v12 w' => ∃ (x0_2 : List Bool) (x12_2 : Int), v12 = .int .i64 x12_2 ∧ Aside0 (impl_family_closed.l1 kq x0_2 x8_1 x8_1 x8_1 x12_2 = some r) ∧ Aside0 (kq ≤ k1) ∧ Aside0 (Kd.R Kd.bool 91 w' w0.heap.size (fun k_ => (P0_ k_ ∨ w.heap.size ≤ k_)) (.slice (some ⟨go3, 0, none⟩) x0_1.length co3) x0_2) ∧ Aside0 (Kept w w' (fun k_ => P0_ k_)) ∧ Aside0 (Below w0.heap.size w0 w'))
     case atStart => exact ⟨(x0_1), (0), (by rfl), H', ⟨Nat.le_refl _⟩, ⟨by (with_reducible repeat (apply Kd.R_drew)); exact HO_0.out⟩, ⟨by repeat ((with_reducible exact HK.out))⟩, ⟨by repeat ((with_reducible exact HB.out))⟩⟩
     case round =>
      clear H'
      try clear c1
      try clear c2
      try clear c2b0
      try clear c2b1
      try clear p2
      try clear p3
      try clear q3
      try clear hx3
      try clear qi3
      try clear hf3
      try clear c6
      try clear c6b0
      try clear hx3_0
      try clear p2
      try clear p3
      try clear q3
      obtain ⟨x0_2, x12_2, rfl, HA, HK2, HO_0, HK, HB⟩ := hrel
      have hl0_2 := (Kd.R_reads' HO_0.out).1
      rw [hl0_2] at HO_0
      skip
      cases gk with
      | zero => exact absurd HA.out (by simp [impl_family_closed.l1])
      | succ k2 =>
       have H := HA.out
       clear HA
       simp only [impl_family_closed.l1] at H
       by_cases c7 : x12_2 < x8_1
       ·rw [if_pos c7] at H
        have c7b0 : decide (x12_2 < x8_1) = true := decide_eq_true c7
        clear c7
        by_cases c8 : 0 ≤ x8_1
        ·rw [if_pos c8] at H
         have c8b0 : decide (0 ≤ x8_1) = true := decide_eq_true c8
         clear c8
         by_cases c9 : x8_1 < (x0_2.length : Int)
         ·rw [if_pos c9] at H
          have c9b0 : decide (x8_1 < (x0_2.length : Int)) = true := decide_eq_true c9
          clear c9
          by_cases c10 : x8_1 < 128
          ·rw [if_pos c10] at H
           have c10b0 : decide (x8_1 < 128) = true := decide_eq_true c10
           clear c10
           obtain ⟨bq11, hbq11⟩ : ∃ b_ : Bool, b_ = (rdOf false x0_2 x8_1) := ⟨_, rfl⟩
           replace H : (if bq11 = true then (if 0 ≤ x12_2 then (if x12_2 < (x0_2.length : Int) then (if x12_2 < 128 then (if rdOf false x0_2 x12_2 = true then (if 0 ≤ (Go.bits .or .i64 x8_1 x12_2) then (if (Go.bits .or .i64 x8_1 x12_2) < (x0_2.length : Int) then (if (Go.bits .or .i64 x8_1 x12_2) < 128 then (impl_family_closed.l1 k2 (x0_2.set ((Go.bits .or .i64 x8_1 x12_2) : Int).toNat true) x8_1 x8_1 x8_1 (wrap64 (x12_2 + 1))) else (none)) else (none)) else (none)) else (impl_family_closed.l1 k2 x0_2 x8_1 x8_1 x8_1 (wrap64 (x12_2 + 1)))) else (none)) else (none)) else (none)) else (impl_family_closed.l1 k2 x0_2 x8_1 x8_1 x8_1 (wrap64 (x12_2 + 1)))) = some r := by rw [← hbq11] at H; exact H
           have Nbq11 := Aside0.mk hbq11
           clear hbq11
           by_cases c12 : bq11 = true
           ·subst c12
            have H1 : (if 0 ≤ x12_2 then (if x12_2 < (x0_2.length : Int) then (if x12_2 < 128 then (if rdOf false x0_2 x12_2 = true then (if 0 ≤ (Go.bits .or .i64 x8_1 x12_2) then (if (Go.bits .or .i64 x8_1 x12_2) < (x0_2.length : Int) then (if (Go.bits .or .i64 x8_1 x12_2) < 128 then (impl_family_closed.l1 k2 (x0_2.set ((Go.bits .or .i64 x8_1 x12_2) : Int).toNat true) x8_1 x8_1 x8_1 (wrap64 (x12_2 + 1))) else (none)) else (none)) else (none)) else (impl_family_closed.l1 k2 x0_2 x8_1 x8_1 x8_1 (wrap64 (x12_2 + 1)))) else (none)) else (none)) else (none)) = some r := by rw [if_pos rfl] at H; exact H
            clear H
            have H := H1
            clear H1
            by_cases c13 : 0 ≤ x12_2
            ·rw [if_pos c13] at H
             have c13b0 : decide (0 ≤ x12_2) = true := decide_eq_true c13
             clear c13
             by_cases c14 : x12_2 < (x0_2.length : Int)
             ·rw [if_pos c14] at H
              have c14b0 : decide (x12_2 < (x0_2.length : Int)) = true := decide_eq_true c14
              clear c14
              by_cases c15 : x12_2 < 128
              ·rw [if_pos c15] at H
               have c15b0 : decide (x12_2 < 128) = true := decide_eq_true c15
               clear c15
               obtain ⟨bq16, hbq16⟩ : ∃ b_ : Bool, b_ = (rdOf false x0_2 x12_2) := ⟨_, rfl⟩
               replace H : (if bq16 = true then (if 0 ≤ (Go.bits .or .i64 x8_1 x12_2) then (if (Go.bits .or .i64 x8_1 x12_2) < (x0_2.length : Int) then (if (Go.bits .or .i64 x8_1 x12_2) < 128 then (impl_family_closed.l1 k2 (x0_2.set ((Go.bits .or .i64 x8_1 x12_2) : Int).toNat true) x8_1 x8_1 x8_1 (wrap64 (x12_2 + 1))) else (none)) else (none)) else (none)) else (impl_family_closed.l1 k2 x0_2 x8_1 x8_1 x8_1 (wrap64 (x12_2 + 1)))) = some r := by rw [← hbq16] at H; exact H
               have Nbq16 := Aside0.mk hbq16
               clear hbq16
               by_cases c17 : bq16 = true
               ·subst c17
                have H1 : (if 0 ≤ (Go.bits .or .i64 x8_1 x12_2) then (if (Go.bits .or .i64 x8_1 x12_2) < (x0_2.length : Int) then (if (Go.bits .or .i64 x8_1 x12_2) < 128 then (impl_family_closed.l1 k2 (x0_2.set ((Go.bits .or .i64 x8_1 x12_2) : Int).toNat true) x8_1 x8_1 x8_1 (wrap64 (x12_2 + 1))) else (none)) else (none)) else (none)) = some r := by rw [if_pos rfl] at H; exact H
                clear H
                have H := H1
                clear H1
                by_cases c18 : 0 ≤ (Go.bits .or .i64 x8_1 x12_2)
                ·rw [if_pos c18] at H
                 have c18b0 : decide (0 ≤ (Go.bits .or .i64 x8_1 x12_2)) = true := decide_eq_true c18
                 clear c18
                 by_cases c19 : (Go.bits .or .i64 x8_1 x12_2) < (x0_2.length : Int)
                 ·rw [if_pos c19] at H
                  have c19b0 : decide ((Go.bits .or .i64 x8_1 x12_2) < (x0_2.length : Int)) = true := decide_eq_true c19
                  clear c19
                  by_cases c20 : (Go.bits .or .i64 x8_1 x12_2) < 128
                  ·rw [if_pos c20] at H
                   have c20b0 : decide ((Go.bits .or .i64 x8_1 x12_2) < 128) = true := decide_eq_true c20
                   clear c20
                   obtain ⟨y820, hy820⟩ : ∃ y_ : List Bool, y_ = (x0_2.set ((Go.bits .or .i64 x8_1 x12_2) : Int).toNat true) := ⟨_, rfl⟩
                   replace H : (impl_family_closed.l1 k2 y820 x8_1 x8_1 x8_1 (wrap64 (x12_2 + 1))) = some r := by (rw [hy820]; with_reducible exact H)
                   have Ny820 := Aside0.mk hy820
                   clear hy820
                   have H' := Aside0.mk H
                   clear H
                   have p818 : 0 ≤ (x8_1 : Int) := of_decide_eq_true (by (with_reducible assumption))
                   have q818 : x8_1 < (x0_2.length : Int) := of_decide_eq_true (by (with_reducible assumption))
                   have qa818 : (x8_1 < 128) = True := eq_true (of_decide_eq_true (by (with_reducible assumption)))
                   obtain ⟨ad818, e818, hx818_0⟩ := Kd.at_bool (Kd.R_reads' HO_0.out).2.2 x8_1 p818 q818
                   (try rw [← Nbq11.out] at hx818_0)
                   skip
                   obtain rfl : (⟨go3, 0, none⟩ : Addr) = ad818 := (by injection e818)
                   (simp only [add_plain] at hx818_0)
                   replace p818 := eq_true p818
                   replace q818 := eq_true q818
                   have p819 : 0 ≤ (x12_2 : Int) := of_decide_eq_true (by (with_reducible assumption))
                   have q819 : x12_2 < (x0_2.length : Int) := of_decide_eq_true (by (with_reducible assumption))
                   have qa819 : (x12_2 < 128) = True := eq_true (of_decide_eq_true (by (with_reducible assumption)))
                   obtain ⟨ad819, e819, hx819_0⟩ := Kd.at_bool (Kd.R_reads' HO_0.out).2.2 x12_2 p819 q819
                   skip
                   (try rw [← Nbq16.out] at hx819_0)
                   obtain rfl : (⟨go3, 0, none⟩ : Addr) = ad819 := (by injection e819)
                   (simp only [add_plain] at hx819_0)
                   replace p819 := eq_true p819
                   replace q819 := eq_true q819
                   have p21 : 0 ≤ ((Go.bits .or .i64 x8_1 x12_2) : Int) := of_decide_eq_true (by (with_reducible assumption))
                   have q21 : ((Go.bits .or .i64 x8_1 x12_2) : Int) < ((x0_2.length : Int) : Int) := of_decide_eq_true (by (with_reducible assumption))
                   have qa21 : ((Go.bits .or .i64 x8_1 x12_2) < 128) = True := eq_true (of_decide_eq_true (by (with_reducible assumption)))
                   obtain ⟨hx21_0, hf21_0⟩ := Kd.R_celln false HO_0.out ((Go.bits .or .i64 x8_1 x12_2) : Int) p21 q21
                   replace p21 := eq_true p21
                   replace q21 := eq_true q21
                   have HP22 := Kd.R_putg HO_0.out ((Go.bits .or .i64 x8_1 x12_2) : Int) true
                   go_wp2_with (((with_reducible refine gate_store (t := 4) (p := 32) rfl ?_); refine store_event (t := 4) (p := 32) (v := ?vo_w23) (w1 := (wr.setCell ⟨go3, ((Go.bits .or .i64 x8_1 x12_2) : Int).toNat, none⟩ (.bool true))) ?hg ?ho ?hn ?hr ?_; (case ho => rfl); (case hg => rfl); (case hn => rfl); (case hr => (go_simp; done)); intro w23 hw; have hg : wr.grownBy w23 (some go3) := (by rw [hw]; exact HP22.2); have hp_ : Kd.R Kd.bool 91 w23 w0.heap.size (fun k_ => (P0_ k_ ∨ w.heap.size ≤ k_)) (.slice (some ⟨go3, 0, none⟩) x0_2.length co3) y820 := (by rw [hw, Ny820.out]; exact HP22.1); clear HP22; have n0_ := Aside0.mk (hp_); have n1_ := Aside0.mk ((by rw [hw]; exact below_set (HB.out) GB3.out : Below w0.heap.size w0 w23)); have n2_ := Aside0.mk (Kept.of_grown (S := (fun k_ => P0_ k_)) hg (by repeat ((with_reducible exact HK.out))) (fun k_ e_ => (HO_0.out.1 k_ e_))); clear HO_0; clear HB; clear HK; have HO_0 := n0_; have HB := n1_; have HK := n2_; clear n0_ n1_ n2_; clear hg hw hp_))
                   skip
                   go_roundg k2
                   case measure => have := HK1.out; have := HK2.out; omega
                   case rel => exact ⟨(y820), (wrap64 (x12_2 + 1)), (by rfl), H', ⟨by have := HK1.out; have := HK2.out; omega⟩, ⟨by (try simp only [hl0_2]); (with_reducible repeat (apply Kd.R_drew)); exact HO_0.out⟩, ⟨by repeat ((with_reducible exact HK.out))⟩, ⟨by repeat ((with_reducible exact HB.out))⟩⟩
                  ·rw [if_neg c20] at H
                   exact absurd H (by simp)
                 ·rw [if_neg c19] at H
                  exact absurd H (by simp)
                ·rw [if_neg c18] at H
                 exact absurd H (by simp)
               ·replace c17 := Bool.eq_false_iff.mpr c17
                subst c17
                have H1 : (impl_family_closed.l1 k2 x0_2 x8_1 x8_1 x8_1 (wrap64 (x12_2 + 1))) = some r := by rw [if_neg (show ¬ (false = true) by decide)] at H; exact H
                clear H
                have H := H1
                clear H1
                have H' := Aside0.mk H
                clear H
                have p818 : 0 ≤ (x8_1 : Int) := of_decide_eq_true (by (with_reducible assumption))
                have q818 : x8_1 < (x0_2.length : Int) := of_decide_eq_true (by (with_reducible assumption))
                have qa818 : (x8_1 < 128) = True := eq_true (of_decide_eq_true (by (with_reducible assumption)))
                obtain ⟨ad818, e818, hx818_0⟩ := Kd.at_bool (Kd.R_reads' HO_0.out).2.2 x8_1 p818 q818
                (try rw [← Nbq11.out] at hx818_0)
                skip
                obtain rfl : (⟨go3, 0, none⟩ : Addr) = ad818 := (by injection e818)
                (simp only [add_plain] at hx818_0)
                replace p818 := eq_true p818
                replace q818 := eq_true q818
                have p819 : 0 ≤ (x12_2 : Int) := of_decide_eq_true (by (with_reducible assumption))
                have q819 : x12_2 < (x0_2.length : Int) := of_decide_eq_true (by (with_reducible assumption))
                have qa819 : (x12_2 < 128) = True := eq_true (of_decide_eq_true (by (with_reducible assumption)))
                obtain ⟨ad819, e819, hx819_0⟩ := Kd.at_bool (Kd.R_reads' HO_0.out).2.2 x12_2 p819 q819
                skip
                (try rw [← Nbq16.out] at hx819_0)
                obtain rfl : (⟨go3, 0, none⟩ : Addr) = ad819 := (by injection e819)
                (simp only [add_plain] at hx819_0)
                replace p819 := eq_true p819
                replace q819 := eq_true q819
                go_wp2
                skip
                go_roundg k2
                case measure => have := HK1.out; have := HK2.out; omega
                case rel => exact ⟨(x0_2), (wrap64 (x12_2 + 1)), (by rfl), H', ⟨by have := HK1.out; have := HK2.out; omega⟩, ⟨by (try simp only [hl0_2]); (with_reducible repeat (apply Kd.R_drew)); exact HO_0.out⟩, ⟨by repeat ((with_reducible exact HK.out))⟩, ⟨by repeat ((with_reducible exact HB.out))⟩⟩
              ·rw [if_neg c15] at H
               exact absurd H (by simp)
             ·rw [if_neg c14] at H
              exact absurd H (by simp)
            ·rw [if_neg c13] at H
             exact absurd H (by simp)
           ·replace c12 := Bool.eq_false_iff.mpr c12
            subst c12
            have H1 : (impl_family_closed.l1 k2 x0_2 x8_1 x8_1 x8_1 (wrap64 (x12_2 + 1))) = some r := by rw [if_neg (show ¬ (false = true) by decide)] at H; exact H
            clear H
            have H := H1
            clear H1
            have H' := Aside0.mk H
            clear H
            have p818 : 0 ≤ (x8_1 : Int) := of_decide_eq_true (by (with_reducible assumption))
            have q818 : x8_1 < (x0_2.length : Int) := of_decide_eq_true (by (with_reducible assumption))
            have qa818 : (x8_1 < 128) = True := eq_true (of_decide_eq_true (by (with_reducible assumption)))
            obtain ⟨ad818, e818, hx818_0⟩ := Kd.at_bool (Kd.R_reads' HO_0.out).2.2 x8_1 p818 q818
            (try rw [← Nbq11.out] at hx818_0)
            obtain rfl : (⟨go3, 0, none⟩ : Addr) = ad818 := (by injection e818)
            (simp only [add_plain] at hx818_0)
            replace p818 := eq_true p818
            replace q818 := eq_true q818
            go_wp2
            skip
            go_roundg k2
            case measure => have := HK1.out; have := HK2.out; omega
            case rel => exact ⟨(x0_2), (wrap64 (x12_2 + 1)), (by rfl), H', ⟨by have := HK1.out; have := HK2.out; omega⟩, ⟨by (try simp only [hl0_2]); (with_reducible repeat (apply Kd.R_drew)); exact HO_0.out⟩, ⟨by repeat ((with_reducible exact HK.out))⟩, ⟨by repeat ((with_reducible exact HB.out))⟩⟩
          ·rw [if_neg c10] at H
           exact absurd H (by simp)
         ·rw [if_neg c9] at H
          exact absurd H (by simp)
        ·rw [if_neg c8] at H
         exact absurd H (by simp)
       ·rw [if_neg c7] at H
        have c7b0 : decide (x12_2 < x8_1) = false := decide_eq_false c7
        clear c7
        have H' := Aside0.mk H
        clear H
        go_wp2
        skip
        go_roundg k2
        case measure => have := HK1.out; have := HK2.out; omega
        case rel => exact ⟨(x0_2), (wrap64 (x8_1 + 1)), (by rfl), H', ⟨by have := HK1.out; have := HK2.out; omega⟩, ⟨by (try simp only [hl0_1]); (try simp only [hl0_2]); (with_reducible repeat (apply Kd.R_drew)); exact HO_0.out⟩, ⟨by repeat ((with_reducible exact HK.out))⟩, ⟨by repeat ((with_reducible exact HB.out))⟩⟩
    ·rw [if_neg c6] at H
     have c6b0 : decide (x8_1 < 128) = false := decide_eq_false c6
     clear c6
     obtain rfl := Option.some.inj H
     go_wp2
     go_ret
     exact ⟨(.slice (some ⟨go3, 0, none⟩) x0_1.length co3), by rfl, by (with_reducible repeat (apply Kd.R_drew)); exact HO_0.out, by repeat ((with_reducible exact HB.out)), by repeat ((with_reducible exact HK.out))⟩
 ·rw [if_neg c2] at H
  exact absurd H (by simp)

/-! ### impl_family_space: function 102 -/
def impl_family_space.l0 : Nat → List Bool → Int → Int → List Int → Option (Int × List Int)
 | 0, _, _, _, _ => none
 | k + 1, x10, x11, x823000, x823001 => if x11 < 128 then (if 0 ≤ x11 then (if x11 < (x10.length : Int) then (if rdOf false x10 x11 = true then (if x823001.length < 17592186044416 then (impl_family_space.l0 k x10 (wrap64 (x11 + 1)) x823000 (x823001 ++ [x11])) else (none)) else (impl_family_space.l0 k x10 (wrap64 (x11 + 1)) x823000 x823001)) else (none)) else (none)) else (some (x823000, x823001))
def impl_family_space.f (k : Nat) (l0 : List Bool) (a1 : Int) : Option (Int × List Int) := impl_family_space.l0 k l0 0 a1 ([] : List Int)
theorem impl_family_space.mono_l : ∀ k, (∀ y0 y1 y2 y3, LeO (impl_family_space.l0 k y0 y1 y2 y3) (impl_family_space.l0 (k + 1) y0 y1 y2 y3))
 | 0 => fun _ _ _ _ r h => by simp [impl_family_space.l0] at h
 | k + 1 => by
  have ih0 := impl_family_space.mono_l k
  ·intro y0 y1 y2 y3
   unfold impl_family_space.l0
   repeat' first
   | (with_reducible exact ih0 _ _ _ _)
   | (with_reducible exact LeO.refl _)
   | (with_reducible refine LeO.ite ?_ ?_)
theorem impl_family_space.mono : ∀ a0 a1 k, LeO (impl_family_space.f k a0 a1) (impl_family_space.f (k + 1) a0 a1) := by
 intro a0 a1 k
 have ih0 := impl_family_space.mono_l k
 unfold impl_family_space.f
 repeat' first
   | (with_reducible exact ih0 _ _ _ _)
set_option maxHeartbeats 8000000 in
set_option maxRecDepth 100000 in
theorem impl_family_space.calls (k : Nat) (A0 : Option Addr) (c0 : Nat) (l0 : List Bool) (a1 : Int) (r1 : Int) (r2 : List Int) (w : World) (hr0 : Kd.C Kd.bool w A0 l0.length l0) (hc0 : l0.length ≤ c0) (h : impl_family_space.f k l0 a1 = some (r1, r2)) :
  Calls Try.prog 102 #[.pointer A0, .int .i64 a1] w fun e w' => ∃ v1_ : Value, e = .returned (.agg #[.int .i64 r1, v1_]) ∧ Kd.R (Kd.int .i64) 3 w' w.heap.size (fun _ => True) v1_ r2 ∧ Below w.heap.size w w' := by
 have hu37 := Try.underlying37
 have HR0 := Aside0.mk hr0
 have HC0 := Aside0.mk hc0
 clear hr0 hc0
 have HB := Aside0.mk (Below.refl w.heap.size w)
 have H : (impl_family_space.l0 k l0 0 a1 ([] : List Int)) = some (r1, r2) := h
 clear h
 have H' := Aside0.mk H
 clear H
 go_enter Try.func102, Try.ntmps102
 go_wp2_with (first | ((with_reducible refine gate_dst (N := 4) rfl ?_); refine box_event ?hg (N := 4) ?hd (cs := #[.int .i64 0, .slice none 0 0]) (t := 37) ?hr ?_; (case hd => rfl); (case hg => rfl); (case hr => (go_simp; done)); intro gb821 hg w3 hbox hb; have n0_ := Aside0.mk (below_step (by repeat ((with_reducible exact HB.out))) hb); have n1_ := Aside0.mk (hbox); have n2_ := Aside0.mk ((by rw [hg]; exact (below_size (by repeat ((with_reducible exact HB.out)))) : w.heap.size ≤ gb821)); have n3_ := Aside0.mk ((by rw [hg]; exact (below_size (by repeat ((with_reducible exact HB.out)))) : w.heap.size ≤ gb821)); clear HB; have HB := n0_; have BK821 := n1_; have GW821 := n2_; have GE821 := n3_; clear n0_ n1_ n2_ n3_; clear hb hbox hg) | ((with_reducible refine gate_dst (N := 5) rfl ?_); refine box_event ?hg (N := 5) ?hd (cs := #[.int .i64 0, .slice none 0 0]) (t := 37) ?hr ?_; (case hd => rfl); (case hg => rfl); (case hr => (go_simp; done)); intro gb822 hg w4 hbox hb; have n0_ := Aside0.mk (blk_below (g := gb821) (o := .cells #[.int .i64 0, .slice none 0 0] 37 (0, 0)) (by (with_reducible repeat (refine blk_drew ?_)); exact BK821.out) hb); have n1_ := Aside0.mk (below_step (by repeat ((with_reducible exact HB.out))) hb); have n2_ := Aside0.mk (hbox); have n3_ := Aside0.mk ((by rw [hg]; exact (below_size (by repeat ((with_reducible exact HB.out)))) : w.heap.size ≤ gb822)); have n4_ := Aside0.mk ((by rw [hg]; exact (below_size (by repeat ((with_reducible exact HB.out)))) : w.heap.size ≤ gb822)); have n5_ := Aside0.mk ((by rw [hg]; exact Nat.ne_of_lt (blk_lt (g := gb821) (o := .cells #[.int .i64 0, .slice none 0 0] 37 (0, 0)) (by (with_reducible repeat (refine blk_drew ?_)); exact BK821.out)) : gb821 ≠ gb822)); have n6_ := Aside0.mk ((by rw [hg]; exact Nat.ne_of_gt (blk_lt (g := gb821) (o := .cells #[.int .i64 0, .slice none 0 0] 37 (0, 0)) (by (with_reducible repeat (refine blk_drew ?_)); exact BK821.out)) : gb822 ≠ gb821)); clear BK821; clear HB; have BK821 := n0_; have HB := n1_; have BK822 := n2_; have GW822 := n3_; have GE822 := n4_; have NB821_822 := n5_; have NB822_821 := n6_; clear n0_ n1_ n2_ n3_ n4_ n5_ n6_; clear hb hbox hg; have hnb5 := NB822_821.out; have hnc5 := NB821_822.out; have hcz6_0 : w4.cell? ⟨gb822, 0, none⟩ = some (.int .i64 0) := (blk_cell BK822.out 0).trans rfl; have hcz6_1 : w4.cell? ⟨gb822, 1, none⟩ = some (.slice none 0 0) := (blk_cell BK822.out 1).trans rfl; have hfz6_0 := blk_frozen BK822.out 0; have hfz6_1 := blk_frozen BK822.out 1))
 repeat (go_quiet (first | ((with_reducible refine gate_dst (N := 4) rfl ?_); refine box_event ?hg (N := 4) ?hd (cs := #[.int .i64 0, .slice none 0 0]) (t := 37) ?hr ?_; (case hd => rfl); (case hg => rfl); (case hr => first | (go_simp; done) | (go_simp; rfl)); intro gb821 hg w3 hbox hb; have n0_ := Aside0.mk (below_step (by repeat (first | (with_reducible first | exact HB.out | apply below_alloc | apply pw_below_drewN | apply below_drew1) | exact HB.out)) hb); have n1_ := Aside0.mk (hbox); have n2_ := Aside0.mk ((by rw [hg]; exact (below_size (by repeat (first | (with_reducible first | exact HB.out | apply below_alloc | apply pw_below_drewN | apply below_drew1) | exact HB.out))) : w.heap.size ≤ gb821)); have n3_ := Aside0.mk ((by rw [hg]; exact (below_size (by repeat (first | (with_reducible first | exact HB.out | apply below_alloc | apply pw_below_drewN | apply below_drew1) | exact HB.out))) : w.heap.size ≤ gb821)); clear HB; have HB := n0_; have BK821 := n1_; have GW821 := n2_; have GE821 := n3_; clear n0_ n1_ n2_ n3_; clear hb hbox hg) | ((with_reducible refine gate_dst (N := 5) rfl ?_); refine box_event ?hg (N := 5) ?hd (cs := #[.int .i64 0, .slice none 0 0]) (t := 37) ?hr ?_; (case hd => rfl); (case hg => rfl); (case hr => first | (go_simp; done) | (go_simp; rfl)); intro gb822 hg w4 hbox hb; have n0_ := Aside0.mk (blk_below (g := gb821) (o := .cells #[.int .i64 0, .slice none 0 0] 37 (0, 0)) (by (with_reducible repeat (first | refine blk_drewN ?_ _ | refine blk_drew ?_ | refine blk_alloc ?_ _)); exact BK821.out) hb); have n1_ := Aside0.mk (below_step (by repeat (first | (with_reducible first | exact HB.out | apply below_alloc | apply pw_below_drewN | apply below_drew1 | refine below_set ?_ GE821.out) | exact HB.out)) hb); have n2_ := Aside0.mk (hbox); have n3_ := Aside0.mk ((by rw [hg]; exact (below_size (by repeat (first | (with_reducible first | exact HB.out | apply below_alloc | apply pw_below_drewN | apply below_drew1 | refine below_set ?_ GE821.out) | exact HB.out))) : w.heap.size ≤ gb822)); have n4_ := Aside0.mk ((by rw [hg]; exact (below_size (by repeat (first | (with_reducible first | exact HB.out | apply below_alloc | apply pw_below_drewN | apply below_drew1 | refine below_set ?_ GE821.out) | exact HB.out))) : w.heap.size ≤ gb822)); have n5_ := Aside0.mk ((by rw [hg]; exact Nat.ne_of_lt (blk_lt (g := gb821) (o := .cells #[.int .i64 0, .slice none 0 0] 37 (0, 0)) (by (with_reducible repeat (first | refine blk_drewN ?_ _ | refine blk_drew ?_ | refine blk_alloc ?_ _)); exact BK821.out)) : gb821 ≠ gb822)); have n6_ := Aside0.mk ((by rw [hg]; exact Nat.ne_of_gt (blk_lt (g := gb821) (o := .cells #[.int .i64 0, .slice none 0 0] 37 (0, 0)) (by (with_reducible repeat (first | refine blk_drewN ?_ _ | refine blk_drew ?_ | refine blk_alloc ?_ _)); exact BK821.out)) : gb822 ≠ gb821)); clear BK821; clear HB; have BK821 := n0_; have HB := n1_; have BK822 := n2_; have GW822 := n3_; have GE822 := n4_; have NB821_822 := n5_; have NB822_821 := n6_; clear n0_ n1_ n2_ n3_ n4_ n5_ n6_; clear hb hbox hg; have hnb5 := NB822_821.out; have hnc5 := NB821_822.out; have hcz6_0 : w4.cell? ⟨gb822, 0, none⟩ = some (.int .i64 0) := (blk_cell BK822.out 0).trans rfl; have hcz6_1 : w4.cell? ⟨gb822, 1, none⟩ = some (.slice none 0 0) := (blk_cell BK822.out 1).trans rfl; have hfz6_0 := blk_frozen BK822.out 0; have hfz6_1 := blk_frozen BK822.out 1)); try go_wp2_with (((with_reducible refine gate_dst (N := 4) rfl ?_); refine box_event ?hg (N := 4) ?hd (cs := #[.int .i64 0, .slice none 0 0]) (t := 37) ?hr ?_; (case hd => rfl); (case hg => rfl); (case hr => (go_simp; rfl)); intro gb821 hg w3 hbox hb; have n0_ := Aside0.mk (below_step (by repeat (exact HB.out)) hb); have n1_ := Aside0.mk (hbox); have n2_ := Aside0.mk ((by rw [hg]; exact (below_size (by repeat (exact HB.out))) : w.heap.size ≤ gb821)); have n3_ := Aside0.mk ((by rw [hg]; exact (below_size (by repeat (exact HB.out))) : w.heap.size ≤ gb821)); clear HB; have HB := n0_; have BK821 := n1_; have GW821 := n2_; have GE821 := n3_; clear n0_ n1_ n2_ n3_; clear hb hbox hg)))
 go_loopg [11] k (fun kq v11 w' => ∃ (x11_1 : Int) (x823001_1 : List Int) (u823001 : Value), v11 = .int .i64 x11_1 ∧ Aside0 (impl_family_space.l0 kq l0 x11_1 a1 x823001_1 = some (r1, r2)) ∧ Aside0 (kq ≤ k) ∧ Aside0 (Kd.R (Kd.int .i64) 3 w' w.heap.size (fun _ => True) u823001 x823001_1) ∧ Aside0 (w'.heap[gb821]? = some (.cells #[.int .i64 0, (.slice none 0 0)] 37 (0, 0))) ∧ Aside0 (w'.heap[gb822]? = some (.cells #[.int .i64 a1, u823001] 37 (0, 0))) ∧ Aside0 (Below w.heap.size w w'))
 case atStart => exact ⟨(0), (([] : List Int)), (.slice none 0 0), (by rfl), H', ⟨Nat.le_refl _⟩, ⟨by exact Kd.R_nil _ _ _ _ _⟩, ⟨by (with_reducible repeat (refine blk_drew ?_)); refine blk_far ?_ NB821_822.out _; (with_reducible repeat (refine blk_drew ?_)); refine blk_far ?_ NB821_822.out _; (with_reducible repeat (refine blk_drew ?_)); exact BK821.out⟩, ⟨by (with_reducible repeat (refine blk_drew ?_)); refine blk_put (cs := #[.int .i64 a1, .slice none 0 0]) ?_ 1 _ rfl; (with_reducible repeat (refine blk_drew ?_)); refine blk_put (cs := #[.int .i64 0, .slice none 0 0]) ?_ 0 _ rfl; (with_reducible repeat (refine blk_drew ?_)); exact BK822.out⟩, ⟨by repeat ((with_reducible first | exact HB.out | refine below_set ?_ GE822.out))⟩⟩
 case round =>
  clear H'
  try clear c1
  try clear p2
  try clear c5
  try clear hcz6_0
  try clear hcz6_1
  try clear hfz6_0
  try clear hfz6_1
  obtain ⟨x11_1, x823001_1, u823001, rfl, HA, HK1, HO_823001, BK821, BK822, HB⟩ := hrel
  cases gk with
  | zero => exact absurd HA.out (by simp [impl_family_space.l0])
  | succ k1 =>
   have H := HA.out
   clear HA
   simp only [impl_family_space.l0] at H
   by_cases c7 : x11_1 < 128
   ·rw [if_pos c7] at H
    have c7b0 : decide (x11_1 < 128) = true := decide_eq_true c7
    clear c7
    by_cases c8 : 0 ≤ x11_1
    ·rw [if_pos c8] at H
     have c8b0 : decide (0 ≤ x11_1) = true := decide_eq_true c8
     clear c8
     by_cases c9 : x11_1 < (l0.length : Int)
     ·rw [if_pos c9] at H
      have c9b0 : decide (x11_1 < (l0.length : Int)) = true := decide_eq_true c9
      clear c9
      obtain ⟨bq10, hbq10⟩ : ∃ b_ : Bool, b_ = (rdOf false l0 x11_1) := ⟨_, rfl⟩
      replace H : (if bq10 = true then (if x823001_1.length < 17592186044416 then (impl_family_space.l0 k1 l0 (wrap64 (x11_1 + 1)) a1 (x823001_1 ++ [x11_1])) else (none)) else (impl_family_space.l0 k1 l0 (wrap64 (x11_1 + 1)) a1 x823001_1)) = some (r1, r2) := by rw [← hbq10] at H; exact H
      have Nbq10 := Aside0.mk hbq10
      clear hbq10
      by_cases c11 : bq10 = true
      ·subst c11
       have H1 : (if x823001_1.length < 17592186044416 then (impl_family_space.l0 k1 l0 (wrap64 (x11_1 + 1)) a1 (x823001_1 ++ [x11_1])) else (none)) = some (r1, r2) := by rw [if_pos rfl] at H; exact H
       clear H
       have H := H1
       clear H1
       by_cases c12 : x823001_1.length < 17592186044416
       ·rw [if_pos c12] at H
        have LMc12 := Aside0.mk c12
        clear c12
        obtain ⟨y824, hy824⟩ : ∃ y_ : List Int, y_ = (x823001_1 ++ [x11_1]) := ⟨_, rfl⟩
        replace H : (impl_family_space.l0 k1 l0 (wrap64 (x11_1 + 1)) a1 y824) = some (r1, r2) := by (rw [hy824]; with_reducible exact H)
        have Ny824 := Aside0.mk hy824
        clear hy824
        have H' := Aside0.mk H
        clear H
        have p823 : 0 ≤ (x11_1 : Int) := of_decide_eq_true (by (with_reducible assumption))
        have q823 : x11_1 < (l0.length : Int) := of_decide_eq_true (by (with_reducible assumption))
        have qa823 : (x11_1 < 128) = True := eq_true (of_decide_eq_true (by (with_reducible assumption)))
        obtain ⟨ad823, e823, hx823_0⟩ := Kd.at_bool HR0.out x11_1 p823 q823
        (try rw [← Nbq10.out] at hx823_0)
        cases e823
        replace hx823_0 := (HB.out.cell (World.block_lt_of_cell? w _ hx823_0)).trans hx823_0
        replace p823 := eq_true p823
        replace q823 := eq_true q823
        have hnb13 := NB822_821.out
        have hnc13 := NB821_822.out
        have hcz14_0 : wr.cell? ⟨gb822, 0, none⟩ = some (.int .i64 a1) := (blk_cell BK822.out 0).trans rfl
        have hcz14_1 : wr.cell? ⟨gb822, 1, none⟩ = some (u823001) := (blk_cell BK822.out 1).trans rfl
        have hfz14_0 := blk_frozen BK822.out 0
        have hfz14_1 := blk_frozen BK822.out 1
        go_wp2_with (((with_reducible refine gate_builtin (b := .append) (xs := #[.tmp 19, .tmp 21]) rfl ?_); at_builtin; refine Kd.R_append (Kd.int .i64) (w0 := w) w.heap.size rfl (.tmp 19) (.tmp 21) 22 3 (.int .i64 0) 8 rfl Try.underlying22 info3 rfl (by decide) (by omega) u823001 x823001_1 x11_1 [.int .i64 x11_1] (fun _ => True) (fun _ => False) rfl rfl ?aP (fun _ hk => hk.elim) ?aF ?aO ?aB ?aS ?aL ?_; (case aP => exact rfl); (case aB => exact (by repeat (exact HB.out))); (case aF => exact (fun _ _ => trivial)); (case aO => exact (by (with_reducible repeat (apply Kd.R_drew)); exact HO_823001.out)); (case aS => exact (below_size (by repeat (exact HB.out)))); (case aL => have := LMc12.out; omega); intro v825 w15 ho hb hg hat; rw [← Ny824.out] at ho; have n0_ := Aside0.mk (blk_grown (g := gb821) (o := .cells #[.int .i64 0, .slice none 0 0] 37 (0, 0)) (by (with_reducible repeat (refine blk_drew ?_)); exact BK821.out) hg (Kd.R_ne HO_823001.out BK821.out (by decide))); have n1_ := Aside0.mk (blk_grown (g := gb822) (o := .cells #[.int .i64 a1, u823001] 37 (0, 0)) (by (with_reducible repeat (refine blk_drew ?_)); exact BK822.out) hg (Kd.R_ne HO_823001.out BK822.out (by decide))); have n2_ := Aside0.mk (hb); have n3_ := Aside0.mk (ho); clear BK821; clear BK822; clear HB; clear HO_823001; have BK821 := n0_; have BK822 := n1_; have HB := n2_; have HO826 := n3_; clear n0_ n1_ n2_ n3_; clear ho hb hg hat; obtain ⟨Ao16, co16, eo16⟩ := Kd.R_slice HO826.out; subst eo16; have hcz17_0 : w15.cell? ⟨gb822, 0, none⟩ = some (.int .i64 a1) := (blk_cell BK822.out 0).trans rfl; have hcz17_1 : w15.cell? ⟨gb822, 1, none⟩ = some (u823001) := (blk_cell BK822.out 1).trans rfl; have hfz17_0 := blk_frozen BK822.out 0; have hfz17_1 := blk_frozen BK822.out 1))
        repeat (go_quiet (first | ((with_reducible refine gate_builtin (b := .append) (xs := #[.tmp 19, .tmp 21]) rfl ?_); at_builtin; refine Kd.R_append (Kd.int .i64) (w0 := w) w.heap.size rfl (.tmp 19) (.tmp 21) 22 3 (.int .i64 0) 8 rfl Try.underlying22 info3 rfl (by decide) (by omega) u823001 x823001_1 x11_1 [.int .i64 x11_1] (fun _ => True) (fun _ => False) rfl rfl ?aP (fun _ hk => hk.elim) ?aF ?aO ?aB ?aS ?aL ?_; (case aP => exact rfl); (case aB => exact (by repeat (first | (with_reducible first | exact HB.out | apply below_alloc | apply pw_below_drewN | apply below_drew1 | refine below_set ?_ GE821.out | refine below_set ?_ GE822.out) | exact HB.out))); (case aF => exact (fun _ _ => trivial)); (case aO => exact (by (with_reducible repeat (first | apply Kd.R_alloc | apply Kd.R_drewN | apply Kd.R_drew)); exact HO_823001.out)); (case aS => exact (below_size (by repeat (first | (with_reducible first | exact HB.out | apply below_alloc | apply pw_below_drewN | apply below_drew1 | refine below_set ?_ GE821.out | refine below_set ?_ GE822.out) | exact HB.out)))); (case aL => have := LMc12.out; omega); intro v825 w15 ho hb hg hat; rw [← Ny824.out] at ho; have n0_ := Aside0.mk (blk_grown (g := gb821) (o := .cells #[.int .i64 0, .slice none 0 0] 37 (0, 0)) (by (with_reducible repeat (first | refine blk_drewN ?_ _ | refine blk_drew ?_ | refine blk_alloc ?_ _)); exact BK821.out) hg (Kd.R_ne HO_823001.out BK821.out (by decide))); have n1_ := Aside0.mk (blk_grown (g := gb822) (o := .cells #[.int .i64 a1, u823001] 37 (0, 0)) (by (with_reducible repeat (first | refine blk_drewN ?_ _ | refine blk_drew ?_ | refine blk_alloc ?_ _)); exact BK822.out) hg (Kd.R_ne HO_823001.out BK822.out (by decide))); have n2_ := Aside0.mk (hb); have n3_ := Aside0.mk (ho); clear BK821; clear BK822; clear HB; clear HO_823001; have BK821 := n0_; have BK822 := n1_; have HB := n2_; have HO826 := n3_; clear n0_ n1_ n2_ n3_; clear ho hb hg hat; obtain ⟨Ao16, co16, eo16⟩ := Kd.R_slice HO826.out; subst eo16; have hcz17_0 : w15.cell? ⟨gb822, 0, none⟩ = some (.int .i64 a1) := (blk_cell BK822.out 0).trans rfl; have hcz17_1 : w15.cell? ⟨gb822, 1, none⟩ = some (u823001) := (blk_cell BK822.out 1).trans rfl; have hfz17_0 := blk_frozen BK822.out 0; have hfz17_1 := blk_frozen BK822.out 1)); try go_wp2_with (((with_reducible refine gate_builtin (b := .append) (xs := #[.tmp 19, .tmp 21]) rfl ?_); at_builtin; refine Kd.R_append (Kd.int .i64) (w0 := w) w.heap.size rfl (.tmp 19) (.tmp 21) 22 3 (.int .i64 0) 8 rfl Try.underlying22 info3 rfl (by decide) (by omega) u823001 x823001_1 x11_1 [.int .i64 x11_1] (fun _ => True) (fun _ => False) rfl rfl ?aP (fun _ hk => hk.elim) ?aF ?aO ?aB ?aS ?aL ?_; (case aP => exact rfl); (case aB => exact (by repeat ((with_reducible first | exact HB.out | apply pw_below_drewN)))); (case aF => exact (fun _ _ => trivial)); (case aO => exact (by (with_reducible repeat (apply Kd.R_drewN)); exact HO_823001.out)); (case aS => exact (below_size (by repeat ((with_reducible first | exact HB.out | apply pw_below_drewN))))); (case aL => have := LMc12.out; omega); intro v825 w15 ho hb hg hat; rw [← Ny824.out] at ho; have n0_ := Aside0.mk (blk_grown (g := gb821) (o := .cells #[.int .i64 0, .slice none 0 0] 37 (0, 0)) (by (with_reducible repeat (refine blk_drewN ?_ _)); exact BK821.out) hg (Kd.R_ne HO_823001.out BK821.out (by decide))); have n1_ := Aside0.mk (blk_grown (g := gb822) (o := .cells #[.int .i64 a1, u823001] 37 (0, 0)) (by (with_reducible repeat (refine blk_drewN ?_ _)); exact BK822.out) hg (Kd.R_ne HO_823001.out BK822.out (by decide))); have n2_ := Aside0.mk (hb); have n3_ := Aside0.mk (ho); clear BK821; clear BK822; clear HB; clear HO_823001; have BK821 := n0_; have BK822 := n1_; have HB := n2_; have HO826 := n3_; clear n0_ n1_ n2_ n3_; clear ho hb hg hat; obtain ⟨Ao16, co16, eo16⟩ := Kd.R_slice HO826.out; subst eo16; have hcz17_0 : w15.cell? ⟨gb822, 0, none⟩ = some (.int .i64 a1) := (blk_cell BK822.out 0).trans rfl; have hcz17_1 : w15.cell? ⟨gb822, 1, none⟩ = some (u823001) := (blk_cell BK822.out 1).trans rfl; have hfz17_0 := blk_frozen BK822.out 0; have hfz17_1 := blk_frozen BK822.out 1)))
        go_roundg k1
        case measure => have := HK1.out; omega
        case rel => exact ⟨(wrap64 (x11_1 + 1)), (y824), (.slice Ao16 y824.length co16), (by rfl), H', ⟨by have := HK1.out; omega⟩, ⟨by (with_reducible repeat (apply Kd.R_drew)); exact Kd.R_mono (Kd.R_far (p := ⟨gb822, 1, none⟩) (Kd.R_types HO826.out BK822.out (by decide)) (fun _ hk => hk.2) (.slice Ao16 y824.length co16)) (fun _ hk => trivial)⟩, ⟨by (with_reducible repeat (refine blk_drew ?_)); refine blk_far ?_ NB821_822.out _; (with_reducible repeat (refine blk_drew ?_)); exact BK821.out⟩, ⟨by (with_reducible repeat (refine blk_drew ?_)); refine blk_put (cs := #[.int .i64 a1, u823001]) ?_ 1 _ rfl; (with_reducible repeat (refine blk_drew ?_)); exact BK822.out⟩, ⟨by repeat ((with_reducible first | exact HB.out | refine below_set ?_ GE822.out))⟩⟩
       ·rw [if_neg c12] at H
        exact absurd H (by simp)
      ·replace c11 := Bool.eq_false_iff.mpr c11
       subst c11
       have H1 : (impl_family_space.l0 k1 l0 (wrap64 (x11_1 + 1)) a1 x823001_1) = some (r1, r2) := by rw [if_neg (show ¬ (false = true) by decide)] at H; exact H
       clear H
       have H := H1
       clear H1
       have H' := Aside0.mk H
       clear H
       have p823 : 0 ≤ (x11_1 : Int) := of_decide_eq_true (by (with_reducible assumption))
       have q823 : x11_1 < (l0.length : Int) := of_decide_eq_true (by (with_reducible assumption))
       have qa823 : (x11_1 < 128) = True := eq_true (of_decide_eq_true (by (with_reducible assumption)))
       obtain ⟨ad823, e823, hx823_0⟩ := Kd.at_bool HR0.out x11_1 p823 q823
       (try rw [← Nbq10.out] at hx823_0)
       cases e823
       replace hx823_0 := (HB.out.cell (World.block_lt_of_cell? w _ hx823_0)).trans hx823_0
       replace p823 := eq_true p823
       replace q823 := eq_true q823
       go_wp2
       repeat (go_quiet (fail); try go_wp2)
       go_roundg k1
       case measure => have := HK1.out; omega
       case rel => exact ⟨(wrap64 (x11_1 + 1)), (x823001_1), (u823001), (by rfl), H', ⟨by have := HK1.out; omega⟩, ⟨by (with_reducible repeat (apply Kd.R_drewN)); exact HO_823001.out⟩, ⟨by (with_reducible repeat (refine blk_drewN ?_ _)); exact BK821.out⟩, ⟨by (with_reducible repeat (refine blk_drewN ?_ _)); exact BK822.out⟩, ⟨by repeat ((with_reducible first | exact HB.out | apply pw_below_drewN))⟩⟩
     ·rw [if_neg c9] at H
      exact absurd H (by simp)
    ·rw [if_neg c8] at H
     exact absurd H (by simp)
   ·rw [if_neg c7] at H
    have c7b0 : decide (x11_1 < 128) = false := decide_eq_false c7
    clear c7
    simp only [Option.some.injEq, Prod.mk.injEq] at H
    obtain ⟨rfl, rfl⟩ := H
    have hnb18 := NB822_821.out
    have hnc18 := NB821_822.out
    have hcz19_0 : wr.cell? ⟨gb822, 0, none⟩ = some (.int .i64 a1) := (blk_cell BK822.out 0).trans rfl
    have hcz19_1 : wr.cell? ⟨gb822, 1, none⟩ = some (u823001) := (blk_cell BK822.out 1).trans rfl
    have hfz19_0 := blk_frozen BK822.out 0
    have hfz19_1 := blk_frozen BK822.out 1
    have hcz20_0 : wr.cell? ⟨gb821, 0, none⟩ = some (.int .i64 0) := (blk_cell BK821.out 0).trans rfl
    have hcz20_1 : wr.cell? ⟨gb821, 1, none⟩ = some (.slice none 0 0) := (blk_cell BK821.out 1).trans rfl
    have hfz20_0 := blk_frozen BK821.out 0
    have hfz20_1 := blk_frozen BK821.out 1
    obtain ⟨Ao21, co21, eo21⟩ := Kd.R_slice HO_823001.out
    subst eo21
    go_wp2
    repeat (go_quiet (fail); try go_wp2)
    refine bodyPost_ret (results_cell_row rfl _ _ gb821 37 #[.int .i64 a1, .slice Ao21 x823001_1.length co21] (0, 0) _ rfl (by (with_reducible repeat (refine blk_drew ?_)); refine blk_put (cs := #[.int .i64 a1, .slice none 0 0]) ?_ 1 _ rfl; (with_reducible repeat (refine blk_drew ?_)); refine blk_put (cs := #[.int .i64 0, .slice none 0 0]) ?_ 0 _ rfl; (with_reducible repeat (refine blk_drew ?_)); exact BK821.out) Try.underlying37 rfl (by kernel_rfl)) rfl ?_
    exact ⟨_, by rfl, by (with_reducible repeat (apply Kd.R_drew)); exact Kd.R_mono (Kd.R_far (p := ⟨gb821, 1, none⟩) (Kd.R_far (p := ⟨gb821, 0, none⟩) (Kd.R_types HO_823001.out BK821.out (by decide)) (fun _ hk => hk.2) (.int .i64 a1)) (fun _ hk => hk.2) (.slice Ao21 x823001_1.length co21)) (fun _ hk => trivial), by repeat ((with_reducible first | exact HB.out | refine below_set ?_ GE821.out))⟩

end Go.Proofs.Ythpbmecinoninaa.P
