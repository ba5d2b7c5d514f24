/- Functions of the program as plain Lean functions, each with a proof that the Go code computes it; written by a program of this session. Conditions: as each theorem states. -/
import Derived.Test.YtpliebmaagoahaaCFnExactPointSpaceP5
namespace Go.Proofs.Ytpliebmaagoahaa.P
open Go.RowKit Go.Proofs.YtpliebmaagoahaaW.PrintWords Go.Proofs.YtpliebmaagoahaaW.PrintLast Go.Proofs.YtpliebmaagoahaaW.PrintMore
attribute [local go_sem] max2_int min2_int max_two min_two max_three min_three max_four min_four   -- for this text's walks alone
set_option linter.unusedVariables false
set_option linter.unusedSimpArgs false

/-! ### impl_covered: function 85 -/
def impl_covered.l0 : Nat → List (List Int) → Int → Int → Int → Int → Option (Int)
 | 0, _, _, _, _, _ => none
 | k + 1, x0, x1, x5, x8, x9 => if x9 < x8 then ((impl_covers.f k x0 x1 x9).bind fun t804 => (if t804 = true then (if 0 ≤ x9 then (impl_covered.l0 k x0 x1 (Go.bits .or .i64 x5 (shl .i64 1 x9)) x8 (wrap64 (x9 + 1))) else (none)) else (impl_covered.l0 k x0 x1 x5 x8 (wrap64 (x9 + 1))))) else (some x5)
def impl_covered.f (k : Nat) (l0 : List (List Int)) (a1 : Int) : Option (Int) := impl_covered.l0 k l0 a1 0 (l0.length : Int) 0
theorem impl_covered.mono_l : ∀ k, (∀ y0 y1 y2 y3 y4, LeO (impl_covered.l0 k y0 y1 y2 y3 y4) (impl_covered.l0 (k + 1) y0 y1 y2 y3 y4))
 | 0 => fun _ _ _ _ _ r h => by simp [impl_covered.l0] at h
 | k + 1 => by
  have ih0 := impl_covered.mono_l k
  ·intro y0 y1 y2 y3 y4
   unfold impl_covered.l0
   repeat' first
   | (with_reducible exact ih0 _ _ _ _ _)
   | (with_reducible exact impl_covers.mono _ _ _ _)
   | (with_reducible exact LeO.refl _)
   | (with_reducible refine LeO.ite ?_ ?_)
   | (with_reducible refine LeO.bind ?_ (fun _ => ?_))
theorem impl_covered.mono : ∀ a0 a1 k, LeO (impl_covered.f k a0 a1) (impl_covered.f (k + 1) a0 a1) := by
 intro a0 a1 k
 have ih0 := impl_covered.mono_l k
 unfold impl_covered.f
 repeat' first
   | (with_reducible exact ih0 _ _ _ _ _)
set_option maxHeartbeats 8000000 in
set_option maxRecDepth 100000 in
theorem impl_covered.calls (k : Nat) (A0 : Option Addr) (c0 : Nat) (l0 : List (List Int)) (a1 : Int) (r : Int) (w : World) (hr0 : Kd.C (Kd.slice 3 (Kd.int .i64)) w A0 l0.length l0) (hc0 : l0.length ≤ c0) (h : impl_covered.f k l0 a1 = some r) :
  Calls Try.prog 85 #[.slice A0 l0.length c0, .int .i64 a1] w fun e w' => e = .returned (.int .i64 r) ∧ Below w.heap.size w w' := by
 have HR0 := Aside0.mk hr0
 have HC0 := Aside0.mk hc0
 clear hr0 hc0
 have HB := Aside0.mk (Below.refl w.heap.size w)
 have H : (impl_covered.l0 k l0 a1 0 (l0.length : Int) 0) = some r := h
 clear h
 have H' := Aside0.mk H
 clear H
 go_enter Try.func85, Try.ntmps85
 go_wp2
 go_loopg [5, 9] k (fun kq v5 v9 w' => ∃ (x5_1 : Int) (x9_1 : Int), v5 = .int .i64 x5_1 ∧ v9 = .int .i64 x9_1 ∧ Aside0 (impl_covered.l0 kq l0 a1 x5_1 (l0.length : Int) x9_1 = some r) ∧ Aside0 (kq ≤ k) ∧ Aside0 (Below w.heap.size w w'))
 case atStart => exact ⟨(0), (0), (by rfl), (by rfl), H', ⟨Nat.le_refl _⟩, ⟨by repeat ((with_reducible exact HB.out))⟩⟩
 case round =>
  clear H'
  try clear p2
  obtain ⟨x5_1, x9_1, rfl, rfl, HA, HK1, HB⟩ := hrel
  cases gk with
  | zero => exact absurd HA.out (by simp [impl_covered.l0])
  | succ k1 =>
   have H := HA.out
   clear HA
   simp only [impl_covered.l0] at H
   by_cases c3 : x9_1 < (l0.length : Int)
   ·rw [if_pos c3] at H
    have c3b0 : decide (x9_1 < (l0.length : Int)) = true := decide_eq_true c3
    clear c3
    replace H := Option.bind_eq_some_iff.mp H
    obtain ⟨t804, A40, H⟩ := H
    replace H : (if t804 = true then (if 0 ≤ x9_1 then (impl_covered.l0 k1 l0 a1 (Go.bits .or .i64 x5_1 (shl .i64 1 x9_1)) (l0.length : Int) (wrap64 (x9_1 + 1))) else (none)) else (impl_covered.l0 k1 l0 a1 x5_1 (l0.length : Int) (wrap64 (x9_1 + 1)))) = some r := H
    have A4 := Aside0.mk A40
    clear A40
    by_cases c5 : t804 = true
    ·subst c5
     have H1 : (if 0 ≤ x9_1 then (impl_covered.l0 k1 l0 a1 (Go.bits .or .i64 x5_1 (shl .i64 1 x9_1)) (l0.length : Int) (wrap64 (x9_1 + 1))) else (none)) = some r := by rw [if_pos rfl] at H; exact H
     clear H
     have H := H1
     clear H1
     by_cases c6 : 0 ≤ x9_1
     ·rw [if_pos c6] at H
      have c6b0 := eq_true c6
      have c6b1 : decide (0 ≤ x9_1) = true := decide_eq_true c6
      clear c6
      obtain ⟨ji7, hji7⟩ : ∃ j_ : Int, (shl .i64 1 x9_1) = j_ := ⟨_, rfl⟩
      replace H : (impl_covered.l0 k1 l0 a1 (Go.bits .or .i64 x5_1 (ji7)) (l0.length : Int) (wrap64 (x9_1 + 1))) = some r := by (rw [hji7] at H; exact H)
      skip
      have hji7_ : (IntKind.i64.wrap (1 * 2 ^ min x9_1.toNat 64)) = ji7 := hji7
      have hji7z : x9_1 ≤ 64 → (IntKind.i64.wrap (1 * 2 ^ x9_1.toNat)) = ji7 := shl_small hji7
      have hji7u : (IntKind.i64.wrap (2 ^ min x9_1.toNat 64)) = ji7 := by have h_ := hji7_; rw [Int.one_mul] at h_; exact h_
      have hji7v : x9_1 ≤ 64 → (IntKind.i64.wrap (2 ^ x9_1.toNat)) = ji7 := fun hle_ => by have h_ := hji7z hle_; rw [Int.one_mul] at h_; exact h_
      have hji7y : (wrap64 (1 * 2 ^ min x9_1.toNat 64)) = ji7 := (i64_w _).symm.trans hji7_
      have hji7x : x9_1 ≤ 64 → (wrap64 (1 * 2 ^ x9_1.toNat)) = ji7 := fun h_ => (i64_w _).symm.trans (hji7z h_)
      have H' := Aside0.mk H
      clear H
      go_wp2_with (((with_reducible refine gate_callee (f := 113) rfl ?_); refine goesL_ (some 15) rfl rfl Try.func113 (by kernel_rfl) rfl #[.slice A0 l0.length c0, .int .i64 a1, .int .i64 x9_1] rfl (by (try simp only [List.map_toArray, List.map_cons, List.map_nil]); rfl) ?_; (with_reducible refine (impl_covers.calls k1 _ _ l0 a1 x9_1 true _ ?side1 ?side2 A4.out).mono ?_); (case side1 => repeat (exact (Kd.C_below HR0.out HB.out))); (case side2 => exact HC0.out); rintro e w8 ⟨rfl, hb⟩; refine ⟨_, rfl, ?_⟩; have n0_ := Aside0.mk (below_step (by repeat ((with_reducible exact HB.out))) hb); clear HB; have HB := n0_; clear n0_; (try clear hb); skip))
      go_roundg k1
      case measure => have := HK1.out; omega
      case rel => exact ⟨(Go.bits .or .i64 x5_1 (ji7)), (wrap64 (x9_1 + 1)), (by rfl), (by rfl), H', ⟨by have := HK1.out; omega⟩, ⟨by repeat ((with_reducible exact HB.out))⟩⟩
     ·rw [if_neg c6] at H
      exact absurd H (by simp)
    ·replace c5 := Bool.eq_false_iff.mpr c5
     subst c5
     have H1 : (impl_covered.l0 k1 l0 a1 x5_1 (l0.length : Int) (wrap64 (x9_1 + 1))) = some r := by rw [if_neg (show ¬ (false = true) by decide)] at H; exact H
     clear H
     have H := H1
     clear H1
     have H' := Aside0.mk H
     clear H
     go_wp2_with (((with_reducible refine gate_callee (f := 113) rfl ?_); refine goesL_ (some 15) rfl rfl Try.func113 (by kernel_rfl) rfl #[.slice A0 l0.length c0, .int .i64 a1, .int .i64 x9_1] rfl (by (try simp only [List.map_toArray, List.map_cons, List.map_nil]); rfl) ?_; (with_reducible refine (impl_covers.calls k1 _ _ l0 a1 x9_1 false _ ?side1 ?side2 A4.out).mono ?_); (case side1 => repeat (exact (Kd.C_below HR0.out HB.out))); (case side2 => exact HC0.out); rintro e w9 ⟨rfl, hb⟩; refine ⟨_, rfl, ?_⟩; have n0_ := Aside0.mk (below_step (by repeat ((with_reducible exact HB.out))) hb); clear HB; have HB := n0_; clear n0_; (try clear hb); skip))
     go_roundg k1
     case measure => have := HK1.out; omega
     case rel => exact ⟨(x5_1), (wrap64 (x9_1 + 1)), (by rfl), (by rfl), H', ⟨by have := HK1.out; omega⟩, ⟨by repeat ((with_reducible exact HB.out))⟩⟩
   ·rw [if_neg c3] at H
    have c3b0 : decide (x9_1 < (l0.length : Int)) = false := decide_eq_false c3
    clear c3
    obtain rfl := Option.some.inj H
    go_wp2
    go_ret
    exact ⟨by rfl, by repeat ((with_reducible exact HB.out))⟩

/-! ### impl_PointSpace_1: function 84 -/
def impl_PointSpace_1.f (k : Nat) (a0 : Int) (l1 : List Int) (l2 : List (List (List Int))) : Option (Bool) := if 0 < (l1.length : Int) then (if 0 ≤ (rd l1 0) then (if 0 < (l2.length : Int) then ((impl_covered.f k (rd_L4 l2 0) (Go.bits .andNot .i64 (wrap64 ((shl .i64 1 (rd l1 0)) - 1)) a0)).bind fun t807 => (some (t807 == (Go.bits .andNot .i64 (wrap64 ((shl .i64 1 (rd l1 0)) - 1)) a0)))) else (none)) else (none)) else (none)
theorem impl_PointSpace_1.mono : ∀ a0 a1 a2 k, LeO (impl_PointSpace_1.f k a0 a1 a2) (impl_PointSpace_1.f (k + 1) a0 a1 a2) := by
 intro a0 a1 a2 k
 unfold impl_PointSpace_1.f
 repeat' first
   | (with_reducible exact impl_covered.mono _ _ _)
   | (with_reducible exact LeO.refl _)
   | (with_reducible refine LeO.ite ?_ ?_)
   | (with_reducible refine LeO.bind ?_ (fun _ => ?_))
set_option maxHeartbeats 8000000 in
set_option maxRecDepth 100000 in
theorem impl_PointSpace_1.calls (k : Nat) (a0 : Int) (A1 : Option Addr) (c1 : Nat) (l1 : List Int) (A2 : Option Addr) (c2 : Nat) (l2 : List (List (List Int))) (r : Bool) (w : World) (hr1 : Kd.C (Kd.int .i64) w A1 l1.length l1) (hc1 : l1.length ≤ c1) (hr2 : Kd.C (Kd.slice 22 (Kd.slice 3 (Kd.int .i64))) w A2 l2.length l2) (hc2 : l2.length ≤ c2) (h : impl_PointSpace_1.f k a0 l1 l2 = some r) :
  Calls Try.prog 84 #[.int .i64 a0, .pointer A1, .pointer A2] w fun e w' => e = .returned (.bool r) ∧ Below w.heap.size w w' := by
 have HR1 := Aside0.mk hr1
 have HC1 := Aside0.mk hc1
 clear hr1 hc1
 have HR2 := Aside0.mk hr2
 have HC2 := Aside0.mk hc2
 clear hr2 hc2
 have HB := Aside0.mk (Below.refl w.heap.size w)
 have H : (if 0 < (l1.length : Int) then (if 0 ≤ (rd l1 0) then (if 0 < (l2.length : Int) then ((impl_covered.f k (rd_L4 l2 0) (Go.bits .andNot .i64 (wrap64 ((shl .i64 1 (rd l1 0)) - 1)) a0)).bind fun t807 => (some (t807 == (Go.bits .andNot .i64 (wrap64 ((shl .i64 1 (rd l1 0)) - 1)) a0)))) else (none)) else (none)) else (none)) = some r := h
 clear h
 by_cases c4 : 0 < (l1.length : Int)
 ·rw [if_pos c4] at H
  have c4b0 : decide (0 < (l1.length : Int)) = true := decide_eq_true c4
  have c4b1 : decide (0 < l1.length) = true := decide_eq_true (by omega)
  clear c4
  by_cases c5 : 0 ≤ (rd l1 0)
  ·rw [if_pos c5] at H
   have c5b0 := eq_true c5
   have c5b1 : decide (0 ≤ (rd l1 0)) = true := decide_eq_true c5
   clear c5
   obtain ⟨ji6, hji6⟩ : ∃ j_ : Int, (shl .i64 1 (rd l1 0)) = j_ := ⟨_, rfl⟩
   replace H : (if 0 < (l2.length : Int) then ((impl_covered.f k (rd_L4 l2 0) (Go.bits .andNot .i64 (wrap64 ((ji6) - 1)) a0)).bind fun t807 => (some (t807 == (Go.bits .andNot .i64 (wrap64 ((ji6) - 1)) a0)))) else (none)) = some r := by (rw [hji6] at H; exact H)
   have hji6_ : (IntKind.i64.wrap (1 * 2 ^ min (rd l1 0).toNat 64)) = ji6 := hji6
   have hji6z : (rd l1 0) ≤ 64 → (IntKind.i64.wrap (1 * 2 ^ (rd l1 0).toNat)) = ji6 := shl_small hji6
   have hji6u : (IntKind.i64.wrap (2 ^ min (rd l1 0).toNat 64)) = ji6 := by have h_ := hji6_; rw [Int.one_mul] at h_; exact h_
   have hji6v : (rd l1 0) ≤ 64 → (IntKind.i64.wrap (2 ^ (rd l1 0).toNat)) = ji6 := fun hle_ => by have h_ := hji6z hle_; rw [Int.one_mul] at h_; exact h_
   have hji6y : (wrap64 (1 * 2 ^ min (rd l1 0).toNat 64)) = ji6 := (i64_w _).symm.trans hji6_
   have hji6x : (rd l1 0) ≤ 64 → (wrap64 (1 * 2 ^ (rd l1 0).toNat)) = ji6 := fun h_ => (i64_w _).symm.trans (hji6z h_)
   by_cases c7 : 0 < (l2.length : Int)
   ·rw [if_pos c7] at H
    have c7b0 : decide (0 < (l2.length : Int)) = true := decide_eq_true c7
    have c7b1 : decide (0 < l2.length) = true := decide_eq_true (by omega)
    clear c7
    replace H := Option.bind_eq_some_iff.mp H
    obtain ⟨t807, A80, H⟩ := H
    replace H : (some (t807 == (Go.bits .andNot .i64 (wrap64 ((ji6) - 1)) a0))) = some r := H
    have A8 := Aside0.mk A80
    clear A80
    obtain rfl := Option.some.inj H
    have p805 : 0 ≤ (0 : Int) := (by omega)
    have q805 : 0 < (l1.length : Int) := of_decide_eq_true (by (with_reducible assumption))
    obtain ⟨ad805, e805, hx805_0⟩ := Kd.at_int HR1.out 0 p805 q805
    cases e805
    have qi805 : (0 < l1.length) = True := eq_true (by omega)
    (try rw [show ((0 : Int)).toNat = 0 from rfl] at hx805_0)
    (try rw [Addr.add_zero'] at hx805_0)
    replace p805 := eq_true p805
    replace q805 := eq_true q805
    have p806 : 0 ≤ (0 : Int) := (by omega)
    have q806 : 0 < (l2.length : Int) := of_decide_eq_true (by (with_reducible assumption))
    obtain ⟨ad806, A806_0, c806_0, e806, hx806_0, hl806_0, hi806_0⟩ := at_L4 HR2.out 0 p806 q806
    cases e806
    have qi806 : (0 < l2.length) = True := eq_true (by omega)
    (try rw [show ((0 : Int)).toNat = 0 from rfl] at hx806_0)
    (try rw [Addr.add_zero'] at hx806_0)
    have HR806_0 := Aside0.mk hi806_0
    have HC806_0 := Aside0.mk hl806_0
    clear hi806_0 hl806_0
    replace p806 := eq_true p806
    replace q806 := eq_true q806
    go_enter Try.func84, Try.ntmps84
    go_wp2_with (((with_reducible refine gate_callee (f := 85) rfl ?_); refine goesL_ (some 13) rfl rfl Try.func85 (by kernel_rfl) rfl #[.slice A806_0 (rd_L4 l2 0).length c806_0, .int .i64 (Go.bits .andNot .i64 (wrap64 ((ji6) - 1)) a0)] rfl (by (try simp only [List.map_toArray, List.map_cons, List.map_nil]); rfl) ?_; (with_reducible refine (impl_covered.calls k _ _ (rd_L4 l2 0) (Go.bits .andNot .i64 (wrap64 ((ji6) - 1)) a0) t807 _ ?side1 ?side2 A8.out).mono ?_); (case side1 => repeat (exact HR806_0.out)); (case side2 => exact HC806_0.out); rintro e w9 ⟨rfl, hb⟩; refine ⟨_, rfl, ?_⟩; have n0_ := Aside0.mk (below_step (by repeat ((with_reducible exact HB.out))) hb); clear HB; have HB := n0_; clear n0_; (try clear hb); skip))
    go_ret
    exact ⟨by rfl, by repeat ((with_reducible exact HB.out))⟩
   ·rw [if_neg c7] at H
    exact absurd H (by simp)
  ·rw [if_neg c5] at H
   exact absurd H (by simp)
 ·rw [if_neg c4] at H
  exact absurd H (by simp)

/-! ### impl_those__PointSpace_1: function 56 -/
def impl_those__PointSpace_1.l0 : Nat → Int → Int → List Int → List (List (List Int)) → Int → List Int → Option (Int × List Int)
 | 0, _, _, _, _, _, _ => none
 | k + 1, x10, x11, x820, x821, x810000, x810001 => if x11 < x10 then ((impl_PointSpace_1.f k x11 x820 x821).bind fun t810 => (if t810 = true then (if x810001.length < 17592186044416 then (impl_those__PointSpace_1.l0 k x10 (wrap64 (x11 + 1)) x820 x821 x810000 (x810001 ++ [x11])) else (none)) else (impl_those__PointSpace_1.l0 k x10 (wrap64 (x11 + 1)) x820 x821 x810000 x810001))) else (some (x810000, x810001))
def impl_those__PointSpace_1.f (k : Nat) (a0 : Int) (l1_0 : List Int) (l1_1 : List (List (List Int))) : Option (Int × List Int) := if 0 ≤ a0 then (impl_those__PointSpace_1.l0 k (shl .i64 1 a0) 0 l1_0 l1_1 a0 ([] : List Int)) else (none)
theorem impl_those__PointSpace_1.mono_l : ∀ k, (∀ y0 y1 y2 y3 y4 y5, LeO (impl_those__PointSpace_1.l0 k y0 y1 y2 y3 y4 y5) (impl_those__PointSpace_1.l0 (k + 1) y0 y1 y2 y3 y4 y5))
 | 0 => fun _ _ _ _ _ _ r h => by simp [impl_those__PointSpace_1.l0] at h
 | k + 1 => by
  have ih0 := impl_those__PointSpace_1.mono_l k
  ·intro y0 y1 y2 y3 y4 y5
   unfold impl_those__PointSpace_1.l0
   repeat' first
   | (with_reducible exact ih0 _ _ _ _ _ _)
   | (with_reducible exact impl_PointSpace_1.mono _ _ _ _)
   | (with_reducible exact LeO.refl _)
   | (with_reducible refine LeO.ite ?_ ?_)
   | (with_reducible refine LeO.bind ?_ (fun _ => ?_))
theorem impl_those__PointSpace_1.mono : ∀ a0 a1 a2 k, LeO (impl_those__PointSpace_1.f k a0 a1 a2) (impl_those__PointSpace_1.f (k + 1) a0 a1 a2) := by
 intro a0 a1 a2 k
 have ih0 := impl_those__PointSpace_1.mono_l k
 unfold impl_those__PointSpace_1.f
 repeat' first
   | (with_reducible exact ih0 _ _ _ _ _ _)
   | (with_reducible exact LeO.refl _)
   | (with_reducible refine LeO.ite ?_ ?_)
set_option maxHeartbeats 8000000 in
set_option maxRecDepth 100000 in
theorem impl_those__PointSpace_1.calls (k : Nat) (a0 : Int) (A1_0 : Option Addr) (c1_0 : Nat) (l1_0 : List Int) (A1_1 : Option Addr) (c1_1 : Nat) (l1_1 : List (List (List Int))) (r1 : Int) (r2 : List Int) (w : World) (hr1_0 : Kd.C (Kd.int .i64) w A1_0 l1_0.length l1_0) (hc1_0 : l1_0.length ≤ c1_0) (hr1_1 : Kd.C (Kd.slice 22 (Kd.slice 3 (Kd.int .i64))) w A1_1 l1_1.length l1_1) (hc1_1 : l1_1.length ≤ c1_1) (h : impl_those__PointSpace_1.f k a0 l1_0 l1_1 = some (r1, r2)) :
  Calls Try.prog 56 #[.int .i64 a0, .func (.func 84) #[] #[.pointer A1_0, .pointer A1_1]] w fun e w' => ∃ v1_ : Value, e = .returned (.agg #[.int .i64 r1, v1_]) ∧ Kd.R (Kd.int .i64) 3 w' w.heap.size (fun _ => True) v1_ r2 ∧ Below w.heap.size w w' := by
 have hu29 := Try.underlying29
 have HR1_0 := Aside0.mk hr1_0
 have HC1_0 := Aside0.mk hc1_0
 clear hr1_0 hc1_0
 have HR1_1 := Aside0.mk hr1_1
 have HC1_1 := Aside0.mk hc1_1
 clear hr1_1 hc1_1
 have HB := Aside0.mk (Below.refl w.heap.size w)
 have H : (if 0 ≤ a0 then (impl_those__PointSpace_1.l0 k (shl .i64 1 a0) 0 l1_0 l1_1 a0 ([] : List Int)) else (none)) = some (r1, r2) := h
 clear h
 by_cases c3 : 0 ≤ a0
 ·rw [if_pos c3] at H
  have c3b0 := eq_true c3
  have c3b1 : decide (0 ≤ a0) = true := decide_eq_true c3
  clear c3
  obtain ⟨ji4, hji4⟩ : ∃ j_ : Int, (shl .i64 1 a0) = j_ := ⟨_, rfl⟩
  replace H : (impl_those__PointSpace_1.l0 k ji4 0 l1_0 l1_1 a0 ([] : List Int)) = some (r1, r2) := by (rw [hji4] at H; exact H)
  have hji4_ : (IntKind.i64.wrap (1 * 2 ^ min a0.toNat 64)) = ji4 := hji4
  have hji4z : a0 ≤ 64 → (IntKind.i64.wrap (1 * 2 ^ a0.toNat)) = ji4 := shl_small hji4
  have hji4u : (IntKind.i64.wrap (2 ^ min a0.toNat 64)) = ji4 := by have h_ := hji4_; rw [Int.one_mul] at h_; exact h_
  have hji4v : a0 ≤ 64 → (IntKind.i64.wrap (2 ^ a0.toNat)) = ji4 := fun hle_ => by have h_ := hji4z hle_; rw [Int.one_mul] at h_; exact h_
  have hji4y : (wrap64 (1 * 2 ^ min a0.toNat 64)) = ji4 := (i64_w _).symm.trans hji4_
  have hji4x : a0 ≤ 64 → (wrap64 (1 * 2 ^ a0.toNat)) = ji4 := fun h_ => (i64_w _).symm.trans (hji4z h_)
  have H' := Aside0.mk H
  clear H
  go_enter Try.func56, Try.ntmps56
  go_wp2_with (first | ((with_reducible refine gate_dst (N := 4) rfl ?_); refine box_event ?hg (N := 4) ?hd (cs := #[.int .i64 0, .slice none 0 0]) (t := 29) ?hr ?_; (case hd => rfl); (case hg => rfl); (case hr => (go_simp; done)); intro gb808 hg w5 hbox hb; have n0_ := Aside0.mk (below_step (by repeat ((with_reducible exact HB.out))) hb); have n1_ := Aside0.mk (hbox); have n2_ := Aside0.mk ((by rw [hg]; exact (below_size (by repeat ((with_reducible exact HB.out)))) : w.heap.size ≤ gb808)); have n3_ := Aside0.mk ((by rw [hg]; exact (below_size (by repeat ((with_reducible exact HB.out)))) : w.heap.size ≤ gb808)); clear HB; have HB := n0_; have BK808 := n1_; have GW808 := n2_; have GE808 := n3_; clear n0_ n1_ n2_ n3_; clear hb hbox hg) | ((with_reducible refine gate_dst (N := 5) rfl ?_); refine box_event ?hg (N := 5) ?hd (cs := #[.int .i64 0, .slice none 0 0]) (t := 29) ?hr ?_; (case hd => rfl); (case hg => rfl); (case hr => (go_simp; done)); intro gb809 hg w6 hbox hb; have n0_ := Aside0.mk (blk_below (g := gb808) (o := .cells #[.int .i64 0, .slice none 0 0] 29 (0, 0)) (by (with_reducible repeat (refine blk_drew ?_)); exact BK808.out) hb); have n1_ := Aside0.mk (below_step (by repeat ((with_reducible exact HB.out))) hb); have n2_ := Aside0.mk (hbox); have n3_ := Aside0.mk ((by rw [hg]; exact (below_size (by repeat ((with_reducible exact HB.out)))) : w.heap.size ≤ gb809)); have n4_ := Aside0.mk ((by rw [hg]; exact (below_size (by repeat ((with_reducible exact HB.out)))) : w.heap.size ≤ gb809)); have n5_ := Aside0.mk ((by rw [hg]; exact Nat.ne_of_lt (blk_lt (g := gb808) (o := .cells #[.int .i64 0, .slice none 0 0] 29 (0, 0)) (by (with_reducible repeat (refine blk_drew ?_)); exact BK808.out)) : gb808 ≠ gb809)); have n6_ := Aside0.mk ((by rw [hg]; exact Nat.ne_of_gt (blk_lt (g := gb808) (o := .cells #[.int .i64 0, .slice none 0 0] 29 (0, 0)) (by (with_reducible repeat (refine blk_drew ?_)); exact BK808.out)) : gb809 ≠ gb808)); clear BK808; clear HB; have BK808 := n0_; have HB := n1_; have BK809 := n2_; have GW809 := n3_; have GE809 := n4_; have NB808_809 := n5_; have NB809_808 := n6_; clear n0_ n1_ n2_ n3_ n4_ n5_ n6_; clear hb hbox hg; have hnb7 := NB809_808.out; have hnc7 := NB808_809.out; have hcz8_0 : w6.cell? ⟨gb809, 0, none⟩ = some (.int .i64 0) := (blk_cell BK809.out 0).trans rfl; have hcz8_1 : w6.cell? ⟨gb809, 1, none⟩ = some (.slice none 0 0) := (blk_cell BK809.out 1).trans rfl; have hfz8_0 := blk_frozen BK809.out 0; have hfz8_1 := blk_frozen BK809.out 1))
  go_loopg [11] k (fun kq v11 w' => ∃ (x11_1 : Int) (x810001_1 : List Int) (u810001 : Value), v11 = .int .i64 x11_1 ∧ Aside0 (impl_those__PointSpace_1.l0 kq ji4 x11_1 l1_0 l1_1 a0 x810001_1 = some (r1, r2)) ∧ Aside0 (kq ≤ k) ∧ Aside0 (Kd.R (Kd.int .i64) 3 w' w.heap.size (fun _ => True) u810001 x810001_1) ∧ Aside0 (w'.heap[gb808]? = some (.cells #[.int .i64 0, (.slice none 0 0)] 29 (0, 0))) ∧ Aside0 (w'.heap[gb809]? = some (.cells #[.int .i64 a0, u810001] 29 (0, 0))) ∧ Aside0 (Below w.heap.size w w'))
  case atStart => exact ⟨(0), (([] : List Int)), (.slice none 0 0), (by rfl), H', ⟨Nat.le_refl _⟩, ⟨by exact Kd.R_nil _ _ _ _ _⟩, ⟨by (with_reducible repeat (refine blk_drew ?_)); refine blk_far ?_ NB808_809.out _; (with_reducible repeat (refine blk_drew ?_)); refine blk_far ?_ NB808_809.out _; (with_reducible repeat (refine blk_drew ?_)); exact BK808.out⟩, ⟨by (with_reducible repeat (refine blk_drew ?_)); refine blk_put (cs := #[.int .i64 a0, .slice none 0 0]) ?_ 1 _ rfl; (with_reducible repeat (refine blk_drew ?_)); refine blk_put (cs := #[.int .i64 0, .slice none 0 0]) ?_ 0 _ rfl; (with_reducible repeat (refine blk_drew ?_)); exact BK809.out⟩, ⟨by repeat ((with_reducible first | exact HB.out | refine below_set ?_ GE809.out))⟩⟩
  case round =>
   clear H'
   try clear c1
   try clear p2
   try clear c3
   try clear c3b0
   try clear c3b1
   try clear p6
   try clear c7
   try clear hcz8_0
   try clear hcz8_1
   try clear hfz8_0
   try clear hfz8_1
   obtain ⟨x11_1, x810001_1, u810001, rfl, HA, HK1, HO_810001, BK808, BK809, HB⟩ := hrel
   cases gk with
   | zero => exact absurd HA.out (by simp [impl_those__PointSpace_1.l0])
   | succ k1 =>
    have H := HA.out
    clear HA
    simp only [impl_those__PointSpace_1.l0] at H
    by_cases c9 : x11_1 < ji4
    ·rw [if_pos c9] at H
     have c9b0 : decide (x11_1 < ji4) = true := decide_eq_true c9
     clear c9
     replace H := Option.bind_eq_some_iff.mp H
     obtain ⟨t810, A100, H⟩ := H
     replace H : (if t810 = true then (if x810001_1.length < 17592186044416 then (impl_those__PointSpace_1.l0 k1 ji4 (wrap64 (x11_1 + 1)) l1_0 l1_1 a0 (x810001_1 ++ [x11_1])) else (none)) else (impl_those__PointSpace_1.l0 k1 ji4 (wrap64 (x11_1 + 1)) l1_0 l1_1 a0 x810001_1)) = some (r1, r2) := H
     have A10 := Aside0.mk A100
     clear A100
     by_cases c11 : t810 = true
     ·subst c11
      have H1 : (if x810001_1.length < 17592186044416 then (impl_those__PointSpace_1.l0 k1 ji4 (wrap64 (x11_1 + 1)) l1_0 l1_1 a0 (x810001_1 ++ [x11_1])) else (none)) = some (r1, r2) := by rw [if_pos rfl] at H; exact H
      clear H
      have H := H1
      clear H1
      by_cases c12 : x810001_1.length < 17592186044416
      ·rw [if_pos c12] at H
       have LMc12 := Aside0.mk c12
       clear c12
       obtain ⟨y811, hy811⟩ : ∃ y_ : List Int, y_ = (x810001_1 ++ [x11_1]) := ⟨_, rfl⟩
       replace H : (impl_those__PointSpace_1.l0 k1 ji4 (wrap64 (x11_1 + 1)) l1_0 l1_1 a0 y811) = some (r1, r2) := by (rw [hy811]; with_reducible exact H)
       have Ny811 := Aside0.mk hy811
       clear hy811
       have H' := Aside0.mk H
       clear H
       go_wp2_with (first | (go_at_call 84; (with_reducible refine (impl_PointSpace_1.calls k1 x11_1 A1_0 c1_0 l1_0 A1_1 c1_1 l1_1 true _ ?side1 ?side2 ?side3 ?side4 A10.out).mono ?_); (case side1 => repeat (exact (Kd.C_below HR1_0.out HB.out))); (case side2 => exact HC1_0.out); (case side3 => repeat (exact (Kd.C_below HR1_1.out HB.out))); (case side4 => exact HC1_1.out); rintro e w13 ⟨rfl, hb⟩; have n0_ := Aside0.mk (Kd.R_below (by (with_reducible repeat (apply Kd.R_drew)); exact HO_810001.out) hb); have n1_ := Aside0.mk (blk_below (g := gb808) (o := .cells #[.int .i64 0, .slice none 0 0] 29 (0, 0)) (by (with_reducible repeat (refine blk_drew ?_)); exact BK808.out) hb); have n2_ := Aside0.mk (blk_below (g := gb809) (o := .cells #[.int .i64 a0, u810001] 29 (0, 0)) (by (with_reducible repeat (refine blk_drew ?_)); exact BK809.out) hb); have n3_ := Aside0.mk (below_step (by repeat ((with_reducible exact HB.out))) hb); clear HO_810001; clear BK808; clear BK809; clear HB; have HO_810001 := n0_; have BK808 := n1_; have BK809 := n2_; have HB := n3_; clear n0_ n1_ n2_ n3_; (try clear hb); have hnb14 := NB809_808.out; have hnc14 := NB808_809.out; have hcz15_0 : w13.cell? ⟨gb809, 0, none⟩ = some (.int .i64 a0) := (blk_cell BK809.out 0).trans rfl; have hcz15_1 : w13.cell? ⟨gb809, 1, none⟩ = some (u810001) := (blk_cell BK809.out 1).trans rfl; have hfz15_0 := blk_frozen BK809.out 0; have hfz15_1 := blk_frozen BK809.out 1) | ((with_reducible refine gate_builtin (b := .append) (xs := #[.tmp 18, .tmp 20]) rfl ?_); at_builtin; refine Kd.R_append (Kd.int .i64) (w0 := w) w.heap.size rfl (.tmp 18) (.tmp 20) 22 3 (.int .i64 0) 8 rfl Try.underlying22 info3 rfl (by decide) (by omega) u810001 x810001_1 x11_1 [.int .i64 x11_1] (fun _ => True) (fun _ => False) rfl rfl ?aP (fun _ hk => hk.elim) ?aF ?aO ?aB ?aS ?aL ?_; (case aP => exact rfl); (case aB => exact (by repeat ((with_reducible exact HB.out)))); (case aF => exact (fun _ _ => trivial)); (case aO => exact (by (with_reducible repeat (apply Kd.R_drew)); exact HO_810001.out)); (case aS => exact (below_size (by repeat ((with_reducible exact HB.out))))); (case aL => have := LMc12.out; omega); intro v812 w16 ho hb hg hat; rw [← Ny811.out] at ho; have n0_ := Aside0.mk (blk_grown (g := gb808) (o := .cells #[.int .i64 0, .slice none 0 0] 29 (0, 0)) (by (with_reducible repeat (refine blk_drew ?_)); exact BK808.out) hg (Kd.R_ne HO_810001.out BK808.out (by decide))); have n1_ := Aside0.mk (blk_grown (g := gb809) (o := .cells #[.int .i64 a0, u810001] 29 (0, 0)) (by (with_reducible repeat (refine blk_drew ?_)); exact BK809.out) hg (Kd.R_ne HO_810001.out BK809.out (by decide))); have n2_ := Aside0.mk (hb); have n3_ := Aside0.mk (ho); clear BK808; clear BK809; clear HB; clear HO_810001; have BK808 := n0_; have BK809 := n1_; have HB := n2_; have HO813 := n3_; clear n0_ n1_ n2_ n3_; clear ho hb hg hat; obtain ⟨Ao17, co17, eo17⟩ := Kd.R_slice HO813.out; subst eo17; have hcz18_0 : w16.cell? ⟨gb809, 0, none⟩ = some (.int .i64 a0) := (blk_cell BK809.out 0).trans rfl; have hcz18_1 : w16.cell? ⟨gb809, 1, none⟩ = some (u810001) := (blk_cell BK809.out 1).trans rfl; have hfz18_0 := blk_frozen BK809.out 0; have hfz18_1 := blk_frozen BK809.out 1))
       go_roundg k1
       case measure => have := HK1.out; omega
       case rel => exact ⟨(wrap64 (x11_1 + 1)), (y811), (.slice Ao17 y811.length co17), (by rfl), H', ⟨by have := HK1.out; omega⟩, ⟨by (with_reducible repeat (apply Kd.R_drew)); exact Kd.R_mono (Kd.R_far (p := ⟨gb809, 1, none⟩) (Kd.R_types HO813.out BK809.out (by decide)) (fun _ hk => hk.2) (.slice Ao17 y811.length co17)) (fun _ hk => trivial)⟩, ⟨by (with_reducible repeat (refine blk_drew ?_)); refine blk_far ?_ NB808_809.out _; (with_reducible repeat (refine blk_drew ?_)); exact BK808.out⟩, ⟨by (with_reducible repeat (refine blk_drew ?_)); refine blk_put (cs := #[.int .i64 a0, u810001]) ?_ 1 _ rfl; (with_reducible repeat (refine blk_drew ?_)); exact BK809.out⟩, ⟨by repeat ((with_reducible first | exact HB.out | refine below_set ?_ GE809.out))⟩⟩
      ·rw [if_neg c12] at H
       exact absurd H (by simp)
     ·replace c11 := Bool.eq_false_iff.mpr c11
      subst c11
      have H1 : (impl_those__PointSpace_1.l0 k1 ji4 (wrap64 (x11_1 + 1)) l1_0 l1_1 a0 x810001_1) = some (r1, r2) := by rw [if_neg (show ¬ (false = true) by decide)] at H; exact H
      clear H
      have H := H1
      clear H1
      have H' := Aside0.mk H
      clear H
      go_wp2_with ((go_at_call 84; (with_reducible refine (impl_PointSpace_1.calls k1 x11_1 A1_0 c1_0 l1_0 A1_1 c1_1 l1_1 false _ ?side1 ?side2 ?side3 ?side4 A10.out).mono ?_); (case side1 => repeat (exact (Kd.C_below HR1_0.out HB.out))); (case side2 => exact HC1_0.out); (case side3 => repeat (exact (Kd.C_below HR1_1.out HB.out))); (case side4 => exact HC1_1.out); rintro e w19 ⟨rfl, hb⟩; have n0_ := Aside0.mk (Kd.R_below (by (with_reducible repeat (apply Kd.R_drew)); exact HO_810001.out) hb); have n1_ := Aside0.mk (blk_below (g := gb808) (o := .cells #[.int .i64 0, .slice none 0 0] 29 (0, 0)) (by (with_reducible repeat (refine blk_drew ?_)); exact BK808.out) hb); have n2_ := Aside0.mk (blk_below (g := gb809) (o := .cells #[.int .i64 a0, u810001] 29 (0, 0)) (by (with_reducible repeat (refine blk_drew ?_)); exact BK809.out) hb); have n3_ := Aside0.mk (below_step (by repeat ((with_reducible exact HB.out))) hb); clear HO_810001; clear BK808; clear BK809; clear HB; have HO_810001 := n0_; have BK808 := n1_; have BK809 := n2_; have HB := n3_; clear n0_ n1_ n2_ n3_; (try clear hb); skip))
      go_roundg k1
      case measure => have := HK1.out; omega
      case rel => exact ⟨(wrap64 (x11_1 + 1)), (x810001_1), (u810001), (by rfl), H', ⟨by have := HK1.out; omega⟩, ⟨by (with_reducible repeat (apply Kd.R_drew)); exact HO_810001.out⟩, ⟨by (with_reducible repeat (refine blk_drew ?_)); exact BK808.out⟩, ⟨by (with_reducible repeat (refine blk_drew ?_)); exact BK809.out⟩, ⟨by repeat ((with_reducible exact HB.out))⟩⟩
    ·rw [if_neg c9] at H
     have c9b0 : decide (x11_1 < ji4) = false := decide_eq_false c9
     clear c9
     simp only [Option.some.injEq, Prod.mk.injEq] at H
     obtain ⟨rfl, rfl⟩ := H
     have hnb20 := NB809_808.out
     have hnc20 := NB808_809.out
     have hcz21_0 : wr.cell? ⟨gb809, 0, none⟩ = some (.int .i64 a0) := (blk_cell BK809.out 0).trans rfl
     have hcz21_1 : wr.cell? ⟨gb809, 1, none⟩ = some (u810001) := (blk_cell BK809.out 1).trans rfl
     have hfz21_0 := blk_frozen BK809.out 0
     have hfz21_1 := blk_frozen BK809.out 1
     have hcz22_0 : wr.cell? ⟨gb808, 0, none⟩ = some (.int .i64 0) := (blk_cell BK808.out 0).trans rfl
     have hcz22_1 : wr.cell? ⟨gb808, 1, none⟩ = some (.slice none 0 0) := (blk_cell BK808.out 1).trans rfl
     have hfz22_0 := blk_frozen BK808.out 0
     have hfz22_1 := blk_frozen BK808.out 1
     obtain ⟨Ao23, co23, eo23⟩ := Kd.R_slice HO_810001.out
     subst eo23
     go_wp2
     refine bodyPost_ret (results_cell_row rfl _ _ gb808 29 #[.int .i64 a0, .slice Ao23 x810001_1.length co23] (0, 0) _ rfl (by (with_reducible repeat (refine blk_drew ?_)); refine blk_put (cs := #[.int .i64 a0, .slice none 0 0]) ?_ 1 _ rfl; (with_reducible repeat (refine blk_drew ?_)); refine blk_put (cs := #[.int .i64 0, .slice none 0 0]) ?_ 0 _ rfl; (with_reducible repeat (refine blk_drew ?_)); exact BK808.out) Try.underlying29 rfl (by kernel_rfl)) rfl ?_
     exact ⟨_, by rfl, by (with_reducible repeat (apply Kd.R_drew)); exact Kd.R_mono (Kd.R_far (p := ⟨gb808, 1, none⟩) (Kd.R_far (p := ⟨gb808, 0, none⟩) (Kd.R_types HO_810001.out BK808.out (by decide)) (fun _ hk => hk.2) (.int .i64 a0)) (fun _ hk => hk.2) (.slice Ao23 x810001_1.length co23)) (fun _ hk => trivial), by repeat ((with_reducible first | exact HB.out | refine below_set ?_ GE808.out))⟩
 ·rw [if_neg c3] at H
  exact absurd H (by simp)

/-! ### impl_PointSpace: function 45 -/
def impl_PointSpace.f (k : Nat) (l0 : List (List Int)) : Option (Int × List Int × Bool) := (some (([l0] : List (List (List Int))) : List (List (List Int)))).bind fun y814 => (if 0 < (y814.length : Int) then ((impl_ArePoints.f k (rd_L4 y814 0)).bind fun t819 => (if t819 = true then ((some (([0] : List Int) : List Int)).bind fun y821 => (if 0 < (y821.length : Int) then ((some (y821.set (0 : Int).toNat ((rd_L4 y814 0).length : Int) : List Int)).bind fun y824 => ((impl_those__PointSpace_1.f k (rd y824 0) y824 y814).bind fun bt826 => (some (bt826.1, bt826.2, true)))) else (none))) else (some (0, ([] : List Int), false)))) else (none))
theorem impl_PointSpace.mono : ∀ a0 k, LeO (impl_PointSpace.f k a0) (impl_PointSpace.f (k + 1) a0) := by
 intro a0 k
 unfold impl_PointSpace.f
 repeat' first
   | (with_reducible exact impl_ArePoints.mono _ _)
   | (with_reducible exact impl_those__PointSpace_1.mono _ _ _ _)
   | (with_reducible exact LeO.refl _)
   | (with_reducible refine LeO.ite ?_ ?_)
   | (with_reducible refine LeO.bind ?_ (fun _ => ?_))
set_option maxHeartbeats 8000000 in
set_option maxRecDepth 100000 in
theorem impl_PointSpace.calls (k : Nat) (P0_ : Nat → Prop) (A0 : Option Addr) (c0 : Nat) (l0 : List (List Int)) (r1 : Int) (r2 : List Int) (r3 : Bool) (w : World) (hs0 : Kd.V (Kd.slice 3 (Kd.int .i64)) 22 w w.heap.size (fun k_ => P0_ k_) (.slice A0 l0.length c0) l0) (h : impl_PointSpace.f k l0 = some (r1, r2, r3)) :
  Calls Try.prog 45 #[.slice A0 l0.length c0] w fun e w' => ∃ v1_ : Value, e = .returned (.tuple #[.agg #[.int .i64 r1, v1_], .bool r3]) ∧ Kd.R (Kd.int .i64) 3 w' w.heap.size (fun k_ => (w.heap.size ≤ k_)) v1_ r2 ∧ Below w.heap.size w w' := by
 have hu29 := Try.underlying29
 have HO0 := Aside0.mk (show Kd.V (Kd.slice 3 (Kd.int .i64)) 22 w w.heap.size (fun k_ => (P0_ k_ ∨ w.heap.size ≤ k_)) (.slice A0 l0.length c0) l0 from Kd.V_mono hs0 (fun k_ hk => .inl hk))
 have HB := Aside0.mk (Below.refl w.heap.size w)
 have H : ((some (([l0] : List (List (List Int))) : List (List (List Int)))).bind fun y814 => (if 0 < (y814.length : Int) then ((impl_ArePoints.f k (rd_L4 y814 0)).bind fun t819 => (if t819 = true then ((some (([0] : List Int) : List Int)).bind fun y821 => (if 0 < (y821.length : Int) then ((some (y821.set (0 : Int).toNat ((rd_L4 y814 0).length : Int) : List Int)).bind fun y824 => ((impl_those__PointSpace_1.f k (rd y824 0) y824 y814).bind fun bt826 => (some (bt826.1, bt826.2, true)))) else (none))) else (some (0, ([] : List Int), false)))) else (none))) = some (r1, r2, r3) := h
 clear h
 obtain ⟨y814, hy814⟩ : ∃ y_ : List (List (List Int)), y_ = (([l0] : List (List (List Int)))) := ⟨_, rfl⟩
 replace H : (if 0 < (y814.length : Int) then ((impl_ArePoints.f k (rd_L4 y814 0)).bind fun t819 => (if t819 = true then ((some (([0] : List Int) : List Int)).bind fun y821 => (if 0 < (y821.length : Int) then ((some (y821.set (0 : Int).toNat ((rd_L4 y814 0).length : Int) : List Int)).bind fun y824 => ((impl_those__PointSpace_1.f k (rd y824 0) y824 y814).bind fun bt826 => (some (bt826.1, bt826.2, true)))) else (none))) else (some (0, ([] : List Int), false)))) else (none)) = some (r1, r2, r3) := by (have H2_ := (Option.bind_some _ _).symm.trans H; rw [hy814]; with_reducible exact H2_)
 have Ny814 := Aside0.mk hy814
 clear hy814
 by_cases c2 : 0 < (y814.length : Int)
 ·rw [if_pos c2] at H
  have c2b0 : decide (0 < (y814.length : Int)) = true := decide_eq_true c2
  have c2b1 : decide (0 < y814.length) = true := decide_eq_true (by omega)
  clear c2
  replace H := Option.bind_eq_some_iff.mp H
  obtain ⟨t819, A30, H⟩ := H
  replace H : (if t819 = true then ((some (([0] : List Int) : List Int)).bind fun y821 => (if 0 < (y821.length : Int) then ((some (y821.set (0 : Int).toNat ((rd_L4 y814 0).length : Int) : List Int)).bind fun y824 => ((impl_those__PointSpace_1.f k (rd y824 0) y824 y814).bind fun bt826 => (some (bt826.1, bt826.2, true)))) else (none))) else (some (0, ([] : List Int), false))) = some (r1, r2, r3) := H
  have A3 := Aside0.mk A30
  clear A30
  by_cases c4 : t819 = true
  ·subst c4
   have H1 : ((some (([0] : List Int) : List Int)).bind fun y821 => (if 0 < (y821.length : Int) then ((some (y821.set (0 : Int).toNat ((rd_L4 y814 0).length : Int) : List Int)).bind fun y824 => ((impl_those__PointSpace_1.f k (rd y824 0) y824 y814).bind fun bt826 => (some (bt826.1, bt826.2, true)))) else (none))) = some (r1, r2, r3) := by rw [if_pos rfl] at H; exact H
   clear H
   have H := H1
   clear H1
   obtain ⟨y821, hy821⟩ : ∃ y_ : List Int, y_ = (([0] : List Int)) := ⟨_, rfl⟩
   replace H : (if 0 < (y821.length : Int) then ((some (y821.set (0 : Int).toNat ((rd_L4 y814 0).length : Int) : List Int)).bind fun y824 => ((impl_those__PointSpace_1.f k (rd y824 0) y824 y814).bind fun bt826 => (some (bt826.1, bt826.2, true)))) else (none)) = some (r1, r2, r3) := by (have H2_ := (Option.bind_some _ _).symm.trans H; rw [hy821]; with_reducible exact H2_)
   have Ny821 := Aside0.mk hy821
   clear hy821
   by_cases c5 : 0 < (y821.length : Int)
   ·rw [if_pos c5] at H
    have c5b0 : decide (0 < (y821.length : Int)) = true := decide_eq_true c5
    have c5b1 : decide (0 < y821.length) = true := decide_eq_true (by omega)
    clear c5
    obtain ⟨y824, hy824⟩ : ∃ y_ : List Int, y_ = (y821.set (0 : Int).toNat ((rd_L4 y814 0).length : Int)) := ⟨_, rfl⟩
    replace H : ((impl_those__PointSpace_1.f k (rd y824 0) y824 y814).bind fun bt826 => (some (bt826.1, bt826.2, true))) = some (r1, r2, r3) := by (have H2_ := (Option.bind_some _ _).symm.trans H; rw [hy824]; with_reducible exact H2_)
    have Ny824 := Aside0.mk hy824
    clear hy824
    replace H := Option.bind_eq_some_iff.mp H
    obtain ⟨⟨t826, t827⟩, A70, H⟩ := H
    replace H : (some (t826, t827, true)) = some (r1, r2, r3) := H
    have A7 := Aside0.mk A70
    clear A70
    simp only [Option.some.injEq, Prod.mk.injEq] at H
    obtain ⟨rfl, rfl, rfl⟩ := H
    have hmf_ : ∀ (fn : Fn) (first cap : Array Value) (w : World), (Instr.makeFunc fn first cap).run Try.prog w = .ok (.func fn first cap) w := fun _ _ _ _ => rfl
    go_enter Try.func45, Try.ntmps45
    go_wp2_with (first | ((with_reducible refine gate_dst (N := 1) rfl ?_); refine box_N (Kd.slice 22 (Kd.slice 3 (Kd.int .i64))) _ 52 ?hg (N' := 1) ?hd (xs := ([l0] : List (List (List Int)))) (inner := [.slice A0 l0.length c0]) (ok := (fun k_ => (P0_ k_ ∨ w.heap.size ≤ k_))) (okp := (fun k_ => (P0_ k_ ∨ w.heap.size ≤ k_))) ?hr ?hp (fun _ hk => hk) ((show ∀ k_, w.heap.size ≤ k_ → (fun k_ => (P0_ k_ ∨ w.heap.size ≤ k_)) k_ from fun k_ hk => (.inr (Nat.le_trans (below_size (by repeat ((with_reducible exact HB.out)))) hk))) _ (Nat.le_refl _)) (Below.refl _ _) (Nat.le_refl _) (by simp) ?_; (case hd => rfl); (case hg => rfl); (case hr => (go_simp; done)); (case hp => exact (Reps.one (show Kd.FK (Kd.slice 22 (Kd.slice 3 (Kd.int .i64))) _ _ l0 [.slice A0 l0.length c0] from (Kd.FK_slice_mk (Kd.V_reads' (Kd.V_mono (ok' := (fun k_ => (P0_ k_ ∨ w.heap.size ≤ k_))) (HO0.out) (fun k_ hk => hk))).2.1 (Kd.V_F (Kd.V_mono (ok' := (fun k_ => (P0_ k_ ∨ w.heap.size ≤ k_))) (HO0.out) (fun k_ hk => hk))))) (Reps.none _ _))); intro v815 w8 ho9 hb hg_ hnew_; clear hg_ hnew_; (rw [← Ny814.out] at ho9); have n0_ := Aside0.mk (Kd.V_elder' (by (with_reducible repeat (apply Kd.V_drew)); exact HO0.out) (Kd.N_base ho9) hb); have n1_ := Aside0.mk (Kd.N_lower ho9 (below_size (by repeat ((with_reducible exact HB.out))))); have n2_ := Aside0.mk (below_step (by repeat ((with_reducible exact HB.out))) hb); clear HO0; clear HB; have HO0 := n0_; have HO816 := n1_; have HB := n2_; clear n0_ n1_ n2_; clear hb ho9) | ((with_reducible refine gate_dst (N := 2) rfl ?_); refine box_event ?hg (N := 2) ?hd (cs := #[.int .i64 0, .slice none 0 0]) (t := 29) ?hr ?_; (case hd => rfl); (case hg => rfl); (case hr => (go_simp; done)); intro gb817 hg w10 hbox hb; have n0_ := Aside0.mk (Kd.V_below (Kd.V_elderB (by (with_reducible repeat (apply Kd.V_drew)); exact HO0.out) gb817 (Nat.le_of_eq hg.symm)) hb); have n1_ := Aside0.mk (Kd.N_below (Kd.N_elderB (by (with_reducible repeat (apply Kd.N_drew)); exact HO816.out) gb817 (Nat.le_of_eq hg.symm)) hb); have n2_ := Aside0.mk (below_step (by repeat ((with_reducible exact HB.out))) hb); have n3_ := Aside0.mk (hbox); have n4_ := Aside0.mk ((by rw [hg]; exact (below_size (by repeat ((with_reducible exact HB.out)))) : w.heap.size ≤ gb817)); have n5_ := Aside0.mk ((by rw [hg]; exact (below_size (by repeat ((with_reducible exact HB.out)))) : w.heap.size ≤ gb817)); clear HO0; clear HO816; clear HB; have HO0 := n0_; have HO816 := n1_; have HB := n2_; have BK817 := n3_; have GW817 := n4_; have GE817 := n5_; clear n0_ n1_ n2_ n3_ n4_ n5_; clear hb hbox hg; obtain ⟨Ao11, co11, eo11⟩ := Kd.N_slice HO816.out; subst eo11; (try simp only [asP_slice]); have p818 : 0 ≤ (0 : Int) := (by omega); have q818 : 0 < (y814.length : Int) := of_decide_eq_true (by (with_reducible assumption)); obtain ⟨ad818, A818_0, c818_0, e818, hx818_0, hl818_0, hi818_0⟩ := at_L4 (Kd.N_reads' HO816.out).2.2 0 p818 q818; cases e818; obtain ⟨ce818, hce818, hMe818, hcc818⟩ := Kd.N_get HO816.out [] 0 p818 (by exact q818); obtain ⟨ua818_0, uc818_0, rfl, ul818_0, ge818_0⟩ := Kd.FK_slice_open hMe818; have hv818_0 := hcc818 0 _ rfl; rw [Nat.add_zero, show ((Kd.slice 22 (Kd.slice 3 (Kd.int .i64)))).sz = 1 from rfl, Nat.mul_one] at hv818_0; replace hv818_0 := Option.some.inj (hv818_0.symm.trans hx818_0); injection hv818_0 with hva_ hvn_ hvc_; rw [hva_] at ge818_0; rw [hvc_] at ul818_0; have HL818_0 := Aside0.mk (show Kd.V (Kd.slice 3 (Kd.int .i64)) 22 _ w.heap.size _ _ (rd_L4 y814 0) from Kd.V_mk ul818_0 ge818_0); clear hva_ hvn_ hvc_ ge818_0 ul818_0; clear hcc818 hce818; have qi818 : (0 < y814.length) = True := eq_true (by omega); (try rw [show ((0 : Int)).toNat = 0 from rfl] at hx818_0); (try rw [Addr.add_zero'] at hx818_0); have HR818_0 := Aside0.mk hi818_0; have HC818_0 := Aside0.mk hl818_0; clear hi818_0 hl818_0; replace p818 := eq_true p818; replace q818 := eq_true q818) | ((with_reducible refine gate_callee (f := 83) rfl ?_); refine goesL_ (some 6) rfl rfl Try.func83 (by kernel_rfl) rfl #[.slice A818_0 (rd_L4 y814 0).length c818_0] rfl (by (try simp only [List.map_toArray, List.map_cons, List.map_nil]); rfl) ?_; (with_reducible refine (impl_ArePoints.calls k _ _ (rd_L4 y814 0) true _ ?side1 ?side2 A3.out).mono ?_); (case side1 => repeat (exact (by repeat ((with_reducible exact HR818_0.out))))); (case side2 => exact HC818_0.out); rintro e w' ⟨rfl, ⟨nd, rfl⟩⟩; refine ⟨_, rfl, ?_⟩; (try (rw [drewN_self w10]; generalize hq_ : World.drewN w10 _ = w10; have n0_ : Aside0 (Kd.V (Kd.slice 3 (Kd.int .i64)) 22 w10 w.heap.size (fun k_ => (P0_ k_ ∨ w.heap.size ≤ k_) ∧ some k_ ≠ (.slice (some ad818) y814.length co11 : Value).ownBlock ∧ k_ ≠ gb817) (.slice A818_0 (rd_L4 y814 0).length c818_0) (rd_L4 y814 0)) := ⟨by rw [← hq_]; exact (by (with_reducible repeat (apply Kd.V_drewN)); exact Kd.V_mono HL818_0.out (fun _ hk => ⟨hk.1.1, ⟨hk.2, hk.1.2⟩⟩))⟩; have n1_ : Aside0 (Kd.V (Kd.slice 3 (Kd.int .i64)) 22 w10 w.heap.size (fun k_ => (P0_ k_ ∨ w.heap.size ≤ k_) ∧ some k_ ≠ (.slice (some ad818) y814.length co11 : Value).ownBlock ∧ k_ ≠ gb817) (.slice A0 l0.length c0) l0) := ⟨by rw [← hq_]; exact (by (with_reducible repeat (apply Kd.V_drewN)); exact Kd.V_mono HO0.out (fun _ hk => ⟨hk.1.1, ⟨hk.1.2, hk.2⟩⟩))⟩; have n2_ : Aside0 (Kd.N (Kd.slice 22 (Kd.slice 3 (Kd.int .i64))) 52 w10 w.heap.size (fun k_ => (P0_ k_ ∨ w.heap.size ≤ k_) ∧ k_ ≠ gb817) (.slice (some ad818) y814.length co11) y814) := ⟨by rw [← hq_]; exact (by (with_reducible repeat (apply Kd.N_drewN)); exact HO816.out)⟩; have n3_ : Aside0 (w10.heap[gb817]? = some (.cells #[.int .i64 0, .slice none 0 0] 29 (0, 0))) := ⟨by rw [← hq_]; exact (by (with_reducible repeat (refine blk_drewN ?_ _)); exact BK817.out)⟩; have n4_ : Aside0 (Below w.heap.size w w10) := ⟨by rw [← hq_]; exact (by repeat ((with_reducible first | exact HB.out | apply pw_below_drewN)))⟩; have n5_ : Aside0 (Kd.C (Kd.slice 3 (Kd.int .i64)) w10 A818_0 (rd_L4 y814 0).length (rd_L4 y814 0)) := ⟨by rw [← hq_]; exact (by repeat (first | (with_reducible exact HR818_0.out) | (with_reducible refine Kd.C_drewN ?_ _)))⟩; clear HL818_0 HO0 HO816 BK817 HB HR818_0 hq_; have HL818_0 := n0_; have HO0 := n1_; have HO816 := n2_; have BK817 := n3_; have HB := n4_; have HR818_0 := n5_; clear n0_ n1_ n2_ n3_ n4_ n5_)); have p820 : 0 ≤ (0 : Int) := (by omega); have q820 : 0 < (y814.length : Int) := of_decide_eq_true (by (with_reducible assumption)); obtain ⟨ad820, A820_0, c820_0, e820, hx820_0, hl820_0, hi820_0⟩ := at_L4 (Kd.N_reads' HO816.out).2.2 0 p820 q820; obtain rfl : ad818 = ad820 := (by injection e820); obtain ⟨ce820, hce820, hMe820, hcc820⟩ := Kd.N_get HO816.out [] 0 p820 (by exact q820); obtain ⟨ua820_0, uc820_0, rfl, ul820_0, ge820_0⟩ := Kd.FK_slice_open hMe820; have hv820_0 := hcc820 0 _ rfl; rw [Nat.add_zero, show ((Kd.slice 22 (Kd.slice 3 (Kd.int .i64)))).sz = 1 from rfl, Nat.mul_one] at hv820_0; replace hv820_0 := Option.some.inj (hv820_0.symm.trans hx820_0); injection hv820_0 with hva_ hvn_ hvc_; rw [hva_] at ge820_0; rw [hvc_] at ul820_0; have HL820_0 := Aside0.mk (show Kd.V (Kd.slice 3 (Kd.int .i64)) 22 _ w.heap.size _ _ (rd_L4 y814 0) from Kd.V_mk ul820_0 ge820_0); clear hva_ hvn_ hvc_ ge820_0 ul820_0; clear hcc820 hce820; have qi820 : (0 < y814.length) = True := eq_true (by omega); (try rw [show ((0 : Int)).toNat = 0 from rfl] at hx820_0); (try rw [Addr.add_zero'] at hx820_0); have HR820_0 := Aside0.mk hi820_0; have HC820_0 := Aside0.mk hl820_0; clear hi820_0 hl820_0; replace p820 := eq_true p820; replace q820 := eq_true q820) | ((with_reducible refine gate_dst (N := 4) rfl ?_); refine box_R (Kd.int .i64) _ 3 ?hg (N := 4) ?hd (xs := ([0] : List Int)) (inner := [.int .i64 0]) (ok := fun _ => True) (okp := fun _ => True) ?hr ?hp (fun _ hk => hk) trivial (Below.refl _ _) (Nat.le_refl _) (by simp) ?_; (case hd => rfl); (case hg => rfl); (case hr => (go_simp; done)); (case hp => exact (Reps.one (show Kd.M (Kd.int .i64) _ _ _ 0 [.int .i64 0] from rfl) (Reps.none _ _))); intro v822 w12 ho13 hb hg_ hnew_; clear hg_ hnew_; (rw [← Ny821.out] at ho13); have n0_ := Aside0.mk (Kd.V_elder' (by (with_reducible repeat (apply Kd.V_drew)); exact HO0.out) (Kd.R_base ho13) hb); have n1_ := Aside0.mk (Kd.N_elder' (by (with_reducible repeat (apply Kd.N_drew)); exact HO816.out) (Kd.R_base ho13) hb); have n2_ := Aside0.mk (Kd.V_elder' (by (with_reducible repeat (apply Kd.V_drew)); exact HL818_0.out) (Kd.R_base ho13) hb); have n3_ := Aside0.mk (Kd.V_elder' (by (with_reducible repeat (apply Kd.V_drew)); exact HL820_0.out) (Kd.R_base ho13) hb); have n4_ := Aside0.mk (Kd.R_lower (Kd.R_newM (M := fun k_ => (w.heap.size ≤ k_)) ho13 (below_size (by repeat ((with_reducible exact HB.out)))) (fun k_ h_ => h_)) (below_size (by repeat ((with_reducible exact HB.out))))); have n5_ := Aside0.mk (blk_below (g := gb817) (o := .cells #[.int .i64 0, .slice none 0 0] 29 (0, 0)) (by (with_reducible repeat (refine blk_drew ?_)); exact BK817.out) hb); have n6_ := Aside0.mk (Kd.C_below (by repeat ((with_reducible exact HR818_0.out))) hb); have n7_ := Aside0.mk (Kd.C_below (by repeat ((with_reducible exact HR820_0.out))) hb); have n8_ := Aside0.mk (below_step (by repeat ((with_reducible exact HB.out))) hb); clear HO0; clear HO816; clear HL818_0; clear HL820_0; clear BK817; clear HR818_0; clear HR820_0; clear HB; have HO0 := n0_; have HO816 := n1_; have HL818_0 := n2_; have HL820_0 := n3_; have HO823 := n4_; have BK817 := n5_; have HR818_0 := n6_; have HR820_0 := n7_; have HB := n8_; clear n0_ n1_ n2_ n3_ n4_ n5_ n6_ n7_ n8_; clear hb ho13; have p6 : 0 ≤ (0 : Int) := (by omega); have q6 : (0 : Int) < ((y821.length : Int) : Int) := of_decide_eq_true (by (with_reducible assumption)); have qi6 : (0 < y821.length) = True := eq_true (by omega); obtain ⟨go6, co6, eo6, gb6, gl6, cl6, HG6⟩ := Kd.R_form HO823.out (by omega); (cases eo6); have GB6 := Aside0.mk gb6; have GG6 := Aside0.mk HG6; clear gb6 gl6 HG6; (try simp only [asP_slice]); obtain ⟨hx6_0, hf6_0⟩ := Kd.R_celln 0 HO823.out (0 : Int) p6 q6; (try rw [show ((0 : Int)).toNat = 0 from rfl] at hx6_0); (try rw [show ((0 : Int)).toNat = 0 from rfl] at hf6_0); replace p6 := eq_true p6; replace q6 := eq_true q6; have n_ := Aside0.mk (Kd.R_mono (ok' := (fun k_ => (w.heap.size ≤ k_))) HO823.out (fun k_ hk => hk.1)); clear HO823; have HO823 := n_; clear n_; obtain ⟨hy14_, hz14_⟩ := Kd.R_celln 0 HO823.out (0 : Int) (by omega) (of_decide_eq_true (by (with_reducible assumption))); (try rw [show ((0 : Int)).toNat = 0 from rfl] at hy14_); (try rw [show ((0 : Int)).toNat = 0 from rfl] at hz14_); have HP14 := Kd.R_putg HO823.out (0 : Int) ((rd_L4 y814 0).length : Int)) | ((with_reducible refine gate_store (t := 3) (p := 4) rfl ?_); refine store_event (t := 3) (p := 4) (v := ?vo_w15) (w1 := (w12.setCell ⟨go6, (0 : Int).toNat, none⟩ (.int .i64 ((rd_L4 y814 0).length : Int)))) ?hg ?ho ?hn ?hr ?_; (case ho => rfl); (case hg => rfl); (case hn => rfl); (case hr => (go_simp; done)); intro w15 hw; have hg : w12.grownBy w15 (some go6) := (by rw [hw]; exact HP14.2); have hp_ : Kd.R (Kd.int .i64) 3 w15 w.heap.size (fun k_ => (w.heap.size ≤ k_)) (.slice (some ⟨go6, 0, none⟩) y821.length co6) y824 := (by rw [hw, Ny824.out]; exact HP14.1); clear HP14; have n0_ := Aside0.mk (Kd.V_afterv (v := (.slice (some ⟨go6, 0, none⟩) y821.length co6)) (v1 := (.slice (some ⟨go6, 0, none⟩) y821.length co6)) (ok := (fun k_ => (P0_ k_ ∨ w.heap.size ≤ k_) ∧ some k_ ≠ (.slice (some ad818) y814.length co11 : Value).ownBlock ∧ k_ ≠ gb817)) (by (with_reducible repeat (apply Kd.V_drew)); exact HO0.out) hg (.inl rfl)); have n1_ := Aside0.mk (Kd.N_afterv (v := (.slice (some ⟨go6, 0, none⟩) y821.length co6)) (v1 := (.slice (some ⟨go6, 0, none⟩) y821.length co6)) (ok := (fun k_ => (P0_ k_ ∨ w.heap.size ≤ k_) ∧ k_ ≠ gb817)) (by (with_reducible repeat (apply Kd.N_drew)); exact HO816.out) hg (.inl rfl)); have n2_ := Aside0.mk (blk_grown (g := gb817) (o := .cells #[.int .i64 0, .slice none 0 0] 29 (0, 0)) (by (with_reducible repeat (refine blk_drew ?_)); exact BK817.out) hg (Kd.R_ne HO823.out BK817.out (by decide))); have n3_ := Aside0.mk (Kd.V_afterv (v := (.slice (some ⟨go6, 0, none⟩) y821.length co6)) (v1 := (.slice (some ⟨go6, 0, none⟩) y821.length co6)) (ok := (fun k_ => (P0_ k_ ∨ w.heap.size ≤ k_) ∧ some k_ ≠ (.slice (some ad818) y814.length co11 : Value).ownBlock ∧ k_ ≠ gb817)) (by (with_reducible repeat (apply Kd.V_drew)); exact HL818_0.out) hg (.inl rfl)); have n4_ := Aside0.mk (Kd.V_afterv (v := (.slice (some ⟨go6, 0, none⟩) y821.length co6)) (v1 := (.slice (some ⟨go6, 0, none⟩) y821.length co6)) (ok := (fun k_ => (P0_ k_ ∨ w.heap.size ≤ k_) ∧ some k_ ≠ (.slice (some ad818) y814.length co11 : Value).ownBlock ∧ k_ ≠ gb817)) (by (with_reducible repeat (apply Kd.V_drew)); exact Kd.V_mono HL820_0.out (fun _ hk => ⟨⟨hk.1.1.1, ⟨hk.1.2, hk.1.1.2⟩⟩, hk.2⟩)) hg (.inl rfl)); have n5_ := Aside0.mk (hp_); have n6_ := Aside0.mk ((by rw [hw]; exact below_set (HB.out) GB6.out : Below w.heap.size w w15)); clear HO0; clear HO816; clear BK817; clear HL818_0; clear HL820_0; clear HO823; clear HB; have HO0 := n0_; have HO816 := n1_; have BK817 := n2_; have HL818_0 := n3_; have HL820_0 := n4_; have HO823 := n5_; have HB := n6_; clear n0_ n1_ n2_ n3_ n4_ n5_ n6_; clear hg hw hp_; have p825 : 0 ≤ (0 : Int) := (by omega); have q825 : 0 < (y824.length : Int) := (by have h_ : (0 : Int) < ((y821.length : Int) : Int) := of_decide_eq_true (by (with_reducible assumption)); (have e_ := (Kd.R_reads' HO823.out).1; omega)); have ql825 : ((0 : Int) < ((y821.length : Int) : Int)) = True := eq_true (of_decide_eq_true (by (with_reducible assumption))); (try have qn825 : (0 < y821.length) = True := eq_true (by have h_ : (0 : Int) < ((y821.length : Int) : Int) := of_decide_eq_true (by (with_reducible assumption)); omega)); obtain ⟨ad825, e825, hx825_0⟩ := Kd.at_int (Kd.R_reads' HO823.out).2.2 0 p825 q825; obtain rfl : (⟨go6, 0, none⟩ : Addr) = ad825 := (by injection e825); (simp only [add_plain] at hx825_0); have qi825 : (0 < y824.length) = True := eq_true (by omega); (try rw [show ((0 : Int)).toNat = 0 from rfl] at hx825_0); replace p825 := eq_true p825; replace q825 := eq_true q825) | ((with_reducible refine gate_callee (f := 56) rfl ?_); refine goesL_ (some 13) rfl rfl Try.func56 (by kernel_rfl) rfl #[.int .i64 (rd y824 0), .func (.func 84) #[] #[.pointer (some ⟨go6, 0, none⟩), .pointer (some ad818)]] rfl (by (try simp only [List.map_toArray, List.map_cons, List.map_nil]); rfl) ?_; (refine (impl_those__PointSpace_1.calls k (rd y824 0) (some ⟨go6, 0, none⟩) co6 y824 (some ad818) co11 y814 t826 t827 _ ?side1 ?side2 ?side3 ?side4 A7.out).mono ?_); (case side1 => repeat (exact (Kd.R_reads' HO823.out).2.2)); (case side2 => rw [show y824.length = y821.length from (Kd.R_reads' HO823.out).1.symm]; exact (Kd.R_reads' HO823.out).2.1); (case side3 => repeat (exact (Kd.N_reads' HO816.out).2.2)); (case side4 => exact (Kd.N_reads' HO816.out).2.1); rintro e w16 ⟨v828, rfl, ho0, hb⟩; refine ⟨_, rfl, ?_⟩; have n0_ := Aside0.mk (Kd.V_elder' (by (with_reducible repeat (apply Kd.V_drew)); exact HO0.out) (Kd.R_base ho0) hb); have n1_ := Aside0.mk (Kd.N_elder' (by (with_reducible repeat (apply Kd.N_drew)); exact HO816.out) (Kd.R_base ho0) hb); have n2_ := Aside0.mk (Kd.V_elder' (by (with_reducible repeat (apply Kd.V_drew)); exact HL818_0.out) (Kd.R_base ho0) hb); have n3_ := Aside0.mk (Kd.V_elder' (by (with_reducible repeat (apply Kd.V_drew)); exact HL820_0.out) (Kd.R_base ho0) hb); have n4_ := Aside0.mk (Kd.R_below (by (with_reducible repeat (apply Kd.R_drew)); exact HO823.out) hb); have n5_ := Aside0.mk (Kd.R_lower (Kd.R_newM (M := fun k_ => (w.heap.size ≤ k_)) ho0 (below_size (by repeat ((with_reducible exact HB.out)))) (fun k_ h_ => h_)) (below_size (by repeat ((with_reducible exact HB.out))))); have n6_ := Aside0.mk (blk_below (g := gb817) (o := .cells #[.int .i64 0, .slice none 0 0] 29 (0, 0)) (by (with_reducible repeat (refine blk_drew ?_)); exact BK817.out) hb); have n7_ := Aside0.mk (below_step (by repeat ((with_reducible exact HB.out))) hb); clear HO0; clear HO816; clear HL818_0; clear HL820_0; clear HO823; clear BK817; clear HB; have HO0 := n0_; have HO816 := n1_; have HL818_0 := n2_; have HL820_0 := n3_; have HO823 := n4_; have HO829 := n5_; have BK817 := n6_; have HB := n7_; clear n0_ n1_ n2_ n3_ n4_ n5_ n6_ n7_; (try clear hb); (try clear ho0); have hcz17_0 : w16.cell? ⟨gb817, 0, none⟩ = some (.int .i64 0) := (blk_cell BK817.out 0).trans rfl; have hcz17_1 : w16.cell? ⟨gb817, 1, none⟩ = some (.slice none 0 0) := (blk_cell BK817.out 1).trans rfl; have hfz17_0 := blk_frozen BK817.out 0; have hfz17_1 := blk_frozen BK817.out 1; obtain ⟨Ao18, co18, eo18⟩ := Kd.R_slice HO829.out; subst eo18))
    refine bodyPost_ret (results_ct rfl _ _ gb817 29 #[.int .i64 t826, .slice Ao18 t827.length co18] (0, 0) _ rfl (by (with_reducible repeat (refine blk_drew ?_)); refine blk_put (cs := #[.int .i64 t826, .slice none 0 0]) ?_ 1 _ rfl; (with_reducible repeat (refine blk_drew ?_)); refine blk_put (cs := #[.int .i64 0, .slice none 0 0]) ?_ 0 _ rfl; (with_reducible repeat (refine blk_drew ?_)); exact BK817.out) Try.underlying29 rfl (by kernel_rfl)) rfl ?_
    exact ⟨_, by rfl, by (with_reducible repeat (apply Kd.R_drew)); exact Kd.R_mono (Kd.R_far (p := ⟨gb817, 1, none⟩) (Kd.R_far (p := ⟨gb817, 0, none⟩) (Kd.R_types HO829.out BK817.out (by decide)) (fun _ hk => hk.2) (.int .i64 t826)) (fun _ hk => hk.2) (.slice Ao18 t827.length co18)) (fun _ hk => hk.1.1), by repeat ((with_reducible first | exact HB.out | refine below_set ?_ GE817.out))⟩
   ·rw [if_neg c5] at H
    exact absurd H (by simp)
  ·replace c4 := Bool.eq_false_iff.mpr c4
   subst c4
   have H1 : (some (0, ([] : List Int), false)) = some (r1, r2, r3) := by rw [if_neg (show ¬ (false = true) by decide)] at H; exact H
   clear H
   have H := H1
   clear H1
   simp only [Option.some.injEq, Prod.mk.injEq] at H
   obtain ⟨rfl, rfl, rfl⟩ := H
   have hmf_ : ∀ (fn : Fn) (first cap : Array Value) (w : World), (Instr.makeFunc fn first cap).run Try.prog w = .ok (.func fn first cap) w := fun _ _ _ _ => rfl
   go_enter Try.func45, Try.ntmps45
   go_wp2_with (first | ((with_reducible refine gate_dst (N := 1) rfl ?_); refine box_N (Kd.slice 22 (Kd.slice 3 (Kd.int .i64))) _ 52 ?hg (N' := 1) ?hd (xs := ([l0] : List (List (List Int)))) (inner := [.slice A0 l0.length c0]) (ok := (fun k_ => (P0_ k_ ∨ w.heap.size ≤ k_))) (okp := (fun k_ => (P0_ k_ ∨ w.heap.size ≤ k_))) ?hr ?hp (fun _ hk => hk) ((show ∀ k_, w.heap.size ≤ k_ → (fun k_ => (P0_ k_ ∨ w.heap.size ≤ k_)) k_ from fun k_ hk => (.inr (Nat.le_trans (below_size (by repeat ((with_reducible exact HB.out)))) hk))) _ (Nat.le_refl _)) (Below.refl _ _) (Nat.le_refl _) (by simp) ?_; (case hd => rfl); (case hg => rfl); (case hr => (go_simp; done)); (case hp => exact (Reps.one (show Kd.FK (Kd.slice 22 (Kd.slice 3 (Kd.int .i64))) _ _ l0 [.slice A0 l0.length c0] from (Kd.FK_slice_mk (Kd.V_reads' (Kd.V_mono (ok' := (fun k_ => (P0_ k_ ∨ w.heap.size ≤ k_))) (HO0.out) (fun k_ hk => hk))).2.1 (Kd.V_F (Kd.V_mono (ok' := (fun k_ => (P0_ k_ ∨ w.heap.size ≤ k_))) (HO0.out) (fun k_ hk => hk))))) (Reps.none _ _))); intro v815 w19 ho20 hb hg_ hnew_; clear hg_ hnew_; (rw [← Ny814.out] at ho20); have n0_ := Aside0.mk (Kd.V_elder' (by (with_reducible repeat (apply Kd.V_drew)); exact HO0.out) (Kd.N_base ho20) hb); have n1_ := Aside0.mk (Kd.N_lower ho20 (below_size (by repeat ((with_reducible exact HB.out))))); have n2_ := Aside0.mk (below_step (by repeat ((with_reducible exact HB.out))) hb); clear HO0; clear HB; have HO0 := n0_; have HO816 := n1_; have HB := n2_; clear n0_ n1_ n2_; clear hb ho20) | ((with_reducible refine gate_dst (N := 2) rfl ?_); refine box_event ?hg (N := 2) ?hd (cs := #[.int .i64 0, .slice none 0 0]) (t := 29) ?hr ?_; (case hd => rfl); (case hg => rfl); (case hr => (go_simp; done)); intro gb817 hg w21 hbox hb; have n0_ := Aside0.mk (Kd.V_below (Kd.V_elderB (by (with_reducible repeat (apply Kd.V_drew)); exact HO0.out) gb817 (Nat.le_of_eq hg.symm)) hb); have n1_ := Aside0.mk (Kd.N_below (Kd.N_elderB (by (with_reducible repeat (apply Kd.N_drew)); exact HO816.out) gb817 (Nat.le_of_eq hg.symm)) hb); have n2_ := Aside0.mk (below_step (by repeat ((with_reducible exact HB.out))) hb); have n3_ := Aside0.mk (hbox); have n4_ := Aside0.mk ((by rw [hg]; exact (below_size (by repeat ((with_reducible exact HB.out)))) : w.heap.size ≤ gb817)); have n5_ := Aside0.mk ((by rw [hg]; exact (below_size (by repeat ((with_reducible exact HB.out)))) : w.heap.size ≤ gb817)); clear HO0; clear HO816; clear HB; have HO0 := n0_; have HO816 := n1_; have HB := n2_; have BK817 := n3_; have GW817 := n4_; have GE817 := n5_; clear n0_ n1_ n2_ n3_ n4_ n5_; clear hb hbox hg; obtain ⟨Ao22, co22, eo22⟩ := Kd.N_slice HO816.out; subst eo22; (try simp only [asP_slice]); have p818 : 0 ≤ (0 : Int) := (by omega); have q818 : 0 < (y814.length : Int) := of_decide_eq_true (by (with_reducible assumption)); obtain ⟨ad818, A818_0, c818_0, e818, hx818_0, hl818_0, hi818_0⟩ := at_L4 (Kd.N_reads' HO816.out).2.2 0 p818 q818; cases e818; obtain ⟨ce818, hce818, hMe818, hcc818⟩ := Kd.N_get HO816.out [] 0 p818 (by exact q818); obtain ⟨ua818_0, uc818_0, rfl, ul818_0, ge818_0⟩ := Kd.FK_slice_open hMe818; have hv818_0 := hcc818 0 _ rfl; rw [Nat.add_zero, show ((Kd.slice 22 (Kd.slice 3 (Kd.int .i64)))).sz = 1 from rfl, Nat.mul_one] at hv818_0; replace hv818_0 := Option.some.inj (hv818_0.symm.trans hx818_0); injection hv818_0 with hva_ hvn_ hvc_; rw [hva_] at ge818_0; rw [hvc_] at ul818_0; have HL818_0 := Aside0.mk (show Kd.V (Kd.slice 3 (Kd.int .i64)) 22 _ w.heap.size _ _ (rd_L4 y814 0) from Kd.V_mk ul818_0 ge818_0); clear hva_ hvn_ hvc_ ge818_0 ul818_0; clear hcc818 hce818; have qi818 : (0 < y814.length) = True := eq_true (by omega); (try rw [show ((0 : Int)).toNat = 0 from rfl] at hx818_0); (try rw [Addr.add_zero'] at hx818_0); have HR818_0 := Aside0.mk hi818_0; have HC818_0 := Aside0.mk hl818_0; clear hi818_0 hl818_0; replace p818 := eq_true p818; replace q818 := eq_true q818) | ((with_reducible refine gate_callee (f := 83) rfl ?_); refine goesL_ (some 6) rfl rfl Try.func83 (by kernel_rfl) rfl #[.slice A818_0 (rd_L4 y814 0).length c818_0] rfl (by (try simp only [List.map_toArray, List.map_cons, List.map_nil]); rfl) ?_; (with_reducible refine (impl_ArePoints.calls k _ _ (rd_L4 y814 0) false _ ?side1 ?side2 A3.out).mono ?_); (case side1 => repeat (exact (by repeat ((with_reducible exact HR818_0.out))))); (case side2 => exact HC818_0.out); rintro e w' ⟨rfl, ⟨nd, rfl⟩⟩; refine ⟨_, rfl, ?_⟩; (try (rw [drewN_self w21]; generalize hq_ : World.drewN w21 _ = w21; have n0_ : Aside0 (Kd.V (Kd.slice 3 (Kd.int .i64)) 22 w21 w.heap.size (fun k_ => (P0_ k_ ∨ w.heap.size ≤ k_) ∧ some k_ ≠ (.slice (some ad818) y814.length co22 : Value).ownBlock ∧ k_ ≠ gb817) (.slice A818_0 (rd_L4 y814 0).length c818_0) (rd_L4 y814 0)) := ⟨by rw [← hq_]; exact (by (with_reducible repeat (apply Kd.V_drewN)); exact Kd.V_mono HL818_0.out (fun _ hk => ⟨hk.1.1, ⟨hk.2, hk.1.2⟩⟩))⟩; have n1_ : Aside0 (Kd.V (Kd.slice 3 (Kd.int .i64)) 22 w21 w.heap.size (fun k_ => (P0_ k_ ∨ w.heap.size ≤ k_) ∧ some k_ ≠ (.slice (some ad818) y814.length co22 : Value).ownBlock ∧ k_ ≠ gb817) (.slice A0 l0.length c0) l0) := ⟨by rw [← hq_]; exact (by (with_reducible repeat (apply Kd.V_drewN)); exact Kd.V_mono HO0.out (fun _ hk => ⟨hk.1.1, ⟨hk.1.2, hk.2⟩⟩))⟩; have n2_ : Aside0 (Kd.N (Kd.slice 22 (Kd.slice 3 (Kd.int .i64))) 52 w21 w.heap.size (fun k_ => (P0_ k_ ∨ w.heap.size ≤ k_) ∧ k_ ≠ gb817) (.slice (some ad818) y814.length co22) y814) := ⟨by rw [← hq_]; exact (by (with_reducible repeat (apply Kd.N_drewN)); exact HO816.out)⟩; have n3_ : Aside0 (w21.heap[gb817]? = some (.cells #[.int .i64 0, .slice none 0 0] 29 (0, 0))) := ⟨by rw [← hq_]; exact (by (with_reducible repeat (refine blk_drewN ?_ _)); exact BK817.out)⟩; have n4_ : Aside0 (Below w.heap.size w w21) := ⟨by rw [← hq_]; exact (by repeat ((with_reducible first | exact HB.out | apply pw_below_drewN)))⟩; have n5_ : Aside0 (Kd.C (Kd.slice 3 (Kd.int .i64)) w21 A818_0 (rd_L4 y814 0).length (rd_L4 y814 0)) := ⟨by rw [← hq_]; exact (by repeat (first | (with_reducible exact HR818_0.out) | (with_reducible refine Kd.C_drewN ?_ _)))⟩; clear HL818_0 HO0 HO816 BK817 HB HR818_0 hq_; have HL818_0 := n0_; have HO0 := n1_; have HO816 := n2_; have BK817 := n3_; have HB := n4_; have HR818_0 := n5_; clear n0_ n1_ n2_ n3_ n4_ n5_)); have hcz23_0 : w21.cell? ⟨gb817, 0, none⟩ = some (.int .i64 0) := (blk_cell BK817.out 0).trans rfl; have hcz23_1 : w21.cell? ⟨gb817, 1, none⟩ = some (.slice none 0 0) := (blk_cell BK817.out 1).trans rfl; have hfz23_0 := blk_frozen BK817.out 0; have hfz23_1 := blk_frozen BK817.out 1))
   refine bodyPost_ret (results_ct rfl _ _ gb817 29 #[.int .i64 0, .slice none 0 0] (0, 0) _ rfl (by (with_reducible repeat (refine blk_drew ?_)); refine blk_put (cs := #[.int .i64 0, .slice none 0 0]) ?_ 1 _ rfl; (with_reducible repeat (refine blk_drew ?_)); refine blk_put (cs := #[.int .i64 0, .slice none 0 0]) ?_ 0 _ rfl; (with_reducible repeat (refine blk_drew ?_)); exact BK817.out) Try.underlying29 rfl (by kernel_rfl)) rfl ?_
   exact ⟨_, by rfl, by exact Kd.R_nil _ _ _ _ _, by repeat ((with_reducible first | exact HB.out | refine below_set ?_ GE817.out))⟩
 ·rw [if_neg c2] at H
  exact absurd H (by simp)

/-! ### laws_FnExactPointSpace: function 10 -/
mutual
def laws_FnExactPointSpace.j0 : Nat → List (List Int) → Bool → List (List Int) → Bool → Bool → Int → List Int → Int → List Int → Option (Bool)
 | 0, _, _, _, _, _, _, _, _, _ => none
 | k + 1, x0, x5, x6, x8, x40, x840000, x840001, x849000, x849001 => if x40 = true then (some false) else ((laws_toIntSS.f k x0).bind fun t850 => ((laws_eqIntSS.f k x6 t850).bind fun t853 => (if t853 = true then ((laws_markIntSS.f k x6 1).bind fun t854 => (if t854 < 0 then (laws_FnExactPointSpace.j1 k x0 x5 true x840000 x840001 x849000 x849001) else ((laws_eqSpace.f k x849000 x849001 x840000 x840001).bind fun t855 => (if t855 = true then (laws_FnExactPointSpace.j1 k x0 x5 (x8 != x5) x840000 x840001 x849000 x849001) else (laws_FnExactPointSpace.j1 k x0 x5 true x840000 x840001 x849000 x849001))))) else (some false))))
def laws_FnExactPointSpace.j1 : Nat → List (List Int) → Bool → Bool → Int → List Int → Int → List Int → Option (Bool)
 | 0, _, _, _, _, _, _, _ => none
 | k + 1, x0, x5, x61, x840000, x840001, x849000, x849001 => if x61 = true then (some false) else ((laws_markSpace.f k x849000 x849001 1).bind fun bt856 => ((laws_heldSpace.f k x849000 bt856.2 1).bind fun t858 => (if t858 < 0 then (some false) else (if t858 = bt856.1 then ((laws_toIntSS.f k x0).bind fun t859 => ((impl_PointSpace.f k t859).bind fun bt862 => ((laws_eqSpace.f k bt862.1 bt862.2.1 x840000 x840001).bind fun t868 => (if t868 = true then (laws_FnExactPointSpace.j2 k bt856.1 (bt862.2.2 != x5) x849000 bt856.2) else (laws_FnExactPointSpace.j2 k bt856.1 true x849000 bt856.2))))) else (some false)))))
def laws_FnExactPointSpace.j2 : Nat → Int → Bool → Int → List Int → Option (Bool)
 | 0, _, _, _, _ => none
 | k + 1, x10, x87, x849000, x849001 => if x87 = true then (some false) else ((laws_heldSpace.f k x849000 x849001 1).bind fun t869 => (if t869 < 0 then (some false) else (if t869 = x10 then (some true) else (some false))))
end
def laws_FnExactPointSpace.f (k : Nat) (l0 : List (List Int)) : Option (Bool) := (laws_szIntSS.f k l0 1048576).bind fun t830 => (if t830 < 0 then (some true) else ((laws_toIntSS.f k l0).bind fun t831 => ((spec_PointSpace.f k t831).bind fun bt834 => ((laws_toIntSS.f k l0).bind fun t840 => ((impl_PointSpace.f k t840).bind fun bt843 => ((laws_eqSpace.f k bt843.1 bt843.2.1 bt834.1 bt834.2.1).bind fun t849 => (if t849 = true then (laws_FnExactPointSpace.j0 k l0 bt834.2.2 t840 bt843.2.2 (bt843.2.2 != bt834.2.2) bt834.1 bt834.2.1 bt843.1 bt843.2.1) else (laws_FnExactPointSpace.j0 k l0 bt834.2.2 t840 bt843.2.2 true bt834.1 bt834.2.1 bt843.1 bt843.2.1))))))))
theorem laws_FnExactPointSpace.mono_l : ∀ k, (∀ y0 y1 y2 y3 y4 y5 y6 y7 y8, LeO (laws_FnExactPointSpace.j0 k y0 y1 y2 y3 y4 y5 y6 y7 y8) (laws_FnExactPointSpace.j0 (k + 1) y0 y1 y2 y3 y4 y5 y6 y7 y8)) ∧ (∀ y0 y1 y2 y3 y4 y5 y6, LeO (laws_FnExactPointSpace.j1 k y0 y1 y2 y3 y4 y5 y6) (laws_FnExactPointSpace.j1 (k + 1) y0 y1 y2 y3 y4 y5 y6)) ∧ (∀ y0 y1 y2 y3, LeO (laws_FnExactPointSpace.j2 k y0 y1 y2 y3) (laws_FnExactPointSpace.j2 (k + 1) y0 y1 y2 y3))
 | 0 => ⟨fun _ _ _ _ _ _ _ _ _ r h => by simp [laws_FnExactPointSpace.j0] at h, fun _ _ _ _ _ _ _ r h => by simp [laws_FnExactPointSpace.j1] at h, fun _ _ _ _ r h => by simp [laws_FnExactPointSpace.j2] at h⟩
 | k + 1 => by
  obtain ⟨ih0, ih1, ih2⟩ := laws_FnExactPointSpace.mono_l k
  refine ⟨?_, ?_, ?_⟩
  ·intro y0 y1 y2 y3 y4 y5 y6 y7 y8
   unfold laws_FnExactPointSpace.j0
   repeat' first
   | (with_reducible exact ih1 _ _ _ _ _ _ _)
   | (with_reducible exact laws_eqIntSS.mono _ _ _)
   | (with_reducible exact laws_eqSpace.mono _ _ _ _ _)
   | (with_reducible exact laws_markIntSS.mono _ _ _)
   | (with_reducible exact laws_toIntSS.mono _ _)
   | (with_reducible exact LeO.refl _)
   | (with_reducible refine LeO.ite ?_ ?_)
   | (with_reducible refine LeO.bind ?_ (fun _ => ?_))
  ·intro y0 y1 y2 y3 y4 y5 y6
   unfold laws_FnExactPointSpace.j1
   repeat' first
   | (with_reducible exact ih2 _ _ _ _)
   | (with_reducible exact impl_PointSpace.mono _ _)
   | (with_reducible exact laws_eqSpace.mono _ _ _ _ _)
   | (with_reducible exact laws_heldSpace.mono _ _ _ _)
   | (with_reducible exact laws_markSpace.mono _ _ _ _)
   | (with_reducible exact laws_toIntSS.mono _ _)
   | (with_reducible exact LeO.refl _)
   | (with_reducible refine LeO.ite ?_ ?_)
   | (with_reducible refine LeO.bind ?_ (fun _ => ?_))
  ·intro y0 y1 y2 y3
   unfold laws_FnExactPointSpace.j2
   repeat' first
   | (with_reducible exact laws_heldSpace.mono _ _ _ _)
   | (with_reducible exact LeO.refl _)
   | (with_reducible refine LeO.ite ?_ ?_)
   | (with_reducible refine LeO.bind ?_ (fun _ => ?_))
theorem laws_FnExactPointSpace.mono : ∀ a0 k, LeO (laws_FnExactPointSpace.f k a0) (laws_FnExactPointSpace.f (k + 1) a0) := by
 intro a0 k
 obtain ⟨ih0, ih1, ih2⟩ := laws_FnExactPointSpace.mono_l k
 unfold laws_FnExactPointSpace.f
 repeat' first
   | (with_reducible exact ih0 _ _ _ _ _ _ _ _ _)
   | (with_reducible exact impl_PointSpace.mono _ _)
   | (with_reducible exact laws_eqSpace.mono _ _ _ _ _)
   | (with_reducible exact laws_szIntSS.mono _ _ _)
   | (with_reducible exact laws_toIntSS.mono _ _)
   | (with_reducible exact spec_PointSpace.mono _ _)
   | (with_reducible exact LeO.refl _)
   | (with_reducible refine LeO.ite ?_ ?_)
   | (with_reducible refine LeO.bind ?_ (fun _ => ?_))
set_option maxHeartbeats 8000000 in
set_option maxRecDepth 100000 in
theorem laws_FnExactPointSpace.calls (k : Nat) (A0 : Option Addr) (c0 : Nat) (l0 : List (List Int)) (r : Bool) (w : World) (hr0 : Kd.C (Kd.slice 3 (Kd.int .i64)) w A0 l0.length l0) (hc0 : l0.length ≤ c0) (h : laws_FnExactPointSpace.f k l0 = some r) :
  Calls Try.prog 10 #[.slice A0 l0.length c0] w fun e w' => e = .returned (.bool r) ∧ Below w.heap.size w w' := by
 have hu29 := Try.underlying29
 have HR0 := Aside0.mk hr0
 have HC0 := Aside0.mk hc0
 clear hr0 hc0
 have HB := Aside0.mk (Below.refl w.heap.size w)
 have H : ((laws_szIntSS.f k l0 1048576).bind fun t830 => (if t830 < 0 then (some true) else ((laws_toIntSS.f k l0).bind fun t831 => ((spec_PointSpace.f k t831).bind fun bt834 => ((laws_toIntSS.f k l0).bind fun t840 => ((impl_PointSpace.f k t840).bind fun bt843 => ((laws_eqSpace.f k bt843.1 bt843.2.1 bt834.1 bt834.2.1).bind fun t849 => (if t849 = true then (laws_FnExactPointSpace.j0 k l0 bt834.2.2 t840 bt843.2.2 (bt843.2.2 != bt834.2.2) bt834.1 bt834.2.1 bt843.1 bt843.2.1) else (laws_FnExactPointSpace.j0 k l0 bt834.2.2 t840 bt843.2.2 true bt834.1 bt834.2.1 bt843.1 bt843.2.1))))))))) = some r := h
 clear h
 replace H := Option.bind_eq_some_iff.mp H
 obtain ⟨t830, A20, H⟩ := H
 replace H : (if t830 < 0 then (some true) else ((laws_toIntSS.f k l0).bind fun t831 => ((spec_PointSpace.f k t831).bind fun bt834 => ((laws_toIntSS.f k l0).bind fun t840 => ((impl_PointSpace.f k t840).bind fun bt843 => ((laws_eqSpace.f k bt843.1 bt843.2.1 bt834.1 bt834.2.1).bind fun t849 => (if t849 = true then (laws_FnExactPointSpace.j0 k l0 bt834.2.2 t840 bt843.2.2 (bt843.2.2 != bt834.2.2) bt834.1 bt834.2.1 bt843.1 bt843.2.1) else (laws_FnExactPointSpace.j0 k l0 bt834.2.2 t840 bt843.2.2 true bt834.1 bt834.2.1 bt843.1 bt843.2.1)))))))) = some r := H
 have A2 := Aside0.mk A20
 clear A20
 by_cases c3 : t830 < 0
 ·rw [if_pos c3] at H
  have c3b0 : decide (t830 < 0) = true := decide_eq_true c3
  clear c3
  obtain rfl := Option.some.inj H
  go_enter Try.func10, Try.ntmps10
  go_wp2_with (((with_reducible refine gate_callee (f := 38) rfl ?_); refine goesL_ (some 16) rfl rfl Try.func38 (by kernel_rfl) rfl #[.slice A0 l0.length c0, .int .i64 1048576] rfl (by (try simp only [List.map_toArray, List.map_cons, List.map_nil]); rfl) ?_; (with_reducible refine (laws_szIntSS.calls k _ _ l0 1048576 t830 _ ?side1 ?side2 A2.out).mono ?_); (case side1 => repeat (exact HR0.out)); (case side2 => exact HC0.out); rintro e w' ⟨rfl, ⟨nd, rfl⟩⟩; refine ⟨_, rfl, ?_⟩))
  go_ret
  exact ⟨by rfl, by repeat ((with_reducible first | exact HB.out | apply pw_below_drewN))⟩
 ·rw [if_neg c3] at H
  have c3b0 : decide (t830 < 0) = false := decide_eq_false c3
  clear c3
  replace H := Option.bind_eq_some_iff.mp H
  obtain ⟨t831, A40, H⟩ := H
  replace H : ((spec_PointSpace.f k t831).bind fun bt834 => ((laws_toIntSS.f k l0).bind fun t840 => ((impl_PointSpace.f k t840).bind fun bt843 => ((laws_eqSpace.f k bt843.1 bt843.2.1 bt834.1 bt834.2.1).bind fun t849 => (if t849 = true then (laws_FnExactPointSpace.j0 k l0 bt834.2.2 t840 bt843.2.2 (bt843.2.2 != bt834.2.2) bt834.1 bt834.2.1 bt843.1 bt843.2.1) else (laws_FnExactPointSpace.j0 k l0 bt834.2.2 t840 bt843.2.2 true bt834.1 bt834.2.1 bt843.1 bt843.2.1)))))) = some r := H
  have A4 := Aside0.mk A40
  clear A40
  replace H := Option.bind_eq_some_iff.mp H
  obtain ⟨⟨t834, t835, t838⟩, A50, H⟩ := H
  replace H : ((laws_toIntSS.f k l0).bind fun t840 => ((impl_PointSpace.f k t840).bind fun bt843 => ((laws_eqSpace.f k bt843.1 bt843.2.1 t834 t835).bind fun t849 => (if t849 = true then (laws_FnExactPointSpace.j0 k l0 t838 t840 bt843.2.2 (bt843.2.2 != t838) t834 t835 bt843.1 bt843.2.1) else (laws_FnExactPointSpace.j0 k l0 t838 t840 bt843.2.2 true t834 t835 bt843.1 bt843.2.1))))) = some r := H
  have A5 := Aside0.mk A50
  clear A50
  replace H := Option.bind_eq_some_iff.mp H
  obtain ⟨t840, A60, H⟩ := H
  replace H : ((impl_PointSpace.f k t840).bind fun bt843 => ((laws_eqSpace.f k bt843.1 bt843.2.1 t834 t835).bind fun t849 => (if t849 = true then (laws_FnExactPointSpace.j0 k l0 t838 t840 bt843.2.2 (bt843.2.2 != t838) t834 t835 bt843.1 bt843.2.1) else (laws_FnExactPointSpace.j0 k l0 t838 t840 bt843.2.2 true t834 t835 bt843.1 bt843.2.1)))) = some r := H
  have A6 := Aside0.mk A60
  clear A60
  replace H := Option.bind_eq_some_iff.mp H
  obtain ⟨⟨t843, t844, t847⟩, A70, H⟩ := H
  replace H : ((laws_eqSpace.f k t843 t844 t834 t835).bind fun t849 => (if t849 = true then (laws_FnExactPointSpace.j0 k l0 t838 t840 t847 (t847 != t838) t834 t835 t843 t844) else (laws_FnExactPointSpace.j0 k l0 t838 t840 t847 true t834 t835 t843 t844))) = some r := H
  have A7 := Aside0.mk A70
  clear A70
  have HC8 := Aside0.mk H
  clear H
  go_enter Try.func10, Try.ntmps10
  go_upto_region 8 with (first | ((with_reducible refine gate_callee (f := 38) rfl ?_); refine goesL_ (some 16) rfl rfl Try.func38 (by kernel_rfl) rfl #[.slice A0 l0.length c0, .int .i64 1048576] rfl (by (try simp only [List.map_toArray, List.map_cons, List.map_nil]); rfl) ?_; (with_reducible refine (laws_szIntSS.calls k _ _ l0 1048576 t830 _ ?side1 ?side2 A2.out).mono ?_); (case side1 => repeat (exact HR0.out)); (case side2 => exact HC0.out); rintro e w' ⟨rfl, ⟨nd, rfl⟩⟩; refine ⟨_, rfl, ?_⟩) | ((with_reducible refine gate_callee (f := 40) rfl ?_); refine goesL_ (some 21) rfl rfl Try.func40 (by kernel_rfl) rfl #[.slice A0 l0.length c0] rfl (by (try simp only [List.map_toArray, List.map_cons, List.map_nil]); rfl) ?_; (with_reducible refine (laws_toIntSS.calls k _ _ l0 t831 _ ?side1 ?side2 A4.out).mono ?_); (case side1 => repeat (exact HR0.out)); (case side2 => exact HC0.out); rintro e w9 ⟨v832, rfl, ho0, hb⟩; refine ⟨_, rfl, ?_⟩; have n0_ := Aside0.mk (Kd.S_lower ho0 (below_size (by repeat ((with_reducible first | exact HB.out | apply pw_below_drewN))))); have n1_ := Aside0.mk (below_step (by repeat ((with_reducible first | exact HB.out | apply pw_below_drewN))) hb); clear HB; have HO833 := n0_; have HB := n1_; clear n0_ n1_; (try clear hb); (try clear ho0); obtain ⟨Ao10, co10, eo10⟩ := Kd.S_slice HO833.out; subst eo10) | ((with_reducible refine gate_callee (f := 44) rfl ?_); refine goesL_ (some 22) rfl rfl Try.func44 (by kernel_rfl) rfl #[.slice Ao10 t831.length co10] rfl (by (try simp only [List.map_toArray, List.map_cons, List.map_nil]); rfl) ?_; (with_reducible refine (spec_PointSpace.calls k _ _ t831 t834 t835 t838 _ ?side1 ?side2 A5.out).mono ?_); (case side1 => repeat (exact (Kd.S_reads' HO833.out).2.2)); (case side2 => exact (Kd.S_reads' HO833.out).2.1); rintro e w11 ⟨v836, rfl, ho0, hb⟩; refine ⟨_, rfl, ?_⟩; have n0_ := Aside0.mk (Kd.S_elder' (by (with_reducible repeat (apply Kd.S_drew)); exact HO833.out) (Kd.R_base ho0) hb); have n1_ := Aside0.mk (Kd.R_lower ho0 (below_size (by repeat ((with_reducible exact HB.out))))); have n2_ := Aside0.mk (below_step (by repeat ((with_reducible exact HB.out))) hb); clear HO833; clear HB; have HO833 := n0_; have HO837 := n1_; have HB := n2_; clear n0_ n1_ n2_; (try clear hb); (try clear ho0)) | ((with_reducible refine gate_dst (N := 4) rfl ?_); refine box_event ?hg (N := 4) ?hd (cs := #[.int .i64 0, .slice none 0 0]) (t := 29) ?hr ?_; (case hd => rfl); (case hg => rfl); (case hr => (go_simp; done)); intro gb839 hg w12 hbox hb; have n0_ := Aside0.mk (Kd.S_below (by (with_reducible repeat (apply Kd.S_drew)); exact HO833.out) hb); have n1_ := Aside0.mk (Kd.R_below (by (with_reducible repeat (apply Kd.R_drew)); exact HO837.out) hb); have n2_ := Aside0.mk (below_step (by repeat ((with_reducible exact HB.out))) hb); have n3_ := Aside0.mk (hbox); have n4_ := Aside0.mk ((by rw [hg]; exact (below_size (by repeat ((with_reducible exact HB.out)))) : w.heap.size ≤ gb839)); have n5_ := Aside0.mk ((by rw [hg]; exact (below_size (by repeat ((with_reducible exact HB.out)))) : w.heap.size ≤ gb839)); clear HO833; clear HO837; clear HB; have HO833 := n0_; have HO837 := n1_; have HB := n2_; have BK839 := n3_; have GW839 := n4_; have GE839 := n5_; clear n0_ n1_ n2_ n3_ n4_ n5_; clear hb hbox hg; have hcz13_0 : w12.cell? ⟨gb839, 0, none⟩ = some (.int .i64 0) := (blk_cell BK839.out 0).trans rfl; have hcz13_1 : w12.cell? ⟨gb839, 1, none⟩ = some (.slice none 0 0) := (blk_cell BK839.out 1).trans rfl; have hfz13_0 := blk_frozen BK839.out 0; have hfz13_1 := blk_frozen BK839.out 1; obtain ⟨Ao14, co14, eo14⟩ := Kd.R_slice HO837.out; subst eo14) | ((with_reducible refine gate_callee (f := 40) rfl ?_); refine goesL_ (some 26) rfl rfl Try.func40 (by kernel_rfl) rfl #[.slice A0 l0.length c0] rfl (by (try simp only [List.map_toArray, List.map_cons, List.map_nil]); rfl) ?_; (with_reducible refine (laws_toIntSS.calls k _ _ l0 t840 _ ?side1 ?side2 A6.out).mono ?_); (case side1 => exact Kd.C_below HR0.out (by repeat ((with_reducible first | exact HB.out | refine below_set ?_ GE839.out)))); (case side2 => exact HC0.out); rintro e w15 ⟨v841, rfl, ho0, hb⟩; refine ⟨_, rfl, ?_⟩; have n0_ := Aside0.mk (Kd.S_elder' (by (with_reducible repeat (apply Kd.S_drew)); exact (Kd.S_mono (Kd.S_far (p := ⟨gb839, 1, none⟩) (Kd.S_far (p := ⟨gb839, 0, none⟩) (Kd.S_types HO833.out BK839.out (by decide)) (fun _ hk => hk.2) (.int .i64 t834)) (fun _ hk => hk.2) (.slice Ao14 t835.length co14)) (fun _ h_ => h_.1))) (Kd.S_base ho0) hb); have n1_ := Aside0.mk (Kd.R_below (by (with_reducible repeat (apply Kd.R_drew)); exact (Kd.R_mono (Kd.R_far (p := ⟨gb839, 1, none⟩) (Kd.R_far (p := ⟨gb839, 0, none⟩) (Kd.R_types HO837.out BK839.out (by decide)) (fun _ hk => hk.2) (.int .i64 t834)) (fun _ hk => hk.2) (.slice Ao14 t835.length co14)) (fun _ h_ => h_.1))) hb); have n2_ := Aside0.mk (Kd.S_lower (Kd.S_new' (Kd.S_new' ho0 (Kd.S_lt (by (with_reducible repeat (apply Kd.S_drew)); exact (Kd.S_mono (Kd.S_far (p := ⟨gb839, 1, none⟩) (Kd.S_far (p := ⟨gb839, 0, none⟩) (Kd.S_types HO833.out BK839.out (by decide)) (fun _ hk => hk.2) (.int .i64 t834)) (fun _ hk => hk.2) (.slice Ao14 t835.length co14)) (fun _ h_ => h_.1))))) (Kd.R_lt (by (with_reducible repeat (apply Kd.R_drew)); exact (Kd.R_mono (Kd.R_far (p := ⟨gb839, 1, none⟩) (Kd.R_far (p := ⟨gb839, 0, none⟩) (Kd.R_types HO837.out BK839.out (by decide)) (fun _ hk => hk.2) (.int .i64 t834)) (fun _ hk => hk.2) (.slice Ao14 t835.length co14)) (fun _ h_ => h_.1))))) (below_size (by repeat ((with_reducible first | exact HB.out | refine below_set ?_ GE839.out))))); have n3_ := Aside0.mk (blk_below (g := gb839) (o := .cells #[.int .i64 t834, .slice Ao14 t835.length co14] 29 (0, 0)) (by (with_reducible repeat (refine blk_drew ?_)); refine blk_put (cs := #[.int .i64 t834, .slice none 0 0]) ?_ 1 _ rfl; (with_reducible repeat (refine blk_drew ?_)); refine blk_put (cs := #[.int .i64 0, .slice none 0 0]) ?_ 0 _ rfl; (with_reducible repeat (refine blk_drew ?_)); exact BK839.out) hb); have n4_ := Aside0.mk (below_step (by repeat ((with_reducible first | exact HB.out | refine below_set ?_ GE839.out))) hb); clear HO833; clear HO837; clear BK839; clear HB; have HO833 := n0_; have HO837 := n1_; have HO842 := n2_; have BK839 := n3_; have HB := n4_; clear n0_ n1_ n2_ n3_ n4_; (try clear hb); (try clear ho0); obtain ⟨Ao16, co16, eo16⟩ := Kd.S_slice HO842.out; subst eo16) | ((with_reducible refine gate_callee (f := 45) rfl ?_); refine goesL_ (some 29) rfl rfl Try.func45 (by kernel_rfl) rfl #[.slice Ao16 t840.length co16] rfl (by (try simp only [List.map_toArray, List.map_cons, List.map_nil]); rfl) ?_; (with_reducible refine (impl_PointSpace.calls k (fun k_ => (((True ∧ some k_ ≠ (.slice Ao10 t831.length co10 : Value).ownBlock) ∧ some k_ ≠ (.slice Ao14 t835.length co14 : Value).ownBlock) ∧ k_ ≠ gb839)) _ _ t840 t843 t844 t847 _ ?side1 A7.out).mono ?_); (case side1 => exact Kd.S_V (Kd.S_types (HO842.out) BK839.out (by decide))); rintro e w17 ⟨v845, rfl, ho0, hb⟩; refine ⟨_, rfl, ?_⟩; have n0_ := Aside0.mk (Kd.S_elder' (by (with_reducible repeat (apply Kd.S_drew)); exact HO833.out) (Kd.R_base ho0) hb); have n1_ := Aside0.mk (Kd.R_elder' (by (with_reducible repeat (apply Kd.R_drew)); exact HO837.out) (Kd.R_base ho0) hb); have n2_ := Aside0.mk (Kd.S_elder' (by (with_reducible repeat (apply Kd.S_drew)); exact HO842.out) (Kd.R_base ho0) hb); have n3_ := Aside0.mk (Kd.R_lower (Kd.R_new' (Kd.R_mono (ok' := fun k_ => True) ho0 (fun _ hk_ => trivial)) (Kd.R_lt (by (with_reducible repeat (apply Kd.R_drew)); exact HO837.out))) (below_size (by repeat ((with_reducible exact HB.out))))); have n4_ := Aside0.mk (blk_below (g := gb839) (o := .cells #[.int .i64 t834, .slice Ao14 t835.length co14] 29 (0, 0)) (by (with_reducible repeat (refine blk_drew ?_)); exact BK839.out) hb); have n5_ := Aside0.mk (below_step (by repeat ((with_reducible exact HB.out))) hb); clear HO833; clear HO837; clear HO842; clear BK839; clear HB; have HO833 := n0_; have HO837 := n1_; have HO842 := n2_; have HO846 := n3_; have BK839 := n4_; have HB := n5_; clear n0_ n1_ n2_ n3_ n4_ n5_; (try clear hb); (try clear ho0)) | ((with_reducible refine gate_dst (N := 7) rfl ?_); refine box_event ?hg (N := 7) ?hd (cs := #[.int .i64 0, .slice none 0 0]) (t := 29) ?hr ?_; (case hd => rfl); (case hg => rfl); (case hr => (go_simp; done)); intro gb848 hg w18 hbox hb; have n0_ := Aside0.mk (Kd.S_below (by (with_reducible repeat (apply Kd.S_drew)); exact HO833.out) hb); have n1_ := Aside0.mk (Kd.R_below (by (with_reducible repeat (apply Kd.R_drew)); exact HO837.out) hb); have n2_ := Aside0.mk (Kd.S_below (by (with_reducible repeat (apply Kd.S_drew)); exact HO842.out) hb); have n3_ := Aside0.mk (Kd.R_below (by (with_reducible repeat (apply Kd.R_drew)); exact HO846.out) hb); have n4_ := Aside0.mk (blk_below (g := gb839) (o := .cells #[.int .i64 t834, .slice Ao14 t835.length co14] 29 (0, 0)) (by (with_reducible repeat (refine blk_drew ?_)); exact BK839.out) hb); have n5_ := Aside0.mk (below_step (by repeat ((with_reducible exact HB.out))) hb); have n6_ := Aside0.mk (hbox); have n7_ := Aside0.mk ((by rw [hg]; exact (below_size (by repeat ((with_reducible exact HB.out)))) : w.heap.size ≤ gb848)); have n8_ := Aside0.mk ((by rw [hg]; exact (below_size (by repeat ((with_reducible exact HB.out)))) : w.heap.size ≤ gb848)); have n9_ := Aside0.mk ((by rw [hg]; exact Nat.ne_of_lt (blk_lt (g := gb839) (o := .cells #[.int .i64 t834, .slice Ao14 t835.length co14] 29 (0, 0)) (by (with_reducible repeat (refine blk_drew ?_)); exact BK839.out)) : gb839 ≠ gb848)); have n10_ := Aside0.mk ((by rw [hg]; exact Nat.ne_of_gt (blk_lt (g := gb839) (o := .cells #[.int .i64 t834, .slice Ao14 t835.length co14] 29 (0, 0)) (by (with_reducible repeat (refine blk_drew ?_)); exact BK839.out)) : gb848 ≠ gb839)); clear HO833; clear HO837; clear HO842; clear HO846; clear BK839; clear HB; have HO833 := n0_; have HO837 := n1_; have HO842 := n2_; have HO846 := n3_; have BK839 := n4_; have HB := n5_; have BK848 := n6_; have GW848 := n7_; have GE848 := n8_; have NB839_848 := n9_; have NB848_839 := n10_; clear n0_ n1_ n2_ n3_ n4_ n5_ n6_ n7_ n8_ n9_ n10_; clear hb hbox hg; have hnb19 := NB848_839.out; have hnc19 := NB839_848.out; have hcz20_0 : w18.cell? ⟨gb848, 0, none⟩ = some (.int .i64 0) := (blk_cell BK848.out 0).trans rfl; have hcz20_1 : w18.cell? ⟨gb848, 1, none⟩ = some (.slice none 0 0) := (blk_cell BK848.out 1).trans rfl; have hfz20_0 := blk_frozen BK848.out 0; have hfz20_1 := blk_frozen BK848.out 1; obtain ⟨Ao21, co21, eo21⟩ := Kd.R_slice HO846.out; subst eo21))
  skip
  go_cut [40] (fun v40 wc => ∃ (kq : Nat) (x40_7 : Bool), v40 = .bool x40_7 ∧ Aside0 (laws_FnExactPointSpace.j0 kq l0 t838 t840 t847 x40_7 t834 t835 t843 t844 = some r) ∧ Aside0 (kq ≤ k) ∧ Aside0 (Kd.S (Kd.slice 3 (Kd.int .i64)) 22 wc w.heap.size (fun k_ => some k_ ≠ ((.slice Ao14 t835.length co14) : Value).ownBlock ∧ some k_ ≠ ((.slice Ao21 t844.length co21) : Value).ownBlock) (.slice Ao16 t840.length co16) t840) ∧ Aside0 (Kd.R (Kd.int .i64) 3 wc w.heap.size (fun k_ => some k_ ≠ ((.slice Ao21 t844.length co21) : Value).ownBlock) (.slice Ao14 t835.length co14) t835) ∧ Aside0 (Kd.R (Kd.int .i64) 3 wc w.heap.size (fun k_ => some k_ ≠ ((.slice Ao14 t835.length co14) : Value).ownBlock) (.slice Ao21 t844.length co21) t844) ∧ Aside0 (wc.heap[gb839]? = some (.cells #[.int .i64 t834, (.slice Ao14 t835.length co14)] 29 (0, 0))) ∧ Aside0 (wc.heap[gb848]? = some (.cells #[.int .i64 t843, (.slice Ao21 t844.length co21)] 29 (0, 0))) ∧ Aside0 (Below w.heap.size w wc))
  case first =>
   have H := HC8.out
   clear HC8
   replace H := Option.bind_eq_some_iff.mp H
   obtain ⟨t849, A220, H⟩ := H
   replace H : (if t849 = true then (laws_FnExactPointSpace.j0 k l0 t838 t840 t847 (t847 != t838) t834 t835 t843 t844) else (laws_FnExactPointSpace.j0 k l0 t838 t840 t847 true t834 t835 t843 t844)) = some r := H
   have A22 := Aside0.mk A220
   clear A220
   by_cases c23 : t849 = true
   ·subst c23
    have H1 : (laws_FnExactPointSpace.j0 k l0 t838 t840 t847 (t847 != t838) t834 t835 t843 t844) = some r := by rw [if_pos rfl] at H; exact H
    clear H
    have H := H1
    clear H1
    have H' := Aside0.mk H
    clear H
    have hnb24 := NB848_839.out
    have hnc24 := NB839_848.out
    have hcz25_0 : w18.cell? ⟨gb848, 0, none⟩ = some (.int .i64 0) := (blk_cell BK848.out 0).trans rfl
    have hcz25_1 : w18.cell? ⟨gb848, 1, none⟩ = some (.slice none 0 0) := (blk_cell BK848.out 1).trans rfl
    have hfz25_0 := blk_frozen BK848.out 0
    have hfz25_1 := blk_frozen BK848.out 1
    have hcz26_0 : w18.cell? ⟨gb839, 0, none⟩ = some (.int .i64 t834) := (blk_cell BK839.out 0).trans rfl
    have hcz26_1 : w18.cell? ⟨gb839, 1, none⟩ = some (.slice Ao14 t835.length co14) := (blk_cell BK839.out 1).trans rfl
    have hfz26_0 := blk_frozen BK839.out 0
    have hfz26_1 := blk_frozen BK839.out 1
    go_wp2_with (((with_reducible refine gate_callee (f := 18) rfl ?_); refine goesL_ (some 34) rfl rfl Try.func18 (by kernel_rfl) rfl #[.agg #[.int .i64 t843, .slice Ao21 t844.length co21], .agg #[.int .i64 t834, .slice Ao14 t835.length co14]] rfl (by (try simp only [List.map_toArray, List.map_cons, List.map_nil]); rfl) ?_; (with_reducible refine (laws_eqSpace.calls k t843 _ _ t844 t834 _ _ t835 true _ ?side1 ?side2 ?side3 ?side4 A22.out).mono ?_); (case side1 => refine (Kd.R_reads' (e := 3) (base := w.heap.size) (ok := fun k_ => (True ∧ some k_ ≠ (.slice Ao14 t835.length co14 : Value).ownBlock)) (n := t844.length) (c := co21) ?_).2.2; exact (by (with_reducible repeat (apply Kd.R_drew)); exact (Kd.R_mono (Kd.R_far (p := ⟨gb848, 1, none⟩) (Kd.R_far (p := ⟨gb848, 0, none⟩) (Kd.R_types HO846.out BK848.out (by decide)) (fun _ hk => hk.2) (.int .i64 t843)) (fun _ hk => hk.2) (.slice Ao21 t844.length co21)) (fun _ h_ => h_.1)))); (case side2 => exact (Kd.R_reads' HO846.out).2.1); (case side3 => refine (Kd.R_reads' (e := 3) (base := w.heap.size) (ok := fun k_ => (True ∧ some k_ ≠ (.slice Ao21 t844.length co21 : Value).ownBlock)) (n := t835.length) (c := co14) ?_).2.2; exact (by (with_reducible repeat (apply Kd.R_drew)); exact (Kd.R_mono (Kd.R_far (p := ⟨gb848, 1, none⟩) (Kd.R_far (p := ⟨gb848, 0, none⟩) (Kd.R_types HO837.out BK848.out (by decide)) (fun _ hk => hk.2) (.int .i64 t843)) (fun _ hk => hk.2) (.slice Ao21 t844.length co21)) (fun _ h_ => h_.1)))); (case side4 => exact (Kd.R_reads' HO837.out).2.1); rintro e w27 ⟨rfl, hb⟩; refine ⟨_, rfl, ?_⟩; have n0_ := Aside0.mk (Kd.S_below (by (with_reducible repeat (apply Kd.S_drew)); exact (Kd.S_mono (Kd.S_far (p := ⟨gb848, 1, none⟩) (Kd.S_far (p := ⟨gb848, 0, none⟩) (Kd.S_types HO833.out BK848.out (by decide)) (fun _ hk => hk.2) (.int .i64 t843)) (fun _ hk => hk.2) (.slice Ao21 t844.length co21)) (fun _ h_ => h_.1))) hb); have n1_ := Aside0.mk (Kd.R_below (by (with_reducible repeat (apply Kd.R_drew)); exact (Kd.R_mono (Kd.R_far (p := ⟨gb848, 1, none⟩) (Kd.R_far (p := ⟨gb848, 0, none⟩) (Kd.R_types HO837.out BK848.out (by decide)) (fun _ hk => hk.2) (.int .i64 t843)) (fun _ hk => hk.2) (.slice Ao21 t844.length co21)) (fun _ h_ => h_.1))) hb); have n2_ := Aside0.mk (Kd.S_below (by (with_reducible repeat (apply Kd.S_drew)); exact (Kd.S_mono (Kd.S_far (p := ⟨gb848, 1, none⟩) (Kd.S_far (p := ⟨gb848, 0, none⟩) (Kd.S_types HO842.out BK848.out (by decide)) (fun _ hk => hk.2) (.int .i64 t843)) (fun _ hk => hk.2) (.slice Ao21 t844.length co21)) (fun _ h_ => h_.1))) hb); have n3_ := Aside0.mk (Kd.R_below (by (with_reducible repeat (apply Kd.R_drew)); exact (Kd.R_mono (Kd.R_far (p := ⟨gb848, 1, none⟩) (Kd.R_far (p := ⟨gb848, 0, none⟩) (Kd.R_types HO846.out BK848.out (by decide)) (fun _ hk => hk.2) (.int .i64 t843)) (fun _ hk => hk.2) (.slice Ao21 t844.length co21)) (fun _ h_ => h_.1))) hb); have n4_ := Aside0.mk (blk_below (g := gb839) (o := .cells #[.int .i64 t834, .slice Ao14 t835.length co14] 29 (0, 0)) (by (with_reducible repeat (refine blk_drew ?_)); refine blk_far ?_ NB839_848.out _; (with_reducible repeat (refine blk_drew ?_)); refine blk_far ?_ NB839_848.out _; (with_reducible repeat (refine blk_drew ?_)); exact BK839.out) hb); have n5_ := Aside0.mk (blk_below (g := gb848) (o := .cells #[.int .i64 t843, .slice Ao21 t844.length co21] 29 (0, 0)) (by (with_reducible repeat (refine blk_drew ?_)); refine blk_put (cs := #[.int .i64 t843, .slice none 0 0]) ?_ 1 _ rfl; (with_reducible repeat (refine blk_drew ?_)); refine blk_put (cs := #[.int .i64 0, .slice none 0 0]) ?_ 0 _ rfl; (with_reducible repeat (refine blk_drew ?_)); exact BK848.out) hb); have n6_ := Aside0.mk (below_step (by repeat ((with_reducible first | exact HB.out | refine below_set ?_ GE848.out))) hb); clear HO833; clear HO837; clear HO842; clear HO846; clear BK839; clear BK848; clear HB; have HO833 := n0_; have HO837 := n1_; have HO842 := n2_; have HO846 := n3_; have BK839 := n4_; have BK848 := n5_; have HB := n6_; clear n0_ n1_ n2_ n3_ n4_ n5_ n6_; (try clear hb); skip))
    go_meet
    case rel => exact ⟨_, ((t847 != t838)), (by rfl), H', ⟨by omega⟩, ⟨by (with_reducible repeat (apply Kd.S_drew)); exact Kd.S_mono HO842.out (fun _ hk => ⟨hk.1.2, hk.2⟩)⟩, ⟨by (with_reducible repeat (apply Kd.R_drew)); exact Kd.R_mono HO837.out (fun _ hk => hk.2)⟩, ⟨by (with_reducible repeat (apply Kd.R_drew)); exact Kd.R_mono HO846.out (fun _ hk => hk.2)⟩, ⟨by (with_reducible repeat (refine blk_drew ?_)); exact BK839.out⟩, ⟨by (with_reducible repeat (refine blk_drew ?_)); exact BK848.out⟩, ⟨by repeat ((with_reducible exact HB.out))⟩⟩
   ·replace c23 := Bool.eq_false_iff.mpr c23
    subst c23
    have H1 : (laws_FnExactPointSpace.j0 k l0 t838 t840 t847 true t834 t835 t843 t844) = some r := by rw [if_neg (show ¬ (false = true) by decide)] at H; exact H
    clear H
    have H := H1
    clear H1
    have H' := Aside0.mk H
    clear H
    have hnb28 := NB848_839.out
    have hnc28 := NB839_848.out
    have hcz29_0 : w18.cell? ⟨gb848, 0, none⟩ = some (.int .i64 0) := (blk_cell BK848.out 0).trans rfl
    have hcz29_1 : w18.cell? ⟨gb848, 1, none⟩ = some (.slice none 0 0) := (blk_cell BK848.out 1).trans rfl
    have hfz29_0 := blk_frozen BK848.out 0
    have hfz29_1 := blk_frozen BK848.out 1
    have hcz30_0 : w18.cell? ⟨gb839, 0, none⟩ = some (.int .i64 t834) := (blk_cell BK839.out 0).trans rfl
    have hcz30_1 : w18.cell? ⟨gb839, 1, none⟩ = some (.slice Ao14 t835.length co14) := (blk_cell BK839.out 1).trans rfl
    have hfz30_0 := blk_frozen BK839.out 0
    have hfz30_1 := blk_frozen BK839.out 1
    go_wp2_with (((with_reducible refine gate_callee (f := 18) rfl ?_); refine goesL_ (some 34) rfl rfl Try.func18 (by kernel_rfl) rfl #[.agg #[.int .i64 t843, .slice Ao21 t844.length co21], .agg #[.int .i64 t834, .slice Ao14 t835.length co14]] rfl (by (try simp only [List.map_toArray, List.map_cons, List.map_nil]); rfl) ?_; (with_reducible refine (laws_eqSpace.calls k t843 _ _ t844 t834 _ _ t835 false _ ?side1 ?side2 ?side3 ?side4 A22.out).mono ?_); (case side1 => refine (Kd.R_reads' (e := 3) (base := w.heap.size) (ok := fun k_ => (True ∧ some k_ ≠ (.slice Ao14 t835.length co14 : Value).ownBlock)) (n := t844.length) (c := co21) ?_).2.2; exact (by (with_reducible repeat (apply Kd.R_drew)); exact (Kd.R_mono (Kd.R_far (p := ⟨gb848, 1, none⟩) (Kd.R_far (p := ⟨gb848, 0, none⟩) (Kd.R_types HO846.out BK848.out (by decide)) (fun _ hk => hk.2) (.int .i64 t843)) (fun _ hk => hk.2) (.slice Ao21 t844.length co21)) (fun _ h_ => h_.1)))); (case side2 => exact (Kd.R_reads' HO846.out).2.1); (case side3 => refine (Kd.R_reads' (e := 3) (base := w.heap.size) (ok := fun k_ => (True ∧ some k_ ≠ (.slice Ao21 t844.length co21 : Value).ownBlock)) (n := t835.length) (c := co14) ?_).2.2; exact (by (with_reducible repeat (apply Kd.R_drew)); exact (Kd.R_mono (Kd.R_far (p := ⟨gb848, 1, none⟩) (Kd.R_far (p := ⟨gb848, 0, none⟩) (Kd.R_types HO837.out BK848.out (by decide)) (fun _ hk => hk.2) (.int .i64 t843)) (fun _ hk => hk.2) (.slice Ao21 t844.length co21)) (fun _ h_ => h_.1)))); (case side4 => exact (Kd.R_reads' HO837.out).2.1); rintro e w31 ⟨rfl, hb⟩; refine ⟨_, rfl, ?_⟩; have n0_ := Aside0.mk (Kd.S_below (by (with_reducible repeat (apply Kd.S_drew)); exact (Kd.S_mono (Kd.S_far (p := ⟨gb848, 1, none⟩) (Kd.S_far (p := ⟨gb848, 0, none⟩) (Kd.S_types HO833.out BK848.out (by decide)) (fun _ hk => hk.2) (.int .i64 t843)) (fun _ hk => hk.2) (.slice Ao21 t844.length co21)) (fun _ h_ => h_.1))) hb); have n1_ := Aside0.mk (Kd.R_below (by (with_reducible repeat (apply Kd.R_drew)); exact (Kd.R_mono (Kd.R_far (p := ⟨gb848, 1, none⟩) (Kd.R_far (p := ⟨gb848, 0, none⟩) (Kd.R_types HO837.out BK848.out (by decide)) (fun _ hk => hk.2) (.int .i64 t843)) (fun _ hk => hk.2) (.slice Ao21 t844.length co21)) (fun _ h_ => h_.1))) hb); have n2_ := Aside0.mk (Kd.S_below (by (with_reducible repeat (apply Kd.S_drew)); exact (Kd.S_mono (Kd.S_far (p := ⟨gb848, 1, none⟩) (Kd.S_far (p := ⟨gb848, 0, none⟩) (Kd.S_types HO842.out BK848.out (by decide)) (fun _ hk => hk.2) (.int .i64 t843)) (fun _ hk => hk.2) (.slice Ao21 t844.length co21)) (fun _ h_ => h_.1))) hb); have n3_ := Aside0.mk (Kd.R_below (by (with_reducible repeat (apply Kd.R_drew)); exact (Kd.R_mono (Kd.R_far (p := ⟨gb848, 1, none⟩) (Kd.R_far (p := ⟨gb848, 0, none⟩) (Kd.R_types HO846.out BK848.out (by decide)) (fun _ hk => hk.2) (.int .i64 t843)) (fun _ hk => hk.2) (.slice Ao21 t844.length co21)) (fun _ h_ => h_.1))) hb); have n4_ := Aside0.mk (blk_below (g := gb839) (o := .cells #[.int .i64 t834, .slice Ao14 t835.length co14] 29 (0, 0)) (by (with_reducible repeat (refine blk_drew ?_)); refine blk_far ?_ NB839_848.out _; (with_reducible repeat (refine blk_drew ?_)); refine blk_far ?_ NB839_848.out _; (with_reducible repeat (refine blk_drew ?_)); exact BK839.out) hb); have n5_ := Aside0.mk (blk_below (g := gb848) (o := .cells #[.int .i64 t843, .slice Ao21 t844.length co21] 29 (0, 0)) (by (with_reducible repeat (refine blk_drew ?_)); refine blk_put (cs := #[.int .i64 t843, .slice none 0 0]) ?_ 1 _ rfl; (with_reducible repeat (refine blk_drew ?_)); refine blk_put (cs := #[.int .i64 0, .slice none 0 0]) ?_ 0 _ rfl; (with_reducible repeat (refine blk_drew ?_)); exact BK848.out) hb); have n6_ := Aside0.mk (below_step (by repeat ((with_reducible first | exact HB.out | refine below_set ?_ GE848.out))) hb); clear HO833; clear HO837; clear HO842; clear HO846; clear BK839; clear BK848; clear HB; have HO833 := n0_; have HO837 := n1_; have HO842 := n2_; have HO846 := n3_; have BK839 := n4_; have BK848 := n5_; have HB := n6_; clear n0_ n1_ n2_ n3_ n4_ n5_ n6_; (try clear hb); skip))
    go_meet
    case rel => exact ⟨_, (true), (by rfl), H', ⟨by omega⟩, ⟨by (with_reducible repeat (apply Kd.S_drew)); exact Kd.S_mono HO842.out (fun _ hk => ⟨hk.1.2, hk.2⟩)⟩, ⟨by (with_reducible repeat (apply Kd.R_drew)); exact Kd.R_mono HO837.out (fun _ hk => hk.2)⟩, ⟨by (with_reducible repeat (apply Kd.R_drew)); exact Kd.R_mono HO846.out (fun _ hk => hk.2)⟩, ⟨by (with_reducible repeat (refine blk_drew ?_)); exact BK839.out⟩, ⟨by (with_reducible repeat (refine blk_drew ?_)); exact BK848.out⟩, ⟨by repeat ((with_reducible exact HB.out))⟩⟩
  case rest =>
   clear HC8
   try clear c1
   try clear c2
   try clear p2
   try clear c3
   try clear c3b0
   try clear c4
   try clear c10
   try clear c18
   try clear c19
   try clear c23
   try clear c24
   try clear c28
   try clear hcz13_0
   try clear hcz13_1
   try clear hcz20_0
   try clear hcz20_1
   try clear hcz25_0
   try clear hcz25_1
   try clear hcz26_0
   try clear hcz26_1
   try clear hcz29_0
   try clear hcz29_1
   try clear hcz30_0
   try clear hcz30_1
   try clear hfz13_0
   try clear hfz13_1
   try clear hfz20_0
   try clear hfz20_1
   try clear hfz25_0
   try clear hfz25_1
   try clear hfz26_0
   try clear hfz26_1
   try clear hfz29_0
   try clear hfz29_1
   try clear hfz30_0
   try clear hfz30_1
   obtain ⟨kq, x40_7, rfl, HA, HJ7, HO_6, HO_840001, HO_849001, BK839, BK848, HB⟩ := hcut
   cases kq with
   | zero => exact absurd HA.out (by simp [laws_FnExactPointSpace.j0])
   | succ kj7 =>
    have H := HA.out
    clear HA
    simp only [laws_FnExactPointSpace.j0] at H
    by_cases c32 : x40_7 = true
    ·subst c32
     have H1 : (some false) = some r := by rw [if_pos rfl] at H; exact H
     clear H
     have H := H1
     clear H1
     obtain rfl := Option.some.inj H
     go_wp2
     go_ret
     exact ⟨by rfl, by repeat ((with_reducible exact HB.out))⟩
    ·replace c32 := Bool.eq_false_iff.mpr c32
     subst c32
     have H1 : ((laws_toIntSS.f kj7 l0).bind fun t850 => ((laws_eqIntSS.f kj7 t840 t850).bind fun t853 => (if t853 = true then ((laws_markIntSS.f kj7 t840 1).bind fun t854 => (if t854 < 0 then (laws_FnExactPointSpace.j1 kj7 l0 t838 true t834 t835 t843 t844) else ((laws_eqSpace.f kj7 t843 t844 t834 t835).bind fun t855 => (if t855 = true then (laws_FnExactPointSpace.j1 kj7 l0 t838 (t847 != t838) t834 t835 t843 t844) else (laws_FnExactPointSpace.j1 kj7 l0 t838 true t834 t835 t843 t844))))) else (some false)))) = some r := by rw [if_neg (show ¬ (false = true) by decide)] at H; exact H
     clear H
     have H := H1
     clear H1
     replace H := Option.bind_eq_some_iff.mp H
     obtain ⟨t850, A330, H⟩ := H
     replace H : ((laws_eqIntSS.f kj7 t840 t850).bind fun t853 => (if t853 = true then ((laws_markIntSS.f kj7 t840 1).bind fun t854 => (if t854 < 0 then (laws_FnExactPointSpace.j1 kj7 l0 t838 true t834 t835 t843 t844) else ((laws_eqSpace.f kj7 t843 t844 t834 t835).bind fun t855 => (if t855 = true then (laws_FnExactPointSpace.j1 kj7 l0 t838 (t847 != t838) t834 t835 t843 t844) else (laws_FnExactPointSpace.j1 kj7 l0 t838 true t834 t835 t843 t844))))) else (some false))) = some r := H
     have A33 := Aside0.mk A330
     clear A330
     replace H := Option.bind_eq_some_iff.mp H
     obtain ⟨t853, A340, H⟩ := H
     replace H : (if t853 = true then ((laws_markIntSS.f kj7 t840 1).bind fun t854 => (if t854 < 0 then (laws_FnExactPointSpace.j1 kj7 l0 t838 true t834 t835 t843 t844) else ((laws_eqSpace.f kj7 t843 t844 t834 t835).bind fun t855 => (if t855 = true then (laws_FnExactPointSpace.j1 kj7 l0 t838 (t847 != t838) t834 t835 t843 t844) else (laws_FnExactPointSpace.j1 kj7 l0 t838 true t834 t835 t843 t844))))) else (some false)) = some r := H
     have A34 := Aside0.mk A340
     clear A340
     by_cases c35 : t853 = true
     ·subst c35
      have H1 : ((laws_markIntSS.f kj7 t840 1).bind fun t854 => (if t854 < 0 then (laws_FnExactPointSpace.j1 kj7 l0 t838 true t834 t835 t843 t844) else ((laws_eqSpace.f kj7 t843 t844 t834 t835).bind fun t855 => (if t855 = true then (laws_FnExactPointSpace.j1 kj7 l0 t838 (t847 != t838) t834 t835 t843 t844) else (laws_FnExactPointSpace.j1 kj7 l0 t838 true t834 t835 t843 t844))))) = some r := by rw [if_pos rfl] at H; exact H
      clear H
      have H := H1
      clear H1
      replace H := Option.bind_eq_some_iff.mp H
      obtain ⟨t854, A360, H⟩ := H
      replace H : (if t854 < 0 then (laws_FnExactPointSpace.j1 kj7 l0 t838 true t834 t835 t843 t844) else ((laws_eqSpace.f kj7 t843 t844 t834 t835).bind fun t855 => (if t855 = true then (laws_FnExactPointSpace.j1 kj7 l0 t838 (t847 != t838) t834 t835 t843 t844) else (laws_FnExactPointSpace.j1 kj7 l0 t838 true t834 t835 t843 t844)))) = some r := H
      have A36 := Aside0.mk A360
      clear A360
      have HC37 := Aside0.mk H
      clear H
      go_upto_region 14 with (first | ((with_reducible refine gate_callee (f := 40) rfl ?_); refine goesL_ (some 43) rfl rfl Try.func40 (by kernel_rfl) rfl #[.slice A0 l0.length c0] rfl (by (try simp only [List.map_toArray, List.map_cons, List.map_nil]); rfl) ?_; (with_reducible refine (laws_toIntSS.calls kj7 _ _ l0 t850 _ ?side1 ?side2 A33.out).mono ?_); (case side1 => repeat (exact (Kd.C_below HR0.out HB.out))); (case side2 => exact HC0.out); rintro e w38 ⟨v851, rfl, ho0, hb⟩; refine ⟨_, rfl, ?_⟩; have n0_ := Aside0.mk (Kd.S_elder' (by (with_reducible repeat (apply Kd.S_drew)); exact HO_6.out) (Kd.S_base ho0) hb); have n1_ := Aside0.mk (Kd.R_below (by (with_reducible repeat (apply Kd.R_drew)); exact HO_840001.out) hb); have n2_ := Aside0.mk (Kd.R_below (by (with_reducible repeat (apply Kd.R_drew)); exact HO_849001.out) hb); have n3_ := Aside0.mk (Kd.S_lower (Kd.S_new' (Kd.S_new' (Kd.S_new' ho0 (Kd.S_lt (by (with_reducible repeat (apply Kd.S_drew)); exact HO_6.out))) (Kd.R_lt (by (with_reducible repeat (apply Kd.R_drew)); exact HO_840001.out))) (Kd.R_lt (by (with_reducible repeat (apply Kd.R_drew)); exact HO_849001.out))) (below_size (by repeat ((with_reducible exact HB.out))))); have n4_ := Aside0.mk (blk_below (g := gb839) (o := .cells #[.int .i64 t834, .slice Ao14 t835.length co14] 29 (0, 0)) (by (with_reducible repeat (refine blk_drew ?_)); exact BK839.out) hb); have n5_ := Aside0.mk (blk_below (g := gb848) (o := .cells #[.int .i64 t843, .slice Ao21 t844.length co21] 29 (0, 0)) (by (with_reducible repeat (refine blk_drew ?_)); exact BK848.out) hb); have n6_ := Aside0.mk (below_step (by repeat ((with_reducible exact HB.out))) hb); clear HO_6; clear HO_840001; clear HO_849001; clear BK839; clear BK848; clear HB; have HO_6 := n0_; have HO_840001 := n1_; have HO_849001 := n2_; have HO852 := n3_; have BK839 := n4_; have BK848 := n5_; have HB := n6_; clear n0_ n1_ n2_ n3_ n4_ n5_ n6_; (try clear hb); (try clear ho0); obtain ⟨Ao39, co39, eo39⟩ := Kd.S_slice HO852.out; subst eo39) | ((with_reducible refine gate_callee (f := 35) rfl ?_); refine goesL_ (some 44) rfl rfl Try.func35 (by kernel_rfl) rfl #[.slice Ao16 t840.length co16, .slice Ao39 t850.length co39] rfl (by (try simp only [List.map_toArray, List.map_cons, List.map_nil]); rfl) ?_; (with_reducible refine (laws_eqIntSS.calls kj7 _ _ t840 _ _ t850 true _ ?side1 ?side2 ?side3 ?side4 A34.out).mono ?_); (case side1 => repeat (exact (Kd.S_reads' HO_6.out).2.2)); (case side2 => exact (Kd.S_reads' HO_6.out).2.1); (case side3 => repeat (exact (Kd.S_reads' HO852.out).2.2)); (case side4 => exact (Kd.S_reads' HO852.out).2.1); rintro e w' ⟨rfl, ⟨nd, rfl⟩⟩; refine ⟨_, rfl, ?_⟩) | ((with_reducible refine gate_callee (f := 36) rfl ?_); refine goesL_ (some 48) rfl rfl Try.func36 (by kernel_rfl) rfl #[.slice Ao16 t840.length co16, .int .i64 1] rfl (by (try simp only [List.map_toArray, List.map_cons, List.map_nil]); rfl) ?_; (with_reducible refine (laws_markIntSS.calls kj7 (fun k_ => (((((some k_ ≠ (.slice Ao14 t835.length co14 : Value).ownBlock ∧ some k_ ≠ (.slice Ao21 t844.length co21 : Value).ownBlock) ∧ some k_ ≠ (.slice Ao39 t850.length co39 : Value).ownBlock) ∧ k_ ≠ gb839) ∧ k_ ≠ gb848)) ∧ w.heap.size ≤ k_) (.slice Ao16 t840.length co16) t840 1 t854 w _ ?side1 ?side2 A36.out).mono ?_); (case side1 => repeat ((with_reducible first | exact HB.out | apply pw_below_drewN))); (case side2 => exact Kd.S_mono (Kd.S_bound ((Kd.S_types (Kd.S_types HO_6.out BK839.out (by decide)) BK848.out (by decide)))) (fun k_ hk_ => ⟨hk_.1, hk_.2.1⟩)); rintro e w40 ⟨rfl, hb, hkp⟩; refine ⟨_, rfl, ?_⟩; have n0_ := Aside0.mk (Kd.R_mono (ok' := fun k_ => some k_ ≠ (.slice Ao21 t844.length co21 : Value).ownBlock) (Kd.R_keptB ((Kd.R_mono (ok' := fun k_ => (some k_ ≠ (.slice Ao21 t844.length co21 : Value).ownBlock) ∧ ¬ ((((((some k_ ≠ (.slice Ao14 t835.length co14 : Value).ownBlock ∧ some k_ ≠ (.slice Ao21 t844.length co21 : Value).ownBlock) ∧ some k_ ≠ (.slice Ao39 t850.length co39 : Value).ownBlock) ∧ k_ ≠ gb839) ∧ k_ ≠ gb848)) ∧ w.heap.size ≤ k_)) (Kd.R_tight2 rfl HO_840001.out) (fun k_ hk => ⟨hk.2, fun e_ => (e_.1.1.1.1.1) hk.1⟩))) hkp (fun k_ hk_ hs_ => (hk_.2) hs_)) (fun k_ hk_ => hk_.1.1)); have n1_ := Aside0.mk (Kd.R_mono (ok' := fun k_ => some k_ ≠ (.slice Ao14 t835.length co14 : Value).ownBlock) (Kd.R_keptB ((Kd.R_mono (ok' := fun k_ => (some k_ ≠ (.slice Ao14 t835.length co14 : Value).ownBlock) ∧ ¬ ((((((some k_ ≠ (.slice Ao14 t835.length co14 : Value).ownBlock ∧ some k_ ≠ (.slice Ao21 t844.length co21 : Value).ownBlock) ∧ some k_ ≠ (.slice Ao39 t850.length co39 : Value).ownBlock) ∧ k_ ≠ gb839) ∧ k_ ≠ gb848)) ∧ w.heap.size ≤ k_)) (Kd.R_tight2 rfl HO_849001.out) (fun k_ hk => ⟨hk.2, fun e_ => (e_.1.1.1.1.2) hk.1⟩))) hkp (fun k_ hk_ hs_ => (hk_.2) hs_)) (fun k_ hk_ => hk_.1.1)); have n2_ := Aside0.mk (blk_kept (by (with_reducible repeat (refine blk_drew ?_)); exact BK839.out) hkp (fun hs_ => (fun e_ => (e_.1.1.2) rfl) hs_)); have n3_ := Aside0.mk (blk_kept (by (with_reducible repeat (refine blk_drew ?_)); exact BK848.out) hkp (fun hs_ => (fun e_ => (e_.1.2) rfl) hs_)); have n4_ := Aside0.mk (hb); clear HO_840001; clear HO_849001; clear BK839; clear BK848; clear HB; clear HO_6; clear HO852; have HO_840001 := n0_; have HO_849001 := n1_; have BK839 := n2_; have BK848 := n3_; have HB := n4_; clear n0_ n1_ n2_ n3_ n4_; (try clear hb); (try clear hkp)))
      skip
      go_cut [61] (fun v61 wc => ∃ (kq : Nat) (x61_36 : Bool), v61 = .bool x61_36 ∧ Aside0 (laws_FnExactPointSpace.j1 kq l0 t838 x61_36 t834 t835 t843 t844 = some r) ∧ Aside0 (kq ≤ kj7) ∧ Aside0 (Kd.R (Kd.int .i64) 3 wc w.heap.size (fun k_ => some k_ ≠ ((.slice Ao21 t844.length co21) : Value).ownBlock) (.slice Ao14 t835.length co14) t835) ∧ Aside0 (Kd.R (Kd.int .i64) 3 wc w.heap.size (fun k_ => some k_ ≠ ((.slice Ao14 t835.length co14) : Value).ownBlock) (.slice Ao21 t844.length co21) t844) ∧ Aside0 (wc.heap[gb839]? = some (.cells #[.int .i64 t834, (.slice Ao14 t835.length co14)] 29 (0, 0))) ∧ Aside0 (wc.heap[gb848]? = some (.cells #[.int .i64 t843, (.slice Ao21 t844.length co21)] 29 (0, 0))) ∧ Aside0 (Below w.heap.size w wc))
      case first =>
       have H := HC37.out
       clear HC37
       by_cases c41 : t854 < 0
       ·rw [if_pos c41] at H
        have c41b0 : decide (t854 < 0) = true := decide_eq_true c41
        clear c41
        (skip)
        have H' := Aside0.mk H
        clear H
        go_wp2
        go_meet
        case rel => exact ⟨_, (true), (by rfl), H', ⟨by have := HJ7.out; omega⟩, ⟨by (with_reducible repeat (apply Kd.R_drew)); exact HO_840001.out⟩, ⟨by (with_reducible repeat (apply Kd.R_drew)); exact HO_849001.out⟩, ⟨by (with_reducible repeat (refine blk_drew ?_)); exact BK839.out⟩, ⟨by (with_reducible repeat (refine blk_drew ?_)); exact BK848.out⟩, ⟨by repeat ((with_reducible exact HB.out))⟩⟩
       ·rw [if_neg c41] at H
        have c41b0 : decide (t854 < 0) = false := decide_eq_false c41
        clear c41
        (skip)
        replace H := Option.bind_eq_some_iff.mp H
        obtain ⟨t855, A420, H⟩ := H
        replace H : (if t855 = true then (laws_FnExactPointSpace.j1 kj7 l0 t838 (t847 != t838) t834 t835 t843 t844) else (laws_FnExactPointSpace.j1 kj7 l0 t838 true t834 t835 t843 t844)) = some r := H
        have A42 := Aside0.mk A420
        clear A420
        by_cases c43 : t855 = true
        ·subst c43
         have H1 : (laws_FnExactPointSpace.j1 kj7 l0 t838 (t847 != t838) t834 t835 t843 t844) = some r := by rw [if_pos rfl] at H; exact H
         clear H
         have H := H1
         clear H1
         have H' := Aside0.mk H
         clear H
         have hnb44 := NB848_839.out
         have hnc44 := NB839_848.out
         have hcz45_0 : w40.cell? ⟨gb848, 0, none⟩ = some (.int .i64 t843) := (blk_cell BK848.out 0).trans rfl
         have hcz45_1 : w40.cell? ⟨gb848, 1, none⟩ = some (.slice Ao21 t844.length co21) := (blk_cell BK848.out 1).trans rfl
         have hfz45_0 := blk_frozen BK848.out 0
         have hfz45_1 := blk_frozen BK848.out 1
         have hcz46_0 : w40.cell? ⟨gb839, 0, none⟩ = some (.int .i64 t834) := (blk_cell BK839.out 0).trans rfl
         have hcz46_1 : w40.cell? ⟨gb839, 1, none⟩ = some (.slice Ao14 t835.length co14) := (blk_cell BK839.out 1).trans rfl
         have hfz46_0 := blk_frozen BK839.out 0
         have hfz46_1 := blk_frozen BK839.out 1
         go_wp2_with ((go_at_call 18; (with_reducible refine (laws_eqSpace.calls kj7 t843 _ _ t844 t834 _ _ t835 true _ ?side1 ?side2 ?side3 ?side4 A42.out).mono ?_); (case side1 => repeat (exact (Kd.R_reads' HO_849001.out).2.2)); (case side2 => exact (Kd.R_reads' HO_849001.out).2.1); (case side3 => repeat (exact (Kd.R_reads' HO_840001.out).2.2)); (case side4 => exact (Kd.R_reads' HO_840001.out).2.1); rintro e w47 ⟨rfl, hb⟩; have n0_ := Aside0.mk (Kd.R_below (by (with_reducible repeat (apply Kd.R_drew)); exact HO_840001.out) hb); have n1_ := Aside0.mk (Kd.R_below (by (with_reducible repeat (apply Kd.R_drew)); exact HO_849001.out) hb); have n2_ := Aside0.mk (blk_below (g := gb839) (o := .cells #[.int .i64 t834, .slice Ao14 t835.length co14] 29 (0, 0)) (by (with_reducible repeat (refine blk_drew ?_)); exact BK839.out) hb); have n3_ := Aside0.mk (blk_below (g := gb848) (o := .cells #[.int .i64 t843, .slice Ao21 t844.length co21] 29 (0, 0)) (by (with_reducible repeat (refine blk_drew ?_)); exact BK848.out) hb); have n4_ := Aside0.mk (below_step (by repeat ((with_reducible exact HB.out))) hb); clear HO_840001; clear HO_849001; clear BK839; clear BK848; clear HB; have HO_840001 := n0_; have HO_849001 := n1_; have BK839 := n2_; have BK848 := n3_; have HB := n4_; clear n0_ n1_ n2_ n3_ n4_; (try clear hb); skip))
         go_meet
         case rel => exact ⟨_, ((t847 != t838)), (by rfl), H', ⟨by have := HJ7.out; omega⟩, ⟨by (with_reducible repeat (apply Kd.R_drew)); exact HO_840001.out⟩, ⟨by (with_reducible repeat (apply Kd.R_drew)); exact HO_849001.out⟩, ⟨by (with_reducible repeat (refine blk_drew ?_)); exact BK839.out⟩, ⟨by (with_reducible repeat (refine blk_drew ?_)); exact BK848.out⟩, ⟨by repeat ((with_reducible exact HB.out))⟩⟩
        ·replace c43 := Bool.eq_false_iff.mpr c43
         subst c43
         have H1 : (laws_FnExactPointSpace.j1 kj7 l0 t838 true t834 t835 t843 t844) = some r := by rw [if_neg (show ¬ (false = true) by decide)] at H; exact H
         clear H
         have H := H1
         clear H1
         have H' := Aside0.mk H
         clear H
         have hnb48 := NB848_839.out
         have hnc48 := NB839_848.out
         have hcz49_0 : w40.cell? ⟨gb848, 0, none⟩ = some (.int .i64 t843) := (blk_cell BK848.out 0).trans rfl
         have hcz49_1 : w40.cell? ⟨gb848, 1, none⟩ = some (.slice Ao21 t844.length co21) := (blk_cell BK848.out 1).trans rfl
         have hfz49_0 := blk_frozen BK848.out 0
         have hfz49_1 := blk_frozen BK848.out 1
         have hcz50_0 : w40.cell? ⟨gb839, 0, none⟩ = some (.int .i64 t834) := (blk_cell BK839.out 0).trans rfl
         have hcz50_1 : w40.cell? ⟨gb839, 1, none⟩ = some (.slice Ao14 t835.length co14) := (blk_cell BK839.out 1).trans rfl
         have hfz50_0 := blk_frozen BK839.out 0
         have hfz50_1 := blk_frozen BK839.out 1
         go_wp2_with ((go_at_call 18; (with_reducible refine (laws_eqSpace.calls kj7 t843 _ _ t844 t834 _ _ t835 false _ ?side1 ?side2 ?side3 ?side4 A42.out).mono ?_); (case side1 => repeat (exact (Kd.R_reads' HO_849001.out).2.2)); (case side2 => exact (Kd.R_reads' HO_849001.out).2.1); (case side3 => repeat (exact (Kd.R_reads' HO_840001.out).2.2)); (case side4 => exact (Kd.R_reads' HO_840001.out).2.1); rintro e w51 ⟨rfl, hb⟩; have n0_ := Aside0.mk (Kd.R_below (by (with_reducible repeat (apply Kd.R_drew)); exact HO_840001.out) hb); have n1_ := Aside0.mk (Kd.R_below (by (with_reducible repeat (apply Kd.R_drew)); exact HO_849001.out) hb); have n2_ := Aside0.mk (blk_below (g := gb839) (o := .cells #[.int .i64 t834, .slice Ao14 t835.length co14] 29 (0, 0)) (by (with_reducible repeat (refine blk_drew ?_)); exact BK839.out) hb); have n3_ := Aside0.mk (blk_below (g := gb848) (o := .cells #[.int .i64 t843, .slice Ao21 t844.length co21] 29 (0, 0)) (by (with_reducible repeat (refine blk_drew ?_)); exact BK848.out) hb); have n4_ := Aside0.mk (below_step (by repeat ((with_reducible exact HB.out))) hb); clear HO_840001; clear HO_849001; clear BK839; clear BK848; clear HB; have HO_840001 := n0_; have HO_849001 := n1_; have BK839 := n2_; have BK848 := n3_; have HB := n4_; clear n0_ n1_ n2_ n3_ n4_; (try clear hb); skip))
         go_meet
         case rel => exact ⟨_, (true), (by rfl), H', ⟨by have := HJ7.out; omega⟩, ⟨by (with_reducible repeat (apply Kd.R_drew)); exact HO_840001.out⟩, ⟨by (with_reducible repeat (apply Kd.R_drew)); exact HO_849001.out⟩, ⟨by (with_reducible repeat (refine blk_drew ?_)); exact BK839.out⟩, ⟨by (with_reducible repeat (refine blk_drew ?_)); exact BK848.out⟩, ⟨by repeat ((with_reducible exact HB.out))⟩⟩
      case rest =>
       clear HC37
       try clear c1
       try clear c2
       try clear p2
       try clear c3
       try clear c3b0
       try clear c4
       try clear c10
       try clear c18
       try clear c19
       try clear c23
       try clear c24
       try clear c28
       try clear c32
       try clear c35
       try clear c36
       try clear c38
       try clear c40
       try clear c41
       try clear c41b0
       try clear c43
       try clear c44
       try clear c45
       try clear c48
       try clear hcz13_0
       try clear hcz13_1
       try clear hcz20_0
       try clear hcz20_1
       try clear hcz25_0
       try clear hcz25_1
       try clear hcz26_0
       try clear hcz26_1
       try clear hcz29_0
       try clear hcz29_1
       try clear hcz30_0
       try clear hcz30_1
       try clear hcz45_0
       try clear hcz45_1
       try clear hcz46_0
       try clear hcz46_1
       try clear hcz49_0
       try clear hcz49_1
       try clear hcz50_0
       try clear hcz50_1
       try clear hfz13_0
       try clear hfz13_1
       try clear hfz20_0
       try clear hfz20_1
       try clear hfz25_0
       try clear hfz25_1
       try clear hfz26_0
       try clear hfz26_1
       try clear hfz29_0
       try clear hfz29_1
       try clear hfz30_0
       try clear hfz30_1
       try clear hfz45_0
       try clear hfz45_1
       try clear hfz46_0
       try clear hfz46_1
       try clear hfz49_0
       try clear hfz49_1
       try clear hfz50_0
       try clear hfz50_1
       try clear p2
       obtain ⟨kq, x61_36, rfl, HA, HJ36, HO_840001, HO_849001, BK839, BK848, HB⟩ := hcut
       cases kq with
       | zero => exact absurd HA.out (by simp [laws_FnExactPointSpace.j1])
       | succ kj36 =>
        have H := HA.out
        clear HA
        simp only [laws_FnExactPointSpace.j1] at H
        by_cases c52 : x61_36 = true
        ·subst c52
         have H1 : (some false) = some r := by rw [if_pos rfl] at H; exact H
         clear H
         have H := H1
         clear H1
         obtain rfl := Option.some.inj H
         go_wp2
         go_ret
         exact ⟨by rfl, by repeat ((with_reducible exact HB.out))⟩
        ·replace c52 := Bool.eq_false_iff.mpr c52
         subst c52
         have H1 : ((laws_markSpace.f kj36 t843 t844 1).bind fun bt856 => ((laws_heldSpace.f kj36 t843 bt856.2 1).bind fun t858 => (if t858 < 0 then (some false) else (if t858 = bt856.1 then ((laws_toIntSS.f kj36 l0).bind fun t859 => ((impl_PointSpace.f kj36 t859).bind fun bt862 => ((laws_eqSpace.f kj36 bt862.1 bt862.2.1 t834 t835).bind fun t868 => (if t868 = true then (laws_FnExactPointSpace.j2 kj36 bt856.1 (bt862.2.2 != t838) t843 bt856.2) else (laws_FnExactPointSpace.j2 kj36 bt856.1 true t843 bt856.2))))) else (some false))))) = some r := by rw [if_neg (show ¬ (false = true) by decide)] at H; exact H
         clear H
         have H := H1
         clear H1
         replace H := Option.bind_eq_some_iff.mp H
         obtain ⟨⟨t856, t857⟩, A530, H⟩ := H
         replace H : ((laws_heldSpace.f kj36 t843 t857 1).bind fun t858 => (if t858 < 0 then (some false) else (if t858 = t856 then ((laws_toIntSS.f kj36 l0).bind fun t859 => ((impl_PointSpace.f kj36 t859).bind fun bt862 => ((laws_eqSpace.f kj36 bt862.1 bt862.2.1 t834 t835).bind fun t868 => (if t868 = true then (laws_FnExactPointSpace.j2 kj36 t856 (bt862.2.2 != t838) t843 t857) else (laws_FnExactPointSpace.j2 kj36 t856 true t843 t857))))) else (some false)))) = some r := H
         have A53 := Aside0.mk A530
         clear A530
         replace H := Option.bind_eq_some_iff.mp H
         obtain ⟨t858, A540, H⟩ := H
         replace H : (if t858 < 0 then (some false) else (if t858 = t856 then ((laws_toIntSS.f kj36 l0).bind fun t859 => ((impl_PointSpace.f kj36 t859).bind fun bt862 => ((laws_eqSpace.f kj36 bt862.1 bt862.2.1 t834 t835).bind fun t868 => (if t868 = true then (laws_FnExactPointSpace.j2 kj36 t856 (bt862.2.2 != t838) t843 t857) else (laws_FnExactPointSpace.j2 kj36 t856 true t843 t857))))) else (some false))) = some r := H
         have A54 := Aside0.mk A540
         clear A540
         by_cases c55 : t858 < 0
         ·rw [if_pos c55] at H
          have c55b0 : decide (t858 < 0) = true := decide_eq_true c55
          clear c55
          obtain rfl := Option.some.inj H
          have hnb56 := NB848_839.out
          have hnc56 := NB839_848.out
          have hcz57_0 : wc.cell? ⟨gb848, 0, none⟩ = some (.int .i64 t843) := (blk_cell BK848.out 0).trans rfl
          have hcz57_1 : wc.cell? ⟨gb848, 1, none⟩ = some (.slice Ao21 t844.length co21) := (blk_cell BK848.out 1).trans rfl
          have hfz57_0 := blk_frozen BK848.out 0
          have hfz57_1 := blk_frozen BK848.out 1
          go_wp2_with (first | ((with_reducible refine gate_callee (f := 19) rfl ?_); refine goesL_ (some 64) rfl rfl Try.func19 (by kernel_rfl) rfl #[.agg #[.int .i64 t843, .slice Ao21 t844.length co21], .int .i64 1] rfl (by (try simp only [List.map_toArray, List.map_cons, List.map_nil]); rfl) ?_; (with_reducible refine (laws_markSpace.calls kj36 t843 (fun k_ => some k_ = (.slice Ao21 t844.length co21 : Value).ownBlock) (.slice Ao21 t844.length co21) t844 1 t856 t857 w _ ?side1 ?side2 A53.out).mono ?_); (case side1 => repeat ((with_reducible exact HB.out))); (case side2 => exact Kd.R_tight rfl HO_849001.out); rintro e w58 ⟨rfl, hy0, hb, hkp⟩; refine ⟨_, rfl, ?_⟩; have n0_ := Aside0.mk (Kd.R_mono (ok' := fun k_ => some k_ ≠ (.slice Ao21 t844.length co21 : Value).ownBlock) (Kd.R_keptB (HO_840001.out) hkp (fun k_ hk_ hs_ => (hk_) hs_)) (fun k_ hk_ => hk_.1)); have n1_ := Aside0.mk (Kd.R_reok rfl hy0 (fun k_ e_ => HO_849001.out.1 k_ e_)); have n2_ := Aside0.mk (blk_kept (by (with_reducible repeat (refine blk_drew ?_)); exact BK839.out) hkp (fun hs_ => (fun e_ => (Kd.R_ne HO_849001.out BK839.out (by decide)) e_) hs_)); have n3_ := Aside0.mk (blk_kept (by (with_reducible repeat (refine blk_drew ?_)); exact BK848.out) hkp (fun hs_ => (fun e_ => (Kd.R_ne HO_849001.out BK848.out (by decide)) e_) hs_)); have n4_ := Aside0.mk (hb); clear HO_840001; clear HO_849001; clear BK839; clear BK848; clear HB; have HO_840001 := n0_; have HO_849001 := n1_; have BK839 := n2_; have BK848 := n3_; have HB := n4_; clear n0_ n1_ n2_ n3_ n4_; (try clear hb); (try clear hkp); (try clear hy0); have hcz59_0 : w58.cell? ⟨gb848, 0, none⟩ = some (.int .i64 t843) := (blk_cell BK848.out 0).trans rfl; have hcz59_1 : w58.cell? ⟨gb848, 1, none⟩ = some (.slice Ao21 t844.length co21) := (blk_cell BK848.out 1).trans rfl; have hfz59_0 := blk_frozen BK848.out 0; have hfz59_1 := blk_frozen BK848.out 1) | ((with_reducible refine gate_callee (f := 20) rfl ?_); refine goesL_ (some 67) rfl rfl Try.func20 (by kernel_rfl) rfl #[.agg #[.int .i64 t843, .slice Ao21 t857.length co21], .int .i64 1] rfl (by (try simp only [List.map_toArray, List.map_cons, List.map_nil]); (rw [show t857.length = t844.length from (Kd.R_reads' HO_849001.out).1.symm] <;> rfl)) ?_; (with_reducible refine (laws_heldSpace.calls kj36 t843 _ _ t857 1 t858 _ ?side1 ?side2 A54.out).mono ?_); (case side1 => repeat (exact (Kd.R_reads' HO_849001.out).2.2)); (case side2 => rw [show t857.length = t844.length from (Kd.R_reads' HO_849001.out).1.symm]; exact (Kd.R_reads' HO_849001.out).2.1); rintro e w60 ⟨rfl, hb⟩; refine ⟨_, rfl, ?_⟩; have n0_ := Aside0.mk (Kd.R_below (by (with_reducible repeat (apply Kd.R_drew)); exact HO_840001.out) hb); have n1_ := Aside0.mk (Kd.R_below (by (with_reducible repeat (apply Kd.R_drew)); exact HO_849001.out) hb); have n2_ := Aside0.mk (blk_below (g := gb839) (o := .cells #[.int .i64 t834, .slice Ao14 t835.length co14] 29 (0, 0)) (by (with_reducible repeat (refine blk_drew ?_)); exact BK839.out) hb); have n3_ := Aside0.mk (blk_below (g := gb848) (o := .cells #[.int .i64 t843, .slice Ao21 t844.length co21] 29 (0, 0)) (by (with_reducible repeat (refine blk_drew ?_)); exact BK848.out) hb); have n4_ := Aside0.mk (below_step (by repeat ((with_reducible exact HB.out))) hb); clear HO_840001; clear HO_849001; clear BK839; clear BK848; clear HB; have HO_840001 := n0_; have HO_849001 := n1_; have BK839 := n2_; have BK848 := n3_; have HB := n4_; clear n0_ n1_ n2_ n3_ n4_; (try clear hb); skip))
          go_ret
          exact ⟨by rfl, by repeat ((with_reducible exact HB.out))⟩
         ·rw [if_neg c55] at H
          have c55b0 : decide (t858 < 0) = false := decide_eq_false c55
          clear c55
          by_cases c61 : t858 = t856
          ·rw [if_pos c61] at H
           have c61b0 : (t858 == t856) = true := beq_iff_eq.mpr c61
           have c61b1 : (t858 != t856) = false := bne_eq_false_iff_eq.mpr c61
           clear c61
           replace H := Option.bind_eq_some_iff.mp H
           obtain ⟨t859, A620, H⟩ := H
           replace H : ((impl_PointSpace.f kj36 t859).bind fun bt862 => ((laws_eqSpace.f kj36 bt862.1 bt862.2.1 t834 t835).bind fun t868 => (if t868 = true then (laws_FnExactPointSpace.j2 kj36 t856 (bt862.2.2 != t838) t843 t857) else (laws_FnExactPointSpace.j2 kj36 t856 true t843 t857)))) = some r := H
           have A62 := Aside0.mk A620
           clear A620
           replace H := Option.bind_eq_some_iff.mp H
           obtain ⟨⟨t862, t863, t866⟩, A630, H⟩ := H
           replace H : ((laws_eqSpace.f kj36 t862 t863 t834 t835).bind fun t868 => (if t868 = true then (laws_FnExactPointSpace.j2 kj36 t856 (t866 != t838) t843 t857) else (laws_FnExactPointSpace.j2 kj36 t856 true t843 t857))) = some r := H
           have A63 := Aside0.mk A630
           clear A630
           have HC64 := Aside0.mk H
           clear H
           have hnb65 := NB848_839.out
           have hnc65 := NB839_848.out
           have hcz66_0 : wc.cell? ⟨gb848, 0, none⟩ = some (.int .i64 t843) := (blk_cell BK848.out 0).trans rfl
           have hcz66_1 : wc.cell? ⟨gb848, 1, none⟩ = some (.slice Ao21 t844.length co21) := (blk_cell BK848.out 1).trans rfl
           have hfz66_0 := blk_frozen BK848.out 0
           have hfz66_1 := blk_frozen BK848.out 1
           go_upto_region 25 with (first | ((with_reducible refine gate_callee (f := 19) rfl ?_); refine goesL_ (some 64) rfl rfl Try.func19 (by kernel_rfl) rfl #[.agg #[.int .i64 t843, .slice Ao21 t844.length co21], .int .i64 1] rfl (by (try simp only [List.map_toArray, List.map_cons, List.map_nil]); rfl) ?_; (with_reducible refine (laws_markSpace.calls kj36 t843 (fun k_ => some k_ = (.slice Ao21 t844.length co21 : Value).ownBlock) (.slice Ao21 t844.length co21) t844 1 t856 t857 w _ ?side1 ?side2 A53.out).mono ?_); (case side1 => repeat ((with_reducible exact HB.out))); (case side2 => exact Kd.R_tight rfl HO_849001.out); rintro e w67 ⟨rfl, hy0, hb, hkp⟩; refine ⟨_, rfl, ?_⟩; have n0_ := Aside0.mk (Kd.R_mono (ok' := fun k_ => some k_ ≠ (.slice Ao21 t844.length co21 : Value).ownBlock) (Kd.R_keptB (HO_840001.out) hkp (fun k_ hk_ hs_ => (hk_) hs_)) (fun k_ hk_ => hk_.1)); have n1_ := Aside0.mk (Kd.R_reok rfl hy0 (fun k_ e_ => HO_849001.out.1 k_ e_)); have n2_ := Aside0.mk (blk_kept (by (with_reducible repeat (refine blk_drew ?_)); exact BK839.out) hkp (fun hs_ => (fun e_ => (Kd.R_ne HO_849001.out BK839.out (by decide)) e_) hs_)); have n3_ := Aside0.mk (blk_kept (by (with_reducible repeat (refine blk_drew ?_)); exact BK848.out) hkp (fun hs_ => (fun e_ => (Kd.R_ne HO_849001.out BK848.out (by decide)) e_) hs_)); have n4_ := Aside0.mk (hb); clear HO_840001; clear HO_849001; clear BK839; clear BK848; clear HB; have HO_840001 := n0_; have HO_849001 := n1_; have BK839 := n2_; have BK848 := n3_; have HB := n4_; clear n0_ n1_ n2_ n3_ n4_; (try clear hb); (try clear hkp); (try clear hy0); have hcz68_0 : w67.cell? ⟨gb848, 0, none⟩ = some (.int .i64 t843) := (blk_cell BK848.out 0).trans rfl; have hcz68_1 : w67.cell? ⟨gb848, 1, none⟩ = some (.slice Ao21 t844.length co21) := (blk_cell BK848.out 1).trans rfl; have hfz68_0 := blk_frozen BK848.out 0; have hfz68_1 := blk_frozen BK848.out 1) | ((with_reducible refine gate_callee (f := 20) rfl ?_); refine goesL_ (some 67) rfl rfl Try.func20 (by kernel_rfl) rfl #[.agg #[.int .i64 t843, .slice Ao21 t857.length co21], .int .i64 1] rfl (by (try simp only [List.map_toArray, List.map_cons, List.map_nil]); (rw [show t857.length = t844.length from (Kd.R_reads' HO_849001.out).1.symm] <;> rfl)) ?_; (with_reducible refine (laws_heldSpace.calls kj36 t843 _ _ t857 1 t858 _ ?side1 ?side2 A54.out).mono ?_); (case side1 => repeat (exact (Kd.R_reads' HO_849001.out).2.2)); (case side2 => rw [show t857.length = t844.length from (Kd.R_reads' HO_849001.out).1.symm]; exact (Kd.R_reads' HO_849001.out).2.1); rintro e w69 ⟨rfl, hb⟩; refine ⟨_, rfl, ?_⟩; have n0_ := Aside0.mk (Kd.R_below (by (with_reducible repeat (apply Kd.R_drew)); exact HO_840001.out) hb); have n1_ := Aside0.mk (Kd.R_below (by (with_reducible repeat (apply Kd.R_drew)); exact HO_849001.out) hb); have n2_ := Aside0.mk (blk_below (g := gb839) (o := .cells #[.int .i64 t834, .slice Ao14 t835.length co14] 29 (0, 0)) (by (with_reducible repeat (refine blk_drew ?_)); exact BK839.out) hb); have n3_ := Aside0.mk (blk_below (g := gb848) (o := .cells #[.int .i64 t843, .slice Ao21 t844.length co21] 29 (0, 0)) (by (with_reducible repeat (refine blk_drew ?_)); exact BK848.out) hb); have n4_ := Aside0.mk (below_step (by repeat ((with_reducible exact HB.out))) hb); clear HO_840001; clear HO_849001; clear BK839; clear BK848; clear HB; have HO_840001 := n0_; have HO_849001 := n1_; have BK839 := n2_; have BK848 := n3_; have HB := n4_; clear n0_ n1_ n2_ n3_ n4_; (try clear hb); skip) | ((with_reducible refine gate_callee (f := 40) rfl ?_); refine goesL_ (some 75) rfl rfl Try.func40 (by kernel_rfl) rfl #[.slice A0 l0.length c0] rfl (by (try simp only [List.map_toArray, List.map_cons, List.map_nil]); rfl) ?_; (with_reducible refine (laws_toIntSS.calls kj36 _ _ l0 t859 _ ?side1 ?side2 A62.out).mono ?_); (case side1 => repeat (exact (Kd.C_below HR0.out HB.out))); (case side2 => exact HC0.out); rintro e w70 ⟨v860, rfl, ho0, hb⟩; refine ⟨_, rfl, ?_⟩; have n0_ := Aside0.mk (Kd.R_below (by (with_reducible repeat (apply Kd.R_drew)); exact HO_840001.out) hb); have n1_ := Aside0.mk (Kd.R_below (by (with_reducible repeat (apply Kd.R_drew)); exact HO_849001.out) hb); have n2_ := Aside0.mk (Kd.S_lower (Kd.S_new' (Kd.S_new' ho0 (Kd.R_lt (by (with_reducible repeat (apply Kd.R_drew)); exact HO_840001.out))) (Kd.R_lt (by (with_reducible repeat (apply Kd.R_drew)); exact HO_849001.out))) (below_size (by repeat ((with_reducible exact HB.out))))); have n3_ := Aside0.mk (blk_below (g := gb839) (o := .cells #[.int .i64 t834, .slice Ao14 t835.length co14] 29 (0, 0)) (by (with_reducible repeat (refine blk_drew ?_)); exact BK839.out) hb); have n4_ := Aside0.mk (blk_below (g := gb848) (o := .cells #[.int .i64 t843, .slice Ao21 t844.length co21] 29 (0, 0)) (by (with_reducible repeat (refine blk_drew ?_)); exact BK848.out) hb); have n5_ := Aside0.mk (below_step (by repeat ((with_reducible exact HB.out))) hb); clear HO_840001; clear HO_849001; clear BK839; clear BK848; clear HB; have HO_840001 := n0_; have HO_849001 := n1_; have HO861 := n2_; have BK839 := n3_; have BK848 := n4_; have HB := n5_; clear n0_ n1_ n2_ n3_ n4_ n5_; (try clear hb); (try clear ho0); obtain ⟨Ao71, co71, eo71⟩ := Kd.S_slice HO861.out; subst eo71) | ((with_reducible refine gate_callee (f := 45) rfl ?_); refine goesL_ (some 76) rfl rfl Try.func45 (by kernel_rfl) rfl #[.slice Ao71 t859.length co71] rfl (by (try simp only [List.map_toArray, List.map_cons, List.map_nil]); rfl) ?_; (with_reducible refine (impl_PointSpace.calls kj36 (fun k_ => ((((True ∧ some k_ ≠ (.slice Ao14 t835.length co14 : Value).ownBlock) ∧ some k_ ≠ (.slice Ao21 t844.length co21 : Value).ownBlock) ∧ k_ ≠ gb839) ∧ k_ ≠ gb848)) _ _ t859 t862 t863 t866 _ ?side1 A63.out).mono ?_); (case side1 => exact Kd.S_V (Kd.S_types (Kd.S_types (HO861.out) BK839.out (by decide)) BK848.out (by decide))); rintro e w72 ⟨v864, rfl, ho0, hb⟩; refine ⟨_, rfl, ?_⟩; have n0_ := Aside0.mk (Kd.R_elder' (by (with_reducible repeat (apply Kd.R_drew)); exact HO_840001.out) (Kd.R_base ho0) hb); have n1_ := Aside0.mk (Kd.R_elder' (by (with_reducible repeat (apply Kd.R_drew)); exact HO_849001.out) (Kd.R_base ho0) hb); have n2_ := Aside0.mk (Kd.S_elder' (by (with_reducible repeat (apply Kd.S_drew)); exact HO861.out) (Kd.R_base ho0) hb); have n3_ := Aside0.mk (Kd.R_lower (Kd.R_new' (Kd.R_new' (Kd.R_mono (ok' := fun k_ => True) ho0 (fun _ hk_ => trivial)) (Kd.R_lt (by (with_reducible repeat (apply Kd.R_drew)); exact HO_840001.out))) (Kd.R_lt (by (with_reducible repeat (apply Kd.R_drew)); exact HO_849001.out))) (below_size (by repeat ((with_reducible exact HB.out))))); have n4_ := Aside0.mk (blk_below (g := gb839) (o := .cells #[.int .i64 t834, .slice Ao14 t835.length co14] 29 (0, 0)) (by (with_reducible repeat (refine blk_drew ?_)); exact BK839.out) hb); have n5_ := Aside0.mk (blk_below (g := gb848) (o := .cells #[.int .i64 t843, .slice Ao21 t844.length co21] 29 (0, 0)) (by (with_reducible repeat (refine blk_drew ?_)); exact BK848.out) hb); have n6_ := Aside0.mk (below_step (by repeat ((with_reducible exact HB.out))) hb); clear HO_840001; clear HO_849001; clear HO861; clear BK839; clear BK848; clear HB; have HO_840001 := n0_; have HO_849001 := n1_; have HO861 := n2_; have HO865 := n3_; have BK839 := n4_; have BK848 := n5_; have HB := n6_; clear n0_ n1_ n2_ n3_ n4_ n5_ n6_; (try clear hb); (try clear ho0)) | ((with_reducible refine gate_dst (N := 12) rfl ?_); refine box_event ?hg (N := 12) ?hd (cs := #[.int .i64 0, .slice none 0 0]) (t := 29) ?hr ?_; (case hd => rfl); (case hg => rfl); (case hr => (go_simp; done)); intro gb867 hg w73 hbox hb; have n0_ := Aside0.mk (Kd.R_below (by (with_reducible repeat (apply Kd.R_drew)); exact HO_840001.out) hb); have n1_ := Aside0.mk (Kd.R_below (by (with_reducible repeat (apply Kd.R_drew)); exact HO_849001.out) hb); have n2_ := Aside0.mk (Kd.S_below (by (with_reducible repeat (apply Kd.S_drew)); exact HO861.out) hb); have n3_ := Aside0.mk (Kd.R_below (by (with_reducible repeat (apply Kd.R_drew)); exact HO865.out) hb); have n4_ := Aside0.mk (blk_below (g := gb839) (o := .cells #[.int .i64 t834, .slice Ao14 t835.length co14] 29 (0, 0)) (by (with_reducible repeat (refine blk_drew ?_)); exact BK839.out) hb); have n5_ := Aside0.mk (blk_below (g := gb848) (o := .cells #[.int .i64 t843, .slice Ao21 t844.length co21] 29 (0, 0)) (by (with_reducible repeat (refine blk_drew ?_)); exact BK848.out) hb); have n6_ := Aside0.mk (below_step (by repeat ((with_reducible exact HB.out))) hb); have n7_ := Aside0.mk (hbox); have n8_ := Aside0.mk ((by rw [hg]; exact (below_size (by repeat ((with_reducible exact HB.out)))) : w.heap.size ≤ gb867)); have n9_ := Aside0.mk ((by rw [hg]; exact (below_size (by repeat ((with_reducible exact HB.out)))) : w.heap.size ≤ gb867)); have n10_ := Aside0.mk ((by rw [hg]; exact Nat.ne_of_lt (blk_lt (g := gb839) (o := .cells #[.int .i64 t834, .slice Ao14 t835.length co14] 29 (0, 0)) (by (with_reducible repeat (refine blk_drew ?_)); exact BK839.out)) : gb839 ≠ gb867)); have n11_ := Aside0.mk ((by rw [hg]; exact Nat.ne_of_gt (blk_lt (g := gb839) (o := .cells #[.int .i64 t834, .slice Ao14 t835.length co14] 29 (0, 0)) (by (with_reducible repeat (refine blk_drew ?_)); exact BK839.out)) : gb867 ≠ gb839)); have n12_ := Aside0.mk ((by rw [hg]; exact Nat.ne_of_lt (blk_lt (g := gb848) (o := .cells #[.int .i64 t843, .slice Ao21 t844.length co21] 29 (0, 0)) (by (with_reducible repeat (refine blk_drew ?_)); exact BK848.out)) : gb848 ≠ gb867)); have n13_ := Aside0.mk ((by rw [hg]; exact Nat.ne_of_gt (blk_lt (g := gb848) (o := .cells #[.int .i64 t843, .slice Ao21 t844.length co21] 29 (0, 0)) (by (with_reducible repeat (refine blk_drew ?_)); exact BK848.out)) : gb867 ≠ gb848)); clear HO_840001; clear HO_849001; clear HO861; clear HO865; clear BK839; clear BK848; clear HB; have HO_840001 := n0_; have HO_849001 := n1_; have HO861 := n2_; have HO865 := n3_; have BK839 := n4_; have BK848 := n5_; have HB := n6_; have BK867 := n7_; have GW867 := n8_; have GE867 := n9_; have NB839_867 := n10_; have NB867_839 := n11_; have NB848_867 := n12_; have NB867_848 := n13_; clear n0_ n1_ n2_ n3_ n4_ n5_ n6_ n7_ n8_ n9_ n10_ n11_ n12_ n13_; clear hb hbox hg; have hnb74 := NB867_839.out; have hnc74 := NB839_867.out; have hnb75 := NB867_848.out; have hnc75 := NB848_867.out; have hcz76_0 : w73.cell? ⟨gb867, 0, none⟩ = some (.int .i64 0) := (blk_cell BK867.out 0).trans rfl; have hcz76_1 : w73.cell? ⟨gb867, 1, none⟩ = some (.slice none 0 0) := (blk_cell BK867.out 1).trans rfl; have hfz76_0 := blk_frozen BK867.out 0; have hfz76_1 := blk_frozen BK867.out 1; obtain ⟨Ao77, co77, eo77⟩ := Kd.R_slice HO865.out; subst eo77))
           skip
           go_cut [87] (fun v87 wc => ∃ (kq : Nat) (x87_63 : Bool), v87 = .bool x87_63 ∧ Aside0 (laws_FnExactPointSpace.j2 kq t856 x87_63 t843 t857 = some r) ∧ Aside0 (kq ≤ kj36) ∧ Aside0 (Kd.R (Kd.int .i64) 3 wc w.heap.size (fun k_ => some k_ ≠ ((.slice Ao21 t844.length co21) : Value).ownBlock ∧ some k_ ≠ ((.slice Ao77 t863.length co77) : Value).ownBlock) (.slice Ao14 t835.length co14) t835) ∧ Aside0 (Kd.R (Kd.int .i64) 3 wc w.heap.size (fun k_ => some k_ ≠ ((.slice Ao14 t835.length co14) : Value).ownBlock ∧ some k_ ≠ ((.slice Ao77 t863.length co77) : Value).ownBlock) (.slice Ao21 t844.length co21) t857) ∧ Aside0 (Kd.R (Kd.int .i64) 3 wc w.heap.size (fun k_ => some k_ ≠ ((.slice Ao14 t835.length co14) : Value).ownBlock ∧ some k_ ≠ ((.slice Ao21 t844.length co21) : Value).ownBlock) (.slice Ao77 t863.length co77) t863) ∧ Aside0 (wc.heap[gb839]? = some (.cells #[.int .i64 t834, (.slice Ao14 t835.length co14)] 29 (0, 0))) ∧ Aside0 (wc.heap[gb848]? = some (.cells #[.int .i64 t843, (.slice Ao21 t844.length co21)] 29 (0, 0))) ∧ Aside0 (wc.heap[gb867]? = some (.cells #[.int .i64 t862, (.slice Ao77 t863.length co77)] 29 (0, 0))) ∧ Aside0 (Below w.heap.size w wc))
           case first =>
            have H := HC64.out
            clear HC64
            replace H := Option.bind_eq_some_iff.mp H
            obtain ⟨t868, A780, H⟩ := H
            replace H : (if t868 = true then (laws_FnExactPointSpace.j2 kj36 t856 (t866 != t838) t843 t857) else (laws_FnExactPointSpace.j2 kj36 t856 true t843 t857)) = some r := H
            have A78 := Aside0.mk A780
            clear A780
            by_cases c79 : t868 = true
            ·subst c79
             have H1 : (laws_FnExactPointSpace.j2 kj36 t856 (t866 != t838) t843 t857) = some r := by rw [if_pos rfl] at H; exact H
             clear H
             have H := H1
             clear H1
             have H' := Aside0.mk H
             clear H
             have hnb80 := NB867_839.out
             have hnc80 := NB839_867.out
             have hnb81 := NB867_848.out
             have hnc81 := NB848_867.out
             have hcz82_0 : w73.cell? ⟨gb867, 0, none⟩ = some (.int .i64 0) := (blk_cell BK867.out 0).trans rfl
             have hcz82_1 : w73.cell? ⟨gb867, 1, none⟩ = some (.slice none 0 0) := (blk_cell BK867.out 1).trans rfl
             have hfz82_0 := blk_frozen BK867.out 0
             have hfz82_1 := blk_frozen BK867.out 1
             have hnb83 := NB839_848.out
             have hnc83 := NB848_839.out
             have hcz84_0 : w73.cell? ⟨gb839, 0, none⟩ = some (.int .i64 t834) := (blk_cell BK839.out 0).trans rfl
             have hcz84_1 : w73.cell? ⟨gb839, 1, none⟩ = some (.slice Ao14 t835.length co14) := (blk_cell BK839.out 1).trans rfl
             have hfz84_0 := blk_frozen BK839.out 0
             have hfz84_1 := blk_frozen BK839.out 1
             go_wp2_with (((with_reducible refine gate_callee (f := 18) rfl ?_); refine goesL_ (some 81) rfl rfl Try.func18 (by kernel_rfl) rfl #[.agg #[.int .i64 t862, .slice Ao77 t863.length co77], .agg #[.int .i64 t834, .slice Ao14 t835.length co14]] rfl (by (try simp only [List.map_toArray, List.map_cons, List.map_nil]); rfl) ?_; (with_reducible refine (laws_eqSpace.calls kj36 t862 _ _ t863 t834 _ _ t835 true _ ?side1 ?side2 ?side3 ?side4 A78.out).mono ?_); (case side1 => refine (Kd.R_reads' (e := 3) (base := w.heap.size) (ok := fun k_ => ((True ∧ some k_ ≠ (.slice Ao14 t835.length co14 : Value).ownBlock) ∧ some k_ ≠ (.slice Ao21 t844.length co21 : Value).ownBlock)) (n := t863.length) (c := co77) ?_).2.2; exact (by (with_reducible repeat (apply Kd.R_drew)); exact (Kd.R_mono (Kd.R_far (p := ⟨gb867, 1, none⟩) (Kd.R_far (p := ⟨gb867, 0, none⟩) (Kd.R_types HO865.out BK867.out (by decide)) (fun _ hk => hk.2) (.int .i64 t862)) (fun _ hk => hk.2) (.slice Ao77 t863.length co77)) (fun _ h_ => h_.1)))); (case side2 => exact (Kd.R_reads' HO865.out).2.1); (case side3 => refine (Kd.R_reads' (e := 3) (base := w.heap.size) (ok := fun k_ => (some k_ ≠ (.slice Ao21 t844.length co21 : Value).ownBlock ∧ some k_ ≠ (.slice Ao77 t863.length co77 : Value).ownBlock)) (n := t835.length) (c := co14) ?_).2.2; exact (by (with_reducible repeat (apply Kd.R_drew)); exact (Kd.R_mono (Kd.R_far (p := ⟨gb867, 1, none⟩) (Kd.R_far (p := ⟨gb867, 0, none⟩) (Kd.R_types HO_840001.out BK867.out (by decide)) (fun _ hk => hk.2) (.int .i64 t862)) (fun _ hk => hk.2) (.slice Ao77 t863.length co77)) (fun _ h_ => h_.1)))); (case side4 => exact (Kd.R_reads' HO_840001.out).2.1); rintro e w85 ⟨rfl, hb⟩; refine ⟨_, rfl, ?_⟩; have n0_ := Aside0.mk (Kd.R_below (by (with_reducible repeat (apply Kd.R_drew)); exact (Kd.R_mono (Kd.R_far (p := ⟨gb867, 1, none⟩) (Kd.R_far (p := ⟨gb867, 0, none⟩) (Kd.R_types HO_840001.out BK867.out (by decide)) (fun _ hk => hk.2) (.int .i64 t862)) (fun _ hk => hk.2) (.slice Ao77 t863.length co77)) (fun _ h_ => h_.1))) hb); have n1_ := Aside0.mk (Kd.R_below (by (with_reducible repeat (apply Kd.R_drew)); exact (Kd.R_mono (Kd.R_far (p := ⟨gb867, 1, none⟩) (Kd.R_far (p := ⟨gb867, 0, none⟩) (Kd.R_types HO_849001.out BK867.out (by decide)) (fun _ hk => hk.2) (.int .i64 t862)) (fun _ hk => hk.2) (.slice Ao77 t863.length co77)) (fun _ h_ => h_.1))) hb); have n2_ := Aside0.mk (Kd.S_below (by (with_reducible repeat (apply Kd.S_drew)); exact (Kd.S_mono (Kd.S_far (p := ⟨gb867, 1, none⟩) (Kd.S_far (p := ⟨gb867, 0, none⟩) (Kd.S_types HO861.out BK867.out (by decide)) (fun _ hk => hk.2) (.int .i64 t862)) (fun _ hk => hk.2) (.slice Ao77 t863.length co77)) (fun _ h_ => h_.1))) hb); have n3_ := Aside0.mk (Kd.R_below (by (with_reducible repeat (apply Kd.R_drew)); exact (Kd.R_mono (Kd.R_far (p := ⟨gb867, 1, none⟩) (Kd.R_far (p := ⟨gb867, 0, none⟩) (Kd.R_types HO865.out BK867.out (by decide)) (fun _ hk => hk.2) (.int .i64 t862)) (fun _ hk => hk.2) (.slice Ao77 t863.length co77)) (fun _ h_ => h_.1))) hb); have n4_ := Aside0.mk (blk_below (g := gb839) (o := .cells #[.int .i64 t834, .slice Ao14 t835.length co14] 29 (0, 0)) (by (with_reducible repeat (refine blk_drew ?_)); refine blk_far ?_ NB839_867.out _; (with_reducible repeat (refine blk_drew ?_)); refine blk_far ?_ NB839_867.out _; (with_reducible repeat (refine blk_drew ?_)); exact BK839.out) hb); have n5_ := Aside0.mk (blk_below (g := gb848) (o := .cells #[.int .i64 t843, .slice Ao21 t844.length co21] 29 (0, 0)) (by (with_reducible repeat (refine blk_drew ?_)); refine blk_far ?_ NB848_867.out _; (with_reducible repeat (refine blk_drew ?_)); refine blk_far ?_ NB848_867.out _; (with_reducible repeat (refine blk_drew ?_)); exact BK848.out) hb); have n6_ := Aside0.mk (blk_below (g := gb867) (o := .cells #[.int .i64 t862, .slice Ao77 t863.length co77] 29 (0, 0)) (by (with_reducible repeat (refine blk_drew ?_)); refine blk_put (cs := #[.int .i64 t862, .slice none 0 0]) ?_ 1 _ rfl; (with_reducible repeat (refine blk_drew ?_)); refine blk_put (cs := #[.int .i64 0, .slice none 0 0]) ?_ 0 _ rfl; (with_reducible repeat (refine blk_drew ?_)); exact BK867.out) hb); have n7_ := Aside0.mk (below_step (by repeat ((with_reducible first | exact HB.out | refine below_set ?_ GE867.out))) hb); clear HO_840001; clear HO_849001; clear HO861; clear HO865; clear BK839; clear BK848; clear BK867; clear HB; have HO_840001 := n0_; have HO_849001 := n1_; have HO861 := n2_; have HO865 := n3_; have BK839 := n4_; have BK848 := n5_; have BK867 := n6_; have HB := n7_; clear n0_ n1_ n2_ n3_ n4_ n5_ n6_ n7_; (try clear hb); skip))
             go_meet
             case rel => exact ⟨_, ((t866 != t838)), (by rfl), H', ⟨by have := HJ7.out; have := HJ36.out; omega⟩, ⟨by (with_reducible repeat (apply Kd.R_drew)); exact HO_840001.out⟩, ⟨by (with_reducible repeat (apply Kd.R_drew)); exact HO_849001.out⟩, ⟨by (with_reducible repeat (apply Kd.R_drew)); exact Kd.R_mono HO865.out (fun _ hk => ⟨hk.1.2, hk.2⟩)⟩, ⟨by (with_reducible repeat (refine blk_drew ?_)); exact BK839.out⟩, ⟨by (with_reducible repeat (refine blk_drew ?_)); exact BK848.out⟩, ⟨by (with_reducible repeat (refine blk_drew ?_)); exact BK867.out⟩, ⟨by repeat ((with_reducible exact HB.out))⟩⟩
            ·replace c79 := Bool.eq_false_iff.mpr c79
             subst c79
             have H1 : (laws_FnExactPointSpace.j2 kj36 t856 true t843 t857) = some r := by rw [if_neg (show ¬ (false = true) by decide)] at H; exact H
             clear H
             have H := H1
             clear H1
             have H' := Aside0.mk H
             clear H
             have hnb86 := NB867_839.out
             have hnc86 := NB839_867.out
             have hnb87 := NB867_848.out
             have hnc87 := NB848_867.out
             have hcz88_0 : w73.cell? ⟨gb867, 0, none⟩ = some (.int .i64 0) := (blk_cell BK867.out 0).trans rfl
             have hcz88_1 : w73.cell? ⟨gb867, 1, none⟩ = some (.slice none 0 0) := (blk_cell BK867.out 1).trans rfl
             have hfz88_0 := blk_frozen BK867.out 0
             have hfz88_1 := blk_frozen BK867.out 1
             have hnb89 := NB839_848.out
             have hnc89 := NB848_839.out
             have hcz90_0 : w73.cell? ⟨gb839, 0, none⟩ = some (.int .i64 t834) := (blk_cell BK839.out 0).trans rfl
             have hcz90_1 : w73.cell? ⟨gb839, 1, none⟩ = some (.slice Ao14 t835.length co14) := (blk_cell BK839.out 1).trans rfl
             have hfz90_0 := blk_frozen BK839.out 0
             have hfz90_1 := blk_frozen BK839.out 1
             go_wp2_with (((with_reducible refine gate_callee (f := 18) rfl ?_); refine goesL_ (some 81) rfl rfl Try.func18 (by kernel_rfl) rfl #[.agg #[.int .i64 t862, .slice Ao77 t863.length co77], .agg #[.int .i64 t834, .slice Ao14 t835.length co14]] rfl (by (try simp only [List.map_toArray, List.map_cons, List.map_nil]); rfl) ?_; (with_reducible refine (laws_eqSpace.calls kj36 t862 _ _ t863 t834 _ _ t835 false _ ?side1 ?side2 ?side3 ?side4 A78.out).mono ?_); (case side1 => refine (Kd.R_reads' (e := 3) (base := w.heap.size) (ok := fun k_ => ((True ∧ some k_ ≠ (.slice Ao14 t835.length co14 : Value).ownBlock) ∧ some k_ ≠ (.slice Ao21 t844.length co21 : Value).ownBlock)) (n := t863.length) (c := co77) ?_).2.2; exact (by (with_reducible repeat (apply Kd.R_drew)); exact (Kd.R_mono (Kd.R_far (p := ⟨gb867, 1, none⟩) (Kd.R_far (p := ⟨gb867, 0, none⟩) (Kd.R_types HO865.out BK867.out (by decide)) (fun _ hk => hk.2) (.int .i64 t862)) (fun _ hk => hk.2) (.slice Ao77 t863.length co77)) (fun _ h_ => h_.1)))); (case side2 => exact (Kd.R_reads' HO865.out).2.1); (case side3 => refine (Kd.R_reads' (e := 3) (base := w.heap.size) (ok := fun k_ => (some k_ ≠ (.slice Ao21 t844.length co21 : Value).ownBlock ∧ some k_ ≠ (.slice Ao77 t863.length co77 : Value).ownBlock)) (n := t835.length) (c := co14) ?_).2.2; exact (by (with_reducible repeat (apply Kd.R_drew)); exact (Kd.R_mono (Kd.R_far (p := ⟨gb867, 1, none⟩) (Kd.R_far (p := ⟨gb867, 0, none⟩) (Kd.R_types HO_840001.out BK867.out (by decide)) (fun _ hk => hk.2) (.int .i64 t862)) (fun _ hk => hk.2) (.slice Ao77 t863.length co77)) (fun _ h_ => h_.1)))); (case side4 => exact (Kd.R_reads' HO_840001.out).2.1); rintro e w91 ⟨rfl, hb⟩; refine ⟨_, rfl, ?_⟩; have n0_ := Aside0.mk (Kd.R_below (by (with_reducible repeat (apply Kd.R_drew)); exact (Kd.R_mono (Kd.R_far (p := ⟨gb867, 1, none⟩) (Kd.R_far (p := ⟨gb867, 0, none⟩) (Kd.R_types HO_840001.out BK867.out (by decide)) (fun _ hk => hk.2) (.int .i64 t862)) (fun _ hk => hk.2) (.slice Ao77 t863.length co77)) (fun _ h_ => h_.1))) hb); have n1_ := Aside0.mk (Kd.R_below (by (with_reducible repeat (apply Kd.R_drew)); exact (Kd.R_mono (Kd.R_far (p := ⟨gb867, 1, none⟩) (Kd.R_far (p := ⟨gb867, 0, none⟩) (Kd.R_types HO_849001.out BK867.out (by decide)) (fun _ hk => hk.2) (.int .i64 t862)) (fun _ hk => hk.2) (.slice Ao77 t863.length co77)) (fun _ h_ => h_.1))) hb); have n2_ := Aside0.mk (Kd.S_below (by (with_reducible repeat (apply Kd.S_drew)); exact (Kd.S_mono (Kd.S_far (p := ⟨gb867, 1, none⟩) (Kd.S_far (p := ⟨gb867, 0, none⟩) (Kd.S_types HO861.out BK867.out (by decide)) (fun _ hk => hk.2) (.int .i64 t862)) (fun _ hk => hk.2) (.slice Ao77 t863.length co77)) (fun _ h_ => h_.1))) hb); have n3_ := Aside0.mk (Kd.R_below (by (with_reducible repeat (apply Kd.R_drew)); exact (Kd.R_mono (Kd.R_far (p := ⟨gb867, 1, none⟩) (Kd.R_far (p := ⟨gb867, 0, none⟩) (Kd.R_types HO865.out BK867.out (by decide)) (fun _ hk => hk.2) (.int .i64 t862)) (fun _ hk => hk.2) (.slice Ao77 t863.length co77)) (fun _ h_ => h_.1))) hb); have n4_ := Aside0.mk (blk_below (g := gb839) (o := .cells #[.int .i64 t834, .slice Ao14 t835.length co14] 29 (0, 0)) (by (with_reducible repeat (refine blk_drew ?_)); refine blk_far ?_ NB839_867.out _; (with_reducible repeat (refine blk_drew ?_)); refine blk_far ?_ NB839_867.out _; (with_reducible repeat (refine blk_drew ?_)); exact BK839.out) hb); have n5_ := Aside0.mk (blk_below (g := gb848) (o := .cells #[.int .i64 t843, .slice Ao21 t844.length co21] 29 (0, 0)) (by (with_reducible repeat (refine blk_drew ?_)); refine blk_far ?_ NB848_867.out _; (with_reducible repeat (refine blk_drew ?_)); refine blk_far ?_ NB848_867.out _; (with_reducible repeat (refine blk_drew ?_)); exact BK848.out) hb); have n6_ := Aside0.mk (blk_below (g := gb867) (o := .cells #[.int .i64 t862, .slice Ao77 t863.length co77] 29 (0, 0)) (by (with_reducible repeat (refine blk_drew ?_)); refine blk_put (cs := #[.int .i64 t862, .slice none 0 0]) ?_ 1 _ rfl; (with_reducible repeat (refine blk_drew ?_)); refine blk_put (cs := #[.int .i64 0, .slice none 0 0]) ?_ 0 _ rfl; (with_reducible repeat (refine blk_drew ?_)); exact BK867.out) hb); have n7_ := Aside0.mk (below_step (by repeat ((with_reducible first | exact HB.out | refine below_set ?_ GE867.out))) hb); clear HO_840001; clear HO_849001; clear HO861; clear HO865; clear BK839; clear BK848; clear BK867; clear HB; have HO_840001 := n0_; have HO_849001 := n1_; have HO861 := n2_; have HO865 := n3_; have BK839 := n4_; have BK848 := n5_; have BK867 := n6_; have HB := n7_; clear n0_ n1_ n2_ n3_ n4_ n5_ n6_ n7_; (try clear hb); skip))
             go_meet
             case rel => exact ⟨_, (true), (by rfl), H', ⟨by have := HJ7.out; have := HJ36.out; omega⟩, ⟨by (with_reducible repeat (apply Kd.R_drew)); exact HO_840001.out⟩, ⟨by (with_reducible repeat (apply Kd.R_drew)); exact HO_849001.out⟩, ⟨by (with_reducible repeat (apply Kd.R_drew)); exact Kd.R_mono HO865.out (fun _ hk => ⟨hk.1.2, hk.2⟩)⟩, ⟨by (with_reducible repeat (refine blk_drew ?_)); exact BK839.out⟩, ⟨by (with_reducible repeat (refine blk_drew ?_)); exact BK848.out⟩, ⟨by (with_reducible repeat (refine blk_drew ?_)); exact BK867.out⟩, ⟨by repeat ((with_reducible exact HB.out))⟩⟩
           case rest =>
            clear HC64
            try clear c1
            try clear c2
            try clear p2
            try clear c3
            try clear c3b0
            try clear c4
            try clear c5
            try clear c6
            try clear c7
            try clear c8
            try clear c10
            try clear c18
            try clear c19
            try clear c20
            try clear c23
            try clear c24
            try clear c28
            try clear c32
            try clear c35
            try clear c36
            try clear c38
            try clear c40
            try clear c41
            try clear c41b0
            try clear c43
            try clear c44
            try clear c45
            try clear c48
            try clear c52
            try clear c55
            try clear c55b0
            try clear c56
            try clear c61
            try clear c61b0
            try clear c61b1
            try clear c65
            try clear c74
            try clear c75
            try clear c79
            try clear c80
            try clear c81
            try clear c83
            try clear c86
            try clear c87
            try clear c89
            try clear hcz13_0
            try clear hcz13_1
            try clear hcz20_0
            try clear hcz20_1
            try clear hcz25_0
            try clear hcz25_1
            try clear hcz26_0
            try clear hcz26_1
            try clear hcz29_0
            try clear hcz29_1
            try clear hcz30_0
            try clear hcz30_1
            try clear hcz45_0
            try clear hcz45_1
            try clear hcz46_0
            try clear hcz46_1
            try clear hcz49_0
            try clear hcz49_1
            try clear hcz50_0
            try clear hcz50_1
            try clear hcz57_0
            try clear hcz57_1
            try clear hcz59_0
            try clear hcz59_1
            try clear hcz66_0
            try clear hcz66_1
            try clear hcz68_0
            try clear hcz68_1
            try clear hcz76_0
            try clear hcz76_1
            try clear hcz82_0
            try clear hcz82_1
            try clear hcz84_0
            try clear hcz84_1
            try clear hcz88_0
            try clear hcz88_1
            try clear hcz90_0
            try clear hcz90_1
            try clear hfz13_0
            try clear hfz13_1
            try clear hfz20_0
            try clear hfz20_1
            try clear hfz25_0
            try clear hfz25_1
            try clear hfz26_0
            try clear hfz26_1
            try clear hfz29_0
            try clear hfz29_1
            try clear hfz30_0
            try clear hfz30_1
            try clear hfz45_0
            try clear hfz45_1
            try clear hfz46_0
            try clear hfz46_1
            try clear hfz49_0
            try clear hfz49_1
            try clear hfz50_0
            try clear hfz50_1
            try clear hfz57_0
            try clear hfz57_1
            try clear hfz59_0
            try clear hfz59_1
            try clear hfz66_0
            try clear hfz66_1
            try clear hfz68_0
            try clear hfz68_1
            try clear hfz76_0
            try clear hfz76_1
            try clear hfz82_0
            try clear hfz82_1
            try clear hfz84_0
            try clear hfz84_1
            try clear hfz88_0
            try clear hfz88_1
            try clear hfz90_0
            try clear hfz90_1
            try clear p2
            obtain ⟨kq, x87_63, rfl, HA, HJ63, HO_840001, HO_849001, HO_868001, BK839, BK848, BK867, HB⟩ := hcut
            have hl849001_63 := (Kd.R_reads' HO_849001.out).1
            rw [hl849001_63] at HO_849001
            skip
            skip
            (try simp only [hl849001_63] at BK848)
            skip
            (try simp only [hl849001_63] at HO_840001)
            (try simp only [hl849001_63] at HO_868001)
            cases kq with
            | zero => exact absurd HA.out (by simp [laws_FnExactPointSpace.j2])
            | succ kj63 =>
             have H := HA.out
             clear HA
             simp only [laws_FnExactPointSpace.j2] at H
             by_cases c92 : x87_63 = true
             ·subst c92
              have H1 : (some false) = some r := by rw [if_pos rfl] at H; exact H
              clear H
              have H := H1
              clear H1
              obtain rfl := Option.some.inj H
              go_wp2
              go_ret
              exact ⟨by rfl, by repeat ((with_reducible exact HB.out))⟩
             ·replace c92 := Bool.eq_false_iff.mpr c92
              subst c92
              have H1 : ((laws_heldSpace.f kj63 t843 t857 1).bind fun t869 => (if t869 < 0 then (some false) else (if t869 = t856 then (some true) else (some false)))) = some r := by rw [if_neg (show ¬ (false = true) by decide)] at H; exact H
              clear H
              have H := H1
              clear H1
              replace H := Option.bind_eq_some_iff.mp H
              obtain ⟨t869, A930, H⟩ := H
              replace H : (if t869 < 0 then (some false) else (if t869 = t856 then (some true) else (some false))) = some r := H
              have A93 := Aside0.mk A930
              clear A930
              by_cases c94 : t869 < 0
              ·rw [if_pos c94] at H
               have c94b0 : decide (t869 < 0) = true := decide_eq_true c94
               clear c94
               obtain rfl := Option.some.inj H
               have hnb95 := NB848_839.out
               have hnc95 := NB839_848.out
               have hnb96 := NB848_867.out
               have hnc96 := NB867_848.out
               have hcz97_0 : wc.cell? ⟨gb848, 0, none⟩ = some (.int .i64 t843) := (blk_cell BK848.out 0).trans rfl
               have hcz97_1 : wc.cell? ⟨gb848, 1, none⟩ = some (.slice Ao21 t857.length co21) := (blk_cell BK848.out 1).trans rfl
               have hfz97_0 := blk_frozen BK848.out 0
               have hfz97_1 := blk_frozen BK848.out 1
               go_wp2_with (((with_reducible refine gate_callee (f := 20) rfl ?_); refine goesL_ (some 90) rfl rfl Try.func20 (by kernel_rfl) rfl #[.agg #[.int .i64 t843, .slice Ao21 t857.length co21], .int .i64 1] rfl (by (try simp only [List.map_toArray, List.map_cons, List.map_nil]); rfl) ?_; (with_reducible refine (laws_heldSpace.calls kj63 t843 _ _ t857 1 t869 _ ?side1 ?side2 A93.out).mono ?_); (case side1 => repeat (exact (Kd.R_reads' HO_849001.out).2.2)); (case side2 => exact (Kd.R_reads' HO_849001.out).2.1); rintro e w98 ⟨rfl, hb⟩; refine ⟨_, rfl, ?_⟩; have n0_ := Aside0.mk (Kd.R_below (by (with_reducible repeat (apply Kd.R_drew)); exact HO_840001.out) hb); have n1_ := Aside0.mk (Kd.R_below (by (with_reducible repeat (apply Kd.R_drew)); exact HO_849001.out) hb); have n2_ := Aside0.mk (Kd.R_below (by (with_reducible repeat (apply Kd.R_drew)); exact HO_868001.out) hb); have n3_ := Aside0.mk (blk_below (g := gb839) (o := .cells #[.int .i64 t834, .slice Ao14 t835.length co14] 29 (0, 0)) (by (with_reducible repeat (refine blk_drew ?_)); exact BK839.out) hb); have n4_ := Aside0.mk (blk_below (g := gb848) (o := .cells #[.int .i64 t843, .slice Ao21 t857.length co21] 29 (0, 0)) (by (with_reducible repeat (refine blk_drew ?_)); exact BK848.out) hb); have n5_ := Aside0.mk (blk_below (g := gb867) (o := .cells #[.int .i64 t862, .slice Ao77 t863.length co77] 29 (0, 0)) (by (with_reducible repeat (refine blk_drew ?_)); exact BK867.out) hb); have n6_ := Aside0.mk (below_step (by repeat ((with_reducible exact HB.out))) hb); clear HO_840001; clear HO_849001; clear HO_868001; clear BK839; clear BK848; clear BK867; clear HB; have HO_840001 := n0_; have HO_849001 := n1_; have HO_868001 := n2_; have BK839 := n3_; have BK848 := n4_; have BK867 := n5_; have HB := n6_; clear n0_ n1_ n2_ n3_ n4_ n5_ n6_; (try clear hb); skip))
               go_ret
               exact ⟨by rfl, by repeat ((with_reducible exact HB.out))⟩
              ·rw [if_neg c94] at H
               have c94b0 : decide (t869 < 0) = false := decide_eq_false c94
               clear c94
               by_cases c99 : t869 = t856
               ·rw [if_pos c99] at H
                have c99b0 : (t869 == t856) = true := beq_iff_eq.mpr c99
                have c99b1 : (t869 != t856) = false := bne_eq_false_iff_eq.mpr c99
                clear c99
                obtain rfl := Option.some.inj H
                have hnb100 := NB848_839.out
                have hnc100 := NB839_848.out
                have hnb101 := NB848_867.out
                have hnc101 := NB867_848.out
                have hcz102_0 : wc.cell? ⟨gb848, 0, none⟩ = some (.int .i64 t843) := (blk_cell BK848.out 0).trans rfl
                have hcz102_1 : wc.cell? ⟨gb848, 1, none⟩ = some (.slice Ao21 t857.length co21) := (blk_cell BK848.out 1).trans rfl
                have hfz102_0 := blk_frozen BK848.out 0
                have hfz102_1 := blk_frozen BK848.out 1
                go_wp2_with (((with_reducible refine gate_callee (f := 20) rfl ?_); refine goesL_ (some 90) rfl rfl Try.func20 (by kernel_rfl) rfl #[.agg #[.int .i64 t843, .slice Ao21 t857.length co21], .int .i64 1] rfl (by (try simp only [List.map_toArray, List.map_cons, List.map_nil]); rfl) ?_; (with_reducible refine (laws_heldSpace.calls kj63 t843 _ _ t857 1 t869 _ ?side1 ?side2 A93.out).mono ?_); (case side1 => repeat (exact (Kd.R_reads' HO_849001.out).2.2)); (case side2 => exact (Kd.R_reads' HO_849001.out).2.1); rintro e w103 ⟨rfl, hb⟩; refine ⟨_, rfl, ?_⟩; have n0_ := Aside0.mk (Kd.R_below (by (with_reducible repeat (apply Kd.R_drew)); exact HO_840001.out) hb); have n1_ := Aside0.mk (Kd.R_below (by (with_reducible repeat (apply Kd.R_drew)); exact HO_849001.out) hb); have n2_ := Aside0.mk (Kd.R_below (by (with_reducible repeat (apply Kd.R_drew)); exact HO_868001.out) hb); have n3_ := Aside0.mk (blk_below (g := gb839) (o := .cells #[.int .i64 t834, .slice Ao14 t835.length co14] 29 (0, 0)) (by (with_reducible repeat (refine blk_drew ?_)); exact BK839.out) hb); have n4_ := Aside0.mk (blk_below (g := gb848) (o := .cells #[.int .i64 t843, .slice Ao21 t857.length co21] 29 (0, 0)) (by (with_reducible repeat (refine blk_drew ?_)); exact BK848.out) hb); have n5_ := Aside0.mk (blk_below (g := gb867) (o := .cells #[.int .i64 t862, .slice Ao77 t863.length co77] 29 (0, 0)) (by (with_reducible repeat (refine blk_drew ?_)); exact BK867.out) hb); have n6_ := Aside0.mk (below_step (by repeat ((with_reducible exact HB.out))) hb); clear HO_840001; clear HO_849001; clear HO_868001; clear BK839; clear BK848; clear BK867; clear HB; have HO_840001 := n0_; have HO_849001 := n1_; have HO_868001 := n2_; have BK839 := n3_; have BK848 := n4_; have BK867 := n5_; have HB := n6_; clear n0_ n1_ n2_ n3_ n4_ n5_ n6_; (try clear hb); skip))
                go_ret
                exact ⟨by rfl, by repeat ((with_reducible exact HB.out))⟩
               ·rw [if_neg c99] at H
                have c99b0 : (t869 == t856) = false := beq_eq_false_iff_ne.mpr c99
                have c99b1 : (t869 != t856) = true := bne_iff_ne.mpr c99
                obtain rfl := Option.some.inj H
                have hnb104 := NB848_839.out
                have hnc104 := NB839_848.out
                have hnb105 := NB848_867.out
                have hnc105 := NB867_848.out
                have hcz106_0 : wc.cell? ⟨gb848, 0, none⟩ = some (.int .i64 t843) := (blk_cell BK848.out 0).trans rfl
                have hcz106_1 : wc.cell? ⟨gb848, 1, none⟩ = some (.slice Ao21 t857.length co21) := (blk_cell BK848.out 1).trans rfl
                have hfz106_0 := blk_frozen BK848.out 0
                have hfz106_1 := blk_frozen BK848.out 1
                go_wp2_with (((with_reducible refine gate_callee (f := 20) rfl ?_); refine goesL_ (some 90) rfl rfl Try.func20 (by kernel_rfl) rfl #[.agg #[.int .i64 t843, .slice Ao21 t857.length co21], .int .i64 1] rfl (by (try simp only [List.map_toArray, List.map_cons, List.map_nil]); rfl) ?_; (with_reducible refine (laws_heldSpace.calls kj63 t843 _ _ t857 1 t869 _ ?side1 ?side2 A93.out).mono ?_); (case side1 => repeat (exact (Kd.R_reads' HO_849001.out).2.2)); (case side2 => exact (Kd.R_reads' HO_849001.out).2.1); rintro e w107 ⟨rfl, hb⟩; refine ⟨_, rfl, ?_⟩; have n0_ := Aside0.mk (Kd.R_below (by (with_reducible repeat (apply Kd.R_drew)); exact HO_840001.out) hb); have n1_ := Aside0.mk (Kd.R_below (by (with_reducible repeat (apply Kd.R_drew)); exact HO_849001.out) hb); have n2_ := Aside0.mk (Kd.R_below (by (with_reducible repeat (apply Kd.R_drew)); exact HO_868001.out) hb); have n3_ := Aside0.mk (blk_below (g := gb839) (o := .cells #[.int .i64 t834, .slice Ao14 t835.length co14] 29 (0, 0)) (by (with_reducible repeat (refine blk_drew ?_)); exact BK839.out) hb); have n4_ := Aside0.mk (blk_below (g := gb848) (o := .cells #[.int .i64 t843, .slice Ao21 t857.length co21] 29 (0, 0)) (by (with_reducible repeat (refine blk_drew ?_)); exact BK848.out) hb); have n5_ := Aside0.mk (blk_below (g := gb867) (o := .cells #[.int .i64 t862, .slice Ao77 t863.length co77] 29 (0, 0)) (by (with_reducible repeat (refine blk_drew ?_)); exact BK867.out) hb); have n6_ := Aside0.mk (below_step (by repeat ((with_reducible exact HB.out))) hb); clear HO_840001; clear HO_849001; clear HO_868001; clear BK839; clear BK848; clear BK867; clear HB; have HO_840001 := n0_; have HO_849001 := n1_; have HO_868001 := n2_; have BK839 := n3_; have BK848 := n4_; have BK867 := n5_; have HB := n6_; clear n0_ n1_ n2_ n3_ n4_ n5_ n6_; (try clear hb); skip))
                go_ret
                exact ⟨by rfl, by repeat ((with_reducible exact HB.out))⟩
          ·rw [if_neg c61] at H
           have c61b0 : (t858 == t856) = false := beq_eq_false_iff_ne.mpr c61
           have c61b1 : (t858 != t856) = true := bne_iff_ne.mpr c61
           obtain rfl := Option.some.inj H
           have hnb108 := NB848_839.out
           have hnc108 := NB839_848.out
           have hcz109_0 : wc.cell? ⟨gb848, 0, none⟩ = some (.int .i64 t843) := (blk_cell BK848.out 0).trans rfl
           have hcz109_1 : wc.cell? ⟨gb848, 1, none⟩ = some (.slice Ao21 t844.length co21) := (blk_cell BK848.out 1).trans rfl
           have hfz109_0 := blk_frozen BK848.out 0
           have hfz109_1 := blk_frozen BK848.out 1
           go_wp2_with (first | ((with_reducible refine gate_callee (f := 19) rfl ?_); refine goesL_ (some 64) rfl rfl Try.func19 (by kernel_rfl) rfl #[.agg #[.int .i64 t843, .slice Ao21 t844.length co21], .int .i64 1] rfl (by (try simp only [List.map_toArray, List.map_cons, List.map_nil]); rfl) ?_; (with_reducible refine (laws_markSpace.calls kj36 t843 (fun k_ => some k_ = (.slice Ao21 t844.length co21 : Value).ownBlock) (.slice Ao21 t844.length co21) t844 1 t856 t857 w _ ?side1 ?side2 A53.out).mono ?_); (case side1 => repeat ((with_reducible exact HB.out))); (case side2 => exact Kd.R_tight rfl HO_849001.out); rintro e w110 ⟨rfl, hy0, hb, hkp⟩; refine ⟨_, rfl, ?_⟩; have n0_ := Aside0.mk (Kd.R_mono (ok' := fun k_ => some k_ ≠ (.slice Ao21 t844.length co21 : Value).ownBlock) (Kd.R_keptB (HO_840001.out) hkp (fun k_ hk_ hs_ => (hk_) hs_)) (fun k_ hk_ => hk_.1)); have n1_ := Aside0.mk (Kd.R_reok rfl hy0 (fun k_ e_ => HO_849001.out.1 k_ e_)); have n2_ := Aside0.mk (blk_kept (by (with_reducible repeat (refine blk_drew ?_)); exact BK839.out) hkp (fun hs_ => (fun e_ => (Kd.R_ne HO_849001.out BK839.out (by decide)) e_) hs_)); have n3_ := Aside0.mk (blk_kept (by (with_reducible repeat (refine blk_drew ?_)); exact BK848.out) hkp (fun hs_ => (fun e_ => (Kd.R_ne HO_849001.out BK848.out (by decide)) e_) hs_)); have n4_ := Aside0.mk (hb); clear HO_840001; clear HO_849001; clear BK839; clear BK848; clear HB; have HO_840001 := n0_; have HO_849001 := n1_; have BK839 := n2_; have BK848 := n3_; have HB := n4_; clear n0_ n1_ n2_ n3_ n4_; (try clear hb); (try clear hkp); (try clear hy0); have hcz111_0 : w110.cell? ⟨gb848, 0, none⟩ = some (.int .i64 t843) := (blk_cell BK848.out 0).trans rfl; have hcz111_1 : w110.cell? ⟨gb848, 1, none⟩ = some (.slice Ao21 t844.length co21) := (blk_cell BK848.out 1).trans rfl; have hfz111_0 := blk_frozen BK848.out 0; have hfz111_1 := blk_frozen BK848.out 1) | ((with_reducible refine gate_callee (f := 20) rfl ?_); refine goesL_ (some 67) rfl rfl Try.func20 (by kernel_rfl) rfl #[.agg #[.int .i64 t843, .slice Ao21 t857.length co21], .int .i64 1] rfl (by (try simp only [List.map_toArray, List.map_cons, List.map_nil]); (rw [show t857.length = t844.length from (Kd.R_reads' HO_849001.out).1.symm] <;> rfl)) ?_; (with_reducible refine (laws_heldSpace.calls kj36 t843 _ _ t857 1 t858 _ ?side1 ?side2 A54.out).mono ?_); (case side1 => repeat (exact (Kd.R_reads' HO_849001.out).2.2)); (case side2 => rw [show t857.length = t844.length from (Kd.R_reads' HO_849001.out).1.symm]; exact (Kd.R_reads' HO_849001.out).2.1); rintro e w112 ⟨rfl, hb⟩; refine ⟨_, rfl, ?_⟩; have n0_ := Aside0.mk (Kd.R_below (by (with_reducible repeat (apply Kd.R_drew)); exact HO_840001.out) hb); have n1_ := Aside0.mk (Kd.R_below (by (with_reducible repeat (apply Kd.R_drew)); exact HO_849001.out) hb); have n2_ := Aside0.mk (blk_below (g := gb839) (o := .cells #[.int .i64 t834, .slice Ao14 t835.length co14] 29 (0, 0)) (by (with_reducible repeat (refine blk_drew ?_)); exact BK839.out) hb); have n3_ := Aside0.mk (blk_below (g := gb848) (o := .cells #[.int .i64 t843, .slice Ao21 t844.length co21] 29 (0, 0)) (by (with_reducible repeat (refine blk_drew ?_)); exact BK848.out) hb); have n4_ := Aside0.mk (below_step (by repeat ((with_reducible exact HB.out))) hb); clear HO_840001; clear HO_849001; clear BK839; clear BK848; clear HB; have HO_840001 := n0_; have HO_849001 := n1_; have BK839 := n2_; have BK848 := n3_; have HB := n4_; clear n0_ n1_ n2_ n3_ n4_; (try clear hb); skip))
           go_ret
           exact ⟨by rfl, by repeat ((with_reducible exact HB.out))⟩
     ·replace c35 := Bool.eq_false_iff.mpr c35
      subst c35
      have H1 : (some false) = some r := by rw [if_neg (show ¬ (false = true) by decide)] at H; exact H
      clear H
      have H := H1
      clear H1
      obtain rfl := Option.some.inj H
      go_wp2_with (first | ((with_reducible refine gate_callee (f := 40) rfl ?_); refine goesL_ (some 43) rfl rfl Try.func40 (by kernel_rfl) rfl #[.slice A0 l0.length c0] rfl (by (try simp only [List.map_toArray, List.map_cons, List.map_nil]); rfl) ?_; (with_reducible refine (laws_toIntSS.calls kj7 _ _ l0 t850 _ ?side1 ?side2 A33.out).mono ?_); (case side1 => repeat (exact (Kd.C_below HR0.out HB.out))); (case side2 => exact HC0.out); rintro e w113 ⟨v851, rfl, ho0, hb⟩; refine ⟨_, rfl, ?_⟩; have n0_ := Aside0.mk (Kd.S_elder' (by (with_reducible repeat (apply Kd.S_drew)); exact HO_6.out) (Kd.S_base ho0) hb); have n1_ := Aside0.mk (Kd.R_below (by (with_reducible repeat (apply Kd.R_drew)); exact HO_840001.out) hb); have n2_ := Aside0.mk (Kd.R_below (by (with_reducible repeat (apply Kd.R_drew)); exact HO_849001.out) hb); have n3_ := Aside0.mk (Kd.S_lower (Kd.S_new' (Kd.S_new' (Kd.S_new' ho0 (Kd.S_lt (by (with_reducible repeat (apply Kd.S_drew)); exact HO_6.out))) (Kd.R_lt (by (with_reducible repeat (apply Kd.R_drew)); exact HO_840001.out))) (Kd.R_lt (by (with_reducible repeat (apply Kd.R_drew)); exact HO_849001.out))) (below_size (by repeat ((with_reducible exact HB.out))))); have n4_ := Aside0.mk (blk_below (g := gb839) (o := .cells #[.int .i64 t834, .slice Ao14 t835.length co14] 29 (0, 0)) (by (with_reducible repeat (refine blk_drew ?_)); exact BK839.out) hb); have n5_ := Aside0.mk (blk_below (g := gb848) (o := .cells #[.int .i64 t843, .slice Ao21 t844.length co21] 29 (0, 0)) (by (with_reducible repeat (refine blk_drew ?_)); exact BK848.out) hb); have n6_ := Aside0.mk (below_step (by repeat ((with_reducible exact HB.out))) hb); clear HO_6; clear HO_840001; clear HO_849001; clear BK839; clear BK848; clear HB; have HO_6 := n0_; have HO_840001 := n1_; have HO_849001 := n2_; have HO852 := n3_; have BK839 := n4_; have BK848 := n5_; have HB := n6_; clear n0_ n1_ n2_ n3_ n4_ n5_ n6_; (try clear hb); (try clear ho0); obtain ⟨Ao114, co114, eo114⟩ := Kd.S_slice HO852.out; subst eo114) | ((with_reducible refine gate_callee (f := 35) rfl ?_); refine goesL_ (some 44) rfl rfl Try.func35 (by kernel_rfl) rfl #[.slice Ao16 t840.length co16, .slice Ao114 t850.length co114] rfl (by (try simp only [List.map_toArray, List.map_cons, List.map_nil]); rfl) ?_; (with_reducible refine (laws_eqIntSS.calls kj7 _ _ t840 _ _ t850 false _ ?side1 ?side2 ?side3 ?side4 A34.out).mono ?_); (case side1 => repeat (exact (Kd.S_reads' HO_6.out).2.2)); (case side2 => exact (Kd.S_reads' HO_6.out).2.1); (case side3 => repeat (exact (Kd.S_reads' HO852.out).2.2)); (case side4 => exact (Kd.S_reads' HO852.out).2.1); rintro e w' ⟨rfl, ⟨nd, rfl⟩⟩; refine ⟨_, rfl, ?_⟩))
      go_ret
      exact ⟨by rfl, by repeat ((with_reducible first | exact HB.out | apply pw_below_drewN))⟩

/-- THE ONE PURE STATEMENT of laws_FnExactPointSpace. -/
def laws_FnExactPointSpace.Pure : Prop := ∀ (l0 : List (List Int)), l0.length ≤ maxLen → (∀ r ∈ l0, r.length ≤ maxLen ∧ ∀ x ∈ r, (Lit.int .i64 x).wf = true) → ∃ k, laws_FnExactPointSpace.f k l0 = some true
theorem laws_FnExactPointSpace.walk (P : laws_FnExactPointSpace.Pure) (A0 : Option Addr) (c0 : Nat) (l0 : List (List Int)) (w : World) (hr0 : Kd.C (Kd.slice 3 (Kd.int .i64)) w A0 l0.length l0) (hc0 : l0.length ≤ c0) (hm0 : l0.length ≤ maxLen) (hw0 : ∀ r ∈ l0, r.length ≤ maxLen ∧ ∀ x ∈ r, (Lit.int .i64 x).wf = true) :
  Calls Try.prog 10 #[.slice A0 l0.length c0] w fun e w' => e = .returned (.bool true) ∧ Below w.heap.size w w' := by
 obtain ⟨k, h⟩ := P l0 hm0 hw0
 refine (laws_FnExactPointSpace.calls k A0 c0 l0 true w hr0 hc0 h).mono ?_
 rintro e w' ⟨rfl, hd⟩
 exact ⟨rfl, hd⟩

end Go.Proofs.Ytpliebmaagoahaa.P
