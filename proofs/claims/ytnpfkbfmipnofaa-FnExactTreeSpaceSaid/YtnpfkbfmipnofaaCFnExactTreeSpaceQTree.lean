/- Is a net a tree: the program's answer and the reference's; conditions: as each theorem states. -/
import Derived.Test.YtnpfkbfmipnofaaCFnExactTreeSpaceQReach
import Derived.Test.YtnpfkbfmipnofaaCFnExactTreeSpaceQCount
import Derived.Test.YtnpfkbfmipnofaaCFnExactTreeSpaceP4
namespace Go.Proofs.Ytnpfkbfmipnofaa.Q
open Go.RowKit Go.Proofs.YtnpfkbfmipnofaaW.PrintWords Go.Proofs.YtnpfkbfmipnofaaW.PrintLast Go.Proofs.YtnpfkbfmipnofaaW.PrintMore Go.Proofs.Ytnpfkbfmipnofaa.P
set_option linter.unusedVariables false
set_option linter.unusedSimpArgs false

theorem allNet_eq {T : List Nat} (h : T.length ≤ 61) : impl_Net_all.f (castL T) = some ((2 ^ T.length - 1 : Nat) : Int) := by
  unfold impl_Net_all.f
  simp only [castL_length, pow1 h]
theorem items_full : ∀ n : Fin 7, (itemsN (2 ^ (n.val + 1) - 1)).head? = some 0 := by decide
theorem connected_ev {T : List Nat} (h : NetN T) {F : Nat} (hF : Ev (fun k => impl_Net_joinedTo.f k (castL T) 0 ((2 ^ T.length - 1 : Nat) : Int)) (F : Int)) :
    Ev (fun k => impl_Net_connected.f k (castL T) ((2 ^ T.length - 1 : Nat) : Int)) (decide (F = 2 ^ T.length - 1)) := by
  have hl7 := h.l7
  have hl1 := h.l1
  have h2 : 2 ^ T.length ≤ 2 ^ 7 := Nat.pow_le_pow_right (by omega) h.l7
  have h1 : 2 ^ 1 ≤ 2 ^ T.length := Nat.pow_le_pow_right (by omega) h.l1
  unfold impl_Net_connected.f
  simp only [show ¬ (((2 ^ T.length - 1 : Nat) : Int) = 0) from by omega, ↓reduceIte]
  refine Ev.bind (items_ev (show 2 ^ T.length - 1 < 128 by omega)) ?_
  have hh := items_full ⟨T.length - 1, by omega⟩
  simp only [show T.length - 1 + 1 = T.length from by omega] at hh
  obtain ⟨r, hr⟩ : ∃ r, itemsN (2 ^ T.length - 1) = 0 :: r := by
    cases hi : itemsN (2 ^ T.length - 1) with
    | nil => rw [hi] at hh; simp at hh
    | cons x r => rw [hi] at hh; simp at hh; exact ⟨r, by rw [hh]⟩
  rw [hr]
  have e0 : rd (castL (0 :: r)) 0 = 0 := rfl
  simp only [castL_length, List.length_cons, show (0 : Int) < ((r.length + 1 : Nat) : Int) from by omega, e0, ↓reduceIte]
  refine Ev.bind hF ((Ev.some _).eq ?_)
  rw [Bool.eq_iff_iff, beq_iff_eq, decide_eq_true_eq]; omega
/-- All counts together. -/
def sumC : List Nat → Nat
  | [] => 0
  | x :: r => cntN x + sumC r
theorem cntN_le (x : Nat) : cntN x ≤ 7 := by
  unfold cntN itemsN; exact Nat.le_trans (List.length_filter_le _ _) (by simp)
theorem sumC_le : ∀ l : List Nat, sumC l ≤ 7 * l.length
  | [] => by simp [sumC]
  | x :: r => by have := sumC_le r; have := cntN_le x; simp only [sumC, List.length_cons]; omega
theorem two_n {n : Nat} (h1 : 1 ≤ n) (h7 : n ≤ 7) : wrap64 (2 * (wrap64 ((n : Int) - 1))) = ((2 * (n - 1) : Nat) : Int) := by
  rw [w64 (x := (n : Int) - 1) (by omega) (by omega), w64 (by omega) (by omega)]; omega
theorem impl_tree_loop {T : List Nat} (h : NetN T) {F : Nat} (hF : Ev (fun k => impl_Net_joinedTo.f k (castL T) 0 ((2 ^ T.length - 1 : Nat) : Int)) (F : Int)) : ∀ (rest pre : List Nat) (s : Nat), pre ++ rest = T → s ≤ 7 * pre.length →
    Ev (fun k => impl_Net_isTree.l0 k (s : Int) (castL T) (T.length : Int) (pre.length : Int) (castL T)) (decide (s + sumC rest = 2 * (T.length - 1)) && decide (F = 2 ^ T.length - 1)) := by
  intro rest
  have hl7 := h.l7
  have hl1 := h.l1
  induction rest with
  | nil =>
    intro pre s e hs
    obtain rfl : pre = T := by simpa using e
    refine Ev.step (fun k => by rw [impl_Net_isTree.l0]) ?_
    simp only [show ¬ ((pre.length : Int) < (pre.length : Int)) from by omega, castL_length, two_n hl1 hl7, ↓reduceIte]
    by_cases g : s = 2 * (pre.length - 1)
    · simp only [show (s : Int) = ((2 * (pre.length - 1) : Nat) : Int) from by omega, ↓reduceIte, allNet_eq (show pre.length ≤ 61 from by omega), Option.bind_some]
      refine Ev.bind (connected_ev h hF) ((Ev.some _).eq ?_)
      have g' : s + sumC [] = 2 * (pre.length - 1) := by simpa [sumC] using g
      simp only [decide_eq_true g', Bool.true_and]
    · simp only [show ¬ (s : Int) = ((2 * (pre.length - 1) : Nat) : Int) from by omega, ↓reduceIte]
      refine (Ev.some _).eq ?_
      have g' : ¬ s + sumC [] = 2 * (pre.length - 1) := by simpa [sumC] using g
      simp only [decide_eq_false g', Bool.false_and]
  | cons x rest ih =>
    intro pre s e hs
    have hx : x < 128 := h.lt128 x (by rw [← e]; simp)
    have hlen : T.length = pre.length + (rest.length + 1) := by rw [← e]; simp
    have er : rd (castL T) (pre.length : Int) = (x : Int) := by rw [← e]; exact rd_castL_mid _ _ _
    have hcx := cntN_le x
    have hn := ih (pre ++ [x]) (s + cntN x) (by simp [e]) (by simp; omega)
    simp only [List.length_append, List.length_singleton] at hn
    refine Ev.step (fun k => by rw [impl_Net_isTree.l0]) ?_
    simp only [show ((pre.length : Int) < (T.length : Int)) from by omega, show (0 : Int) ≤ (pre.length : Int) from by omega, castL_length, er, count_eq hx, Option.bind_some, ↓reduceIte]
    rw [wnext (n := T.length) (by omega) (by omega), w64 (x := (s : Int) + ((cntN x : Nat) : Int)) (by omega) (by omega), show (s : Int) + ((cntN x : Nat) : Int) = ((s + cntN x : Nat) : Int) from by omega]
    exact hn.eq (by rw [show s + cntN x + sumC rest = s + sumC (x :: rest) from by simp only [sumC]; omega])
theorem spec_tree_loop {T : List Nat} (h : NetN T) : ∀ (rest pre : List Nat) (s : Nat), pre ++ rest = T → s ≤ 7 * pre.length →
    Ev (fun k => spec_shTree.l0 k (s : Int) (castL T) (T.length : Int) (pre.length : Int) (castL T)) (decide (s + sumC rest = 2 * (T.length - 1))) := by
  intro rest
  have hl7 := h.l7
  have hl1 := h.l1
  induction rest with
  | nil =>
    intro pre s e hs
    obtain rfl : pre = T := by simpa using e
    refine Ev.step (fun k => by rw [spec_shTree.l0]) ?_
    simp only [show ¬ ((pre.length : Int) < (pre.length : Int)) from by omega, castL_length, two_n hl1 hl7, ↓reduceIte]
    refine (Ev.some _).eq ?_
    rw [Bool.eq_iff_iff, beq_iff_eq, decide_eq_true_eq]
    simp only [sumC]; omega
  | cons x rest ih =>
    intro pre s e hs
    have hx : x < 128 := h.lt128 x (by rw [← e]; simp)
    have hlen : T.length = pre.length + (rest.length + 1) := by rw [← e]; simp
    have er : rd (castL T) (pre.length : Int) = (x : Int) := by rw [← e]; exact rd_castL_mid _ _ _
    have hcx := cntN_le x
    have hn := ih (pre ++ [x]) (s + cntN x) (by simp [e]) (by simp; omega)
    simp only [List.length_append, List.length_singleton] at hn
    refine Ev.step (fun k => by rw [spec_shTree.l0]) ?_
    simp only [show ((pre.length : Int) < (T.length : Int)) from by omega, show (0 : Int) ≤ (pre.length : Int) from by omega, castL_length, er, ↓reduceIte]
    refine Ev.bind (spCount_ev hx) ?_
    rw [wnext (n := T.length) (by omega) (by omega), w64 (x := (s : Int) + ((cntN x : Nat) : Int)) (by omega) (by omega), show (s : Int) + ((cntN x : Nat) : Int) = ((s + cntN x : Nat) : Int) from by omega]
    exact hn.eq (by rw [show s + cntN x + sumC rest = s + sumC (x :: rest) from by simp only [sumC]; omega])
theorem tree_both {T : List Nat} (h : NetN T) (hg : Ev (fun k => spec_shGood.f k (castL T)) true) : ∃ b : Bool, Ev (fun k => impl_Net_isTree.f k (castL T)) b ∧ Ev (fun k => spec_shTree.f k (castL T)) b := by
  have hl7 := h.l7
  have hl1 := h.l1
  have h2 : 2 ^ T.length ≤ 2 ^ 7 := Nat.pow_le_pow_right (by omega) h.l7
  have h1 : 2 ^ 1 ≤ 2 ^ T.length := Nat.pow_le_pow_right (by omega) h.l1
  obtain ⟨F, hlt, hR, hi, hs⟩ := reach_both h (v := 0) (c := 2 ^ T.length - 1) (by omega) (by omega)
  refine ⟨decide (sumC T = 2 * (T.length - 1)) && decide (F = 2 ^ T.length - 1), ?_, ?_⟩
  · unfold impl_Net_isTree.f
    have := impl_tree_loop h (F := F) (by simpa using hi) T [] 0 rfl (by simp)
    simpa using this
  · unfold spec_shTree.f
    refine Ev.bind hg ?_
    simp only [↓reduceIte, castL_length, pow1 (show T.length ≤ 61 from by omega)]
    have hj : Ev (fun k => spec_shJoined.f k (castL T) ((2 ^ T.length - 1 : Nat) : Int)) (decide (F = 2 ^ T.length - 1)) := by
      unfold spec_shJoined.f
      refine Ev.step (fun k => by rw [spec_shJoined.l0]) ?_
      have hb : (2 ^ T.length - 1).testBit 0 = true := by rw [Nat.testBit_two_pow_sub_one]; exact decide_eq_true (by omega)
      have hz := spIn_eq (2 ^ T.length - 1) 0 (by omega)
      simp only [Int.natCast_zero] at hz
      simp only [castL_length, show (0 : Int) < (T.length : Int) from by omega, hz, hb, Option.bind_some, ↓reduceIte]
      refine Ev.bind (by simpa using hs) ((Ev.some _).eq ?_)
      rw [Bool.eq_iff_iff, beq_iff_eq, decide_eq_true_eq]; omega
    refine Ev.bind hj ?_
    refine Ev.step (fun k => by rw [spec_shTree.j0]) ?_
    by_cases hF : F = 2 ^ T.length - 1
    · simp only [decide_eq_true hF, Bool.not_true, ↓reduceIte, Bool.false_eq_true, castL_length, Bool.and_true]
      have := spec_tree_loop h T [] 0 rfl (by simp)
      simpa using this
    · simp only [decide_eq_false hF, Bool.not_false, ↓reduceIte, Bool.and_false]
      exact Ev.some _
end Go.Proofs.Ytnpfkbfmipnofaa.Q
