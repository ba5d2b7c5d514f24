/- The pure statement of the law FnExactLongestPath: the printed law function answers true, for all arguments; no conditions. -/
import Derived.Test.YtnpfkbfmipnofaaCFnExactLongestPathQPath
import Derived.Test.YtnpfkbfmipnofaaCFnExactLongestPathQLawSpace
import Derived.Test.YtnpfkbfmipnofaaCFnExactLongestPathQMarkSpace
import Derived.Test.YtnpfkbfmipnofaaCFnExactLongestPathP3
namespace Go.Proofs.Ytnpfkbfmipnofaa.Pure
open Go.RowKit Go.Proofs.YtnpfkbfmipnofaaW.PrintWords Go.Proofs.YtnpfkbfmipnofaaW.PrintLast Go.Proofs.YtnpfkbfmipnofaaW.PrintMore Go.Proofs.Ytnpfkbfmipnofaa.P Go.Proofs.Ytnpfkbfmipnofaa.Q
set_option linter.unusedVariables false
set_option linter.unusedSimpArgs false

def mostN : List Nat → Nat → Nat
  | [], c => c
  | x :: r, c => mostN r (if c < cntN x then cntN x else c)
theorem cntN_le8 (x : Nat) : cntN x ≤ 7 := by
  unfold cntN itemsN; exact Nat.le_trans (List.length_filter_le _ _) (by simp)
theorem longest_loop (L : List Nat) (hL : ∀ x ∈ L, x < 128) (hl : L.length ≤ 1099511627776) : ∀ (rest pre : List Nat) (c : Nat), pre ++ rest = L →
    Ev (fun k => impl_LongestPath.l0 k (c : Int) (castL L) (L.length : Int) (pre.length : Int)) (((mostN rest c : Nat) : Int), true) ∧
    Ev (fun k => spec_LongestPath.l0 k (c : Int) (castL L) (L.length : Int) (pre.length : Int)) (((mostN rest c : Nat) : Int), true) := by
  intro rest
  induction rest with
  | nil =>
    intro pre c e
    obtain rfl : pre = L := by simpa using e
    constructor
    · refine Ev.step (fun k => by rw [impl_LongestPath.l0]) ?_
      simp only [show ¬ ((pre.length : Int) < (pre.length : Int)) from by omega, ↓reduceIte]
      exact Ev.some _
    · refine Ev.step (fun k => by rw [spec_LongestPath.l0]) ?_
      simp only [show ¬ ((pre.length : Int) < (pre.length : Int)) from by omega, ↓reduceIte]
      exact Ev.some _
  | cons y rest ih =>
    intro pre c e
    have hy : y < 128 := hL y (by rw [← e]; simp)
    have hlen : L.length = pre.length + (rest.length + 1) := by rw [← e]; simp
    have er : rd (castL L) (pre.length : Int) = (y : Int) := by rw [← e]; exact rd_castL_mid _ _ _
    obtain ⟨i1, i2⟩ := ih (pre ++ [y]) (if c < cntN y then cntN y else c) (by simp [e])
    simp only [List.length_append, List.length_singleton] at i1 i2
    have e1 : mx (c : Int) ((cntN y : Nat) : Int) = ((if c < cntN y then cntN y else c : Nat) : Int) := by
      unfold mx
      by_cases g : c < cntN y
      · rw [if_pos (by omega), if_pos g]
      · rw [if_neg (by omega), if_neg g]
    have e2 : spec_l1Most.f (c : Int) ((cntN y : Nat) : Int) = some ((if c < cntN y then cntN y else c : Nat) : Int) := by
      unfold spec_l1Most.f
      by_cases g : (c : Int) > ((cntN y : Nat) : Int)
      · rw [if_pos g, if_neg (by omega)]
      · rw [if_neg g]
        by_cases g2 : c < cntN y
        · rw [if_pos g2]
        · rw [if_neg g2]; congr 1; omega
    constructor
    · refine Ev.step (fun k => by rw [impl_LongestPath.l0]) ?_
      simp only [show ((pre.length : Int) < (L.length : Int)) from by omega, show (0 : Int) ≤ (pre.length : Int) from by omega, castL_length, er, count_eq hy, Option.bind_some, e1, ↓reduceIte]
      rw [wnext (n := L.length) (by omega) hl]
      exact i1
    · refine Ev.step (fun k => by rw [spec_LongestPath.l0]) ?_
      simp only [show ((pre.length : Int) < (L.length : Int)) from by omega, show (0 : Int) ≤ (pre.length : Int) from by omega, castL_length, er, ↓reduceIte]
      refine Ev.bind (spCount_ev hy) ?_
      simp only [e2, Option.bind_some]
      rw [wnext (n := L.length) (by omega) hl]
      exact i2
theorem LongestPath_both (n : Int) (S : List Int) (hS : S.length ≤ 1048576) : ∃ v : Int × Bool, Ev (fun k => spec_LongestPath.f k n S) v ∧ Ev (fun k => impl_LongestPath.f k n S) v := by
  have hS2 : S.length ≤ 1099511627776 := by omega
  cases hg : goodB n S with
  | false =>
    refine ⟨(0, false), ?_, ?_⟩
    · unfold spec_LongestPath.f
      refine Ev.bind ((spec_spGood_ev n S hS2).eq hg) ?_
      simp only [↓reduceIte, Bool.false_eq_true]
      exact Ev.some _
    · unfold impl_LongestPath.f
      refine Ev.bind ((impl_IsSpace_ev n S hS2).eq hg) ?_
      simp only [↓reduceIte, Bool.false_eq_true]
      exact Ev.some _
  | true =>
    obtain ⟨m, T, rfl, rfl, h⟩ := good_space hg
    have hsh := h.short
    have hfl : (T.filter (pathB T)).length ≤ T.length := List.length_filter_le _ _
    obtain ⟨i1, i2⟩ := longest_loop (T.filter (pathB T)) (fun x hx => h.lt128 x (List.mem_filter.1 hx).1) (by omega) (T.filter (pathB T)) [] 0 rfl
    refine ⟨(((mostN (T.filter (pathB T)) 0 : Nat) : Int), true), ?_, ?_⟩
    · unfold spec_LongestPath.f
      refine Ev.bind h.spec ?_
      simp only [↓reduceIte]
      refine Ev.bind (paAll_ev h) ?_
      rw [castL_length]
      exact i2
    · unfold impl_LongestPath.f
      refine Ev.bind h.impl ?_
      simp only [↓reduceIte]
      refine Ev.bind (paths_ev h) ?_
      rw [castL_length]
      exact i1
theorem FnExactLongestPath : laws_FnExactLongestPath.Pure := by
  intro n S _ hm _
  refine Ev.rounds ?_
  unfold laws_FnExactLongestPath.f
  by_cases hS : S.length ≤ 1048576
  rotate_left
  · simp only [szSpace_no n S hm hS, Option.bind_some, show ((-1 : Int) < 0) from by omega, ↓reduceIte]
    exact Ev.some _
  obtain ⟨r, hr, h0⟩ := szSpace_yes n S hS
  simp only [hr, Option.bind_some, h0, ↓reduceIte]
  obtain ⟨v, hs, hi⟩ := LongestPath_both n S hS
  repeat (first
    | exact Ev.some _
    | with_reducible refine Ev.bind (toSpace_ev _ _ hS) ?_
    | with_reducible refine Ev.bind hs ?_
    | with_reducible refine Ev.bind hi ?_
    | with_reducible refine Ev.bind (eqSpace_self _ _ hS) ?_
    | (show Ev (fun k => laws_FnExactLongestPath.j0 k _ _ _ _ _) _; refine Ev.step (fun k => by rw [laws_FnExactLongestPath.j0]) ?_)
    | simp only [bne_self_eq_false, bne_self_eq_false', bneB, Bool.false_eq_true, Option.bind_some, ↓reduceIte, nneg])
end Go.Proofs.Ytnpfkbfmipnofaa.Pure
