/- A word that is swapped: both; conditions: as each theorem states. -/
import Derived.Test.YtnpfkbfmipnofaaCFnExactSwapWordQClone
import Derived.Test.YtnpfkbfmipnofaaCFnExactSwapWordQOwn
import Derived.Test.YtnpfkbfmipnofaaCFnExactSwapWordP4
namespace Go.Proofs.Ytnpfkbfmipnofaa.Q
open Go.RowKit Go.Proofs.YtnpfkbfmipnofaaW.PrintWords Go.Proofs.YtnpfkbfmipnofaaW.PrintLast Go.Proofs.YtnpfkbfmipnofaaW.PrintMore Go.Proofs.Ytnpfkbfmipnofaa.P
set_option linter.unusedVariables false
set_option linter.unusedSimpArgs false

theorem SwapWord_both (n : Int) (S : List Int) (hS : S.length ≤ 1048576) (w : List Int) (hw : w.length ≤ 1048576) (a : Int) : ∃ (L : List Int) (b : Bool), L.length ≤ 1048576 ∧ Ev (fun k => spec_SwapWord.f k n S w a) (L, b) ∧ Ev (fun k => impl_SwapWord.f k n S w a) (L, b) := by
  have hS2 : S.length ≤ 1099511627776 := by omega
  have hsj : ∀ (a m : Int) (S : List Int), Ev (fun k => spec_SwapWord.j0 k w a true m S) ([], false) := fun a m S => by
    refine Ev.step (fun k => by rw [spec_SwapWord.j0]) ?_
    simp only [↓reduceIte]; exact Ev.some _
  have hij : ∀ (a m : Int) (S : List Int), Ev (fun k => impl_SwapWord.j0 k w a true m S) ([], false) := fun a m S => by
    refine Ev.step (fun k => by rw [impl_SwapWord.j0]) ?_
    simp only [↓reduceIte]; exact Ev.some _
  cases hg : goodB n S with
  | false =>
    refine ⟨[], false, by simp, ?_, ?_⟩
    · unfold spec_SwapWord.f
      refine Ev.bind ((spec_spGood_ev n S hS2).eq hg) ?_
      simp only [↓reduceIte, Bool.false_eq_true]; exact hsj _ _ _
    · unfold impl_SwapWord.f
      refine Ev.bind (isWord_no hS2 hg w) ?_
      simp only [↓reduceIte, Bool.false_eq_true]; exact hij _ _ _
  | true =>
    obtain ⟨m, T, rfl, rfl, h⟩ := good_space hg
    have hwr : wrap64 ((w.length : Int) - 2) = (w.length : Int) - 2 := w64 (by omega) (by omega)
    have hws := woSet_ev h w (by omega)
    have hiw := isWord_ev h w (by omega)
    by_cases hk : 0 ≤ a ∧ a ≤ (w.length : Int) - 2
    · obtain ⟨k, rfl⟩ := Int.eq_ofNat_of_zero_le hk.1
      have hk1 : k + 1 < w.length := by omega
      have hwk : wrap64 ((k : Int) + 1) = ((k + 1 : Nat) : Int) := wnext (n := w.length) (by omega) (by omega)
      cases hok : (wordR m T w 0).2 with
      | false =>
        rw [wordR_no hok] at hws
        rw [hok] at hiw
        refine ⟨[], false, by simp, ?_, ?_⟩
        · unfold spec_SwapWord.f
          refine Ev.bind h.spec ?_
          simp only [↓reduceIte, l1In_eq, Option.bind_some, hwr, decide_eq_true hk, Bool.not_true]
          refine Ev.step (fun k => by rw [spec_SwapWord.j0]) ?_
          simp only [↓reduceIte, Bool.false_eq_true]
          refine Ev.bind hws ?_
          simp only [↓reduceIte, Bool.false_eq_true]; exact Ev.some _
        · unfold impl_SwapWord.f
          refine Ev.bind hiw ?_
          simp only [↓reduceIte, Bool.false_eq_true]; exact hij _ _ _
      | true =>
        obtain ⟨z, hz, e⟩ := wordR_mem h.zero hok
        rw [e] at hws
        rw [hok] at hiw
        obtain ⟨y, hy⟩ : ∃ y, y = (w.set k (rd w ((k + 1 : Nat) : Int))).set (k + 1) (rd w (k : Int)) := ⟨_, rfl⟩
        have hyl : y.length = w.length := by rw [hy]; simp
        have hys := woSet_ev h y (by omega)
        have hyw := isWord_ev h y (by omega)
        refine ⟨if (wordR m T y 0).2 = true then y else [], (wordR m T y 0).2, by (by_cases e_ : (wordR m T y 0).2 = true <;> simp [e_] <;> omega), ?_, ?_⟩
        · unfold spec_SwapWord.f
          refine Ev.bind h.spec ?_
          simp only [↓reduceIte, l1In_eq, Option.bind_some, hwr, decide_eq_true hk, Bool.not_true]
          refine Ev.step (fun k => by rw [spec_SwapWord.j0]) ?_
          simp only [↓reduceIte, Bool.false_eq_true]
          refine Ev.bind hws ?_
          simp only [↓reduceIte]
          have hsw : Ev (fun q => spec_woSwap.f q (m : Int) (castL T) w (k : Int)) (y, (wordR m T y 0).2) := by
            unfold spec_woSwap.f
            simp only [own_eq w (by omega), Option.bind_some, hwk, show (0 : Int) ≤ (k : Int) from by omega, show ((k : Int) < (w.length : Int)) from by omega, show (0 : Int) ≤ ((k + 1 : Nat) : Int) from by omega, show (((k + 1 : Nat) : Int) < (w.length : Int)) from by omega, Int.toNat_natCast, ← hy, ↓reduceIte]
            exact Ev.bind hys (Ev.some _)
          refine Ev.bind hsw ?_
          cases hok2 : (wordR m T y 0).2 with
          | true => simp only [↓reduceIte]; exact Ev.some _
          | false => simp only [↓reduceIte, Bool.false_eq_true]; exact Ev.some _
        · unfold impl_SwapWord.f
          refine Ev.bind hiw ?_
          simp only [↓reduceIte, within_eq, Option.bind_some, hwr, decide_eq_true hk, Bool.not_true]
          refine Ev.step (fun k => by rw [impl_SwapWord.j0]) ?_
          simp only [↓reduceIte, Bool.false_eq_true, clone_eq w (by omega), Option.bind_some, hwk, show (0 : Int) ≤ (k : Int) from by omega, show ((k : Int) < (w.length : Int)) from by omega, show (0 : Int) ≤ ((k + 1 : Nat) : Int) from by omega, show (((k + 1 : Nat) : Int) < (w.length : Int)) from by omega, Int.toNat_natCast, ← hy]
          refine Ev.bind hyw ?_
          cases hok2 : (wordR m T y 0).2 with
          | true => simp only [↓reduceIte]; exact Ev.some _
          | false => simp only [↓reduceIte, Bool.false_eq_true]; exact Ev.some _
    · refine ⟨[], false, by simp, ?_, ?_⟩
      · unfold spec_SwapWord.f
        refine Ev.bind h.spec ?_
        simp only [↓reduceIte, l1In_eq, Option.bind_some, hwr, decide_eq_false hk, Bool.not_false]
        exact hsj _ _ _
      · unfold impl_SwapWord.f
        refine Ev.bind hiw ?_
        cases (wordR m T w 0).2 with
        | false => simp only [↓reduceIte, Bool.false_eq_true]; exact hij _ _ _
        | true =>
          simp only [↓reduceIte, within_eq, Option.bind_some, hwr, decide_eq_false hk, Bool.not_false]
          exact hij _ _ _
end Go.Proofs.Ytnpfkbfmipnofaa.Q
