/- The pure statement of the law FnExactHasSet: the printed law function answers true, for all arguments; no conditions. -/
import Derived.Test.YtnmpocdpdmkbdaaCFnExactHasSetQHasSet
import Derived.Test.YtnmpocdpdmkbdaaCFnExactHasSetQLawSpace
import Derived.Test.YtnmpocdpdmkbdaaCFnExactHasSetQMarkSpace
import Derived.Test.YtnmpocdpdmkbdaaCFnExactHasSetP2
namespace Go.Proofs.Ytnmpocdpdmkbdaa.Pure
open Go.RowKit Go.Proofs.YtnmpocdpdmkbdaaW.PrintWords Go.Proofs.YtnmpocdpdmkbdaaW.PrintLast Go.Proofs.YtnmpocdpdmkbdaaW.PrintMore Go.Proofs.Ytnmpocdpdmkbdaa.P Go.Proofs.Ytnmpocdpdmkbdaa.Q
set_option linter.unusedVariables false
set_option linter.unusedSimpArgs false

theorem HasSet_both (n : Int) (S : List Int) (hS : S.length ≤ 1048576) (a : Int) : ∃ v : Bool × Bool, Ev (fun k => spec_HasSet.f k n S a) v ∧ Ev (fun k => impl_HasSet.f k n S a) v := by
  rcases hasSet_cases (n := n) (by omega : S.length ≤ 1099511627776) a with ⟨h1, h2⟩ | ⟨m, T, x, rfl, rfl, rfl, h, hx, h1, h2⟩
  · refine ⟨(false, false), ?_, ?_⟩
    · unfold spec_HasSet.f
      refine Ev.bind h2 ?_
      simp only [↓reduceIte, Bool.false_eq_true]
      exact Ev.some _
    · unfold impl_HasSet.f
      refine Ev.bind h1 ?_
      simp only [↓reduceIte, Bool.false_eq_true]
      exact Ev.some _
  · refine ⟨(decide (x ∈ T), true), ?_, ?_⟩
    · unfold spec_HasSet.f
      refine Ev.bind h2 ?_
      simp only [↓reduceIte]
      exact Ev.bind (spHas_ev h.inc h.small x) (Ev.some _)
    · unfold impl_HasSet.f
      refine Ev.bind h1 ?_
      simp only [↓reduceIte]
      refine Ev.bind (family_ev _ T h.lt128 h.small) ?_
      have hx2 : x < 128 := Nat.lt_of_lt_of_le hx (pow_le_128 h.m7)
      simp only [famN_length, show (0 : Int) ≤ (x : Int) from by omega, show ((x : Int) < ((128 : Nat) : Int)) from by omega, show ((x : Int) < 128) from by omega, ↓reduceIte, famN_get _ hx2]
      exact Ev.some _
theorem FnExactHasSet : laws_FnExactHasSet.Pure := by
  intro n S a _ hm _ _
  refine Ev.rounds ?_
  unfold laws_FnExactHasSet.f
  by_cases hS : S.length ≤ 1048576
  · obtain ⟨r, hr, h0⟩ := szSpace_yes n S hS
    obtain ⟨v, hs, hi⟩ := HasSet_both n S hS a
    simp only [hr, Option.bind_some, h0, ↓reduceIte]
    repeat (first
      | exact Ev.some _
      | with_reducible refine Ev.bind (toSpace_ev _ _ hS) ?_
      | with_reducible refine Ev.bind hs ?_
      | with_reducible refine Ev.bind hi ?_
      | with_reducible refine Ev.bind (eqSpace_self _ _ hS) ?_
      | (show Ev (fun k => laws_FnExactHasSet.j0 k _ _ _ _ _) _; refine Ev.step (fun k => by rw [laws_FnExactHasSet.j0]) ?_)
      | simp only [bne_self_eq_false, bne_self_eq_false', bneB, Bool.false_eq_true, Option.bind_some, ↓reduceIte, nneg, nneg])
  · simp only [szSpace_no n S hm hS, Option.bind_some, show ((-1 : Int) < 0) from by omega, ↓reduceIte]
    exact Ev.some _
end Go.Proofs.Ytnmpocdpdmkbdaa.Pure
