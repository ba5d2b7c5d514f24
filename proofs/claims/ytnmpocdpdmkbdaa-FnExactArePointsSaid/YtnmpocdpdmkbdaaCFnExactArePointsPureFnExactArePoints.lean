/- The pure statement of the law FnExactArePoints: the printed law function answers true, for all arguments; no conditions. -/
import Derived.Test.YtnmpocdpdmkbdaaCFnExactArePointsQPts
import Derived.Test.YtnmpocdpdmkbdaaCFnExactArePointsQMark
import Derived.Test.YtnmpocdpdmkbdaaCFnExactArePointsP2
namespace Go.Proofs.Ytnmpocdpdmkbdaa.Pure
open Go.RowKit Go.Proofs.YtnmpocdpdmkbdaaW.PrintWords Go.Proofs.YtnmpocdpdmkbdaaW.PrintLast Go.Proofs.YtnmpocdpdmkbdaaW.PrintMore Go.Proofs.Ytnmpocdpdmkbdaa.P Go.Proofs.Ytnmpocdpdmkbdaa.Q
set_option linter.unusedVariables false
set_option linter.unusedSimpArgs false

theorem ArePoints_both (P : List (List Int)) (hl : P.length ≤ 1048576) (hrow : ∀ x ∈ P, x.length ≤ 1048576) : ∃ v : Bool, Ev (fun k => spec_ArePoints.f k P) v ∧ Ev (fun k => impl_ArePoints.f k P) v :=
  ⟨ptsB P, by unfold spec_ArePoints.f; exact Ev.bind (spec_pts_ev P) (Ev.some _), impl_pts_ev P⟩
theorem FnExactArePoints : laws_FnExactArePoints.Pure := by
  intro P hmp hwp
  refine Ev.rounds ?_
  unfold laws_FnExactArePoints.f
  obtain ⟨r, hr, hc⟩ := szSS_cases P hmp (fun r hr => (hwp r hr).1)
  refine Ev.bind hr ?_
  rcases hc with h0 | ⟨h0, hl, hrow⟩
  · simp only [h0, ↓reduceIte]
    exact Ev.some _
  simp only [h0, ↓reduceIte]
  obtain ⟨v, hs, hi⟩ := ArePoints_both P hl hrow
  repeat (first
    | exact Ev.some _
    | with_reducible refine Ev.bind (toSS_ev P hl hrow) ?_
    | with_reducible refine Ev.bind hs ?_
    | with_reducible refine Ev.bind hi ?_
    | with_reducible refine Ev.bind (eqSS_self P hl hrow) ?_
    | simp only [bne_self_eq_false, bne_self_eq_false', bneB, Bool.false_eq_true, Option.bind_some, ↓reduceIte, nneg])
end Go.Proofs.Ytnmpocdpdmkbdaa.Pure
