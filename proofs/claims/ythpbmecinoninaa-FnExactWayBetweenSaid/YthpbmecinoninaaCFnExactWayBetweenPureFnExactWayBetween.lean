/- The pure statement of the law FnExactWayBetween: the printed law function answers true, for all arguments; no conditions. -/
import Derived.Test.YthpbmecinoninaaCFnExactWayBetweenQWay
import Derived.Test.YthpbmecinoninaaCFnExactWayBetweenQLawNet
import Derived.Test.YthpbmecinoninaaCFnExactWayBetweenQMark
import Derived.Test.YthpbmecinoninaaCFnExactWayBetweenP3
namespace Go.Proofs.Ythpbmecinoninaa.Pure
open Go.RowKit Go.Proofs.YthpbmecinoninaaW.PrintWords Go.Proofs.YthpbmecinoninaaW.PrintLast Go.Proofs.YthpbmecinoninaaW.PrintMore Go.Proofs.Ythpbmecinoninaa.P Go.Proofs.Ythpbmecinoninaa.Q
set_option linter.unusedVariables false
set_option linter.unusedSimpArgs false


theorem FnExactWayBetween : laws_FnExactWayBetween.Pure := by
  intro S a b hm _ _ _
  refine Ev.rounds ?_
  unfold laws_FnExactWayBetween.f
  by_cases hS : S.length ≤ 1048576
  rotate_left
  · simp only [szNet_no S hm hS, Option.bind_some, show ((-1 : Int) < 0) from by omega, ↓reduceIte]
    exact Ev.some _
  obtain ⟨r, hr, h0⟩ := szNet_yes S hS
  simp only [hr, Option.bind_some, h0, ↓reduceIte]
  obtain ⟨v, hs, hi⟩ := WayBetween_both S hS a b
  repeat (first
    | exact Ev.some _
    | with_reducible refine Ev.bind (toNet_ev _ hS) ?_
    | with_reducible refine Ev.bind hs ?_
    | with_reducible refine Ev.bind hi ?_
    | with_reducible refine Ev.bind (eqNet_self _ hS) ?_
    | (show Ev (fun k => laws_FnExactWayBetween.j0 k _ _ _) _; refine Ev.step (fun k => by rw [laws_FnExactWayBetween.j0]) ?_)
    | simp only [bne_self_eq_false, bne_self_eq_false', bneB, Bool.false_eq_true, Option.bind_some, ↓reduceIte, nneg])
end Go.Proofs.Ythpbmecinoninaa.Pure
