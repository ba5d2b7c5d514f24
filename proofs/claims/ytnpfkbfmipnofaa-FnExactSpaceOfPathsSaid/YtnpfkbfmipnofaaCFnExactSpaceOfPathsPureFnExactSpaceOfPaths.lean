/- The pure statement of the law FnExactSpaceOfPaths: the printed law function answers true, for all arguments; no conditions. -/
import Derived.Test.YtnpfkbfmipnofaaCFnExactSpaceOfPathsQPathSp
import Derived.Test.YtnpfkbfmipnofaaCFnExactSpaceOfPathsQMarkSpace
import Derived.Test.YtnpfkbfmipnofaaCFnExactSpaceOfPathsP4
namespace Go.Proofs.Ytnpfkbfmipnofaa.Pure
open Go.RowKit Go.Proofs.YtnpfkbfmipnofaaW.PrintWords Go.Proofs.YtnpfkbfmipnofaaW.PrintLast Go.Proofs.YtnpfkbfmipnofaaW.PrintMore Go.Proofs.Ytnpfkbfmipnofaa.P Go.Proofs.Ytnpfkbfmipnofaa.Q
set_option linter.unusedVariables false
set_option linter.unusedSimpArgs false


theorem FnExactSpaceOfPaths : laws_FnExactSpaceOfPaths.Pure := by
  intro  a w _ hm0 _
  refine Ev.rounds ?_
  unfold laws_FnExactSpaceOfPaths.f
  by_cases hww : w.length ≤ 1048576
  rotate_left
  · simp only [show ((w.length : Int) > 1048576) from by omega, ↓reduceIte]
    exact Ev.some _
  simp only [show ¬ ((w.length : Int) > 1048576) from by omega, ↓reduceIte]
  obtain ⟨n', L, b, hL, hs, hi⟩ := SpaceOfPaths_both a w hww
  repeat (first
    | exact Ev.some _
    | with_reducible refine Ev.bind hs ?_
    | with_reducible refine Ev.bind hi ?_
    | with_reducible refine Ev.bind (toIntS_ev' w hww) ?_
    | with_reducible refine Ev.bind (eqIntS_self w hww) ?_
    | with_reducible refine Ev.bind (eqSpace_self _ _ hL) ?_
    | with_reducible refine Ev.bind (markSpace1_ev _ _ hL) ?_
    | with_reducible refine Ev.bind (heldSpace1_ev _ _ hL) ?_
    | with_reducible refine Ev.bind (mark1_ev w hww) ?_
    | (show Ev (fun k => laws_FnExactSpaceOfPaths.j0 k _ _ _ _ _ _ _ _ _ _) _; refine Ev.step (fun k => by rw [laws_FnExactSpaceOfPaths.j0]) ?_)
    | (show Ev (fun k => laws_FnExactSpaceOfPaths.j1 k _ _ _ _ _ _ _ _) _; refine Ev.step (fun k => by rw [laws_FnExactSpaceOfPaths.j1]) ?_)
    | (show Ev (fun k => laws_FnExactSpaceOfPaths.j2 k _ _ _ _) _; refine Ev.step (fun k => by rw [laws_FnExactSpaceOfPaths.j2]) ?_)
    | simp only [bne_self_eq_false, bne_self_eq_false', bneB, Bool.false_eq_true, Option.bind_some, ↓reduceIte, nneg])
end Go.Proofs.Ytnpfkbfmipnofaa.Pure
