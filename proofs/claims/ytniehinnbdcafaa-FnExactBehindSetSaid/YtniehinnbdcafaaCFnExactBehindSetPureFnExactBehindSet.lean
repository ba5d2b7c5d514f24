/- The pure statement of the law FnExactBehindSet: the printed law function answers true, for all arguments; no conditions. -/
import Derived.Test.YtniehinnbdcafaaCFnExactBehindSetQBehind
import Derived.Test.YtniehinnbdcafaaCFnExactBehindSetQLawSpace
import Derived.Test.YtniehinnbdcafaaCFnExactBehindSetQMarkSpace
import Derived.Test.YtniehinnbdcafaaCFnExactBehindSetP4
namespace Go.Proofs.Ytniehinnbdcafaa.Pure
open Go.RowKit Go.Proofs.YtniehinnbdcafaaW.PrintWords Go.Proofs.YtniehinnbdcafaaW.PrintLast Go.Proofs.YtniehinnbdcafaaW.PrintMore Go.Proofs.Ytniehinnbdcafaa.P Go.Proofs.Ytniehinnbdcafaa.Q
set_option linter.unusedVariables false
set_option linter.unusedSimpArgs false


theorem FnExactBehindSet : laws_FnExactBehindSet.Pure := by
  intro n S a _ hm _ _
  refine Ev.rounds ?_
  unfold laws_FnExactBehindSet.f
  by_cases hS : S.length ≤ 1048576
  rotate_left
  · simp only [szSpace_no n S hm hS, Option.bind_some, show ((-1 : Int) < 0) from by omega, ↓reduceIte]
    exact Ev.some _
  obtain ⟨r, hr, h0⟩ := szSpace_yes n S hS
  simp only [hr, Option.bind_some, h0, ↓reduceIte]
  obtain ⟨n', L, b, hL, hs, hi⟩ := BehindSet_both n S hS a
  repeat (first
    | exact Ev.some _
    | with_reducible refine Ev.bind (toSpace_ev _ _ hS) ?_
    | with_reducible refine Ev.bind hs ?_
    | with_reducible refine Ev.bind hi ?_
    | with_reducible refine Ev.bind (eqSpace_self _ _ hS) ?_
    | with_reducible refine Ev.bind (eqSpace_self _ _ hL) ?_
    | with_reducible refine Ev.bind (markSpace1_ev _ _ hL) ?_
    | with_reducible refine Ev.bind (heldSpace1_ev _ _ hL) ?_
    | with_reducible refine Ev.bind (markSpace1_ev _ _ hS) ?_
    | (show Ev (fun k => laws_FnExactBehindSet.j0 k _ _ _ _ _ _ _ _ _ _ _ _) _; refine Ev.step (fun k => by rw [laws_FnExactBehindSet.j0]) ?_)
    | (show Ev (fun k => laws_FnExactBehindSet.j1 k _ _ _ _ _ _ _ _ _) _; refine Ev.step (fun k => by rw [laws_FnExactBehindSet.j1]) ?_)
    | (show Ev (fun k => laws_FnExactBehindSet.j2 k _ _ _ _) _; refine Ev.step (fun k => by rw [laws_FnExactBehindSet.j2]) ?_)
    | simp only [bne_self_eq_false, bne_self_eq_false', bneB, Bool.false_eq_true, Option.bind_some, ↓reduceIte, nneg])
end Go.Proofs.Ytniehinnbdcafaa.Pure
