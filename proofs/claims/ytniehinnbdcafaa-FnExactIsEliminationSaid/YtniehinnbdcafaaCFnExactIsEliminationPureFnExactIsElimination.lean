/- The pure statement of the law FnExactIsElimination: the printed law function answers true, for all arguments; no conditions. -/
import Derived.Test.YtniehinnbdcafaaCFnExactIsEliminationQElim
import Derived.Test.YtniehinnbdcafaaCFnExactIsEliminationQLawNet
import Derived.Test.YtniehinnbdcafaaCFnExactIsEliminationQMark
import Derived.Test.YtniehinnbdcafaaCFnExactIsEliminationP2
namespace Go.Proofs.Ytniehinnbdcafaa.Pure
open Go.RowKit Go.Proofs.YtniehinnbdcafaaW.PrintWords Go.Proofs.YtniehinnbdcafaaW.PrintLast Go.Proofs.YtniehinnbdcafaaW.PrintMore Go.Proofs.Ytniehinnbdcafaa.P Go.Proofs.Ytniehinnbdcafaa.Q
set_option linter.unusedVariables false
set_option linter.unusedSimpArgs false


theorem FnExactIsElimination : laws_FnExactIsElimination.Pure := by
  intro S w hm _ hm0 _
  refine Ev.rounds ?_
  unfold laws_FnExactIsElimination.f
  by_cases hww : w.length ≤ 1048576
  rotate_left
  · simp only [show ((w.length : Int) > 1048576) from by omega, ↓reduceIte]
    exact Ev.some _
  simp only [show ¬ ((w.length : Int) > 1048576) from by omega, ↓reduceIte]
  by_cases hS : S.length ≤ 1048576
  rotate_left
  · simp only [szNet_no S hm hS, Option.bind_some, show ((-1 : Int) < 0) from by omega, ↓reduceIte]
    exact Ev.some _
  obtain ⟨r, hr, h0⟩ := szNet_yes S hS
  simp only [hr, Option.bind_some, h0, ↓reduceIte]
  obtain ⟨v, hs, hi⟩ := IsElimination_both S hS w hww
  repeat (first
    | exact Ev.some _
    | with_reducible refine Ev.bind (toNet_ev _ hS) ?_
    | with_reducible refine Ev.bind hs ?_
    | with_reducible refine Ev.bind hi ?_
    | with_reducible refine Ev.bind (eqNet_self _ hS) ?_
    | with_reducible refine Ev.bind (toIntS_ev' w hww) ?_
    | with_reducible refine Ev.bind (eqIntS_self w hww) ?_
    | (show Ev (fun k => laws_FnExactIsElimination.j0 k _ _ _ _ _) _; refine Ev.step (fun k => by rw [laws_FnExactIsElimination.j0]) ?_)
    | simp only [bne_self_eq_false, bne_self_eq_false', bneB, Bool.false_eq_true, Option.bind_some, ↓reduceIte, nneg])
end Go.Proofs.Ytniehinnbdcafaa.Pure
