/- The pure statement of the law FnExactFreeTriples: the printed law function answers true, for all arguments; no conditions. -/
import Derived.Test.YtniehinnbdcafaaCFnExactFreeTriplesQFree
import Derived.Test.YtniehinnbdcafaaCFnExactFreeTriplesQMark
import Derived.Test.YtniehinnbdcafaaCFnExactFreeTriplesP4
namespace Go.Proofs.Ytniehinnbdcafaa.Pure
open Go.RowKit Go.Proofs.YtniehinnbdcafaaW.PrintWords Go.Proofs.YtniehinnbdcafaaW.PrintLast Go.Proofs.YtniehinnbdcafaaW.PrintMore Go.Proofs.Ytniehinnbdcafaa.P Go.Proofs.Ytniehinnbdcafaa.Q
set_option linter.unusedVariables false
set_option linter.unusedSimpArgs false


theorem FnExactFreeTriples : laws_FnExactFreeTriples.Pure := by
  intro P hmp hwp
  refine Ev.rounds ?_
  unfold laws_FnExactFreeTriples.f
  obtain ⟨r, hr, hc⟩ := szSS_cases P hmp (fun r hr => (hwp r hr).1)
  refine Ev.bind hr ?_
  rcases hc with h0 | ⟨h0, hl, hrow⟩
  · simp only [h0, ↓reduceIte]
    exact Ev.some _
  simp only [h0, ↓reduceIte]
  obtain ⟨v, hs, hi⟩ := FreeTriples_both P hl hrow
  repeat (first
    | exact Ev.some _
    | with_reducible refine Ev.bind (toSS_ev P hl hrow) ?_
    | with_reducible refine Ev.bind hs ?_
    | with_reducible refine Ev.bind hi ?_
    | with_reducible refine Ev.bind (eqSS_self P hl hrow) ?_
    | (show Ev (fun k => laws_FnExactFreeTriples.j0 k _ _ _) _; refine Ev.step (fun k => by rw [laws_FnExactFreeTriples.j0]) ?_)
    | simp only [bne_self_eq_false, bne_self_eq_false', bneB, Bool.false_eq_true, Option.bind_some, ↓reduceIte, nneg])
end Go.Proofs.Ytniehinnbdcafaa.Pure
