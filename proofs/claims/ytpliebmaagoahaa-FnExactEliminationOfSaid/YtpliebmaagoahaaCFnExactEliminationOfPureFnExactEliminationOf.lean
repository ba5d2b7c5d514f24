/- The pure statement of the law FnExactEliminationOf: the printed law function answers true, for all arguments; no conditions. -/
import Derived.Test.YtpliebmaagoahaaCFnExactEliminationOfQElimLaw
import Derived.Test.YtpliebmaagoahaaCFnExactEliminationOfQLawNet
import Derived.Test.YtpliebmaagoahaaCFnExactEliminationOfQMarkNet
import Derived.Test.YtpliebmaagoahaaCFnExactEliminationOfP3
namespace Go.Proofs.Ytpliebmaagoahaa.Pure
open Go.RowKit Go.Proofs.YtpliebmaagoahaaW.PrintWords Go.Proofs.YtpliebmaagoahaaW.PrintLast Go.Proofs.YtpliebmaagoahaaW.PrintMore Go.Proofs.Ytpliebmaagoahaa.P Go.Proofs.Ytpliebmaagoahaa.Q
set_option linter.unusedVariables false
set_option linter.unusedSimpArgs false


theorem FnExactEliminationOf : laws_FnExactEliminationOf.Pure := by
  intro S hm _
  refine Ev.rounds ?_
  unfold laws_FnExactEliminationOf.f
  by_cases hS : S.length ≤ 1048576
  rotate_left
  · simp only [szNet_no S hm hS, Option.bind_some, show ((-1 : Int) < 0) from by omega, ↓reduceIte]
    exact Ev.some _
  obtain ⟨r, hr, h0⟩ := szNet_yes S hS
  simp only [hr, Option.bind_some, h0, ↓reduceIte]
  obtain ⟨L, b, hL, hs, hi⟩ := EliminationOf_both S hS
  repeat (first
    | exact Ev.some _
    | with_reducible refine Ev.bind (toNet_ev _ hS) ?_
    | with_reducible refine Ev.bind hs ?_
    | with_reducible refine Ev.bind hi ?_
    | with_reducible refine Ev.bind (eqNet_self _ hS) ?_
    | with_reducible refine Ev.bind (eqIntS_self _ hL) ?_
    | with_reducible refine Ev.bind (mark1_ev _ hL) ?_
    | with_reducible refine Ev.bind (held1_ev _ hL) ?_
    | with_reducible refine Ev.bind (markNet1_ev _ hS) ?_
    | (show Ev (fun k => laws_FnExactEliminationOf.j0 k _ _ _ _ _ _ _) _; refine Ev.step (fun k => by rw [laws_FnExactEliminationOf.j0]) ?_)
    | (show Ev (fun k => laws_FnExactEliminationOf.j1 k _ _ _ _ _) _; refine Ev.step (fun k => by rw [laws_FnExactEliminationOf.j1]) ?_)
    | (show Ev (fun k => laws_FnExactEliminationOf.j2 k _ _ _) _; refine Ev.step (fun k => by rw [laws_FnExactEliminationOf.j2]) ?_)
    | (show Ev (fun k => laws_FnExactEliminationOf.j0 k _ _ _ _ _ _ _) _; refine Ev.step (fun k => by rw [laws_FnExactEliminationOf.j0]) ?_)
    | (show Ev (fun k => laws_FnExactEliminationOf.j1 k _ _ _ _ _) _; refine Ev.step (fun k => by rw [laws_FnExactEliminationOf.j1]) ?_)
    | (show Ev (fun k => laws_FnExactEliminationOf.j2 k _ _ _) _; refine Ev.step (fun k => by rw [laws_FnExactEliminationOf.j2]) ?_)
    | simp only [bne_self_eq_false, bne_self_eq_false', bneB, Bool.false_eq_true, Option.bind_some, ↓reduceIte, nneg])
end Go.Proofs.Ytpliebmaagoahaa.Pure
