/- The pure statement of the law FnExactFreeSpace: the printed law function answers true, for all arguments; no conditions. -/
import Derived.Test.YtpliebmaagoahaaCFnExactFreeSpaceQFreeS
import Derived.Test.YtpliebmaagoahaaCFnExactFreeSpaceQMarkSpace
import Derived.Test.YtpliebmaagoahaaCFnExactFreeSpaceP2
namespace Go.Proofs.Ytpliebmaagoahaa.Pure
open Go.RowKit Go.Proofs.YtpliebmaagoahaaW.PrintWords Go.Proofs.YtpliebmaagoahaaW.PrintLast Go.Proofs.YtpliebmaagoahaaW.PrintMore Go.Proofs.Ytpliebmaagoahaa.P Go.Proofs.Ytpliebmaagoahaa.Q
set_option linter.unusedVariables false
set_option linter.unusedSimpArgs false


theorem FnExactFreeSpace : laws_FnExactFreeSpace.Pure := by
  intro  a _
  refine Ev.rounds ?_
  unfold laws_FnExactFreeSpace.f
  obtain ⟨n', L, b, hL, hs, hi⟩ := FreeSpace_both a
  repeat (first
    | exact Ev.some _
    | with_reducible refine Ev.bind hs ?_
    | with_reducible refine Ev.bind hi ?_
    | with_reducible refine Ev.bind (eqSpace_self _ _ hL) ?_
    | with_reducible refine Ev.bind (markSpace1_ev _ _ hL) ?_
    | with_reducible refine Ev.bind (heldSpace1_ev _ _ hL) ?_
    | (show Ev (fun k => laws_FnExactFreeSpace.j0 k _ _ _ _ _ _ _) _; refine Ev.step (fun k => by rw [laws_FnExactFreeSpace.j0]) ?_)
    | (show Ev (fun k => laws_FnExactFreeSpace.j1 k _ _ _ _) _; refine Ev.step (fun k => by rw [laws_FnExactFreeSpace.j1]) ?_)
    | (show Ev (fun k => laws_FnExactFreeSpace.j0 k _ _ _ _ _ _ _) _; refine Ev.step (fun k => by rw [laws_FnExactFreeSpace.j0]) ?_)
    | (show Ev (fun k => laws_FnExactFreeSpace.j1 k _ _ _ _) _; refine Ev.step (fun k => by rw [laws_FnExactFreeSpace.j1]) ?_)
    | simp only [bne_self_eq_false, bne_self_eq_false', bneB, Bool.false_eq_true, Option.bind_some, ↓reduceIte, nneg])
end Go.Proofs.Ytpliebmaagoahaa.Pure
