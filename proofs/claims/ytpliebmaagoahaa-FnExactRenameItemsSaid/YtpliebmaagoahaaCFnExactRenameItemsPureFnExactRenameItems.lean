/- The pure statement of the law FnExactRenameItems: the printed law function answers true, for all arguments; no conditions. -/
import Derived.Test.YtpliebmaagoahaaCFnExactRenameItemsQRename
import Derived.Test.YtpliebmaagoahaaCFnExactRenameItemsQMarkSpace
import Derived.Test.YtpliebmaagoahaaCFnExactRenameItemsP4
namespace Go.Proofs.Ytpliebmaagoahaa.Pure
open Go.RowKit Go.Proofs.YtpliebmaagoahaaW.PrintWords Go.Proofs.YtpliebmaagoahaaW.PrintLast Go.Proofs.YtpliebmaagoahaaW.PrintMore Go.Proofs.Ytpliebmaagoahaa.P Go.Proofs.Ytpliebmaagoahaa.Q
set_option linter.unusedVariables false
set_option linter.unusedSimpArgs false


theorem FnExactRenameItems : laws_FnExactRenameItems.Pure := by
  intro n S w _ hm _ hm0 _
  refine Ev.rounds ?_
  unfold laws_FnExactRenameItems.f
  by_cases hww : w.length ≤ 1048576
  rotate_left
  · simp only [show ((w.length : Int) > 1048576) from by omega, ↓reduceIte]
    exact Ev.some _
  simp only [show ¬ ((w.length : Int) > 1048576) from by omega, ↓reduceIte]
  by_cases hS : S.length ≤ 1048576
  rotate_left
  · simp only [szSpace_no n S hm hS, Option.bind_some, show ((-1 : Int) < 0) from by omega, ↓reduceIte]
    exact Ev.some _
  obtain ⟨r, hr, h0⟩ := szSpace_yes n S hS
  simp only [hr, Option.bind_some, h0, ↓reduceIte]
  obtain ⟨n', L, b, hL, hs, hi⟩ := RenameItems_both n S hS w hww
  repeat (first
    | exact Ev.some _
    | with_reducible refine Ev.bind (toSpace_ev _ _ hS) ?_
    | with_reducible refine Ev.bind hs ?_
    | with_reducible refine Ev.bind hi ?_
    | with_reducible refine Ev.bind (eqSpace_self _ _ hS) ?_
    | with_reducible refine Ev.bind (toIntS_ev' w hww) ?_
    | with_reducible refine Ev.bind (eqIntS_self w hww) ?_
    | with_reducible refine Ev.bind (eqSpace_self _ _ hL) ?_
    | with_reducible refine Ev.bind (markSpace1_ev _ _ hL) ?_
    | with_reducible refine Ev.bind (heldSpace1_ev _ _ hL) ?_
    | with_reducible refine Ev.bind (markSpace1_ev _ _ hS) ?_
    | with_reducible refine Ev.bind (mark1_ev w hww) ?_
    | with_reducible refine Ev.bind (mark_ev (1 + S.length) (by omega) w (by omega)) ?_
    | (show Ev (fun k => laws_FnExactRenameItems.j0 k _ _ _ _ _ _ _ _ _ _ _ _ _) _; refine Ev.step (fun k => by rw [laws_FnExactRenameItems.j0]) ?_)
    | (show Ev (fun k => laws_FnExactRenameItems.j1 k _ _ _ _ _ _ _ _ _) _; refine Ev.step (fun k => by rw [laws_FnExactRenameItems.j1]) ?_)
    | (show Ev (fun k => laws_FnExactRenameItems.j2 k _ _ _ _) _; refine Ev.step (fun k => by rw [laws_FnExactRenameItems.j2]) ?_)
    | (show Ev (fun k => laws_FnExactRenameItems.j0 k _ _ _ _ _ _ _ _ _ _ _ _ _) _; refine Ev.step (fun k => by rw [laws_FnExactRenameItems.j0]) ?_)
    | (show Ev (fun k => laws_FnExactRenameItems.j1 k _ _ _ _ _ _ _ _ _) _; refine Ev.step (fun k => by rw [laws_FnExactRenameItems.j1]) ?_)
    | (show Ev (fun k => laws_FnExactRenameItems.j2 k _ _ _ _) _; refine Ev.step (fun k => by rw [laws_FnExactRenameItems.j2]) ?_)
    | simp only [bne_self_eq_false, bne_self_eq_false', bneB, Bool.false_eq_true, Option.bind_some, ↓reduceIte, nneg])
end Go.Proofs.Ytpliebmaagoahaa.Pure
