/- The pure statement of the law FnExactWordText: the printed law function answers true, for all arguments; no conditions. -/
import Derived.Test.YtpliebmaagoahaaCFnExactWordTextQText
import Derived.Test.YtpliebmaagoahaaCFnExactWordTextQLaw
import Derived.Test.YtpliebmaagoahaaCFnExactWordTextQMark
import Derived.Test.YtpliebmaagoahaaCFnExactWordTextP1
namespace Go.Proofs.Ytpliebmaagoahaa.Pure
open Go.RowKit Go.Proofs.YtpliebmaagoahaaW.PrintWords Go.Proofs.YtpliebmaagoahaaW.PrintLast Go.Proofs.YtpliebmaagoahaaW.PrintMore Go.Proofs.Ytpliebmaagoahaa.P Go.Proofs.Ytpliebmaagoahaa.Q
set_option linter.unusedVariables false
set_option linter.unusedSimpArgs false


theorem FnExactWordText : laws_FnExactWordText.Pure := by
  intro  w hm0 _
  refine Ev.rounds ?_
  unfold laws_FnExactWordText.f
  by_cases hww : w.length ≤ 1048576
  rotate_left
  · simp only [show ((w.length : Int) > 1048576) from by omega, ↓reduceIte]
    exact Ev.some _
  simp only [show ¬ ((w.length : Int) > 1048576) from by omega, ↓reduceIte]
  obtain ⟨v, hs, hi⟩ := WordText_both w hww
  repeat (first
    | exact Ev.some _
    | with_reducible refine Ev.bind hs ?_
    | with_reducible refine Ev.bind hi ?_
    | with_reducible refine Ev.bind (toIntS_ev' w hww) ?_
    | with_reducible refine Ev.bind (eqIntS_self w hww) ?_
    | (show Ev (fun k => laws_FnExactWordText.j0 k _ _ _) _; refine Ev.step (fun k => by rw [laws_FnExactWordText.j0]) ?_)
    | (show Ev (fun k => laws_FnExactWordText.j0 k _ _ _) _; refine Ev.step (fun k => by rw [laws_FnExactWordText.j0]) ?_)
    | simp only [bne_self_eq_false, bne_self_eq_false', bneB, Bool.false_eq_true, Option.bind_some, ↓reduceIte, nneg, eq_self])
end Go.Proofs.Ytpliebmaagoahaa.Pure
