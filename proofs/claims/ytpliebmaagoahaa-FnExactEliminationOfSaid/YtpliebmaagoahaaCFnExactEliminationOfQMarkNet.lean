/- The laws' marks of a net; conditions: as each theorem states. -/
import Derived.Test.YtpliebmaagoahaaCFnExactEliminationOfQMark
import Derived.Test.YtpliebmaagoahaaCFnExactEliminationOfP3
namespace Go.Proofs.Ytpliebmaagoahaa.Q
open Go.RowKit Go.Proofs.YtpliebmaagoahaaW.PrintWords Go.Proofs.YtpliebmaagoahaaW.PrintLast Go.Proofs.YtpliebmaagoahaaW.PrintMore Go.Proofs.Ytpliebmaagoahaa.P
set_option linter.unusedVariables false
set_option linter.unusedSimpArgs false

theorem markNet1_ev (S : List Int) (h : S.length ≤ 1048576) : Ev (fun k => laws_markNet.f k S 1) (((1 + S.length : Nat) : Int), upL 1 S.length) := by
  unfold laws_markNet.f
  exact Ev.bind (mark1_ev S h) (Ev.some _)
end Go.Proofs.Ytpliebmaagoahaa.Q
