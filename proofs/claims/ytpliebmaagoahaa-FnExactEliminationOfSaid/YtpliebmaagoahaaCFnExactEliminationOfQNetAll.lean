/- All points of a net; conditions: as each theorem states. -/
import Derived.Test.YtpliebmaagoahaaCFnExactEliminationOfQNet
import Derived.Test.YtpliebmaagoahaaCFnExactEliminationOfP3
namespace Go.Proofs.Ytpliebmaagoahaa.Q
open Go.RowKit Go.Proofs.YtpliebmaagoahaaW.PrintWords Go.Proofs.YtpliebmaagoahaaW.PrintLast Go.Proofs.YtpliebmaagoahaaW.PrintMore Go.Proofs.Ytpliebmaagoahaa.P
set_option linter.unusedVariables false
set_option linter.unusedSimpArgs false

theorem netAll_eq {T : List Nat} (h : T.length ≤ 61) : impl_Net_all.f (castL T) = some ((2 ^ T.length - 1 : Nat) : Int) := by
  unfold impl_Net_all.f
  simp only [castL_length, show (0 : Int) ≤ (T.length : Int) from by omega, pow1 h, ↓reduceIte]
end Go.Proofs.Ytpliebmaagoahaa.Q
