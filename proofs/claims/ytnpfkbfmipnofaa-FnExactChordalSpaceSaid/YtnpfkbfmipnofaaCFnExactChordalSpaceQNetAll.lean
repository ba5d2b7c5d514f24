/- All points of a net; conditions: as each theorem states. -/
import Derived.Test.YtnpfkbfmipnofaaCFnExactChordalSpaceQNet
import Derived.Test.YtnpfkbfmipnofaaCFnExactChordalSpaceP5
namespace Go.Proofs.Ytnpfkbfmipnofaa.Q
open Go.RowKit Go.Proofs.YtnpfkbfmipnofaaW.PrintWords Go.Proofs.YtnpfkbfmipnofaaW.PrintLast Go.Proofs.YtnpfkbfmipnofaaW.PrintMore Go.Proofs.Ytnpfkbfmipnofaa.P
set_option linter.unusedVariables false
set_option linter.unusedSimpArgs false

theorem netAll_eq {T : List Nat} (h : T.length ≤ 61) : impl_Net_all.f (castL T) = some ((2 ^ T.length - 1 : Nat) : Int) := by
  unfold impl_Net_all.f
  simp only [castL_length, show (0 : Int) ≤ (T.length : Int) from by omega, pow1 h, ↓reduceIte]
end Go.Proofs.Ytnpfkbfmipnofaa.Q
