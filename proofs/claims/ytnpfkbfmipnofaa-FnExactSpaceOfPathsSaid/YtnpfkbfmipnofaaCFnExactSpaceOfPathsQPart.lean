/- Is a set part of another one; conditions: as each theorem states. -/
import Derived.Test.YtnpfkbfmipnofaaCFnExactSpaceOfPathsQSet
import Derived.Test.YtnpfkbfmipnofaaCFnExactSpaceOfPathsP4
namespace Go.Proofs.Ytnpfkbfmipnofaa.Q
open Go.RowKit Go.Proofs.YtnpfkbfmipnofaaW.PrintWords Go.Proofs.YtnpfkbfmipnofaaW.PrintLast Go.Proofs.YtnpfkbfmipnofaaW.PrintMore Go.Proofs.Ytnpfkbfmipnofaa.P
set_option linter.unusedVariables false
set_option linter.unusedSimpArgs false

theorem part_eq {a b : Nat} (ha : a < 2 ^ 62) (hb : b < 2 ^ 62) : impl_part.f (a : Int) (b : Int) = some (decide (andn a b = 0)) := by
  unfold impl_part.f
  rw [bAndn ha hb, natBeq0]
  rfl
end Go.Proofs.Ytnpfkbfmipnofaa.Q
