/- Is a set part of another one; conditions: as each theorem states. -/
import Derived.Test.YthpbmecinoninaaCFnExactSpaceOfClausesQSet
import Derived.Test.YthpbmecinoninaaCFnExactSpaceOfClausesP6
namespace Go.Proofs.Ythpbmecinoninaa.Q
open Go.RowKit Go.Proofs.YthpbmecinoninaaW.PrintWords Go.Proofs.YthpbmecinoninaaW.PrintLast Go.Proofs.YthpbmecinoninaaW.PrintMore Go.Proofs.Ythpbmecinoninaa.P
set_option linter.unusedVariables false
set_option linter.unusedSimpArgs false

theorem part_eq {a b : Nat} (ha : a < 2 ^ 62) (hb : b < 2 ^ 62) : impl_part.f (a : Int) (b : Int) = some (decide (andn a b = 0)) := by
  unfold impl_part.f
  rw [bAndn ha hb, natBeq0]
  rfl
end Go.Proofs.Ythpbmecinoninaa.Q
