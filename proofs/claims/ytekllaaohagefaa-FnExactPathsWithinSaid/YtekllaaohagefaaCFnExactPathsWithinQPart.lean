/- Is a set part of another one; conditions: as each theorem states. -/
import Derived.Test.YtekllaaohagefaaCFnExactPathsWithinQSet
import Derived.Test.YtekllaaohagefaaCFnExactPathsWithinP3
namespace Go.Proofs.Ytekllaaohagefaa.Q
open Go.RowKit Go.Proofs.YtekllaaohagefaaW.PrintWords Go.Proofs.YtekllaaohagefaaW.PrintLast Go.Proofs.YtekllaaohagefaaW.PrintMore Go.Proofs.Ytekllaaohagefaa.P
set_option linter.unusedVariables false
set_option linter.unusedSimpArgs false

theorem part_eq {a b : Nat} (ha : a < 2 ^ 62) (hb : b < 2 ^ 62) : impl_part.f (a : Int) (b : Int) = some (decide (andn a b = 0)) := by
  unfold impl_part.f
  rw [bAndn ha hb, natBeq0]
  rfl
end Go.Proofs.Ytekllaaohagefaa.Q
