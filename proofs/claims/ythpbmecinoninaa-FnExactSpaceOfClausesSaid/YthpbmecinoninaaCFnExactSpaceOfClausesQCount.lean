/- How many items a set has: the program's count and the reference's; conditions: as each theorem states. -/
import Derived.Test.YthpbmecinoninaaCFnExactSpaceOfClausesQSet
import Derived.Test.YthpbmecinoninaaCFnExactSpaceOfClausesP6
namespace Go.Proofs.Ythpbmecinoninaa.Q
open Go.RowKit Go.Proofs.YthpbmecinoninaaW.PrintWords Go.Proofs.YthpbmecinoninaaW.PrintLast Go.Proofs.YthpbmecinoninaaW.PrintMore Go.Proofs.Ythpbmecinoninaa.P
set_option linter.unusedVariables false
set_option linter.unusedSimpArgs false

def cntN (x : Nat) : Nat := (itemsN x).length
theorem spCount_all : ∀ x : Fin 128, spec_spCount.f 9 (x.val : Int) = some ((cntN x.val : Nat) : Int) := by decide +kernel
theorem spCount_ev {x : Nat} (hx : x < 128) : Ev (fun k => spec_spCount.f k (x : Int)) ((cntN x : Nat) : Int) :=
  Ev.at (fun k => spec_spCount.mono _ k) 9 (spCount_all ⟨x, hx⟩)
end Go.Proofs.Ythpbmecinoninaa.Q
