/- How many items a set has: the program's count and the reference's; conditions: as each theorem states. -/
import Derived.Test.YtekllaaohagefaaDoorCFnExactEndOfQSet
import Derived.Test.YtekllaaohagefaaDoorCFnExactEndOfP3
namespace Go.Proofs.YtekllaaohagefaaDoor.Q
open Go.RowKit Go.Proofs.YtekllaaohagefaaDoorW.PrintWords Go.Proofs.YtekllaaohagefaaDoorW.PrintLast Go.Proofs.YtekllaaohagefaaDoorW.PrintMore Go.Proofs.YtekllaaohagefaaDoor.P
set_option linter.unusedVariables false
set_option linter.unusedSimpArgs false

def cntN (x : Nat) : Nat := (itemsN x).length
theorem count_all : ∀ x : Fin 128, impl_count.f (x.val : Int) = some ((cntN x.val : Nat) : Int) := by decide +kernel
theorem count_eq {x : Nat} (hx : x < 128) : impl_count.f (x : Int) = some ((cntN x : Nat) : Int) := count_all ⟨x, hx⟩
theorem spCount_all : ∀ x : Fin 128, spec_spCount.f 9 (x.val : Int) = some ((cntN x.val : Nat) : Int) := by decide +kernel
theorem spCount_ev {x : Nat} (hx : x < 128) : Ev (fun k => spec_spCount.f k (x : Int)) ((cntN x : Nat) : Int) :=
  Ev.at (fun k => spec_spCount.mono _ k) 9 (spCount_all ⟨x, hx⟩)
end Go.Proofs.YtekllaaohagefaaDoor.Q
