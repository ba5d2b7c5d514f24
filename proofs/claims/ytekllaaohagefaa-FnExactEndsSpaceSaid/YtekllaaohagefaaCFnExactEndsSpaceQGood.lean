/- When the program and the reference call a space valid: both the same plain Bool; conditions: as each theorem states. -/
import Derived.Test.YtekllaaohagefaaCFnExactEndsSpaceQFam
import Derived.Test.YtekllaaohagefaaCFnExactEndsSpaceQHas
import Derived.Test.YtekllaaohagefaaCFnExactEndsSpaceP6
namespace Go.Proofs.Ytekllaaohagefaa.Q
open Go.RowKit Go.Proofs.YtekllaaohagefaaW.PrintWords Go.Proofs.YtekllaaohagefaaW.PrintLast Go.Proofs.YtekllaaohagefaaW.PrintMore Go.Proofs.Ytekllaaohagefaa.P
set_option linter.unusedVariables false
set_option linter.unusedSimpArgs false

def LoOf (pre : List Int) (lo : Int) : Prop := (pre = [] ∧ lo = 0) ∨ ∃ p' p, pre = p' ++ [p] ∧ lo = p + 1 ∧ 0 ≤ p
theorem LoOf.snoc {pre : List Int} {x : Int} (h : 0 ≤ x) : LoOf (pre ++ [x]) (x + 1) := .inr ⟨pre, x, rfl, rfl, h⟩
theorem pow_le_128 {m : Nat} (h : m ≤ 7) : 2 ^ m ≤ 128 := by
  have : 2 ^ m ≤ 2 ^ 7 := Nat.pow_le_pow_right (by decide) h
  omega
end Go.Proofs.Ytekllaaohagefaa.Q
