/- When the program and the reference call a space valid: both the same plain Bool; conditions: as each theorem states. -/
import Derived.Test.YtpliebmaagoahaaCFnExactPointSpaceQFam
import Derived.Test.YtpliebmaagoahaaCFnExactPointSpaceQHas
import Derived.Test.YtpliebmaagoahaaCFnExactPointSpaceP6
namespace Go.Proofs.Ytpliebmaagoahaa.Q
open Go.RowKit Go.Proofs.YtpliebmaagoahaaW.PrintWords Go.Proofs.YtpliebmaagoahaaW.PrintLast Go.Proofs.YtpliebmaagoahaaW.PrintMore Go.Proofs.Ytpliebmaagoahaa.P
set_option linter.unusedVariables false
set_option linter.unusedSimpArgs false

def LoOf (pre : List Int) (lo : Int) : Prop := (pre = [] ∧ lo = 0) ∨ ∃ p' p, pre = p' ++ [p] ∧ lo = p + 1 ∧ 0 ≤ p
theorem LoOf.snoc {pre : List Int} {x : Int} (h : 0 ≤ x) : LoOf (pre ++ [x]) (x + 1) := .inr ⟨pre, x, rfl, rfl, h⟩
theorem pow_le_128 {m : Nat} (h : m ≤ 7) : 2 ^ m ≤ 128 := by
  have : 2 ^ m ≤ 2 ^ 7 := Nat.pow_le_pow_right (by decide) h
  omega
end Go.Proofs.Ytpliebmaagoahaa.Q
