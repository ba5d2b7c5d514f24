/- The inner fringe, more; conditions: as each theorem states. -/
import Derived.Test.YthpbmecinoninaaCFnExactSpaceOfClausesQSp
import Derived.Test.YthpbmecinoninaaCFnExactSpaceOfClausesP6
namespace Go.Proofs.Ythpbmecinoninaa.Q
open Go.RowKit Go.Proofs.YthpbmecinoninaaW.PrintWords Go.Proofs.YthpbmecinoninaaW.PrintLast Go.Proofs.YthpbmecinoninaaW.PrintMore Go.Proofs.Ythpbmecinoninaa.P
set_option linter.unusedVariables false
set_option linter.unusedSimpArgs false

theorem innN_ne {p : Nat → Bool} {x i : Nat} (hi : i < 7) (hb : x.testBit i = true) (hp : p (andn x (2 ^ i)) = true) : innN p x ≠ 0 := by
  intro h
  have : (innN p x).testBit i = true := by
    unfold innN
    rw [sumN_testBit]
    simp [hi, hb, hp]
  rw [h, Nat.zero_testBit] at this
  exact absurd this (by decide)
theorem andn_lt_self {x i : Nat} (hb : x.testBit i = true) : andn x (2 ^ i) < x := by
  rcases Nat.lt_or_ge (andn x (2 ^ i)) x with h | h
  · exact h
  · exfalso
    have e : andn x (2 ^ i) = x := Nat.le_antisymm (andn_le _ _) h
    have : (andn x (2 ^ i)).testBit i = true := by rw [e]; exact hb
    rw [testBit_andn, Nat.testBit_two_pow] at this
    simp at this
end Go.Proofs.Ythpbmecinoninaa.Q
