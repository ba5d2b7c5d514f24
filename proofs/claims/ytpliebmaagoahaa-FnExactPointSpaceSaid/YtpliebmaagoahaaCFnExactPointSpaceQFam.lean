/- The program's family of sets, its inner fringe; conditions: as each theorem states. -/
import Derived.Test.YtpliebmaagoahaaCFnExactPointSpaceQSet
import Derived.Test.YtpliebmaagoahaaCFnExactPointSpaceP6
namespace Go.Proofs.Ytpliebmaagoahaa.Q
open Go.RowKit Go.Proofs.YtpliebmaagoahaaW.PrintWords Go.Proofs.YtpliebmaagoahaaW.PrintLast Go.Proofs.YtpliebmaagoahaaW.PrintMore Go.Proofs.Ytpliebmaagoahaa.P
set_option linter.unusedVariables false
set_option linter.unusedSimpArgs false

/-- Sums of the items for which something holds. -/
def sumN (p : Nat → Bool) (n : Nat) : Nat := (List.range n).foldl (fun s i => if p i then s ||| 2 ^ i else s) 0
theorem sumN_succ (p : Nat → Bool) (n : Nat) : sumN p (n + 1) = if p n then sumN p n ||| 2 ^ n else sumN p n := by
  unfold sumN; rw [List.range_succ, List.foldl_append]; rfl
theorem sumN_testBit (p : Nat → Bool) (n i : Nat) : (sumN p n).testBit i = (decide (i < n) && p i) := by
  induction n with
  | zero => simp [sumN]
  | succ n ih =>
    rw [sumN_succ]
    by_cases hi : i = n
    · subst hi
      by_cases hp : p i = true
      · rw [if_pos hp, Nat.testBit_or, Nat.testBit_two_pow]; simp [hp]
      · rw [if_neg hp, ih]; simp [hp]
    · have e : decide (i < n + 1) = decide (i < n) := by
        by_cases h : i < n
        · simp [h]; omega
        · have : ¬ i < n + 1 := by omega
          simp [h, this]
      rw [e, ← ih]
      by_cases hp : p n = true
      · rw [if_pos hp, Nat.testBit_or, Nat.testBit_two_pow]
        have : ¬ n = i := fun e => hi e.symm
        simp [this]
      · rw [if_neg hp]
theorem sumN_lt (p : Nat → Bool) (n : Nat) : sumN p n < 2 ^ n := by
  apply Nat.lt_pow_two_of_testBit
  intro i hi
  rw [sumN_testBit]; simp; omega
end Go.Proofs.Ytpliebmaagoahaa.Q
