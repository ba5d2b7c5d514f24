/- Numbers in a row; conditions: as each theorem states. -/
import Derived.Test.YtekllaaohagefaaCFnExactEndsSpaceQSet
import Derived.Test.YtekllaaohagefaaCFnExactEndsSpaceP6
namespace Go.Proofs.Ytekllaaohagefaa.Q
open Go.RowKit Go.Proofs.YtekllaaohagefaaW.PrintWords Go.Proofs.YtekllaaohagefaaW.PrintLast Go.Proofs.YtekllaaohagefaaW.PrintMore Go.Proofs.Ytekllaaohagefaa.P
set_option linter.unusedVariables false
set_option linter.unusedSimpArgs false

/-- The numbers below c for which something holds. -/
def upN (p : Nat → Bool) (c : Nat) : List Nat := (List.range c).filter p
theorem upN_succ (p : Nat → Bool) (c : Nat) : upN p (c + 1) = if p c = true then upN p c ++ [c] else upN p c := by
  unfold upN
  rw [List.range_succ, List.filter_append]
  by_cases h : p c = true
  · simp [h]
  · simp [h]
theorem upN_le (p : Nat → Bool) (c : Nat) : (upN p c).length ≤ c := by
  have := List.length_filter_le p (List.range c)
  unfold upN
  simpa using this
theorem castL_snoc (l : List Nat) (c : Nat) : castL l ++ [(c : Int)] = castL (l ++ [c]) := by simp [castL]
end Go.Proofs.Ytekllaaohagefaa.Q
