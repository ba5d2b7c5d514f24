/- Numbers in a row; conditions: as each theorem states. -/
import Derived.Test.YtnpfkbfmipnofaaCFnExactChordalSpaceQSet
import Derived.Test.YtnpfkbfmipnofaaCFnExactChordalSpaceP5
namespace Go.Proofs.Ytnpfkbfmipnofaa.Q
open Go.RowKit Go.Proofs.YtnpfkbfmipnofaaW.PrintWords Go.Proofs.YtnpfkbfmipnofaaW.PrintLast Go.Proofs.YtnpfkbfmipnofaaW.PrintMore Go.Proofs.Ytnpfkbfmipnofaa.P
set_option linter.unusedVariables false
set_option linter.unusedSimpArgs false

/-- The numbers below c for which something holds. -/
def upN (p : Nat → Bool) (c : Nat) : List Nat := (List.range c).filter p
theorem upN_succ (p : Nat → Bool) (c : Nat) : upN p (c + 1) = if p c = true then upN p c ++ [c] else upN p c := by
  unfold upN
  rw [List.range_succ, List.filter_append]
  by_cases h : p c = true
  · simp [h]
  · simp [h]
theorem upN_le (p : Nat → Bool) (c : Nat) : (upN p c).length ≤ c := by
  have := List.length_filter_le p (List.range c)
  unfold upN
  simpa using this
theorem castL_snoc (l : List Nat) (c : Nat) : castL l ++ [(c : Int)] = castL (l ++ [c]) := by simp [castL]
theorem first_item' : ∀ q : Fin 128, ∀ i : Fin 7, (itemsN q.val).head? = some i.val → q.val.testBit i.val = true ∧ ∀ j : Fin 7, j.val < i.val → q.val.testBit j.val = false := by decide +kernel
theorem items_none : ∀ q : Fin 128, itemsN q.val = [] → q.val = 0 := by decide +kernel
end Go.Proofs.Ytnpfkbfmipnofaa.Q
