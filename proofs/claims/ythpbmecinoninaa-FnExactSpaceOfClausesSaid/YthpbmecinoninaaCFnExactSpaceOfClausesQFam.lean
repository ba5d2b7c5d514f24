/- The program's family of sets, its inner fringe; conditions: as each theorem states. -/
import Derived.Test.YthpbmecinoninaaCFnExactSpaceOfClausesQSet
import Derived.Test.YthpbmecinoninaaCFnExactSpaceOfClausesP6
namespace Go.Proofs.Ythpbmecinoninaa.Q
open Go.RowKit Go.Proofs.YthpbmecinoninaaW.PrintWords Go.Proofs.YthpbmecinoninaaW.PrintLast Go.Proofs.YthpbmecinoninaaW.PrintMore Go.Proofs.Ythpbmecinoninaa.P
set_option linter.unusedVariables false
set_option linter.unusedSimpArgs false

/-- The family whose sets are told. -/
def famN (p : Nat → Bool) : List Bool := (List.range 128).map p
theorem famN_length (p : Nat → Bool) : (famN p).length = 128 := by simp [famN]
theorem famN_get (p : Nat → Bool) {x : Nat} (hx : x < 128) : rdOf false (famN p) (x : Int) = p x := by
  rw [rdOf_nat _ _ _ (by rw [famN_length]; exact hx)]; simp [famN]
theorem famN_set (p : Nat → Bool) (x : Nat) : (famN p).set x true = famN (fun y => p y || y == x) := by
  unfold famN
  apply List.ext_getElem
  · simp
  · intro i h1 h2
    rw [List.getElem_set]
    by_cases h : x = i
    · subst h; simp
    · have h' : ¬ i = x := fun e => h e.symm
      simp [h, h']
theorem famN_congr {p q : Nat → Bool} (h : ∀ x, x < 128 → p x = q x) : famN p = famN q := by
  unfold famN; apply List.map_congr_left; intro x hx; exact h x (List.mem_range.1 hx)

/-- Sums of the items for which something holds. -/
def sumN (p : Nat → Bool) (n : Nat) : Nat := (List.range n).foldl (fun s i => if p i then s ||| 2 ^ i else s) 0
theorem sumN_succ (p : Nat → Bool) (n : Nat) : sumN p (n + 1) = if p n then sumN p n ||| 2 ^ n else sumN p n := by
  unfold sumN; rw [List.range_succ, List.foldl_append]; rfl
theorem sumN_testBit (p : Nat → Bool) (n i : Nat) : (sumN p n).testBit i = (decide (i < n) && p i) := by
  induction n with
  | zero => simp [sumN]
  | succ n ih =>
    rw [sumN_succ]
    by_cases hi : i = n
    · subst hi
      by_cases hp : p i = true
      · rw [if_pos hp, Nat.testBit_or, Nat.testBit_two_pow]; simp [hp]
      · rw [if_neg hp, ih]; simp [hp]
    · have e : decide (i < n + 1) = decide (i < n) := by
        by_cases h : i < n
        · simp [h]; omega
        · have : ¬ i < n + 1 := by omega
          simp [h, this]
      rw [e, ← ih]
      by_cases hp : p n = true
      · rw [if_pos hp, Nat.testBit_or, Nat.testBit_two_pow]
        have : ¬ n = i := fun e => hi e.symm
        simp [this]
      · rw [if_neg hp]
/-- The same over a list of items. -/
def sumL (p : Nat → Bool) (l : List Nat) (s : Nat) : Nat := l.foldl (fun s i => if p i then s ||| 2 ^ i else s) s
theorem sumL_testBit (p : Nat → Bool) (l : List Nat) (s i : Nat) : (sumL p l s).testBit i = (s.testBit i || (decide (i ∈ l) && p i)) := by
  induction l generalizing s with
  | nil => simp [sumL]
  | cons a l ih =>
    have e : sumL p (a :: l) s = sumL p l (if p a then s ||| 2 ^ a else s) := rfl
    rw [e, ih]
    by_cases hp : p a = true
    · rw [if_pos hp, Nat.testBit_or, Nat.testBit_two_pow]
      by_cases ha : a = i
      · subst ha; simp [hp]
      · have : ¬ i = a := fun e => ha e.symm
        simp [ha, this]
    · rw [if_neg hp]
      by_cases ha : a = i
      · subst ha; simp [hp]
      · have : ¬ i = a := fun e => ha e.symm
        simp [this]
/-- The inner fringe. -/
def innN (p : Nat → Bool) (x : Nat) : Nat := sumN (fun i => x.testBit i && p (andn x (2 ^ i))) 7
end Go.Proofs.Ythpbmecinoninaa.Q
