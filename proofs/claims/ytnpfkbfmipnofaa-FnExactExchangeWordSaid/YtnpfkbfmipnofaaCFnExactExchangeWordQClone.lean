/- A copy of a list: the program; and what words are; conditions: as each theorem states. -/
import Derived.Test.YtnpfkbfmipnofaaCFnExactExchangeWordQWord
import Derived.Test.YtnpfkbfmipnofaaCFnExactExchangeWordP4
namespace Go.Proofs.Ytnpfkbfmipnofaa.Q
open Go.RowKit Go.Proofs.YtnpfkbfmipnofaaW.PrintWords Go.Proofs.YtnpfkbfmipnofaaW.PrintLast Go.Proofs.YtnpfkbfmipnofaaW.PrintMore Go.Proofs.Ytnpfkbfmipnofaa.P
set_option linter.unusedVariables false
set_option linter.unusedSimpArgs false

theorem clone_eq (l : List Int) (h : l.length ≤ 1099511627776) : slices_Clone_int_int.f l = some l := by
  unfold slices_Clone_int_int.f
  simp
  try omega
theorem wordR_mem {m : Nat} {T : List Nat} : ∀ {w : List Int} {s : Nat}, s ∈ T → (wordR m T w s).2 = true → ∃ z, z ∈ T ∧ wordR m T w s = ((z : Int), true)
  | [], s, hs, _ => ⟨s, hs, rfl⟩
  | a :: r, s, hs, h => by
    unfold wordR at h ⊢
    by_cases h1 : 0 ≤ a ∧ a ≤ (m : Int) - 1
    · rw [if_pos h1] at h ⊢
      by_cases h2 : s.testBit a.toNat = true
      · rw [if_pos h2] at h; cases h
      · rw [if_neg h2] at h ⊢
        by_cases h3 : s ||| 2 ^ a.toNat ∈ T
        · rw [if_pos h3] at h ⊢; exact wordR_mem h3 h
        · rw [if_neg h3] at h; cases h
    · rw [if_neg h1] at h; cases h
theorem wordR_len {m : Nat} {T : List Nat} (hT : ∀ x ∈ T, x < 2 ^ m) : ∀ {w : List Int} {s : Nat}, s ∈ T → (wordR m T w s).2 = true → w.length + s < 2 ^ m
  | [], s, hs, _ => by have := hT s hs; simpa using this
  | a :: r, s, hs, h => by
    unfold wordR at h
    by_cases h1 : 0 ≤ a ∧ a ≤ (m : Int) - 1
    · rw [if_pos h1] at h
      by_cases h2 : s.testBit a.toNat = true
      · rw [if_pos h2] at h; cases h
      · rw [if_neg h2] at h
        by_cases h3 : s ||| 2 ^ a.toNat ∈ T
        · rw [if_pos h3] at h
          have h4 := wordR_len hT h3 h
          have h5 : s ≤ s ||| 2 ^ a.toNat := Nat.left_le_or
          have h6 : s ≠ s ||| 2 ^ a.toNat := by
            intro e
            have := congrArg (fun x => Nat.testBit x a.toNat) e
            simp only [Nat.testBit_or, Nat.testBit_two_pow, decide_true, Bool.or_true] at this
            exact h2 this
          rw [List.length_cons]; omega
        · rw [if_neg h3] at h; cases h
    · rw [if_neg h1] at h; cases h
end Go.Proofs.Ytnpfkbfmipnofaa.Q
