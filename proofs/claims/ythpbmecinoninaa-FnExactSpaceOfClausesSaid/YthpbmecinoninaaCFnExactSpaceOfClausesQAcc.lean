/- The closing of an accessible list of sets is accessible; conditions: as each theorem states. -/
import Derived.Test.YthpbmecinoninaaCFnExactSpaceOfClausesQClosed
import Derived.Test.YthpbmecinoninaaCFnExactSpaceOfClausesQAccI
import Derived.Test.YthpbmecinoninaaCFnExactSpaceOfClausesQSp
import Derived.Test.YthpbmecinoninaaCFnExactSpaceOfClausesP6
namespace Go.Proofs.Ythpbmecinoninaa.Q
open Go.RowKit Go.Proofs.YthpbmecinoninaaW.PrintWords Go.Proofs.YthpbmecinoninaaW.PrintLast Go.Proofs.YthpbmecinoninaaW.PrintMore Go.Proofs.Ythpbmecinoninaa.P
set_option linter.unusedVariables false
set_option linter.unusedSimpArgs false

/-- One item can be left out. -/
def Acc (B : Nat → Prop) (U : Nat) : Prop := ∃ i, U.testBit i = true ∧ UC B (andn U (2 ^ i))
theorem peel {B : Nat → Prop} {a U : Nat} (ha : UC B a) (haU : a ≠ U) (hacc : ∀ V, V < U → UC B V → V ≠ 0 → Acc B V) : ∀ (n b : Nat), b ≤ n → b < U → UC B b → a ||| b = U → Acc B U := by
  intro n
  induction n with
  | zero =>
    intro b hb _ _ e
    obtain rfl : b = 0 := by omega
    exact absurd (by simpa using e) haU
  | succ n ih =>
    intro b hb hbU hB e
    by_cases h0 : b = 0
    · subst h0; exact absurd (by simpa using e) haU
    · obtain ⟨i, hi, hU⟩ := hacc b hbU hB h0
      have hlt := andn_lt_self hi
      by_cases hai : a.testBit i = true
      · refine ih (andn b (2 ^ i)) (by omega) (by omega) hU ?_
        rw [← e]
        apply Nat.eq_of_testBit_eq
        intro j
        simp only [Nat.testBit_or, testBit_andn, Nat.testBit_two_pow]
        by_cases hj : i = j
        · subst hj; simp [hai]
        · simp [hj]
      · refine ⟨i, by rw [← e, Nat.testBit_or, hi, Bool.or_true], ?_⟩
        have : andn U (2 ^ i) = a ||| andn b (2 ^ i) := by
          rw [← e]
          apply Nat.eq_of_testBit_eq
          intro j
          simp only [Nat.testBit_or, testBit_andn, Nat.testBit_two_pow]
          by_cases hj : i = j
          · subst hj
            have : a.testBit i = false := by simpa using hai
            simp [this]
          · simp [hj]
        rw [this]
        exact .or ha hU
theorem uc_acc {B : Nat → Prop} (hB : ∀ x, B x → x ≠ 0 → ∃ i, x.testBit i = true ∧ UC B (andn x (2 ^ i))) : ∀ (n U : Nat), U < n → UC B U → U ≠ 0 → Acc B U := by
  intro n
  induction n with
  | zero => intro U h; omega
  | succ n ih =>
    intro U hn hU
    have hacc : ∀ V, V < U → UC B V → V ≠ 0 → Acc B V := fun V hV => ih V (by omega)
    clear hn ih
    induction hU with
    | zero => intro h; exact absurd rfl h
    | @base x hx =>
      intro h0
      exact hB x hx h0
    | @or a b ha hb iha ihb =>
      intro h0
      by_cases e1 : a = a ||| b
      · rw [← e1]; exact iha (fun V hV => hacc V (by omega)) (by rw [e1]; exact h0)
      · by_cases e2 : b = a ||| b
        · rw [← e2]; exact ihb (fun V hV => hacc V (by omega)) (by rw [e2]; exact h0)
        · have h3 : b ≤ a ||| b := Nat.right_le_or
          exact peel ha e1 hacc b b (Nat.le_refl _) (by omega) hb rfl
theorem inc_len2 {N : Nat} : ∀ {l : List Nat} {lo : Nat}, Inc l → (∀ x ∈ l, lo ≤ x ∧ x < N) → l.length ≤ N - lo
  | [], _, _, _ => by simp
  | x :: r, lo, hi, h => by
    have hx := h x (by simp)
    have := inc_len2 (l := r) (lo := x + 1) (List.Pairwise.of_cons hi) (fun y hy => ⟨List.rel_of_pairwise_cons hi hy, (h y (by simp [hy])).2⟩)
    simp only [List.length_cons]; omega
/-- The closing of an accessible list whose sets make up all items is a space. -/
theorem uc_space {m : Nat} {L R : List Nat} (m1 : 1 ≤ m) (m7 : m ≤ 7) (hL : ∀ x ∈ L, x < 2 ^ m) (hacc : ∀ x ∈ L, x ≠ 0 → ∃ i, x.testBit i = true ∧ UC (· ∈ L) (andn x (2 ^ i)))
    (hf : UC (· ∈ L) (2 ^ m - 1)) (hI : Inc R) (hR : ∀ z, z ∈ R ↔ UC (· ∈ L) z) : SpN m R := by
  have hlt : ∀ x ∈ R, x < 2 ^ m := fun x hx => UC.lt hL ((hR x).1 hx)
  refine ⟨m1, m7, ?_, hI, hlt, (hR 0).2 .zero, (hR _).2 hf, ?_, ?_⟩
  · have := inc_len2 (lo := 0) hI (fun x hx => ⟨Nat.zero_le _, hlt x hx⟩); omega
  · intro x hx h0
    obtain ⟨i, hi, hU⟩ := uc_acc (B := (· ∈ L)) hacc (x + 1) x (by omega) ((hR x).1 hx) h0
    have hi7 : i < 7 := by
      rcases Nat.lt_or_ge i 7 with h | h
      · exact h
      · have h1 := hlt x hx
        rw [Nat.testBit_lt_two_pow (Nat.lt_of_lt_of_le h1 (Nat.pow_le_pow_right (by omega) (by omega)))] at hi
        exact absurd hi (by decide)
    exact innN_ne hi7 hi (decide_eq_true ((hR _).2 hU))
  · intro x hx y hy
    exact (hR _).2 (.or ((hR x).1 hx) ((hR y).1 hy))
end Go.Proofs.Ythpbmecinoninaa.Q
