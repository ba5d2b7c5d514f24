/- Valid spaces, as plain data, and the functions that ask for them; conditions: as each theorem states. -/
import Derived.Test.YtekllaaohagefaaCFnExactRankWordQGood
import Derived.Test.YtekllaaohagefaaCFnExactRankWordP4
namespace Go.Proofs.Ytekllaaohagefaa.Q
open Go.RowKit Go.Proofs.YtekllaaohagefaaW.PrintWords Go.Proofs.YtekllaaohagefaaW.PrintLast Go.Proofs.YtekllaaohagefaaW.PrintMore Go.Proofs.Ytekllaaohagefaa.P
set_option linter.unusedVariables false
set_option linter.unusedSimpArgs false

/-- A valid space of m items: its sets, increasing. -/
structure SpN (m : Nat) (T : List Nat) : Prop where
  m1 : 1 ≤ m
  m7 : m ≤ 7
  len : T.length ≤ 2 ^ m
  inc : Inc T
  lt : ∀ x ∈ T, x < 2 ^ m
  zero : 0 ∈ T
  full : 2 ^ m - 1 ∈ T
  acc : ∀ x ∈ T, x ≠ 0 → innN (fun y => decide (y ∈ T)) x ≠ 0
  union : ∀ x ∈ T, ∀ y ∈ T, x ||| y ∈ T
theorem SpN.lt128 {m : Nat} {T : List Nat} (h : SpN m T) : ∀ x ∈ T, x < 128 := fun x hx => Nat.lt_of_lt_of_le (h.lt x hx) (pow_le_128 h.m7)
theorem SpN.small {m : Nat} {T : List Nat} (h : SpN m T) : T.length ≤ 1099511627776 := by
  have := h.len; have := pow_le_128 h.m7; omega
theorem SpN.short {m : Nat} {T : List Nat} (h : SpN m T) : T.length ≤ 128 := Nat.le_trans h.len (pow_le_128 h.m7)
theorem SpN.m61 {m : Nat} {T : List Nat} (h : SpN m T) : m ≤ 61 := by have := h.m7; omega
theorem good_space {n : Int} {S : List Int} (h : goodB n S = true) : ∃ m T, n = ((m : Nat) : Int) ∧ S = castL T ∧ SpN m T := by
  unfold goodB at h
  simp only [Bool.and_eq_true, decide_eq_true_eq] at h
  obtain ⟨⟨⟨hn, hlen⟩, hr⟩, hg⟩ := h
  have hmem := riseB_mem hr
  have hpos : 0 < 2 ^ n.toNat := Nat.two_pow_pos _
  refine ⟨n.toNat, S.map Int.toNat, by omega, (castL_of (fun x hx => (hmem x hx).1)).symm, ?_⟩
  unfold goodT at hg
  simp only [Bool.and_eq_true, decide_eq_true_eq, List.all_eq_true, Bool.or_eq_true, beq_iff_eq, bne_iff_ne, ne_eq] at hg
  obtain ⟨⟨h0, h1⟩, hx⟩ := hg
  refine ⟨by omega, by omega, by simpa using hlen, riseB_inc (by omega) hr, ?_, h0, h1, ?_, ?_⟩
  · intro x hx
    obtain ⟨z, hz, rfl⟩ := List.mem_map.1 hx
    have := hmem z hz; omega
  · intro x hx' hne
    rcases (hx x hx').1 with h | h
    · exact absurd h hne
    · exact h
  · intro x hx' y hy
    exact (hx x hx').2 y hy
theorem SpN.good {m : Nat} {T : List Nat} (h : SpN m T) : goodB (m : Int) (castL T) = true := by
  have hT : (castL T).map Int.toNat = T := by simp [castL, List.map_map, Function.comp_def]
  have hrise : ∀ (l : List Nat) (lo : Nat), Inc l → (∀ x ∈ l, lo ≤ x ∧ x ≤ 2 ^ m - 1) → riseB ((2 ^ m - 1 : Nat) : Int) (lo : Int) (castL l) = true := by
    intro l
    induction l with
    | nil => intro lo _ _; rfl
    | cons x l ih =>
      intro lo hi hb
      have hx := hb x (by simp)
      have := ih (x + 1) (List.Pairwise.of_cons hi) (fun y hy => ⟨(List.rel_of_pairwise_cons hi hy : x < y), (hb y (by simp [hy])).2⟩)
      simp only [castL_cons, riseB, Bool.and_eq_true, decide_eq_true_eq]
      exact ⟨by omega, by simpa using this⟩
  have hm1 := h.m1
  have hm7 := h.m7
  have hr := hrise T 0 h.inc (fun x hx => ⟨Nat.zero_le _, by have := h.lt x hx; omega⟩)
  have hn : (1 : Int) ≤ (m : Int) ∧ (m : Int) ≤ 7 := by omega
  unfold goodB goodT
  rw [hT, Int.toNat_natCast]
  simp only [hn, and_self, decide_true, Bool.true_and, castL_length, h.len, Bool.and_eq_true, decide_eq_true_eq, h.zero, h.full, List.all_eq_true, Bool.or_eq_true, beq_iff_eq, bne_iff_ne, ne_eq, true_and]
  refine ⟨by simpa using hr, fun x hx => ⟨?_, fun y hy => h.union x hx y hy⟩⟩
  by_cases h0 : x = 0
  · exact .inl h0
  · exact .inr (h.acc x hx h0)
theorem SpN.impl {m : Nat} {T : List Nat} (h : SpN m T) : Ev (fun k => impl_IsSpace.f k (m : Int) (castL T)) true :=
  (impl_IsSpace_ev _ _ (by simpa using h.small)).eq h.good
theorem SpN.spec {m : Nat} {T : List Nat} (h : SpN m T) : Ev (fun k => spec_spGood.f k (m : Int) (castL T)) true :=
  (spec_spGood_ev _ _ (by simpa using h.small)).eq h.good
end Go.Proofs.Ytekllaaohagefaa.Q
