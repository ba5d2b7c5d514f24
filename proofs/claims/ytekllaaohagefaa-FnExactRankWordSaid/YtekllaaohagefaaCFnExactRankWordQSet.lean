/- What the program's and the reference's small functions on sets come to; conditions: as each theorem states. -/
import Derived.Test.YtekllaaohagefaaCFnExactRankWordQ0
import Derived.Test.YtekllaaohagefaaCFnExactRankWordP4
namespace Go.Proofs.Ytekllaaohagefaa.Q
open Go.RowKit Go.Proofs.YtekllaaohagefaaW.PrintWords Go.Proofs.YtekllaaohagefaaW.PrintLast Go.Proofs.YtekllaaohagefaaW.PrintMore Go.Proofs.Ytekllaaohagefaa.P
set_option linter.unusedVariables false
set_option linter.unusedSimpArgs false

theorem within_eq (a b c : Int) : impl_within.f a b c = some (decide (b ≤ a ∧ a ≤ c)) := by
  unfold impl_within.f
  by_cases h : b ≤ a <;> simp [h]
theorem isSize_eq (n : Int) : impl_isSize.f n = some (decide (1 ≤ n ∧ n ≤ 7)) := by
  unfold impl_isSize.f; rw [within_eq]; rfl
theorem l1In_eq (a b c : Int) : spec_l1In.f a b c = some (decide (b ≤ a ∧ a ≤ c)) := by
  unfold spec_l1In.f
  by_cases h : b ≤ a
  · rw [if_pos (by omega)]; simp [h]
  · rw [if_neg (by omega)]; simp [h]
theorem spItems_eq (n : Int) : spec_spItems.f n = some (decide (1 ≤ n ∧ n ≤ 7)) := by
  unfold spec_spItems.f; rw [l1In_eq]; rfl
theorem pow1 {m : Nat} (hm : m ≤ 61) : wrap64 (shl .i64 1 (m : Int) - 1) = ((2 ^ m - 1 : Nat) : Int) := by
  rw [shl1 hm]
  have h1 : 2 ^ m < 2 ^ 62 := Nat.pow_lt_pow_right (by decide) (by omega)
  have h2 : 0 < 2 ^ m := Nat.two_pow_pos m
  have e : (2 : Nat) ^ 62 = 4611686018427387904 := by decide
  rw [e] at h1
  rw [w64 (by omega) (by omega)]; omega
theorem isSet_eq {m : Nat} (hm : m ≤ 61) (x : Int) : impl_isSet.f (m : Int) x = some (decide (0 ≤ x ∧ x ≤ ((2 ^ m - 1 : Nat) : Int))) := by
  unfold impl_isSet.f
  rw [if_pos (by omega), within_eq, pow1 hm]; rfl
theorem all_eq {m : Nat} (hm : m ≤ 61) (S : List Int) : impl_Space_all.f (m : Int) S = some ((2 ^ m - 1 : Nat) : Int) := by
  unfold impl_Space_all.f
  rw [if_pos (by omega), pow1 hm]
theorem spIn_eq (a i : Nat) (hi : i ≤ 64) : spec_spIn.f (a : Int) (i : Int) = some (a.testBit i) := by
  unfold spec_spIn.f
  rw [if_pos (by omega), bitMod hi]

/-- The items of a set. -/
def itemsN (x : Nat) : List Nat := (List.range 7).filter x.testBit
theorem mem_itemsN {x i : Nat} : i ∈ itemsN x ↔ i < 7 ∧ x.testBit i = true := by simp [itemsN]
theorem items_all : ∀ x : Fin 128, impl_items.f 8 (x.val : Int) = some (castL (itemsN x.val)) := by decide +kernel
theorem items_ev {x : Nat} (hx : x < 128) : Ev (fun k => impl_items.f k (x : Int)) (castL (itemsN x)) :=
  Ev.at (impl_items.mono _) 8 (items_all ⟨x, hx⟩)
end Go.Proofs.Ytekllaaohagefaa.Q
