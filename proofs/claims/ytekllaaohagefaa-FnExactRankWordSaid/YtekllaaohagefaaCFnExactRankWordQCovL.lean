/- The sets that have one item more; conditions: as each theorem states. -/
import Derived.Test.YtekllaaohagefaaCFnExactRankWordQOutI
import Derived.Test.YtekllaaohagefaaCFnExactRankWordQCntS
import Derived.Test.YtekllaaohagefaaCFnExactRankWordP4
namespace Go.Proofs.Ytekllaaohagefaa.Q
open Go.RowKit Go.Proofs.YtekllaaohagefaaW.PrintWords Go.Proofs.YtekllaaohagefaaW.PrintLast Go.Proofs.YtekllaaohagefaaW.PrintMore Go.Proofs.Ytekllaaohagefaa.P
set_option linter.unusedVariables false
set_option linter.unusedSimpArgs false

theorem cover_all : ((List.range 128).all fun x => (List.range 128).all fun y => !(decide (andn x y = 0) && decide (cntN y = cntN x + 1)) || (List.range 7).any fun i => !x.testBit i && decide (y = x ||| 2 ^ i)) = true := by decide +kernel
theorem cover_bit {x y : Nat} (hx : x < 128) (hy : y < 128) (h1 : andn x y = 0) (h2 : cntN y = cntN x + 1) : ∃ i, i < 7 ∧ x.testBit i = false ∧ y = x ||| 2 ^ i := by
  have h := List.all_eq_true.1 (List.all_eq_true.1 cover_all x (List.mem_range.2 hx)) y (List.mem_range.2 hy)
  rw [decide_eq_true h1, decide_eq_true h2] at h
  simp only [Bool.and_self, Bool.not_true, Bool.false_or, List.any_eq_true, List.mem_range, Bool.and_eq_true, Bool.not_eq_true', decide_eq_true_eq] at h
  obtain ⟨i, h3, h4, h5⟩ := h
  exact ⟨i, h3, h4, h5⟩
theorem cnt_put2 : ∀ x : Fin 128, ∀ i : Fin 7, x.val.testBit i.val = false → cntN (x.val ||| 2 ^ i.val) = cntN x.val + 1 := by decide +kernel
theorem andn_self_or (x z : Nat) : andn x (x ||| z) = 0 := by
  apply Nat.eq_of_testBit_eq
  intro j
  rw [testBit_andn, Nat.testBit_or, Nat.zero_testBit]
  cases x.testBit j <;> simp
/-- The sets that have one item more. -/
def covL (T : List Nat) (x : Nat) : List Nat := T.filter fun y => decide (andn x y = 0) && decide (cntN y = cntN x + 1)
def covI (T : List Nat) (x : Nat) : List Nat := (itemsN (outN (fun y => decide (y ∈ T)) x 7)).map fun i => x ||| 2 ^ i
theorem or_bit_lt7 : ∀ x : Fin 128, ∀ i j : Fin 7, x.val.testBit i.val = false → x.val.testBit j.val = false → i.val < j.val → x.val ||| 2 ^ i.val < x.val ||| 2 ^ j.val := by decide +kernel
theorem cov_same {m : Nat} {T : List Nat} (h : SpN m T) {x : Nat} (hx : x < 128) : covI T x = covL T x := by
  have hm : ∀ i, i ∈ itemsN (outN (fun y => decide (y ∈ T)) x 7) ↔ i < 7 ∧ x.testBit i = false ∧ (x ||| 2 ^ i) ∈ T := by
    intro i
    rw [mem_itemsN, outN, sumN_testBit, outP]
    simp only [Bool.and_eq_true, decide_eq_true_eq, Bool.not_eq_true']
    constructor
    · rintro ⟨a, _, b, c⟩; exact ⟨a, b, c⟩
    · rintro ⟨a, b, c⟩; exact ⟨a, a, b, c⟩
  refine inc_ext ?_ (h.inc.filter _) (fun z => ?_)
  · have hI : (itemsN (outN (fun y => decide (y ∈ T)) x 7)).Pairwise (· < ·) := (List.pairwise_lt_range).filter _
    refine List.pairwise_map.2 (hI.imp_of_mem ?_)
    intro a b ha hb hab
    exact or_bit_lt7 ⟨x, hx⟩ ⟨a, ((hm a).1 ha).1⟩ ⟨b, ((hm b).1 hb).1⟩ ((hm a).1 ha).2.1 ((hm b).1 hb).2.1 hab
  · rw [covI, covL, List.mem_map, List.mem_filter]
    simp only [Bool.and_eq_true, decide_eq_true_eq]
    constructor
    · rintro ⟨i, hi, rfl⟩
      obtain ⟨a, b, c⟩ := (hm i).1 hi
      exact ⟨c, andn_self_or _ _, cnt_put2 ⟨x, hx⟩ ⟨i, a⟩ b⟩
    · rintro ⟨h1, h2, h3⟩
      obtain ⟨i, h4, h5, rfl⟩ := cover_bit hx (h.lt128 _ h1) h2 h3
      exact ⟨i, (hm i).2 ⟨h4, h5, h1⟩, rfl⟩
end Go.Proofs.Ytekllaaohagefaa.Q
