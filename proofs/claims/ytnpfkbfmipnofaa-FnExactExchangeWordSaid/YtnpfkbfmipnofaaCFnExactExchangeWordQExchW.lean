/- A word and what another one has more: both; conditions: as each theorem states. -/
import Derived.Test.YtnpfkbfmipnofaaCFnExactExchangeWordQClone
import Derived.Test.YtnpfkbfmipnofaaCFnExactExchangeWordQOwn
import Derived.Test.YtnpfkbfmipnofaaCFnExactExchangeWordQContains
import Derived.Test.YtnpfkbfmipnofaaCFnExactExchangeWordQOrder
import Derived.Test.YtnpfkbfmipnofaaCFnExactExchangeWordP4
namespace Go.Proofs.Ytnpfkbfmipnofaa.Q
open Go.RowKit Go.Proofs.YtnpfkbfmipnofaaW.PrintWords Go.Proofs.YtnpfkbfmipnofaaW.PrintLast Go.Proofs.YtnpfkbfmipnofaaW.PrintMore Go.Proofs.Ytnpfkbfmipnofaa.P
set_option linter.unusedVariables false
set_option linter.unusedSimpArgs false

theorem exch_loop (a b : List Int) (ha : a.length ≤ 1048576) (hb : b.length ≤ 1048576) : ∀ (rest pre R : List Int), pre ++ rest = b → R.length ≤ a.length + pre.length →
    Ev (fun k => spec_ExchangeWord.l0 k a R b (b.length : Int) (pre.length : Int)) (R ++ rest.filter fun x => decide (x ∉ a), true) ∧
    Ev (fun k => impl_ExchangeWord.l0 k a R b (b.length : Int) (pre.length : Int)) (R ++ rest.filter fun x => decide (x ∉ a), true) := by
  intro rest
  induction rest with
  | nil =>
    intro pre R e hR
    obtain rfl : pre = b := by simpa using e
    constructor
    · refine Ev.step (fun k => by rw [spec_ExchangeWord.l0]) ?_
      simp only [show ¬ ((pre.length : Int) < (pre.length : Int)) from by omega, ↓reduceIte]
      exact (Ev.some _).eq (by simp)
    · refine Ev.step (fun k => by rw [impl_ExchangeWord.l0]) ?_
      simp only [show ¬ ((pre.length : Int) < (pre.length : Int)) from by omega, ↓reduceIte]
      exact (Ev.some _).eq (by simp)
  | cons x rest ih =>
    intro pre R e hR
    have hlen : b.length = pre.length + (rest.length + 1) := by rw [← e]; simp
    have er : rd b (pre.length : Int) = x := by rw [← e]; exact rd_mid _ _ _
    by_cases hx : x ∈ a
    · obtain ⟨i1, i2⟩ := ih (pre ++ [x]) R (by simp [e]) (by simp; omega)
      simp only [List.length_append, List.length_singleton] at i1 i2
      have ef : (x :: rest).filter (fun x => decide (x ∉ a)) = rest.filter fun x => decide (x ∉ a) := by
        rw [List.filter_cons_of_neg]; simp [hx]
      rw [ef]
      constructor
      · refine Ev.step (fun k => by rw [spec_ExchangeWord.l0]) ?_
        simp only [show ((pre.length : Int) < (b.length : Int)) from by omega, show (0 : Int) ≤ (pre.length : Int) from by omega, er, ↓reduceIte]
        refine Ev.bind ((l1Has_ev a (by omega) x).eq (decide_eq_true hx)) ?_
        simp only [↓reduceIte]
        rw [wnext (n := b.length) (by omega) (by omega)]
        exact i1
      · refine Ev.step (fun k => by rw [impl_ExchangeWord.l0]) ?_
        simp only [show ((pre.length : Int) < (b.length : Int)) from by omega, show (0 : Int) ≤ (pre.length : Int) from by omega, er, ↓reduceIte]
        refine Ev.bind ((contains_ev a (by omega) x).eq (decide_eq_true hx)) ?_
        simp only [↓reduceIte]
        rw [wnext (n := b.length) (by omega) (by omega)]
        exact i2
    · obtain ⟨i1, i2⟩ := ih (pre ++ [x]) (R ++ [x]) (by simp [e]) (by simp; omega)
      simp only [List.length_append, List.length_singleton] at i1 i2
      have ef : R ++ (x :: rest).filter (fun x => decide (x ∉ a)) = (R ++ [x]) ++ rest.filter fun x => decide (x ∉ a) := by
        rw [List.filter_cons_of_pos (by simp [hx])]; simp
      rw [ef]
      constructor
      · refine Ev.step (fun k => by rw [spec_ExchangeWord.l0]) ?_
        simp only [show ((pre.length : Int) < (b.length : Int)) from by omega, show (0 : Int) ≤ (pre.length : Int) from by omega, er, ↓reduceIte]
        refine Ev.bind ((l1Has_ev a (by omega) x).eq (decide_eq_false hx)) ?_
        simp only [↓reduceIte, Bool.false_eq_true, show R.length < 17592186044416 from by omega]
        rw [wnext (n := b.length) (by omega) (by omega)]
        exact i1
      · refine Ev.step (fun k => by rw [impl_ExchangeWord.l0]) ?_
        simp only [show ((pre.length : Int) < (b.length : Int)) from by omega, show (0 : Int) ≤ (pre.length : Int) from by omega, er, ↓reduceIte]
        refine Ev.bind ((contains_ev a (by omega) x).eq (decide_eq_false hx)) ?_
        simp only [↓reduceIte, Bool.false_eq_true, show R.length < 17592186044416 from by omega]
        rw [wnext (n := b.length) (by omega) (by omega)]
        exact i2
theorem ExchangeWord_both (n : Int) (S : List Int) (hS : S.length ≤ 1048576) (a : List Int) (ha : a.length ≤ 1048576) (b : List Int) (hb : b.length ≤ 1048576) : ∃ (L : List Int) (v : Bool), L.length ≤ 1048576 ∧ Ev (fun k => spec_ExchangeWord.f k n S a b) (L, v) ∧ Ev (fun k => impl_ExchangeWord.f k n S a b) (L, v) := by
  have hS2 : S.length ≤ 1099511627776 := by omega
  have hsj : Ev (fun k => spec_ExchangeWord.j0 k a b true) ([], false) := by
    refine Ev.step (fun k => by rw [spec_ExchangeWord.j0]) ?_
    simp only [↓reduceIte]; exact Ev.some _
  have hij : Ev (fun k => impl_ExchangeWord.j0 k a b true) ([], false) := by
    refine Ev.step (fun k => by rw [impl_ExchangeWord.j0]) ?_
    simp only [↓reduceIte]; exact Ev.some _
  cases hg : goodB n S with
  | false =>
    refine ⟨[], false, by simp, ?_, ?_⟩
    · unfold spec_ExchangeWord.f
      refine Ev.bind ((spec_spGood_ev n S hS2).eq hg) ?_
      simp only [↓reduceIte, Bool.false_eq_true]; exact Ev.some _
    · unfold impl_ExchangeWord.f
      refine Ev.bind (isWord_no hS2 hg a) ?_
      simp only [↓reduceIte, Bool.false_eq_true]; exact hij
  | true =>
    obtain ⟨m, T, rfl, rfl, h⟩ := good_space hg
    have hp2 := pow_le_128 h.m7
    have has := woSet_ev h a (by omega)
    have hai := isWord_ev h a (by omega)
    have hbs := woSet_ev h b (by omega)
    have hbi := isWord_ev h b (by omega)
    cases h1 : (wordR m T a 0).2 with
    | false =>
      rw [h1] at hai
      refine ⟨[], false, by simp, ?_, ?_⟩
      · unfold spec_ExchangeWord.f
        refine Ev.bind h.spec ?_
        simp only [↓reduceIte]
        refine Ev.bind has ?_
        refine Ev.bind hbs ?_
        simp only [h1, ↓reduceIte, Bool.false_eq_true]; exact hsj
      · unfold impl_ExchangeWord.f
        refine Ev.bind hai ?_
        simp only [↓reduceIte, Bool.false_eq_true]; exact hij
    | true =>
      rw [h1] at hai
      cases h2 : (wordR m T b 0).2 with
      | false =>
        rw [h2] at hbi
        refine ⟨[], false, by simp, ?_, ?_⟩
        · unfold spec_ExchangeWord.f
          refine Ev.bind h.spec ?_
          simp only [↓reduceIte]
          refine Ev.bind has ?_
          refine Ev.bind hbs ?_
          simp only [h1, h2, ↓reduceIte, Bool.not_false]; exact hsj
        · unfold impl_ExchangeWord.f
          refine Ev.bind hai ?_
          simp only [↓reduceIte]
          refine Ev.bind hbi ?_
          exact hij
      | true =>
        rw [h2] at hbi
        have l1 := wordR_len h.lt h.zero h1
        have l2 := wordR_len h.lt h.zero h2
        obtain ⟨i1, i2⟩ := exch_loop a b ha hb b [] a rfl (by simp)
        have hfl : (b.filter fun x => decide (x ∉ a)).length ≤ b.length := List.length_filter_le _ _
        refine ⟨a ++ b.filter fun x => decide (x ∉ a), true, by rw [List.length_append]; omega, ?_, ?_⟩
        · unfold spec_ExchangeWord.f
          refine Ev.bind h.spec ?_
          simp only [↓reduceIte]
          refine Ev.bind has ?_
          refine Ev.bind hbs ?_
          simp only [h1, h2, ↓reduceIte, Bool.not_true]
          refine Ev.step (fun k => by rw [spec_ExchangeWord.j0]) ?_
          simp only [↓reduceIte, Bool.false_eq_true, own_eq a (by omega), Option.bind_some]
          exact i1
        · unfold impl_ExchangeWord.f
          refine Ev.bind hai ?_
          simp only [↓reduceIte]
          refine Ev.bind hbi ?_
          simp only [Bool.not_true]
          refine Ev.step (fun k => by rw [impl_ExchangeWord.j0]) ?_
          simp only [↓reduceIte, Bool.false_eq_true, clone_eq a (by omega), Option.bind_some]
          exact i2
end Go.Proofs.Ytnpfkbfmipnofaa.Q
