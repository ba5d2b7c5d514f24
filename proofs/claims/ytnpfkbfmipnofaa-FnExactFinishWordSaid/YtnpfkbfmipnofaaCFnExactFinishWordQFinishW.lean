/- The first full word that begins with a word: both; conditions: as each theorem states. -/
import Derived.Test.YtnpfkbfmipnofaaCFnExactFinishWordQToward
import Derived.Test.YtnpfkbfmipnofaaCFnExactFinishWordQClone
import Derived.Test.YtnpfkbfmipnofaaCFnExactFinishWordP4
namespace Go.Proofs.Ytnpfkbfmipnofaa.Q
open Go.RowKit Go.Proofs.YtnpfkbfmipnofaaW.PrintWords Go.Proofs.YtnpfkbfmipnofaaW.PrintLast Go.Proofs.YtnpfkbfmipnofaaW.PrintMore Go.Proofs.Ytnpfkbfmipnofaa.P
set_option linter.unusedVariables false
set_option linter.unusedSimpArgs false

theorem FinishWord_both (n : Int) (S : List Int) (hS : S.length ≤ 1048576) (w : List Int) (hw : w.length ≤ 1048576) : ∃ (L : List Int) (b : Bool), L.length ≤ 1048576 ∧ Ev (fun k => spec_FinishWord.f k n S w) (L, b) ∧ Ev (fun k => impl_FinishWord.f k n S w) (L, b) := by
  have hS2 : S.length ≤ 1099511627776 := by omega
  cases hg : goodB n S with
  | false =>
    refine ⟨[], false, by simp, ?_, ?_⟩
    · unfold spec_FinishWord.f
      refine Ev.bind ((spec_spGood_ev n S hS2).eq hg) ?_
      simp only [↓reduceIte, Bool.false_eq_true]; exact Ev.some _
    · unfold impl_FinishWord.f
      refine Ev.bind (isWord_no hS2 hg w) ?_
      simp only [↓reduceIte, Bool.false_eq_true]; exact Ev.some _
  | true =>
    obtain ⟨m, T, rfl, rfl, h⟩ := good_space hg
    have hp2 := pow_le_128 h.m7
    have hpos : 0 < 2 ^ m := Nat.two_pow_pos _
    have hws := woSet_ev h w (by omega)
    have hsw := setOf_ev h w (by omega)
    have hiw := isWord_ev h w (by omega)
    cases hok : (wordR m T w 0).2 with
    | false =>
      have e := wordR_no hok
      rw [e] at hws
      rw [hok] at hiw
      refine ⟨[], false, by simp, ?_, ?_⟩
      · unfold spec_FinishWord.f
        refine Ev.bind h.spec ?_
        simp only [↓reduceIte]
        refine Ev.bind hws ?_
        simp only [↓reduceIte, Bool.false_eq_true]; exact Ev.some _
      · unfold impl_FinishWord.f
        refine Ev.bind hiw ?_
        simp only [↓reduceIte, Bool.false_eq_true]; exact Ev.some _
    | true =>
      obtain ⟨z, hz, e⟩ := wordR_mem h.zero hok
      have hlen := wordR_len h.lt h.zero hok
      rw [e] at hws hsw
      rw [hok] at hiw
      have hzl := h.lt z hz
      obtain ⟨L, hL, i1, i2⟩ := toward_both h hz h.full (fun j hj => by
        rw [Nat.testBit_two_pow_sub_one]
        exact decide_eq_true (bit_lt hzl hj)) w hw
      have hL2 : L.length ≤ 1048576 := by
        obtain ⟨L', hL', j1, _⟩ := finish_ev h h.full (2 ^ m - z) z w (Nat.le_refl _) hz (fun j hj => by
          rw [Nat.testBit_two_pow_sub_one]
          exact decide_eq_true (bit_lt hzl hj)) (by omega)
        have i1' : Ev (fun k => spec_woFinish.l0 k (z : Int) ((2 ^ m - 1 : Nat) : Int) w (m : Int) (castL T)) L := by
          unfold spec_woFinish.f at i1
          rw [own_eq w (by omega)] at i1
          exact i1
        rw [Ev.unique i1' j1]
        omega
      refine ⟨L, true, hL2, ?_, ?_⟩
      · unfold spec_FinishWord.f
        refine Ev.bind h.spec ?_
        simp only [↓reduceIte]
        refine Ev.bind hws ?_
        simp only [↓reduceIte, show (0 : Int) ≤ (m : Int) from by omega, pow1 h.m61]
        exact Ev.bind i1 (Ev.some _)
      · unfold impl_FinishWord.f
        refine Ev.bind hiw ?_
        simp only [↓reduceIte]
        refine Ev.bind hsw ?_
        simp only [clone_eq w (by omega), Option.bind_some, all_eq h.m61]
        exact Ev.bind i2 (Ev.some _)
end Go.Proofs.Ytnpfkbfmipnofaa.Q
