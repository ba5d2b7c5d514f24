/- The first elimination: both; conditions: as each theorem states. -/
import Derived.Test.YtnpfkbfmipnofaaCFnExactChordalSpaceQUp
import Derived.Test.YtnpfkbfmipnofaaCFnExactChordalSpaceQSimpl
import Derived.Test.YtnpfkbfmipnofaaCFnExactChordalSpaceQNetAll
import Derived.Test.YtnpfkbfmipnofaaCFnExactChordalSpaceQGood
import Derived.Test.YtnpfkbfmipnofaaCFnExactChordalSpaceP5
namespace Go.Proofs.Ytnpfkbfmipnofaa.Q
open Go.RowKit Go.Proofs.YtnpfkbfmipnofaaW.PrintWords Go.Proofs.YtnpfkbfmipnofaaW.PrintLast Go.Proofs.YtnpfkbfmipnofaaW.PrintMore Go.Proofs.Ytnpfkbfmipnofaa.P
set_option linter.unusedVariables false
set_option linter.unusedSimpArgs false

theorem simpOf_bit (T : List Nat) (c n i : Nat) : (simpOf T c n).testBit i = (decide (i < n) && (c.testBit i && simpN T i c)) := by
  unfold simpOf; rw [sumN_testBit]
theorem simpOf_lt {T : List Nat} {c n : Nat} : simpOf T c n < 2 ^ n := sumN_lt _ _
theorem andn_bit_lt {c i : Nat} (hb : c.testBit i = true) : andn c (2 ^ i) < c := by
  have h1 := andn_le c (2 ^ i)
  have h2 : andn c (2 ^ i) ≠ c := by
    intro e
    have := congrArg (fun x => Nat.testBit x i) e
    simp only [testBit_andn, hb, Nat.testBit_two_pow, decide_true, Bool.not_true, Bool.and_false] at this
    cases this
  omega
theorem elim_loop {T : List Nat} (h : NetN T) : ∀ (n c : Nat) (W : List Int), c ≤ n → c < 2 ^ T.length → W.length + c ≤ 1048576 →
    ∃ (L : List Int) (b : Bool), L.length ≤ 1048576 ∧ Ev (fun k => spec_shEliminate.l0 k W (c : Int) (castL T)) (L, b) ∧ Ev (fun k => impl_Net_elimination.l0 k W (c : Int) (castL T)) (L, b) := by
  have hl7 := h.l7
  have hp2 := pow_le_128 hl7
  intro n
  induction n with
  | zero =>
    intro c W hc _ hW
    obtain rfl : c = 0 := by omega
    refine ⟨W, true, by omega, ?_, ?_⟩
    · refine Ev.step (fun k => by rw [spec_shEliminate.l0]) ?_
      simp only [show ¬ (((0 : Nat) : Int) > 0) from by omega, ↓reduceIte]; exact Ev.some _
    · refine Ev.step (fun k => by rw [impl_Net_elimination.l0]) ?_
      simp only [Int.natCast_zero, ↓reduceIte]; exact Ev.some _
  | succ n ih =>
    intro c W hc hcl hW
    have hc2 : c < 128 := by omega
    by_cases hc0 : c = 0
    · exact ih c W (by omega) hcl hW
    · have hql : simpOf T c T.length < 2 ^ T.length := simpOf_lt
      have hq2 : simpOf T c T.length < 128 := by omega
      have step1 : ∀ v, Ev (fun k => spec_shEliminate.l1 k W (c : Int) 0 (castL T)) v → Ev (fun k => spec_shEliminate.l0 k W (c : Int) (castL T)) v := fun v hv => by
        refine Ev.step (fun k => by rw [spec_shEliminate.l0]) ?_
        simp only [show ((c : Int) > 0) from by omega, ↓reduceIte]; exact hv
      -- the reference's search, as far as nothing is found
      have seek : ∀ (v : List Int × Bool) (t : Nat), t ≤ T.length → (∀ j, j < t → ¬ (c.testBit j = true ∧ simpN T j c = true)) → Ev (fun k => spec_shEliminate.l1 k W (c : Int) (t : Int) (castL T)) v →
          ∀ d j : Nat, j + d = t → Ev (fun k => spec_shEliminate.l1 k W (c : Int) (j : Int) (castL T)) v := by
        intro v t ht hno hv d
        induction d with
        | zero =>
          intro j e
          obtain rfl : j = t := by omega
          exact hv
        | succ d ihd =>
          intro j e
          have hn := ihd (j + 1) (by omega)
          rw [← wnext (n := T.length) (by omega) (by omega)] at hn
          refine Ev.step (fun k => by rw [spec_shEliminate.l1]) ?_
          simp only [castL_length, show ((j : Int) < (T.length : Int)) from by omega, spIn_eq c j (by omega), Option.bind_some, ↓reduceIte]
          by_cases hb : c.testBit j = true
          · simp only [hb, ↓reduceIte]
            have hs : simpN T j c = false := by
              rw [Bool.eq_false_iff]; intro hs; exact hno j (by omega) ⟨hb, hs⟩
            refine Ev.bind ((shSimp_ev h (show j < T.length by omega) hc2).eq hs) ?_
            simp only [↓reduceIte, Bool.false_eq_true]
            exact hn
          · simp only [hb, ↓reduceIte]
            exact hn
      cases hI : itemsN (simpOf T c T.length) with
      | nil =>
        have h0 := items_none ⟨_, hq2⟩ hI
        have hno : ∀ j, j < T.length → ¬ (c.testBit j = true ∧ simpN T j c = true) := by
          rintro j hj ⟨h1, h2⟩
          have := simpOf_bit T c T.length j
          rw [show simpOf T c T.length = 0 from h0, Nat.zero_testBit, h1, h2] at this
          simp [hj] at this
        refine ⟨[], false, by simp, step1 _ (seek _ T.length (Nat.le_refl _) hno ?_ T.length 0 (by omega)), ?_⟩
        · refine Ev.step (fun k => by rw [spec_shEliminate.l1]) ?_
          simp only [castL_length, show ¬ ((T.length : Int) < (T.length : Int)) from by omega, ↓reduceIte]
          exact Ev.some _
        · refine Ev.step (fun k => by rw [impl_Net_elimination.l0]) ?_
          simp only [show ¬ ((c : Int) = 0) from by omega, ↓reduceIte]
          refine Ev.bind (simplicial_ev h hcl) ?_
          refine Ev.bind (items_ev hq2) ?_
          rw [hI]
          simp only [castL_nil, List.length_nil, Int.natCast_zero, ↓reduceIte]
          exact Ev.some _
      | cons i rest =>
        have him : i ∈ itemsN (simpOf T c T.length) := by rw [hI]; simp
        obtain ⟨hi7, hb⟩ := mem_itemsN.1 him
        obtain ⟨_, hleast⟩ := first_item' ⟨_, hq2⟩ ⟨i, hi7⟩ (by simp [hI])
        rw [simpOf_bit] at hb
        simp only [Bool.and_eq_true, decide_eq_true_eq] at hb
        obtain ⟨hi, hci, hsi⟩ := hb
        have h2i := pow_lt_128 hi7
        have hlt := andn_bit_lt hci
        obtain ⟨L, b, hL, e1, e2⟩ := ih (andn c (2 ^ i)) (W ++ [(i : Int)]) (by omega) (by omega) (by simp; omega)
        have hno : ∀ j, j < i → ¬ (c.testBit j = true ∧ simpN T j c = true) := by
          rintro j hj ⟨h1, h2⟩
          have h3 : (simpOf T c T.length).testBit j = false := hleast ⟨j, by omega⟩ hj
          rw [simpOf_bit, h1, h2] at h3
          simp [show j < T.length from by omega] at h3
        refine ⟨L, b, hL, step1 _ (seek _ i (by omega) hno ?_ i 0 (by omega)), ?_⟩
        · refine Ev.step (fun k => by rw [spec_shEliminate.l1]) ?_
          simp only [castL_length, show ((i : Int) < (T.length : Int)) from by omega, spIn_eq c i (by omega), hci, Option.bind_some, ↓reduceIte]
          refine Ev.bind ((shSimp_ev h hi hc2).eq hsi) ?_
          simp only [↓reduceIte, show ¬ ((i : Int) = (T.length : Int)) from by omega, show W.length < 17592186044416 from by omega, show (0 : Int) ≤ (i : Int) from by omega, shl1 (show i ≤ 61 from by omega), bAndn (show c < 2 ^ 62 from by omega) (show 2 ^ i < 2 ^ 62 from by omega)]
          exact e1
        · refine Ev.step (fun k => by rw [impl_Net_elimination.l0]) ?_
          simp only [show ¬ ((c : Int) = 0) from by omega, ↓reduceIte]
          refine Ev.bind (simplicial_ev h hcl) ?_
          refine Ev.bind (items_ev hq2) ?_
          have er : rd (castL (i :: rest)) 0 = (i : Int) := rd_castL_mid [] i rest
          rw [hI]
          simp only [er, castL_length, List.length_cons, show ¬ (((rest.length + 1 : Nat) : Int) = 0) from by omega, show ((0 : Int) < ((rest.length + 1 : Nat) : Int)) from by omega, show W.length < 17592186044416 from by omega, show (0 : Int) ≤ (i : Int) from by omega, shl1 (show i ≤ 61 from by omega), bAndn (show c < 2 ^ 62 from by omega) (show 2 ^ i < 2 ^ 62 from by omega), ↓reduceIte]
          exact e2
theorem elim_both {T : List Nat} (h : NetN T) : ∃ (L : List Int) (b : Bool), L.length ≤ 1048576 ∧ Ev (fun k => spec_shEliminate.f k (castL T)) (L, b) ∧ Ev (fun k => impl_Net_elimination.f k (castL T)) (L, b) := by
  have hl7 := h.l7
  have hp2 := pow_le_128 hl7
  have hpos : 0 < 2 ^ T.length := Nat.two_pow_pos _
  obtain ⟨L, b, hL, e1, e2⟩ := elim_loop h (2 ^ T.length - 1) (2 ^ T.length - 1) [] (Nat.le_refl _) (by omega) (by simp; omega)
  refine ⟨L, b, hL, ?_, ?_⟩
  · unfold spec_shEliminate.f
    rw [castL_length, pow1 (show T.length ≤ 61 from by omega)]
    exact e1
  · unfold impl_Net_elimination.f
    simp only [netAll_eq (show T.length ≤ 61 from by omega), Option.bind_some]
    exact e2
end Go.Proofs.Ytnpfkbfmipnofaa.Q
