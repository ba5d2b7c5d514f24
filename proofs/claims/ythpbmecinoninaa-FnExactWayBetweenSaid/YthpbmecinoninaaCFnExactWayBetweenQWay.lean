/- The members on the way between two members of a tree: the program's and the reference's; conditions: as each theorem states. -/
import Derived.Test.YthpbmecinoninaaCFnExactWayBetweenQTree
import Derived.Test.YthpbmecinoninaaCFnExactWayBetweenP3
namespace Go.Proofs.Ythpbmecinoninaa.Q
open Go.RowKit Go.Proofs.YthpbmecinoninaaW.PrintWords Go.Proofs.YthpbmecinoninaaW.PrintLast Go.Proofs.YthpbmecinoninaaW.PrintMore Go.Proofs.Ythpbmecinoninaa.P
set_option linter.unusedVariables false
set_option linter.unusedSimpArgs false

theorem way_loop {T : List Nat} (h : NetN T) {a b : Nat} (ha : a < T.length) (hb : b < T.length) : ∀ (d i s : Nat), i + d = T.length → s < 128 →
    ∃ F : Nat, Ev (fun k => impl_WayBetween.l0 k (a : Int) (b : Int) (s : Int) (T.length : Int) (i : Int) (castL T)) ((F : Int), true) ∧
      Ev (fun k => spec_WayBetween.l0 k (a : Int) (b : Int) ((2 ^ T.length - 1 : Nat) : Int) (s : Int) (T.length : Int) (i : Int) (castL T)) ((F : Int), true) := by
  intro d
  have hl7 := h.l7
  have h2 : 2 ^ T.length ≤ 2 ^ 7 := Nat.pow_le_pow_right (by omega) h.l7
  induction d with
  | zero =>
    intro i s e hs
    obtain rfl : i = T.length := by omega
    refine ⟨s, ?_, ?_⟩
    · refine Ev.step (fun k => by rw [impl_WayBetween.l0]) ?_
      simp only [show ¬ ((T.length : Int) < (T.length : Int)) from by omega, ↓reduceIte]
      exact Ev.some _
    · refine Ev.step (fun k => by rw [spec_WayBetween.l0]) ?_
      simp only [show ¬ ((T.length : Int) < (T.length : Int)) from by omega, ↓reduceIte]
      exact Ev.some _
  | succ d ih =>
    intro i s e hs
    have hi : i < T.length := by omega
    have hp2 : 2 ^ i < 128 := pow_lt_128 (by omega)
    have hw : wrap64 ((i : Int) + 1) = ((i + 1 : Nat) : Int) := wnext (n := 7) (by omega) (by omega)
    have hc : andn (2 ^ T.length - 1) (2 ^ i) < 128 := andn_lt (by omega)
    obtain ⟨R, hlt, _, hi1, hs1⟩ := reach_both h ha hc
    by_cases e1 : i = a
    · obtain ⟨F, f1, f2⟩ := ih (i + 1) s (by omega) hs
      refine ⟨F, ?_, ?_⟩
      · refine Ev.step (fun k => by rw [impl_WayBetween.l0]) ?_
        simp only [show ((i : Int) < (T.length : Int)) from by omega, show ((i : Int) = (a : Int)) from by omega, ↓reduceIte]
        rw [show wrap64 ((a : Int) + 1) = ((i + 1 : Nat) : Int) from by rw [← e1]; exact hw]
        simp only [show ((a : Int) < (T.length : Int)) from by omega, ↓reduceIte]
        exact f1
      · refine Ev.step (fun k => by rw [spec_WayBetween.l0]) ?_
        simp only [show ((i : Int) < (T.length : Int)) from by omega, show ((i : Int) = (a : Int)) from by omega, ↓reduceIte]
        rw [show wrap64 ((a : Int) + 1) = ((i + 1 : Nat) : Int) from by rw [← e1]; exact hw]
        simp only [show ((a : Int) < (T.length : Int)) from by omega, ↓reduceIte]
        exact f2
    · by_cases e2 : i = b
      · obtain ⟨F, f1, f2⟩ := ih (i + 1) s (by omega) hs
        have e3 : ¬ (b : Int) = (a : Int) := by omega
        refine ⟨F, ?_, ?_⟩
        · refine Ev.step (fun k => by rw [impl_WayBetween.l0]) ?_
          simp only [show (i : Int) = (b : Int) from by omega, show ((b : Int) < (T.length : Int)) from by omega, e3, ↓reduceIte]
          rw [show wrap64 ((b : Int) + 1) = ((i + 1 : Nat) : Int) from by rw [← e2]; exact hw]
          exact f1
        · refine Ev.step (fun k => by rw [spec_WayBetween.l0]) ?_
          simp only [show (i : Int) = (b : Int) from by omega, show ((b : Int) < (T.length : Int)) from by omega, e3, ↓reduceIte]
          rw [show wrap64 ((b : Int) + 1) = ((i + 1 : Nat) : Int) from by rw [← e2]; exact hw]
          exact f2
      · cases hb2 : R.testBit b with
        | true =>
          obtain ⟨F, f1, f2⟩ := ih (i + 1) s (by omega) hs
          refine ⟨F, ?_, ?_⟩
          · refine Ev.step (fun k => by rw [impl_WayBetween.l0]) ?_
            simp only [show ((i : Int) < (T.length : Int)) from by omega, show ¬ ((i : Int) = (a : Int)) from by omega, show ¬ ((i : Int) = (b : Int)) from by omega, show (0 : Int) ≤ (i : Int) from by omega, show (0 : Int) ≤ (b : Int) from by omega, allNet_eq (show T.length ≤ 61 from by omega), Option.bind_some, shl1 (show i ≤ 61 from by omega), bAndn (show 2 ^ T.length - 1 < 2 ^ 62 from by omega) (show 2 ^ i < 2 ^ 62 from by omega), ↓reduceIte]
            refine Ev.bind hi1 ?_
            simp only [bitAnd (show R < 2 ^ 62 from by omega) (show b ≤ 64 from by omega), hb2, ↓reduceIte, show ¬ ((1 : Int) = 0) from by omega, hw]
            exact f1
          · refine Ev.step (fun k => by rw [spec_WayBetween.l0]) ?_
            simp only [show ((i : Int) < (T.length : Int)) from by omega, show ¬ ((i : Int) = (a : Int)) from by omega, show ¬ ((i : Int) = (b : Int)) from by omega, show (0 : Int) ≤ (i : Int) from by omega, shl1 (show i ≤ 61 from by omega), bAndn (show 2 ^ T.length - 1 < 2 ^ 62 from by omega) (show 2 ^ i < 2 ^ 62 from by omega), ↓reduceIte]
            refine Ev.bind hs1 ?_
            simp only [spIn_eq R b (show b ≤ 64 from by omega), Option.bind_some, hb2, ↓reduceIte, hw]
            exact f2
        | false =>
          obtain ⟨F, f1, f2⟩ := ih (i + 1) (s ||| 2 ^ i) (by omega) (Nat.or_lt_two_pow (n := 7) hs hp2)
          refine ⟨F, ?_, ?_⟩
          · refine Ev.step (fun k => by rw [impl_WayBetween.l0]) ?_
            simp only [show ((i : Int) < (T.length : Int)) from by omega, show ¬ ((i : Int) = (a : Int)) from by omega, show ¬ ((i : Int) = (b : Int)) from by omega, show (0 : Int) ≤ (i : Int) from by omega, show (0 : Int) ≤ (b : Int) from by omega, allNet_eq (show T.length ≤ 61 from by omega), Option.bind_some, shl1 (show i ≤ 61 from by omega), bAndn (show 2 ^ T.length - 1 < 2 ^ 62 from by omega) (show 2 ^ i < 2 ^ 62 from by omega), bOr (show s < 2 ^ 62 from by omega) (show 2 ^ i < 2 ^ 62 from by omega), ↓reduceIte]
            refine Ev.bind hi1 ?_
            simp only [bitAnd (show R < 2 ^ 62 from by omega) (show b ≤ 64 from by omega), hb2, ↓reduceIte, Bool.false_eq_true, hw]
            exact f1
          · refine Ev.step (fun k => by rw [spec_WayBetween.l0]) ?_
            simp only [show ((i : Int) < (T.length : Int)) from by omega, show ¬ ((i : Int) = (a : Int)) from by omega, show ¬ ((i : Int) = (b : Int)) from by omega, show (0 : Int) ≤ (i : Int) from by omega, shl1 (show i ≤ 61 from by omega), bAndn (show 2 ^ T.length - 1 < 2 ^ 62 from by omega) (show 2 ^ i < 2 ^ 62 from by omega), bOr (show s < 2 ^ 62 from by omega) (show 2 ^ i < 2 ^ 62 from by omega), ↓reduceIte]
            refine Ev.bind hs1 ?_
            simp only [spIn_eq R b (show b ≤ 64 from by omega), Option.bind_some, hb2, ↓reduceIte, Bool.false_eq_true, hw]
            exact f2
theorem WayBetween_both (S : List Int) (hS : S.length ≤ 1048576) (a b : Int) : ∃ v : Int × Bool, Ev (fun k => spec_WayBetween.f k S a b) v ∧ Ev (fun k => impl_WayBetween.f k S a b) v := by
  have hj1 : Ev (fun k => spec_WayBetween.j0 k a b true S) (0, false) := by
    refine Ev.step (fun k => by rw [spec_WayBetween.j0]) ?_
    simp only [↓reduceIte]; exact Ev.some _
  have hj2 : Ev (fun k => impl_WayBetween.j0 k a b true S) (0, false) := by
    refine Ev.step (fun k => by rw [impl_WayBetween.j0]) ?_
    simp only [↓reduceIte]; exact Ev.some _
  rcases net_cases (S := S) (by omega) with ⟨h1, h2⟩ | ⟨T, rfl, h, h1, h2⟩
  · refine ⟨(0, false), ?_, ?_⟩
    · have ht : Ev (fun k => spec_shTree.f k S) false := by
        unfold spec_shTree.f
        refine Ev.bind h2 ?_
        simp only [↓reduceIte, Bool.false_eq_true]
        refine Ev.step (fun k => by rw [spec_shTree.j0]) ?_
        simp only [↓reduceIte]; exact Ev.some _
      unfold spec_WayBetween.f
      refine Ev.bind ht ?_
      simp only [↓reduceIte, Bool.false_eq_true]; exact hj1
    · unfold impl_WayBetween.f
      refine Ev.bind h1 ?_
      simp only [↓reduceIte, Bool.false_eq_true]; exact hj2
  · obtain ⟨t, hi, hs⟩ := tree_both h h2
    have hl7 := h.l7
    have hl1 := h.l1
    have ew : wrap64 ((T.length : Int) - 1) = (T.length : Int) - 1 := w64 (by omega) (by omega)
    cases t with
    | false =>
      refine ⟨(0, false), ?_, ?_⟩
      · unfold spec_WayBetween.f
        refine Ev.bind hs ?_
        simp only [↓reduceIte, Bool.false_eq_true]; exact hj1
      · unfold impl_WayBetween.f
        refine Ev.bind h1 ?_
        simp only [↓reduceIte]
        refine Ev.bind hi ?_
        simp only [↓reduceIte, Bool.false_eq_true]; exact hj2
    | true =>
      by_cases ha : 0 ≤ a ∧ a ≤ (T.length : Int) - 1
      · by_cases hb : 0 ≤ b ∧ b ≤ (T.length : Int) - 1
        · obtain ⟨i, rfl⟩ := Int.eq_ofNat_of_zero_le ha.1
          obtain ⟨j, rfl⟩ := Int.eq_ofNat_of_zero_le hb.1
          have p1 : 2 ^ i < 128 := pow_lt_128 (by omega)
          have p2 : 2 ^ j < 128 := pow_lt_128 (by omega)
          obtain ⟨F, f1, f2⟩ := way_loop h (a := i) (b := j) (by omega) (by omega) T.length 0 (2 ^ i ||| 2 ^ j) (by omega) (Nat.or_lt_two_pow (n := 7) p1 p2)
          refine ⟨((F : Int), true), ?_, ?_⟩
          · unfold spec_WayBetween.f
            refine Ev.bind hs ?_
            simp only [↓reduceIte, castL_length, ew, l1In_eq, Option.bind_some, decide_eq_true ha, decide_eq_true hb, Bool.not_true]
            refine Ev.step (fun k => by rw [spec_WayBetween.j0]) ?_
            simp only [↓reduceIte, Bool.false_eq_true, castL_length, show (0 : Int) ≤ (i : Int) from by omega, show (0 : Int) ≤ (j : Int) from by omega, pow1 (show T.length ≤ 61 from by omega), shl1 (show i ≤ 61 from by omega), shl1 (show j ≤ 61 from by omega), bOr (show 2 ^ i < 2 ^ 62 from by omega) (show 2 ^ j < 2 ^ 62 from by omega)]
            exact f2
          · unfold impl_WayBetween.f
            refine Ev.bind h1 ?_
            simp only [↓reduceIte]
            refine Ev.bind hi ?_
            simp only [↓reduceIte, castL_length, ew, within_eq, Option.bind_some, decide_eq_true ha, decide_eq_true hb, Bool.not_true]
            refine Ev.step (fun k => by rw [impl_WayBetween.j0]) ?_
            simp only [↓reduceIte, Bool.false_eq_true, castL_length, show (0 : Int) ≤ (i : Int) from by omega, show (0 : Int) ≤ (j : Int) from by omega, shl1 (show i ≤ 61 from by omega), shl1 (show j ≤ 61 from by omega), bOr (show 2 ^ i < 2 ^ 62 from by omega) (show 2 ^ j < 2 ^ 62 from by omega)]
            exact f1
        · refine ⟨(0, false), ?_, ?_⟩
          · unfold spec_WayBetween.f
            refine Ev.bind hs ?_
            simp only [↓reduceIte, castL_length, ew, l1In_eq, Option.bind_some, decide_eq_true ha, decide_eq_false hb, Bool.not_false]
            exact hj1
          · unfold impl_WayBetween.f
            refine Ev.bind h1 ?_
            simp only [↓reduceIte]
            refine Ev.bind hi ?_
            simp only [↓reduceIte, castL_length, ew, within_eq, Option.bind_some, decide_eq_true ha, decide_eq_false hb, Bool.not_false]
            exact hj2
      · refine ⟨(0, false), ?_, ?_⟩
        · unfold spec_WayBetween.f
          refine Ev.bind hs ?_
          simp only [↓reduceIte, castL_length, ew, l1In_eq, Option.bind_some, decide_eq_false ha, Bool.false_eq_true]
          exact hj1
        · unfold impl_WayBetween.f
          refine Ev.bind h1 ?_
          simp only [↓reduceIte]
          refine Ev.bind hi ?_
          simp only [↓reduceIte, castL_length, ew, within_eq, Option.bind_some, decide_eq_false ha, Bool.false_eq_true]
          exact hj2
end Go.Proofs.Ythpbmecinoninaa.Q
