/- The pure statement of the law FnExactCanLearn: the printed law function answers true, for all arguments; no conditions. -/
import Derived.Test.YtniehinnbdcafaaCFnExactCanLearnQOuter
import Derived.Test.YtniehinnbdcafaaCFnExactCanLearnQLawSpace
import Derived.Test.YtniehinnbdcafaaCFnExactCanLearnQMarkSpace
import Derived.Test.YtniehinnbdcafaaCFnExactCanLearnP3
namespace Go.Proofs.Ytniehinnbdcafaa.Pure
open Go.RowKit Go.Proofs.YtniehinnbdcafaaW.PrintWords Go.Proofs.YtniehinnbdcafaaW.PrintLast Go.Proofs.YtniehinnbdcafaaW.PrintMore Go.Proofs.Ytniehinnbdcafaa.P Go.Proofs.Ytniehinnbdcafaa.Q
set_option linter.unusedVariables false
set_option linter.unusedSimpArgs false

theorem CanLearn_both (n : Int) (S : List Int) (hS : S.length ≤ 1048576) (a b : Int) : ∃ v : Bool × Bool, Ev (fun k => spec_CanLearn.f k n S a b) v ∧ Ev (fun k => impl_CanLearn.f k n S a b) v := by
  rcases known_cases (n := n) (by omega : S.length ≤ 1099511627776) a with ⟨h1, h2⟩ | ⟨m, T, x, rfl, rfl, rfl, h, hx, h1, h2⟩
  · refine ⟨(false, false), ?_, ?_⟩
    · unfold spec_CanLearn.f
      refine Ev.bind h2 ?_
      simp only [↓reduceIte, Bool.false_eq_true]
      exact Ev.some _
    · unfold impl_CanLearn.f
      refine Ev.bind h1 ?_
      simp only [↓reduceIte, Bool.false_eq_true]
      refine Ev.step (fun k => by rw [impl_CanLearn.j0]) ?_
      simp only [↓reduceIte]
      exact Ev.some _
  · have hx2 := h.lt128 x hx
    have hm7 := h.m7
    have hm1 := h.m1
    have ew : wrap64 ((m : Int) - 1) = (m : Int) - 1 := w64 (by omega) (by omega)
    by_cases hb : 0 ≤ b ∧ b ≤ (m : Int) - 1
    · obtain ⟨i, rfl⟩ := Int.eq_ofNat_of_zero_le hb.1
      have hi : i < 7 := by omega
      have hp2 : 2 ^ i < 128 := pow_lt_128 hi
      have b1 : Go.bits .or .i64 (x : Int) ((2 ^ i : Nat) : Int) = ((x ||| 2 ^ i : Nat) : Int) := bOr (by omega) (by omega)
      cases hti : x.testBit i with
      | true =>
        refine ⟨(false, false), ?_, ?_⟩
        · unfold spec_CanLearn.f
          refine Ev.bind h2 ?_
          simp only [ew, l1In_eq, Option.bind_some, hb, and_self, decide_true, ↓reduceIte, spIn_eq x i (by omega), hti]
          exact Ev.some _
        · unfold impl_CanLearn.f
          refine Ev.bind h1 ?_
          simp only [ew, within_eq, Option.bind_some, hb, and_self, decide_true, ↓reduceIte, bitAnd (show x < 2 ^ 62 from by omega) (show i ≤ 64 from by omega), hti, BEq.rfl]
          refine Ev.step (fun k => by rw [impl_CanLearn.j0]) ?_
          simp only [↓reduceIte]
          exact Ev.some _
      | false =>
        refine ⟨(decide (x ||| 2 ^ i ∈ T), true), ?_, ?_⟩
        · unfold spec_CanLearn.f
          refine Ev.bind h2 ?_
          simp only [ew, l1In_eq, Option.bind_some, hb, and_self, decide_true, ↓reduceIte, spIn_eq x i (by omega), hti, Bool.false_eq_true, shl1 (show i ≤ 61 from by omega), b1]
          exact Ev.bind (spHas_ev h.inc h.small _) (Ev.some _)
        · unfold impl_CanLearn.f
          refine Ev.bind h1 ?_
          simp only [ew, within_eq, Option.bind_some, hb, and_self, decide_true, ↓reduceIte, bitAnd (show x < 2 ^ 62 from by omega) (show i ≤ 64 from by omega), hti, Bool.false_eq_true, show ((0 : Int) == 1) = false from rfl]
          refine Ev.step (fun k => by rw [impl_CanLearn.j0]) ?_
          simp only [↓reduceIte, Bool.false_eq_true]
          refine Ev.bind (family_ev _ T h.lt128 h.small) ?_
          refine Ev.bind (outer_ev _ hx2) ?_
          have hs : outN (fun y => decide (y ∈ T)) x 7 < 128 := sumN_lt _ 7
          simp only [bitAnd (show outN (fun y => decide (y ∈ T)) x 7 < 2 ^ 62 from by omega) (show i ≤ 64 from by omega), hb.1, ↓reduceIte]
          refine (Ev.some _).eq ?_
          unfold outN
          rw [sumN_testBit]
          by_cases hq : x ||| 2 ^ i ∈ T <;> simp [hi, outP, hti, hq]
    · refine ⟨(false, false), ?_, ?_⟩
      · unfold spec_CanLearn.f
        refine Ev.bind h2 ?_
        simp only [ew, l1In_eq, Option.bind_some, hb, decide_false, ↓reduceIte, Bool.false_eq_true]
        exact Ev.some _
      · unfold impl_CanLearn.f
        refine Ev.bind h1 ?_
        simp only [ew, within_eq, Option.bind_some, hb, decide_false, ↓reduceIte, Bool.false_eq_true]
        refine Ev.step (fun k => by rw [impl_CanLearn.j0]) ?_
        simp only [↓reduceIte]
        exact Ev.some _
theorem FnExactCanLearn : laws_FnExactCanLearn.Pure := by
  intro n S a b _ hm _ _ _
  refine Ev.rounds ?_
  unfold laws_FnExactCanLearn.f
  by_cases hS : S.length ≤ 1048576
  · obtain ⟨r, hr, h0⟩ := szSpace_yes n S hS
    obtain ⟨v, hs, hi⟩ := CanLearn_both n S hS a b
    simp only [hr, Option.bind_some, h0, ↓reduceIte]
    repeat (first
      | exact Ev.some _
      | with_reducible refine Ev.bind (toSpace_ev _ _ hS) ?_
      | with_reducible refine Ev.bind hs ?_
      | with_reducible refine Ev.bind hi ?_
      | with_reducible refine Ev.bind (eqSpace_self _ _ hS) ?_
      | (show Ev (fun k => laws_FnExactCanLearn.j0 k _ _ _ _ _) _; refine Ev.step (fun k => by rw [laws_FnExactCanLearn.j0]) ?_)
      | simp only [bne_self_eq_false, bne_self_eq_false', bneB, Bool.false_eq_true, Option.bind_some, ↓reduceIte, nneg])
  · simp only [szSpace_no n S hm hS, Option.bind_some, show ((-1 : Int) < 0) from by omega, ↓reduceIte]
    exact Ev.some _
end Go.Proofs.Ytniehinnbdcafaa.Pure
