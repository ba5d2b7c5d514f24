/- Triples of points that stand free: the program's count and the reference's; conditions: as each theorem states. -/
import Derived.Test.YtniehinnbdcafaaCFnExactFreeTriplesQCorners
import Derived.Test.YtniehinnbdcafaaCFnExactFreeTriplesQCount
import Derived.Test.YtniehinnbdcafaaCFnExactFreeTriplesP4
namespace Go.Proofs.Ytniehinnbdcafaa.Q
open Go.RowKit Go.Proofs.YtniehinnbdcafaaW.PrintWords Go.Proofs.YtniehinnbdcafaaW.PrintLast Go.Proofs.YtniehinnbdcafaaW.PrintMore Go.Proofs.Ytniehinnbdcafaa.P
set_option linter.unusedVariables false
set_option linter.unusedSimpArgs false

def freeB (P : List (List Int)) (s : Nat) : Bool := decide (cntN s = 3) && (decide (cornN P s P.length = s) && decide (covN P s P.length = s))
def freeN (P : List (List Int)) : Nat → Nat → Nat → Nat
  | _, 0, c => c
  | s, d + 1, c => freeN P (s + 1) d (if freeB P s then c + 1 else c)
theorem free_both {P : List (List Int)} (h : PtsN P) : ∀ d s c : Nat, s + d = 2 ^ P.length → c ≤ s →
    Ev (fun k => impl_FreeTriples.l0 k P (c : Int) ((2 ^ P.length : Nat) : Int) (s : Int)) (((freeN P s d c : Nat) : Int), true) ∧
    Ev (fun k => spec_FreeTriples.l0 k P (c : Int) (s : Int)) (((freeN P s d c : Nat) : Int), true) := by
  intro d
  have hl7 := h.l7
  have h2 : 2 ^ P.length ≤ 2 ^ 7 := Nat.pow_le_pow_right (by omega) h.l7
  induction d with
  | zero =>
    intro s c e hc
    obtain rfl : s = 2 ^ P.length := by omega
    constructor
    · refine Ev.step (fun k => by rw [impl_FreeTriples.l0]) ?_
      simp only [show ¬ (((2 ^ P.length : Nat) : Int) < ((2 ^ P.length : Nat) : Int)) from by omega, ↓reduceIte]
      exact Ev.some _
    · refine Ev.step (fun k => by rw [spec_FreeTriples.l0]) ?_
      simp only [shl1 (show P.length ≤ 61 from by omega), show ¬ (((2 ^ P.length : Nat) : Int) < ((2 ^ P.length : Nat) : Int)) from by omega, ↓reduceIte]
      exact Ev.some _
  | succ d ih =>
    intro s c e hc
    have hs : s < 2 ^ P.length := by omega
    have hs2 : s < 128 := by omega
    have w1 : wrap64 ((s : Int) + 1) = ((s + 1 : Nat) : Int) := wnext (n := 128) hs2 (by omega)
    have w2 : wrap64 ((c : Int) + 1) = ((c + 1 : Nat) : Int) := wnext (n := 200) (by omega) (by omega)
    obtain ⟨i1, i2⟩ := ih (s + 1) (if freeB P s then c + 1 else c) (by omega) (by by_cases g : freeB P s = true <;> simp [g] <;> omega)
    constructor
    · refine Ev.step (fun k => by rw [impl_FreeTriples.l0]) ?_
      simp only [show ((s : Int) < ((2 ^ P.length : Nat) : Int)) from by omega, count_eq hs2, Option.bind_some, w1, w2, ↓reduceIte]
      by_cases g1 : cntN s = 3
      · simp only [show ((cntN s : Nat) : Int) = 3 from by omega, ↓reduceIte]
        refine Ev.bind (corners_ev h hs) ?_
        by_cases g2 : cornN P s P.length = s
        · simp only [show ((cornN P s P.length : Nat) : Int) = (s : Int) from by omega, ↓reduceIte]
          refine Ev.bind (covered_ev h hs) ?_
          by_cases g3 : covN P s P.length = s
          · simp only [show ((covN P s P.length : Nat) : Int) = (s : Int) from by omega, ↓reduceIte]
            have hf : freeB P s = true := by simp [freeB, g1, g2, g3]
            simp only [hf, ↓reduceIte] at i1
            exact i1.eq (by simp only [freeN, hf, ↓reduceIte])
          · simp only [show ¬ ((covN P s P.length : Nat) : Int) = (s : Int) from by omega, ↓reduceIte]
            have hf : freeB P s = false := by simp [freeB, g3]
            simp only [hf, ↓reduceIte, Bool.false_eq_true] at i1
            exact i1.eq (by simp only [freeN, hf, ↓reduceIte, Bool.false_eq_true])
        · simp only [show ¬ ((cornN P s P.length : Nat) : Int) = (s : Int) from by omega, ↓reduceIte]
          have hf : freeB P s = false := by simp [freeB, g2]
          simp only [hf, ↓reduceIte, Bool.false_eq_true] at i1
          exact i1.eq (by simp only [freeN, hf, ↓reduceIte, Bool.false_eq_true])
      · simp only [show ¬ ((cntN s : Nat) : Int) = 3 from by omega, ↓reduceIte]
        have hf : freeB P s = false := by simp [freeB, g1]
        simp only [hf, ↓reduceIte, Bool.false_eq_true] at i1
        exact i1.eq (by simp only [freeN, hf, ↓reduceIte, Bool.false_eq_true])
    · refine Ev.step (fun k => by rw [spec_FreeTriples.l0]) ?_
      simp only [shl1 (show P.length ≤ 61 from by omega), show ((s : Int) < ((2 ^ P.length : Nat) : Int)) from by omega, w1, w2, ↓reduceIte]
      refine Ev.bind (spCount_ev hs2) ?_
      by_cases g1 : cntN s = 3
      · simp only [show ((cntN s : Nat) : Int) = 3 from by omega, ↓reduceIte]
        refine Ev.bind (shCorners_ev h hs) ?_
        by_cases g2 : cornN P s P.length = s
        · simp only [show ((cornN P s P.length : Nat) : Int) = (s : Int) from by omega, ↓reduceIte]
          refine Ev.bind (shCover_ev h hs) ?_
          by_cases g3 : covN P s P.length = s
          · simp only [show ((covN P s P.length : Nat) : Int) = (s : Int) from by omega, ↓reduceIte]
            have hf : freeB P s = true := by simp [freeB, g1, g2, g3]
            simp only [hf, ↓reduceIte] at i2
            exact i2.eq (by simp only [freeN, hf, ↓reduceIte])
          · simp only [show ¬ ((covN P s P.length : Nat) : Int) = (s : Int) from by omega, ↓reduceIte]
            have hf : freeB P s = false := by simp [freeB, g3]
            simp only [hf, ↓reduceIte, Bool.false_eq_true] at i2
            exact i2.eq (by simp only [freeN, hf, ↓reduceIte, Bool.false_eq_true])
        · simp only [show ¬ ((cornN P s P.length : Nat) : Int) = (s : Int) from by omega, ↓reduceIte]
          have hf : freeB P s = false := by simp [freeB, g2]
          simp only [hf, ↓reduceIte, Bool.false_eq_true] at i2
          exact i2.eq (by simp only [freeN, hf, ↓reduceIte, Bool.false_eq_true])
      · simp only [show ¬ ((cntN s : Nat) : Int) = 3 from by omega, ↓reduceIte]
        have hf : freeB P s = false := by simp [freeB, g1]
        simp only [hf, ↓reduceIte, Bool.false_eq_true] at i2
        exact i2.eq (by simp only [freeN, hf, ↓reduceIte, Bool.false_eq_true])
theorem FreeTriples_both (P : List (List Int)) (hl : P.length ≤ 1048576) (hrow : ∀ x ∈ P, x.length ≤ 1048576) : ∃ v : Int × Bool, Ev (fun k => spec_FreeTriples.f k P) v ∧ Ev (fun k => impl_FreeTriples.f k P) v := by
  cases hp : ptsB P with
  | false =>
    refine ⟨(0, false), ?_, ?_⟩
    · unfold spec_FreeTriples.f
      refine Ev.bind ((spec_pts_ev P).eq hp) ?_
      simp only [↓reduceIte, Bool.false_eq_true]; exact Ev.some _
    · unfold impl_FreeTriples.f
      refine Ev.bind ((impl_pts_ev P).eq hp) ?_
      simp only [↓reduceIte, Bool.false_eq_true]; exact Ev.some _
  | true =>
    have h := ptsN_of hp
    have hl7 := h.l7
    obtain ⟨i1, i2⟩ := free_both h (2 ^ P.length) 0 0 (by omega) (by omega)
    refine ⟨(((freeN P 0 (2 ^ P.length) 0 : Nat) : Int), true), ?_, ?_⟩
    · unfold spec_FreeTriples.f
      refine Ev.bind ((spec_pts_ev P).eq hp) ?_
      simp only [↓reduceIte]; exact i2
    · unfold impl_FreeTriples.f
      refine Ev.bind ((impl_pts_ev P).eq hp) ?_
      simp only [↓reduceIte, shl1 (show P.length ≤ 61 from by omega)]; exact i1
end Go.Proofs.Ytniehinnbdcafaa.Q
