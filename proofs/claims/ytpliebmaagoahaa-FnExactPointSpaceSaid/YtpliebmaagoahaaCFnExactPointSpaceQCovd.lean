/- What a set of points covers; conditions: as each theorem states. -/
import Derived.Test.YtpliebmaagoahaaCFnExactPointSpaceQCovers
import Derived.Test.YtpliebmaagoahaaCFnExactPointSpaceQFam
import Derived.Test.YtpliebmaagoahaaCFnExactPointSpaceP6
namespace Go.Proofs.Ytpliebmaagoahaa.Q
open Go.RowKit Go.Proofs.YtpliebmaagoahaaW.PrintWords Go.Proofs.YtpliebmaagoahaaW.PrintLast Go.Proofs.YtpliebmaagoahaaW.PrintMore Go.Proofs.Ytpliebmaagoahaa.P
set_option linter.unusedVariables false
set_option linter.unusedSimpArgs false

/-- What a set covers. -/
def covN (P : List (List Int)) (s n : Nat) : Nat := sumN (fun i => covI P s i) n
theorem covered_loop {P : List (List Int)} (h : PtsN P) {s : Nat} (hs : s < 2 ^ P.length) : ∀ d i : Nat, i + d = P.length →
    Ev (fun k => impl_covered.l0 k P (s : Int) ((covN P s i : Nat) : Int) (P.length : Int) (i : Int)) ((covN P s P.length : Nat) : Int) := by
  intro d
  have hl7 := h.l7
  induction d with
  | zero =>
    intro i e
    obtain rfl : i = P.length := by omega
    refine Ev.step (fun k => by rw [impl_covered.l0]) ?_
    simp only [show ¬ ((P.length : Int) < (P.length : Int)) from by omega, ↓reduceIte]
    exact Ev.some _
  | succ d ih =>
    intro i e
    have hi : i < P.length := by omega
    have hp2 : 2 ^ i < 128 := pow_lt_128 (by omega)
    have hc : covN P s i < 128 := Nat.lt_trans (sumN_lt _ _) hp2
    have hn := ih (i + 1) (by omega)
    have e1 : covN P s (i + 1) = if covI P s i = true then covN P s i ||| 2 ^ i else covN P s i := by unfold covN; rw [sumN_succ]
    rw [e1] at hn
    refine Ev.step (fun k => by rw [impl_covered.l0]) ?_
    simp only [show ((i : Int) < (P.length : Int)) from by omega, show (0 : Int) ≤ (i : Int) from by omega, shl1 (show i ≤ 61 from by omega), bOr (show covN P s i < 2 ^ 62 from by omega) (show 2 ^ i < 2 ^ 62 from by omega), ↓reduceIte]
    refine Ev.bind (covers_ev h hi hs) ?_
    rw [wnext (n := 7) (by omega) (by omega)]
    cases hq : covI P s i with
    | true => simp only [↓reduceIte]; simpa [hq] using hn
    | false => simp only [↓reduceIte, Bool.false_eq_true]; simpa [hq] using hn
theorem covered_ev {P : List (List Int)} (h : PtsN P) {s : Nat} (hs : s < 2 ^ P.length) : Ev (fun k => impl_covered.f k P (s : Int)) ((covN P s P.length : Nat) : Int) := by
  unfold impl_covered.f
  simpa [covN, sumN] using covered_loop h hs P.length 0 (by omega)
theorem shCover_loop {P : List (List Int)} (h : PtsN P) {s : Nat} (hs : s < 2 ^ P.length) : ∀ d i : Nat, i + d = P.length →
    Ev (fun k => spec_shCover.l0 k P (s : Int) ((covN P s i : Nat) : Int) (P.length : Int) (i : Int)) ((covN P s P.length : Nat) : Int) := by
  intro d
  have hl7 := h.l7
  induction d with
  | zero =>
    intro i e
    obtain rfl : i = P.length := by omega
    refine Ev.step (fun k => by rw [spec_shCover.l0]) ?_
    simp only [show ¬ ((P.length : Int) < (P.length : Int)) from by omega, ↓reduceIte]
    exact Ev.some _
  | succ d ih =>
    intro i e
    have hi : i < P.length := by omega
    have hp2 : 2 ^ i < 128 := pow_lt_128 (by omega)
    have hc : covN P s i < 128 := Nat.lt_trans (sumN_lt _ _) hp2
    have hn := ih (i + 1) (by omega)
    have e1 : covN P s (i + 1) = if covI P s i = true then covN P s i ||| 2 ^ i else covN P s i := by unfold covN; rw [sumN_succ]
    rw [e1] at hn
    refine Ev.step (fun k => by rw [spec_shCover.l0]) ?_
    simp only [show ((i : Int) < (P.length : Int)) from by omega, show (0 : Int) ≤ (i : Int) from by omega, shl1 (show i ≤ 61 from by omega), bOr (show covN P s i < 2 ^ 62 from by omega) (show 2 ^ i < 2 ^ 62 from by omega), ↓reduceIte]
    refine Ev.bind (shCovers_ev' h hi hs) ?_
    rw [wnext (n := 7) (by omega) (by omega)]
    cases hq : covI P s i with
    | true => simp only [↓reduceIte]; simpa [hq] using hn
    | false => simp only [↓reduceIte, Bool.false_eq_true]; simpa [hq] using hn
theorem shCover_ev {P : List (List Int)} (h : PtsN P) {s : Nat} (hs : s < 2 ^ P.length) : Ev (fun k => spec_shCover.f k P (s : Int)) ((covN P s P.length : Nat) : Int) := by
  unfold spec_shCover.f
  simpa [covN, sumN] using shCover_loop h hs P.length 0 (by omega)
end Go.Proofs.Ytpliebmaagoahaa.Q
