/- Corners of a set of points, and what it covers: the program's and the reference's; conditions: as each theorem states. -/
import Derived.Test.YthpbmecinoninaaCFnExactCoveredByQCovers
import Derived.Test.YthpbmecinoninaaCFnExactCoveredByQFam
import Derived.Test.YthpbmecinoninaaCFnExactCoveredByP4
namespace Go.Proofs.Ythpbmecinoninaa.Q
open Go.RowKit Go.Proofs.YthpbmecinoninaaW.PrintWords Go.Proofs.YthpbmecinoninaaW.PrintLast Go.Proofs.YthpbmecinoninaaW.PrintMore Go.Proofs.Ythpbmecinoninaa.P
set_option linter.unusedVariables false
set_option linter.unusedSimpArgs false

def coP (P : List (List Int)) (s i : Nat) : Bool := !covI P (andn s (2 ^ i)) i
def cornN (P : List (List Int)) (s n : Nat) : Nat := sumN (fun i => s.testBit i && coP P s i) n
theorem corners_loop {P : List (List Int)} (h : PtsN P) {s : Nat} (hs : s < 2 ^ P.length) (L : List Nat) (hL : ∀ i ∈ L, i < P.length) (hl : L.length ≤ 7) : ∀ (rest pre : List Nat) (c : Nat), pre ++ rest = L → c < 128 →
    Ev (fun k => impl_corners.l0 k P (s : Int) (c : Int) (castL L) (L.length : Int) (pre.length : Int)) ((sumL (coP P s) rest c : Nat) : Int) := by
  intro rest
  have hl7 := h.l7
  have h2 : 2 ^ P.length ≤ 2 ^ 7 := Nat.pow_le_pow_right (by omega) h.l7
  induction rest with
  | nil =>
    intro pre c e hc
    obtain rfl : pre = L := by simpa using e
    refine Ev.step (fun k => by rw [impl_corners.l0]) ?_
    simp only [show ¬ ((pre.length : Int) < (pre.length : Int)) from by omega, ↓reduceIte]
    exact Ev.some _
  | cons i rest ih =>
    intro pre c e hc
    have hi : i < P.length := hL i (by rw [← e]; simp)
    have hp2 : 2 ^ i < 128 := pow_lt_128 (by omega)
    have hlen : L.length = pre.length + (rest.length + 1) := by rw [← e]; simp
    have er : rd (castL L) (pre.length : Int) = (i : Int) := by rw [← e]; exact rd_castL_mid _ _ _
    have hn := fun s' hs' => ih (pre ++ [i]) s' (by simp [e]) hs'
    simp only [List.length_append, List.length_singleton] at hn
    refine Ev.step (fun k => by rw [impl_corners.l0]) ?_
    simp only [show ((pre.length : Int) < (L.length : Int)) from by omega, show (0 : Int) ≤ (pre.length : Int) from by omega, castL_length, er, show (0 : Int) ≤ (i : Int) from by omega, shl1 (show i ≤ 61 from by omega), bAndn (show s < 2 ^ 62 from by omega) (show 2 ^ i < 2 ^ 62 from by omega), bOr (show c < 2 ^ 62 from by omega) (show 2 ^ i < 2 ^ 62 from by omega), ↓reduceIte]
    refine Ev.bind (covers_ev h hi (andn_lt hs)) ?_
    rw [wnext (n := L.length) (by omega) (by omega)]
    cases hb : covI P (andn s (2 ^ i)) i with
    | true => simp only [↓reduceIte]; exact (hn _ hc).eq (by simp [sumL, coP, hb])
    | false => simp only [↓reduceIte, Bool.false_eq_true]; exact (hn _ (Nat.or_lt_two_pow (n := 7) hc hp2)).eq (by simp [sumL, coP, hb])
theorem corners_ev {P : List (List Int)} (h : PtsN P) {s : Nat} (hs : s < 2 ^ P.length) : Ev (fun k => impl_corners.f k P (s : Int)) ((cornN P s P.length : Nat) : Int) := by
  have hl7 := h.l7
  have h2 : 2 ^ P.length ≤ 2 ^ 7 := Nat.pow_le_pow_right (by omega) h.l7
  unfold impl_corners.f
  refine Ev.bind (items_ev (show s < 128 by omega)) ?_
  have hh := corners_loop h hs (itemsN s) (items_below hs) (items_len s) (itemsN s) [] 0 rfl (by omega)
  rw [sumL_items] at hh
  refine Ev.eq (r := ((sumN (fun i => s.testBit i && coP P s i) 7 : Nat) : Int)) (by simpa using hh) ?_
  congr 1
  unfold cornN
  apply Nat.eq_of_testBit_eq
  intro i
  rw [sumN_testBit, sumN_testBit]
  rcases Nat.lt_or_ge i P.length with h3 | h3
  · simp [h3, show i < 7 from by omega]
  · have : s.testBit i = false := Nat.testBit_lt_two_pow (Nat.lt_of_lt_of_le hs (Nat.pow_le_pow_right (by omega) h3))
    simp [this]
theorem shCorners_loop {P : List (List Int)} (h : PtsN P) {s : Nat} (hs : s < 2 ^ P.length) : ∀ d i : Nat, i + d = P.length →
    Ev (fun k => spec_shCorners.l0 k P (s : Int) ((cornN P s i : Nat) : Int) (P.length : Int) (i : Int)) ((cornN P s P.length : Nat) : Int) := by
  intro d
  have hl7 := h.l7
  have h2 : 2 ^ P.length ≤ 2 ^ 7 := Nat.pow_le_pow_right (by omega) h.l7
  induction d with
  | zero =>
    intro i e
    obtain rfl : i = P.length := by omega
    refine Ev.step (fun k => by rw [spec_shCorners.l0]) ?_
    simp only [show ¬ ((P.length : Int) < (P.length : Int)) from by omega, ↓reduceIte]
    exact Ev.some _
  | succ d ih =>
    intro i e
    have hi : i < P.length := by omega
    have hp2 : 2 ^ i < 128 := pow_lt_128 (by omega)
    have hc : cornN P s i < 128 := Nat.lt_trans (sumN_lt _ _) hp2
    have hn := ih (i + 1) (by omega)
    have e1 : cornN P s (i + 1) = if (s.testBit i && coP P s i) = true then cornN P s i ||| 2 ^ i else cornN P s i := by unfold cornN; rw [sumN_succ]
    rw [e1] at hn
    refine Ev.step (fun k => by rw [spec_shCorners.l0]) ?_
    simp only [show ((i : Int) < (P.length : Int)) from by omega, show (0 : Int) ≤ (i : Int) from by omega, spIn_eq s i (by omega), Option.bind_some, shl1 (show i ≤ 61 from by omega), bAndn (show s < 2 ^ 62 from by omega) (show 2 ^ i < 2 ^ 62 from by omega), bOr (show cornN P s i < 2 ^ 62 from by omega) (show 2 ^ i < 2 ^ 62 from by omega), ↓reduceIte]
    rw [wnext (n := 7) (by omega) (by omega)]
    cases hb : s.testBit i with
    | false => simp only [↓reduceIte, Bool.false_eq_true]; simpa [hb] using hn
    | true =>
      simp only [↓reduceIte]
      refine Ev.bind (shCovers_ev' h hi (andn_lt hs)) ?_
      cases hq : covI P (andn s (2 ^ i)) i with
      | true => simp only [↓reduceIte]; simpa [hb, coP, hq] using hn
      | false => simp only [↓reduceIte, Bool.false_eq_true]; simpa [hb, coP, hq] using hn
theorem shCorners_ev {P : List (List Int)} (h : PtsN P) {s : Nat} (hs : s < 2 ^ P.length) : Ev (fun k => spec_shCorners.f k P (s : Int)) ((cornN P s P.length : Nat) : Int) := by
  unfold spec_shCorners.f
  simpa [cornN, sumN] using shCorners_loop h hs P.length 0 (by omega)
/-- What a set covers. -/
def covN (P : List (List Int)) (s n : Nat) : Nat := sumN (fun i => covI P s i) n
theorem covered_loop {P : List (List Int)} (h : PtsN P) {s : Nat} (hs : s < 2 ^ P.length) : ∀ d i : Nat, i + d = P.length →
    Ev (fun k => impl_covered.l0 k P (s : Int) ((covN P s i : Nat) : Int) (P.length : Int) (i : Int)) ((covN P s P.length : Nat) : Int) := by
  intro d
  have hl7 := h.l7
  induction d with
  | zero =>
    intro i e
    obtain rfl : i = P.length := by omega
    refine Ev.step (fun k => by rw [impl_covered.l0]) ?_
    simp only [show ¬ ((P.length : Int) < (P.length : Int)) from by omega, ↓reduceIte]
    exact Ev.some _
  | succ d ih =>
    intro i e
    have hi : i < P.length := by omega
    have hp2 : 2 ^ i < 128 := pow_lt_128 (by omega)
    have hc : covN P s i < 128 := Nat.lt_trans (sumN_lt _ _) hp2
    have hn := ih (i + 1) (by omega)
    have e1 : covN P s (i + 1) = if covI P s i = true then covN P s i ||| 2 ^ i else covN P s i := by unfold covN; rw [sumN_succ]
    rw [e1] at hn
    refine Ev.step (fun k => by rw [impl_covered.l0]) ?_
    simp only [show ((i : Int) < (P.length : Int)) from by omega, show (0 : Int) ≤ (i : Int) from by omega, shl1 (show i ≤ 61 from by omega), bOr (show covN P s i < 2 ^ 62 from by omega) (show 2 ^ i < 2 ^ 62 from by omega), ↓reduceIte]
    refine Ev.bind (covers_ev h hi hs) ?_
    rw [wnext (n := 7) (by omega) (by omega)]
    cases hq : covI P s i with
    | true => simp only [↓reduceIte]; simpa [hq] using hn
    | false => simp only [↓reduceIte, Bool.false_eq_true]; simpa [hq] using hn
theorem covered_ev {P : List (List Int)} (h : PtsN P) {s : Nat} (hs : s < 2 ^ P.length) : Ev (fun k => impl_covered.f k P (s : Int)) ((covN P s P.length : Nat) : Int) := by
  unfold impl_covered.f
  simpa [covN, sumN] using covered_loop h hs P.length 0 (by omega)
theorem shCover_loop {P : List (List Int)} (h : PtsN P) {s : Nat} (hs : s < 2 ^ P.length) : ∀ d i : Nat, i + d = P.length →
    Ev (fun k => spec_shCover.l0 k P (s : Int) ((covN P s i : Nat) : Int) (P.length : Int) (i : Int)) ((covN P s P.length : Nat) : Int) := by
  intro d
  have hl7 := h.l7
  induction d with
  | zero =>
    intro i e
    obtain rfl : i = P.length := by omega
    refine Ev.step (fun k => by rw [spec_shCover.l0]) ?_
    simp only [show ¬ ((P.length : Int) < (P.length : Int)) from by omega, ↓reduceIte]
    exact Ev.some _
  | succ d ih =>
    intro i e
    have hi : i < P.length := by omega
    have hp2 : 2 ^ i < 128 := pow_lt_128 (by omega)
    have hc : covN P s i < 128 := Nat.lt_trans (sumN_lt _ _) hp2
    have hn := ih (i + 1) (by omega)
    have e1 : covN P s (i + 1) = if covI P s i = true then covN P s i ||| 2 ^ i else covN P s i := by unfold covN; rw [sumN_succ]
    rw [e1] at hn
    refine Ev.step (fun k => by rw [spec_shCover.l0]) ?_
    simp only [show ((i : Int) < (P.length : Int)) from by omega, show (0 : Int) ≤ (i : Int) from by omega, shl1 (show i ≤ 61 from by omega), bOr (show covN P s i < 2 ^ 62 from by omega) (show 2 ^ i < 2 ^ 62 from by omega), ↓reduceIte]
    refine Ev.bind (shCovers_ev' h hi hs) ?_
    rw [wnext (n := 7) (by omega) (by omega)]
    cases hq : covI P s i with
    | true => simp only [↓reduceIte]; simpa [hq] using hn
    | false => simp only [↓reduceIte, Bool.false_eq_true]; simpa [hq] using hn
theorem shCover_ev {P : List (List Int)} (h : PtsN P) {s : Nat} (hs : s < 2 ^ P.length) : Ev (fun k => spec_shCover.f k P (s : Int)) ((covN P s P.length : Nat) : Int) := by
  unfold spec_shCover.f
  simpa [covN, sumN] using shCover_loop h hs P.length 0 (by omega)
end Go.Proofs.Ythpbmecinoninaa.Q
