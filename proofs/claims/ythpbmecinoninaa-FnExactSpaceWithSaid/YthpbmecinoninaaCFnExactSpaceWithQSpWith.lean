/- The space made of some sets: the program's and the reference's; conditions: as each theorem states. -/
import Derived.Test.YthpbmecinoninaaCFnExactSpaceWithQFamOf
import Derived.Test.YthpbmecinoninaaCFnExactSpaceWithP4
namespace Go.Proofs.Ythpbmecinoninaa.Q
open Go.RowKit Go.Proofs.YthpbmecinoninaaW.PrintWords Go.Proofs.YthpbmecinoninaaW.PrintLast Go.Proofs.YthpbmecinoninaaW.PrintMore Go.Proofs.Ythpbmecinoninaa.P
set_option linter.unusedVariables false
set_option linter.unusedSimpArgs false

/-- Empty, or with a way in. -/
def okB (q : Nat → Bool) (x : Nat) : Bool := decide (x = 0) || decide (innN q x ≠ 0)
theorem impl_with_loop {m : Nat} (m7 : m ≤ 7) {L : List Nat} (hL : ∀ x ∈ L, x < 2 ^ m) (hl : L.length ≤ 1000) (q : Nat → Bool) (fin : Int × List Int × Bool)
    (hfin : L.all (okB q) = true → Ev (fun k => impl_SpaceWith.l0 k (m : Int) (famN q) ((orAll L 0 : Nat) : Int) (castL L) (L.length : Int) (L.length : Int)) fin) : ∀ (rest pre : List Nat) (s : Nat), pre ++ rest = L → s < 2 ^ m → orAll rest s = orAll L 0 → pre.all (okB q) = true →
    Ev (fun k => impl_SpaceWith.l0 k (m : Int) (famN q) (s : Int) (castL L) (L.length : Int) (pre.length : Int)) (if L.all (okB q) = true then fin else (0, [], false)) := by
  intro rest
  have hp2 := pow_le_128 m7
  induction rest with
  | nil =>
    intro pre s e hs ho hpre
    obtain rfl : pre = L := by simpa using e
    have ho' : s = orAll pre 0 := ho
    rw [if_pos hpre, ho']
    exact hfin hpre
  | cons x rest ih =>
    intro pre s e hs ho hpre
    have hx : x < 2 ^ m := hL x (by rw [← e]; simp)
    have hlen : L.length = pre.length + (rest.length + 1) := by rw [← e]; simp
    have er : rd (castL L) (pre.length : Int) = (x : Int) := by rw [← e]; exact rd_castL_mid _ _ _
    have hn := fun (hok : okB q x = true) => ih (pre ++ [x]) (s ||| x) (by simp [e]) (Nat.or_lt_two_pow hs hx) ho (by rw [List.all_append, hpre]; simp [hok])
    simp only [List.length_append, List.length_singleton] at hn
    refine Ev.step (fun k => by rw [impl_SpaceWith.l0]) ?_
    simp only [show ((pre.length : Int) < (L.length : Int)) from by omega, show (0 : Int) ≤ (pre.length : Int) from by omega, castL_length, er, Int.natCast_eq_zero, bOr (show s < 2 ^ 62 from by omega) (show x < 2 ^ 62 from by omega), ↓reduceIte]
    rw [wnext (n := L.length) (by omega) (by omega)]
    by_cases h0 : x = 0
    · simp only [h0, ↓reduceIte] at hn ⊢
      have := hn (by simp [okB])
      simpa using this
    · simp only [h0, ↓reduceIte]
      refine Ev.bind (inner_ev q (show x < 128 by omega)) ?_
      simp only [Int.natCast_eq_zero]
      by_cases h1 : innN q x = 0
      · simp only [h1, ↓reduceIte]
        have hno : ¬ L.all (okB q) = true := by
          rw [← e, List.all_append, List.all_cons]
          have : okB q x = false := by simp [okB, h0, h1]
          simp [this]
        rw [if_neg hno]
        exact Ev.some _
      · simp only [h1, ↓reduceIte]
        exact hn (by simp [okB, h1])
theorem spec_put_loop {m : Int} {L : List Nat} (hL : ∀ x ∈ L, x < 128) (hl : L.length ≤ 1000) (fin : Int × List Int × Bool) : ∀ (rest pre R : List Nat), pre ++ rest = L → Inc R → (∀ x ∈ R, x < 128) →
    (∀ R0 : List Nat, Inc R0 → (∀ z, z ∈ R0 ↔ z ∈ R ∨ z ∈ rest) → Ev (fun k => spec_SpaceWith.l1 k m (castL R0) (castL R0) (R0.length : Int) 0) fin) →
    Ev (fun k => spec_SpaceWith.l0 k m (castL R) (castL L) (L.length : Int) (pre.length : Int)) fin := by
  intro rest
  induction rest with
  | nil =>
    intro pre R e hI hR hf
    obtain rfl : pre = L := by simpa using e
    refine Ev.step (fun k => by rw [spec_SpaceWith.l0]) ?_
    simp only [show ¬ ((pre.length : Int) < (pre.length : Int)) from by omega, ↓reduceIte, castL_length]
    exact hf R hI (fun z => by simp)
  | cons x rest ih =>
    intro pre R e hI hR hf
    have hx : x < 128 := hL x (by rw [← e]; simp)
    have hlen : L.length = pre.length + (rest.length + 1) := by rw [← e]; simp
    have er : rd (castL L) (pre.length : Int) = (x : Int) := by rw [← e]; exact rd_castL_mid _ _ _
    have hRl := inc_len hI hR
    have hn := ih (pre ++ [x]) (insN x R) (by simp [e]) (inc_insN hI) (fun z hz => by
      rcases mem_insN.1 hz with rfl | hz
      · exact hx
      · exact hR z hz) (fun R0 h1 h2 => hf R0 h1 (fun z => by
        rw [h2, mem_insN, List.mem_cons]
        constructor
        · rintro ((h | h) | h)
          · exact .inr (.inl h)
          · exact .inl h
          · exact .inr (.inr h)
        · rintro (h | h | h)
          · exact .inl (.inr h)
          · exact .inl (.inl h)
          · exact .inr h))
    simp only [List.length_append, List.length_singleton] at hn
    refine Ev.step (fun k => by rw [spec_SpaceWith.l0]) ?_
    simp only [show ((pre.length : Int) < (L.length : Int)) from by omega, show (0 : Int) ≤ (pre.length : Int) from by omega, castL_length, er, ↓reduceIte]
    refine Ev.bind (spPut_ev R (by omega) x) ?_
    rw [wnext (n := L.length) (by omega) (by omega)]
    exact hn
theorem spec_with_loop {m : Int} {R : List Nat} (hI : Inc R) (hR : ∀ x ∈ R, x < 128) (fin : Int × List Int × Bool)
    (hfin : R.all (okB fun y => decide (y ∈ R)) = true → Ev (fun k => spec_SpaceWith.l1 k m (castL R) (castL R) (R.length : Int) (R.length : Int)) fin) : ∀ (rest pre : List Nat), pre ++ rest = R → pre.all (okB fun y => decide (y ∈ R)) = true →
    Ev (fun k => spec_SpaceWith.l1 k m (castL R) (castL R) (R.length : Int) (pre.length : Int)) (if R.all (okB fun y => decide (y ∈ R)) = true then fin else (0, [], false)) := by
  intro rest
  have hRl := inc_len hI hR
  induction rest with
  | nil =>
    intro pre e hpre
    obtain rfl : pre = R := by simpa using e
    rw [if_pos hpre]
    exact hfin hpre
  | cons x rest ih =>
    intro pre e hpre
    have hx : x < 128 := hR x (by rw [← e]; simp)
    have hlen : R.length = pre.length + (rest.length + 1) := by rw [← e]; simp
    have er : rd (castL R) (pre.length : Int) = (x : Int) := by rw [← e]; exact rd_castL_mid _ _ _
    have hn := fun (hok : okB (fun y => decide (y ∈ R)) x = true) => ih (pre ++ [x]) (by simp [e]) (by rw [List.all_append, hpre]; simp [hok])
    simp only [List.length_append, List.length_singleton] at hn
    refine Ev.step (fun k => by rw [spec_SpaceWith.l1]) ?_
    simp only [show ((pre.length : Int) < (R.length : Int)) from by omega, show (0 : Int) ≤ (pre.length : Int) from by omega, castL_length, er, ↓reduceIte]
    rw [wnext (n := R.length) (by omega) (by omega)]
    by_cases h0 : x = 0
    · simp only [show ¬ ((x : Int) > 0) from by omega, ↓reduceIte]
      exact hn (by simp [okB, h0])
    · simp only [show ((x : Int) > 0) from by omega, ↓reduceIte]
      refine Ev.bind (spInner_ev hI (by omega) hx) ?_
      simp only [Int.natCast_eq_zero]
      by_cases h1 : innN (fun y => decide (y ∈ R)) x = 0
      · simp only [h1, ↓reduceIte]
        have hno : ¬ R.all (okB fun y => decide (y ∈ R)) = true := by
          have : okB (fun y => decide (y ∈ R)) x = false := by simp [okB, h0, h1]
          rw [List.all_eq_true]
          intro h
          have := h x (by rw [← e]; simp)
          simp_all
        rw [if_neg hno]
        exact Ev.some _
      · simp only [h1, ↓reduceIte]
        exact hn (by simp [okB, h1])
end Go.Proofs.Ythpbmecinoninaa.Q
