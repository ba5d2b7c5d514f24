/- Points of the plane: between, within a triangle; two ways to tell them; conditions: as each theorem states. -/
import Derived.Test.YtpliebmaagoahaaCFnExactPointSpaceQ0
namespace Go.Proofs.Ytpliebmaagoahaa.Q
open Go.RowKit Go.Proofs.YtpliebmaagoahaaW.PrintWords Go.Proofs.YtpliebmaagoahaaW.PrintLast Go.Proofs.YtpliebmaagoahaaW.PrintMore
set_option linter.unusedVariables false
set_option linter.unusedSimpArgs false

theorem ltge (a b : Int) : a < b ∨ b ≤ a := by omega
theorem mul_np {u v : Int} : u * v ≤ 0 ↔ (0 ≤ u ∧ v ≤ 0) ∨ (u ≤ 0 ∧ 0 ≤ v) := by
  constructor
  · intro h
    rcases Int.lt_trichotomy u 0 with hu | hu | hu
    · refine .inr ⟨by omega, ?_⟩
      rcases ltge v 0 with hv | hv
      · have := Int.mul_pos_of_neg_of_neg hu hv; omega
      · exact hv
    · subst hu
      rcases Int.le_total v 0 with hv | hv
      · exact .inl ⟨by omega, hv⟩
      · exact .inr ⟨by omega, hv⟩
    · refine .inl ⟨by omega, ?_⟩
      rcases ltge 0 v with hv | hv
      · have := Int.mul_pos hu hv; omega
      · exact hv
  · rintro (⟨h1, h2⟩ | ⟨h1, h2⟩)
    · exact Int.mul_nonpos_of_nonneg_of_nonpos h1 h2
    · exact Int.mul_nonpos_of_nonpos_of_nonneg h1 h2
theorem sq_nn (u : Int) : 0 ≤ u * u := by
  rcases Int.le_total 0 u with h | h
  · exact Int.mul_nonneg h h
  · exact Int.mul_nonneg_of_nonpos_of_nonpos h h
theorem box_iff (a b p : Int) : (mn a b ≤ p ∧ p ≤ mx a b) ↔ (p - a) * (p - b) ≤ 0 := by
  rw [mul_np]
  unfold mn mx
  by_cases h : a < b
  · have h2 : ¬ b < a := by omega
    simp only [h, h2, ↓reduceIte]
    omega
  · by_cases h3 : b < a
    · simp only [h, h3, ↓reduceIte]
      omega
    · simp only [h, h3, ↓reduceIte]
      omega
/-- The turn. -/
def cr (a b p : List Int) : Int := (rd b 0 - rd a 0) * (rd p 1 - rd a 1) - (rd b 1 - rd a 1) * (rd p 0 - rd a 0)
def Bet (a b p : List Int) : Prop := cr a b p = 0 ∧ (mn (rd a 0) (rd b 0) ≤ rd p 0 ∧ rd p 0 ≤ mx (rd a 0) (rd b 0)) ∧ (mn (rd a 1) (rd b 1) ≤ rd p 1 ∧ rd p 1 ≤ mx (rd a 1) (rd b 1))
def BetS (p a b : List Int) : Prop := cr a b p = 0 ∧ (rd p 0 - rd a 0) * (rd p 0 - rd b 0) + (rd p 1 - rd a 1) * (rd p 1 - rd b 1) ≤ 0
def Str (a b c p : List Int) : Prop := (0 < cr a b p ∧ 0 < cr b c p ∧ 0 < cr c a p) ∨ (cr a b p < 0 ∧ cr b c p < 0 ∧ cr c a p < 0)
def Wk (p a b c : List Int) : Prop := cr a b c ≠ 0 ∧ ((0 ≤ cr a b p ∧ 0 ≤ cr b c p ∧ 0 ≤ cr c a p) ∨ (cr a b p ≤ 0 ∧ cr b c p ≤ 0 ∧ cr c a p ≤ 0))
instance (a b p : List Int) : Decidable (Bet a b p) := by unfold Bet; infer_instance
instance (a b p : List Int) : Decidable (BetS p a b) := by unfold BetS; infer_instance
instance (a b c p : List Int) : Decidable (Str a b c p) := by unfold Str; infer_instance
instance (a b c p : List Int) : Decidable (Wk p a b c) := by unfold Wk; infer_instance
theorem cr_swap (a b p : List Int) : cr b a p = - cr a b p := by unfold cr; grind
theorem cr_rot (a b c : List Int) : cr b c a = cr a b c := by unfold cr; grind
theorem cr_sum (a b c p : List Int) : cr a b p + cr b c p + cr c a p = cr a b c := by unfold cr; grind
theorem cr_cba (a b c : List Int) : cr c b a = - cr a b c := by unfold cr; grind
theorem cr_acb (a b c : List Int) : cr a c b = - cr a b c := by unfold cr; grind
theorem cr_self (a p : List Int) : cr a a p = 0 := by unfold cr; grind
theorem seg {u v s t : Int} (h : (u - v) * s = (s - t) * u) (hd : u * v + s * t ≤ 0) : u * v ≤ 0 ∧ s * t ≤ 0 := by
  have h2 : (u - v) * (u - v) * (s * t) = (s - t) * (s - t) * (u * v) := by grind
  have q1 := sq_nn (u - v)
  have q2 := sq_nn (s - t)
  constructor
  · rcases ltge 0 (u * v) with h3 | h3
    · exfalso
      have h4 : s * t < 0 := by omega
      have h5 : (u - v) * (u - v) * (s * t) ≤ 0 := Int.mul_nonpos_of_nonneg_of_nonpos q1 (by omega)
      have h6 : (s - t) * (s - t) = 0 := by
        rcases ltge 0 ((s - t) * (s - t)) with h7 | h7
        · have := Int.mul_pos h7 h3; omega
        · omega
      have h8 : s - t = 0 := by rcases Int.mul_eq_zero.1 h6 with h | h <;> exact h
      have h9 : s = t := by omega
      subst h9
      have := sq_nn s; omega
    · exact h3
  · rcases ltge 0 (s * t) with h3 | h3
    · exfalso
      have h4 : u * v < 0 := by omega
      have h5 : (s - t) * (s - t) * (u * v) ≤ 0 := Int.mul_nonpos_of_nonneg_of_nonpos q2 (by omega)
      have h6 : (u - v) * (u - v) = 0 := by
        rcases ltge 0 ((u - v) * (u - v)) with h7 | h7
        · have := Int.mul_pos h7 h3; omega
        · omega
      have h8 : u - v = 0 := by rcases Int.mul_eq_zero.1 h6 with h | h <;> exact h
      have h9 : u = v := by omega
      subst h9
      have := sq_nn u; omega
    · exact h3
theorem bet_iff (a b p : List Int) : Bet a b p ↔ BetS p a b := by
  unfold Bet BetS
  rw [box_iff, box_iff]
  constructor
  · rintro ⟨h, h1, h2⟩; exact ⟨h, by omega⟩
  · rintro ⟨h, h1⟩
    refine ⟨h, ?_⟩
    refine seg (u := rd p 0 - rd a 0) (v := rd p 0 - rd b 0) (s := rd p 1 - rd a 1) (t := rd p 1 - rd b 1) ?_ h1
    unfold cr at h; grind
theorem betS_swap (p a b : List Int) : BetS p a b ↔ BetS p b a := by
  unfold BetS
  rw [cr_swap a b p, Int.mul_comm (rd p 0 - rd b 0), Int.mul_comm (rd p 1 - rd b 1)]
  constructor <;> rintro ⟨h, h1⟩ <;> exact ⟨by omega, h1⟩
theorem bet_swap (p a b : List Int) : Bet a b p ↔ Bet b a p := by rw [bet_iff, bet_iff, betS_swap]
theorem bet_one {a p : List Int} (h : Bet a a p) : rd a 0 = rd p 0 ∧ rd a 1 = rd p 1 := by
  obtain ⟨_, h1, h2⟩ := h
  unfold mn mx at h1 h2
  simp only [Int.lt_irrefl, ↓reduceIte] at h1 h2
  omega
theorem bet_refl (a : List Int) : Bet a a a := by
  unfold Bet mn mx
  simp only [Int.lt_irrefl, ↓reduceIte, Int.le_refl, and_self, and_true]
  exact cr_self a a
theorem side_zero {a b c p : List Int} (hD : cr a b c ≠ 0) (h0 : cr a b p = 0) (h1 : 0 ≤ cr b c p) (h2 : 0 ≤ cr c a p) : Bet a b p := by
  rw [bet_iff]
  refine ⟨h0, ?_⟩
  have hs := cr_sum a b c p
  have hD' : 0 < cr a b c := by omega
  have ex : cr a b c * (rd p 0 - rd a 0) = cr c a p * (rd b 0 - rd a 0) + cr a b p * (rd c 0 - rd a 0) := by unfold cr; grind
  have ex2 : cr a b c * (rd p 0 - rd b 0) = cr b c p * (rd a 0 - rd b 0) + cr a b p * (rd c 0 - rd b 0) := by unfold cr; grind
  have ey : cr a b c * (rd p 1 - rd a 1) = cr c a p * (rd b 1 - rd a 1) + cr a b p * (rd c 1 - rd a 1) := by unfold cr; grind
  have ey2 : cr a b c * (rd p 1 - rd b 1) = cr b c p * (rd a 1 - rd b 1) + cr a b p * (rd c 1 - rd b 1) := by unfold cr; grind
  rw [h0, Int.zero_mul, Int.add_zero] at ex ex2 ey ey2
  have key : ∀ {D e f x1 x2 d : Int}, 0 < D → 0 ≤ e → 0 ≤ f → D * x1 = e * d → D * x2 = f * (-d) → x1 * x2 ≤ 0 := by
    intro D e f x1 x2 d hD he hf g1 g2
    rcases ltge 0 (x1 * x2) with h | h
    · exfalso
      have h3 : D * D * (x1 * x2) = -(e * f * (d * d)) := by grind
      have h4 : 0 < D * D * (x1 * x2) := Int.mul_pos (Int.mul_pos hD hD) h
      have h5 : 0 ≤ e * f * (d * d) := Int.mul_nonneg (Int.mul_nonneg he hf) (sq_nn d)
      omega
    · exact h
  have k1 := key (D := cr a b c) (d := rd b 0 - rd a 0) (x1 := rd p 0 - rd a 0) (x2 := rd p 0 - rd b 0) hD' h2 h1 ex (by rw [ex2]; congr 1; omega)
  have k2 := key (D := cr a b c) (d := rd b 1 - rd a 1) (x1 := rd p 1 - rd a 1) (x2 := rd p 1 - rd b 1) hD' h2 h1 ey (by rw [ey2]; congr 1; omega)
  omega
/-- In the triangle, as the program tells it. -/
def InT (a b c p : List Int) : Prop := Bet a b p ∨ Bet b c p ∨ Bet c a p ∨ Str a b c p
instance (a b c p : List Int) : Decidable (InT a b c p) := by unfold InT; infer_instance
theorem inT_of_wk {a b c p : List Int} (h : Wk p a b c) : InT a b c p := by
  obtain ⟨hD, h⟩ := h
  have hs := cr_sum a b c p
  rcases h with ⟨h1, h2, h3⟩ | ⟨h1, h2, h3⟩
  · by_cases e1 : cr a b p = 0
    · exact .inl (side_zero hD e1 h2 h3)
    · by_cases e2 : cr b c p = 0
      · exact .inr (.inl (side_zero (a := b) (b := c) (c := a) (by rw [cr_rot]; exact hD) e2 h3 h1))
      · by_cases e3 : cr c a p = 0
        · exact .inr (.inr (.inl (side_zero (a := c) (b := a) (c := b) (by rw [cr_rot, cr_rot]; exact hD) e3 h1 h2)))
        · exact .inr (.inr (.inr (.inl ⟨by omega, by omega, by omega⟩)))
  · have s1 := cr_swap a b p
    have s2 := cr_swap b c p
    have s3 := cr_swap c a p
    have hD2 : cr b a c ≠ 0 := by rw [cr_swap]; omega
    by_cases e1 : cr a b p = 0
    · exact .inl ((bet_swap p a b).2 (side_zero (a := b) (b := a) (c := c) hD2 (by omega) (by omega) (by omega)))
    · by_cases e2 : cr b c p = 0
      · exact .inr (.inl ((bet_swap p b c).2 (side_zero (a := c) (b := b) (c := a) (by rw [cr_cba]; omega) (by omega) (by omega) (by omega))))
      · by_cases e3 : cr c a p = 0
        · exact .inr (.inr (.inl ((bet_swap p c a).2 (side_zero (a := a) (b := c) (c := b) (by rw [cr_acb]; omega) (by omega) (by omega) (by omega)))))
        · exact .inr (.inr (.inr (.inr ⟨by omega, by omega, by omega⟩)))
theorem wk_of_str {a b c p : List Int} (h : Str a b c p) : Wk p a b c := by
  have hs := cr_sum a b c p
  rcases h with ⟨h1, h2, h3⟩ | ⟨h1, h2, h3⟩
  · exact ⟨by omega, .inl ⟨by omega, by omega, by omega⟩⟩
  · exact ⟨by omega, .inr ⟨by omega, by omega, by omega⟩⟩
theorem wk_rot {a b c p : List Int} (h : Wk p a b c) : Wk p b c a := by
  obtain ⟨hD, h⟩ := h
  exact ⟨by rw [cr_rot]; exact hD, by omega⟩
theorem wk_swap {a b c p : List Int} (h : Wk p a b c) : Wk p b a c := by
  obtain ⟨hD, h⟩ := h
  have s1 := cr_swap a b p
  have s2 := cr_swap b c p
  have s3 := cr_swap c a p
  exact ⟨by rw [cr_swap]; omega, by omega⟩
end Go.Proofs.Ytpliebmaagoahaa.Q
