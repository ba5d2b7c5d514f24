/- All simplicial members of a set: the program's and the reference's; conditions: as each theorem states. -/
import Derived.Test.YtnmpocdpdmkbdaaCFnExactSimplicialOfQSimp
import Derived.Test.YtnmpocdpdmkbdaaCFnExactSimplicialOfP2
namespace Go.Proofs.Ytnmpocdpdmkbdaa.Q
open Go.RowKit Go.Proofs.YtnmpocdpdmkbdaaW.PrintWords Go.Proofs.YtnmpocdpdmkbdaaW.PrintLast Go.Proofs.YtnmpocdpdmkbdaaW.PrintMore Go.Proofs.Ytnmpocdpdmkbdaa.P
set_option linter.unusedVariables false
set_option linter.unusedSimpArgs false

theorem simplicial_loop {T : List Nat} (h : NetN T) {c : Nat} (hc : c < 128) (L : List Nat) (hL : ∀ i ∈ L, i < T.length) (hl : L.length ≤ 1099511627776) : ∀ (rest pre : List Nat) (s : Nat), pre ++ rest = L → s < 128 →
    Ev (fun k => impl_Net_simplicial.l0 k (c : Int) (s : Int) (castL L) (L.length : Int) (pre.length : Int) (castL T)) ((sumL (fun v => simpN T v c) rest s : Nat) : Int) := by
  intro rest
  have hl7 := h.l7
  induction rest with
  | nil =>
    intro pre s e hs
    obtain rfl : pre = L := by simpa using e
    refine Ev.step (fun k => by rw [impl_Net_simplicial.l0]) ?_
    simp only [show ¬ ((pre.length : Int) < (pre.length : Int)) from by omega, ↓reduceIte]
    exact Ev.some _
  | cons i rest ih =>
    intro pre s e hs
    have hi : i < T.length := hL i (by rw [← e]; simp)
    have hp2 : 2 ^ i < 128 := pow_lt_128 (by omega)
    have hlen : L.length = pre.length + (rest.length + 1) := by rw [← e]; simp
    have er : rd (castL L) (pre.length : Int) = (i : Int) := by rw [← e]; exact rd_castL_mid _ _ _
    have hn := fun s' hs' => ih (pre ++ [i]) s' (by simp [e]) hs'
    simp only [List.length_append, List.length_singleton] at hn
    refine Ev.step (fun k => by rw [impl_Net_simplicial.l0]) ?_
    simp only [show ((pre.length : Int) < (L.length : Int)) from by omega, show (0 : Int) ≤ (pre.length : Int) from by omega, castL_length, er, show (0 : Int) ≤ (i : Int) from by omega, shl1 (show i ≤ 61 from by omega), bOr (show s < 2 ^ 62 from by omega) (show 2 ^ i < 2 ^ 62 from by omega), ↓reduceIte]
    refine Ev.bind (isSimp_ev h hi hc) ?_
    rw [wnext (n := L.length) (by omega) hl]
    cases hb : simpN T i c with
    | true => simp only [↓reduceIte]; exact (hn _ (Nat.or_lt_two_pow (n := 7) hs hp2)).eq (by simp [sumL, hb])
    | false => simp only [↓reduceIte, Bool.false_eq_true]; exact (hn _ hs).eq (by simp [sumL, hb])
def simpOf (T : List Nat) (c n : Nat) : Nat := sumN (fun i => c.testBit i && simpN T i c) n
theorem simplicial_ev {T : List Nat} (h : NetN T) {c : Nat} (hc : c < 2 ^ T.length) : Ev (fun k => impl_Net_simplicial.f k (castL T) (c : Int)) ((simpOf T c T.length : Nat) : Int) := by
  have hl7 := h.l7
  have h2 : 2 ^ T.length ≤ 2 ^ 7 := Nat.pow_le_pow_right (by omega) hl7
  have hc2 : c < 128 := by omega
  have hbit : ∀ i, T.length ≤ i → c.testBit i = false := fun i hi => Nat.testBit_lt_two_pow (Nat.lt_of_lt_of_le hc (Nat.pow_le_pow_right (by omega) hi))
  unfold impl_Net_simplicial.f
  refine Ev.bind (items_ev hc2) ?_
  have hll : (itemsN c).length ≤ 7 := by
    unfold itemsN; exact Nat.le_trans (List.length_filter_le _ _) (by simp)
  have hL : ∀ i ∈ itemsN c, i < T.length := by
    intro i hi
    have h1 := (mem_itemsN.1 hi).2
    rcases Nat.lt_or_ge i T.length with h3 | h3
    · exact h3
    · rw [hbit i h3] at h1; exact absurd h1 (by decide)
  have hh := simplicial_loop h hc2 (itemsN c) hL (by omega) (itemsN c) [] 0 rfl (by omega)
  rw [sumL_items] at hh
  refine Ev.eq (r := ((sumN (fun i => c.testBit i && simpN T i c) 7 : Nat) : Int)) (by simpa using hh) ?_
  congr 1
  unfold simpOf
  apply Nat.eq_of_testBit_eq
  intro i
  rw [sumN_testBit, sumN_testBit]
  rcases Nat.lt_or_ge i T.length with h3 | h3
  · simp [h3, show i < 7 from by omega]
  · simp [hbit i h3]
theorem spec_simp_loop {T : List Nat} (h : NetN T) {c : Nat} (hc : c < 128) : ∀ d i : Nat, i + d = T.length →
    Ev (fun k => spec_SimplicialOf.l0 k (c : Int) ((simpOf T c i : Nat) : Int) (T.length : Int) (i : Int) (castL T)) (((simpOf T c T.length : Nat) : Int), true) := by
  intro d
  have hl7 := h.l7
  induction d with
  | zero =>
    intro i e
    obtain rfl : i = T.length := by omega
    refine Ev.step (fun k => by rw [spec_SimplicialOf.l0]) ?_
    simp only [show ¬ ((T.length : Int) < (T.length : Int)) from by omega, ↓reduceIte]
    exact Ev.some _
  | succ d ih =>
    intro i e
    have hi : i < T.length := by omega
    have hp2 : 2 ^ i < 128 := pow_lt_128 (by omega)
    have hs : simpOf T c i < 128 := Nat.lt_trans (sumN_lt _ _) hp2
    have hn := ih (i + 1) (by omega)
    have e1 : simpOf T c (i + 1) = if (c.testBit i && simpN T i c) = true then simpOf T c i ||| 2 ^ i else simpOf T c i := by unfold simpOf; rw [sumN_succ]
    rw [e1] at hn
    refine Ev.step (fun k => by rw [spec_SimplicialOf.l0]) ?_
    simp only [show ((i : Int) < (T.length : Int)) from by omega, show (0 : Int) ≤ (i : Int) from by omega, spIn_eq c i (by omega), Option.bind_some, shl1 (show i ≤ 61 from by omega), bOr (show simpOf T c i < 2 ^ 62 from by omega) (show 2 ^ i < 2 ^ 62 from by omega), ↓reduceIte]
    rw [wnext (n := T.length) (by omega) (by omega)]
    cases hb : c.testBit i with
    | false => simp only [↓reduceIte, Bool.false_eq_true]; simpa [hb] using hn
    | true =>
      simp only [↓reduceIte]
      refine Ev.bind (shSimp_ev h hi hc) ?_
      cases hq : simpN T i c with
      | true => simp only [↓reduceIte]; simpa [hb, hq] using hn
      | false => simp only [↓reduceIte, Bool.false_eq_true]; simpa [hb, hq] using hn
theorem spec_simp_ev {T : List Nat} (h : NetN T) {c : Nat} (hc : c < 128) : Ev (fun k => spec_SimplicialOf.l0 k (c : Int) 0 (T.length : Int) 0 (castL T)) (((simpOf T c T.length : Nat) : Int), true) := by
  simpa [simpOf, sumN] using spec_simp_loop h hc T.length 0 (by omega)
theorem shSet_ev {T : List Nat} (h : NetN T) (hg : Ev (fun k => spec_shGood.f k (castL T)) true) (a : Int) : Ev (fun k => spec_shSet.f k (castL T) a) (decide (0 ≤ a ∧ a ≤ ((2 ^ T.length - 1 : Nat) : Int))) := by
  unfold spec_shSet.f
  refine Ev.bind hg ?_
  have hl7 := h.l7
  simp only [castL_length, pow1 (show T.length ≤ 61 from by omega), l1In_eq, Option.bind_some, ↓reduceIte]
  exact Ev.some _
theorem shSet_no {S : List Int} (hg : Ev (fun k => spec_shGood.f k S) false) (a : Int) : Ev (fun k => spec_shSet.f k S a) false := by
  unfold spec_shSet.f
  refine Ev.bind hg ?_
  simp only [↓reduceIte, Bool.false_eq_true]
  exact Ev.some _
end Go.Proofs.Ytnmpocdpdmkbdaa.Q
