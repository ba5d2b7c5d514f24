/- All simplicial points of a set: the program; conditions: as each theorem states. -/
import Derived.Test.YtnpfkbfmipnofaaCFnExactChordalSpaceQSimp
import Derived.Test.YtnpfkbfmipnofaaCFnExactChordalSpaceP5
namespace Go.Proofs.Ytnpfkbfmipnofaa.Q
open Go.RowKit Go.Proofs.YtnpfkbfmipnofaaW.PrintWords Go.Proofs.YtnpfkbfmipnofaaW.PrintLast Go.Proofs.YtnpfkbfmipnofaaW.PrintMore Go.Proofs.Ytnpfkbfmipnofaa.P
set_option linter.unusedVariables false
set_option linter.unusedSimpArgs false

theorem simplicial_loop {T : List Nat} (h : NetN T) {c : Nat} (hc : c < 128) (L : List Nat) (hL : ∀ i ∈ L, i < T.length) (hl : L.length ≤ 1099511627776) : ∀ (rest pre : List Nat) (s : Nat), pre ++ rest = L → s < 128 →
    Ev (fun k => impl_Net_simplicial.l0 k (c : Int) (s : Int) (castL L) (L.length : Int) (pre.length : Int) (castL T)) ((sumL (fun v => simpN T v c) rest s : Nat) : Int) := by
  intro rest
  have hl7 := h.l7
  induction rest with
  | nil =>
    intro pre s e hs
    obtain rfl : pre = L := by simpa using e
    refine Ev.step (fun k => by rw [impl_Net_simplicial.l0]) ?_
    simp only [show ¬ ((pre.length : Int) < (pre.length : Int)) from by omega, ↓reduceIte]
    exact Ev.some _
  | cons i rest ih =>
    intro pre s e hs
    have hi : i < T.length := hL i (by rw [← e]; simp)
    have hp2 : 2 ^ i < 128 := pow_lt_128 (by omega)
    have hlen : L.length = pre.length + (rest.length + 1) := by rw [← e]; simp
    have er : rd (castL L) (pre.length : Int) = (i : Int) := by rw [← e]; exact rd_castL_mid _ _ _
    have hn := fun s' hs' => ih (pre ++ [i]) s' (by simp [e]) hs'
    simp only [List.length_append, List.length_singleton] at hn
    refine Ev.step (fun k => by rw [impl_Net_simplicial.l0]) ?_
    simp only [show ((pre.length : Int) < (L.length : Int)) from by omega, show (0 : Int) ≤ (pre.length : Int) from by omega, castL_length, er, show (0 : Int) ≤ (i : Int) from by omega, shl1 (show i ≤ 61 from by omega), bOr (show s < 2 ^ 62 from by omega) (show 2 ^ i < 2 ^ 62 from by omega), ↓reduceIte]
    refine Ev.bind (isSimp_ev h hi hc) ?_
    rw [wnext (n := L.length) (by omega) hl]
    cases hb : simpN T i c with
    | true => simp only [↓reduceIte]; exact (hn _ (Nat.or_lt_two_pow (n := 7) hs hp2)).eq (by simp [sumL, hb])
    | false => simp only [↓reduceIte, Bool.false_eq_true]; exact (hn _ hs).eq (by simp [sumL, hb])
def simpOf (T : List Nat) (c n : Nat) : Nat := sumN (fun i => c.testBit i && simpN T i c) n
theorem simplicial_ev {T : List Nat} (h : NetN T) {c : Nat} (hc : c < 2 ^ T.length) : Ev (fun k => impl_Net_simplicial.f k (castL T) (c : Int)) ((simpOf T c T.length : Nat) : Int) := by
  have hl7 := h.l7
  have h2 : 2 ^ T.length ≤ 2 ^ 7 := Nat.pow_le_pow_right (by omega) hl7
  have hc2 : c < 128 := by omega
  have hbit : ∀ i, T.length ≤ i → c.testBit i = false := fun i hi => Nat.testBit_lt_two_pow (Nat.lt_of_lt_of_le hc (Nat.pow_le_pow_right (by omega) hi))
  unfold impl_Net_simplicial.f
  refine Ev.bind (items_ev hc2) ?_
  have hll : (itemsN c).length ≤ 7 := by
    unfold itemsN; exact Nat.le_trans (List.length_filter_le _ _) (by simp)
  have hL : ∀ i ∈ itemsN c, i < T.length := by
    intro i hi
    have h1 := (mem_itemsN.1 hi).2
    rcases Nat.lt_or_ge i T.length with h3 | h3
    · exact h3
    · rw [hbit i h3] at h1; exact absurd h1 (by decide)
  have hh := simplicial_loop h hc2 (itemsN c) hL (by omega) (itemsN c) [] 0 rfl (by omega)
  rw [sumL_items] at hh
  refine Ev.eq (r := ((sumN (fun i => c.testBit i && simpN T i c) 7 : Nat) : Int)) (by simpa using hh) ?_
  congr 1
  unfold simpOf
  apply Nat.eq_of_testBit_eq
  intro i
  rw [sumN_testBit, sumN_testBit]
  rcases Nat.lt_or_ge i T.length with h3 | h3
  · simp [h3, show i < 7 from by omega]
  · simp [hbit i h3]
end Go.Proofs.Ytnpfkbfmipnofaa.Q
