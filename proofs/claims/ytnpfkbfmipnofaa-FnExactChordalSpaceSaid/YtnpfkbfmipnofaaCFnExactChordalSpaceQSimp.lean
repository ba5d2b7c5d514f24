/- Simplicial members of a net: the program's and the reference's; conditions: as each theorem states. -/
import Derived.Test.YtnpfkbfmipnofaaCFnExactChordalSpaceQNet
import Derived.Test.YtnpfkbfmipnofaaCFnExactChordalSpaceQFam
import Derived.Test.YtnpfkbfmipnofaaCFnExactChordalSpaceP5
namespace Go.Proofs.Ytnpfkbfmipnofaa.Q
open Go.RowKit Go.Proofs.YtnpfkbfmipnofaaW.PrintWords Go.Proofs.YtnpfkbfmipnofaaW.PrintLast Go.Proofs.YtnpfkbfmipnofaaW.PrintMore Go.Proofs.Ytnpfkbfmipnofaa.P
set_option linter.unusedVariables false
set_option linter.unusedSimpArgs false

theorem partN_eq {a b : Nat} (ha : a < 2 ^ 62) (hb : b < 2 ^ 62) : impl_part.f (a : Int) (b : Int) = some (decide (andn a b = 0)) := by
  unfold impl_part.f
  rw [bAndn ha hb, natBeq0]
  rfl
/-- Are the members of a set next to one another? -/
def cliqP (T : List Nat) (q i : Nat) : Bool := decide (andn (andn q (2 ^ i)) (T.getD i 0) = 0)
def simpN (T : List Nat) (v c : Nat) : Bool := (itemsN (T.getD v 0 &&& c)).all (cliqP T (T.getD v 0 &&& c))
theorem isSimp_loop {T : List Nat} (h : NetN T) (q : Nat) (hq : q < 128) (L : List Nat) (hL : ∀ i ∈ L, i < T.length) (hl : L.length ≤ 1099511627776) : ∀ rest pre : List Nat, pre ++ rest = L →
    Ev (fun k => impl_Net_isSimplicial.l0 k (q : Int) (castL L) (L.length : Int) (pre.length : Int) (castL T)) (rest.all (cliqP T q)) := by
  intro rest
  have hl7 := h.l7
  induction rest with
  | nil =>
    intro pre e
    obtain rfl : pre = L := by simpa using e
    refine Ev.step (fun k => by rw [impl_Net_isSimplicial.l0]) ?_
    simp only [show ¬ ((pre.length : Int) < (pre.length : Int)) from by omega, ↓reduceIte]
    exact Ev.some _
  | cons i rest ih =>
    intro pre e
    have hi : i < T.length := hL i (by rw [← e]; simp)
    have hp2 : 2 ^ i < 128 := pow_lt_128 (by omega)
    have hlen : L.length = pre.length + (rest.length + 1) := by rw [← e]; simp
    have er : rd (castL L) (pre.length : Int) = (i : Int) := by rw [← e]; exact rd_castL_mid _ _ _
    have hd : andn q (2 ^ i) < 128 := andn_lt hq
    have hg := h.get hi
    have hn := ih (pre ++ [i]) (by simp [e])
    simp only [List.length_append, List.length_singleton] at hn
    refine Ev.step (fun k => by rw [impl_Net_isSimplicial.l0]) ?_
    simp only [show ((pre.length : Int) < (L.length : Int)) from by omega, show (0 : Int) ≤ (pre.length : Int) from by omega, castL_length, er, show (0 : Int) ≤ (i : Int) from by omega, show (i : Int) < (T.length : Int) from by omega, rd_castL T hi, shl1 (show i ≤ 61 from by omega),
      bAndn (show q < 2 ^ 62 from by omega) (show 2 ^ i < 2 ^ 62 from by omega), partN_eq (show andn q (2 ^ i) < 2 ^ 62 from by omega) (show T.getD i 0 < 2 ^ 62 from by omega), Option.bind_some, decide_eq_true_eq, ↓reduceIte]
    rw [wnext (n := L.length) (by omega) hl]
    by_cases hb : andn (andn q (2 ^ i)) (T.getD i 0) = 0
    · simp only [hb, ↓reduceIte]; exact hn.eq (by simp only [List.all_cons, cliqP, hb, decide_true, Bool.true_and])
    · simp only [hb, ↓reduceIte]; exact (Ev.some _).eq (by simp only [List.all_cons, cliqP, hb, decide_false, Bool.false_and])
theorem isSimp_ev {T : List Nat} (h : NetN T) {v c : Nat} (hv : v < T.length) (hc : c < 128) : Ev (fun k => impl_Net_isSimplicial.f k (castL T) (v : Int) (c : Int)) (simpN T v c) := by
  unfold impl_Net_isSimplicial.f
  have hg := h.get hv
  have hq : T.getD v 0 &&& c < 128 := Nat.lt_of_le_of_lt Nat.and_le_left hg
  simp only [show (0 : Int) ≤ (v : Int) from by omega, castL_length, show (v : Int) < (T.length : Int) from by omega, rd_castL T hv, bAnd (show T.getD v 0 < 2 ^ 62 from by omega) (show c < 2 ^ 62 from by omega), ↓reduceIte]
  refine Ev.bind (items_ev hq) ?_
  have hl7 : (itemsN (T.getD v 0 &&& c)).length ≤ 7 := by
    unfold itemsN; exact Nat.le_trans (List.length_filter_le _ _) (by simp)
  have hL : ∀ i ∈ itemsN (T.getD v 0 &&& c), i < T.length := by
    intro i hi
    have h1 := (mem_itemsN.1 hi).2
    rw [Nat.testBit_and, Bool.and_eq_true] at h1
    have h2 := h.lt _ (getD_mem hv)
    rcases Nat.lt_or_ge i T.length with h3 | h3
    · exact h3
    · have := Nat.testBit_lt_two_pow (Nat.lt_of_lt_of_le h2 (Nat.pow_le_pow_right (by omega) h3))
      rw [this] at h1; exact absurd h1.1 (by decide)
  have hh := isSimp_loop h _ hq (itemsN (T.getD v 0 &&& c)) hL (by omega) (itemsN (T.getD v 0 &&& c)) [] rfl
  simpa [simpN] using hh
theorem andn_or (q a b : Nat) : andn q (a ||| b) = andn (andn q b) a := by
  apply Nat.eq_of_testBit_eq; intro i
  simp only [testBit_andn, Nat.testBit_or]
  cases q.testBit i <;> cases a.testBit i <;> cases b.testBit i <;> rfl
theorem shSimp_loop {T : List Nat} (h : NetN T) (q : Nat) (hq : q < 128) : ∀ d i : Nat, i + d = T.length →
    Ev (fun k => spec_shSimplicial.l0 k (q : Int) (castL T) (T.length : Int) (i : Int)) (allF (fun i => !q.testBit i || cliqP T q i) i d) := by
  intro d
  have hl7 := h.l7
  induction d with
  | zero =>
    intro i e
    obtain rfl : i = T.length := by omega
    refine Ev.step (fun k => by rw [spec_shSimplicial.l0]) ?_
    simp only [show ¬ ((T.length : Int) < (T.length : Int)) from by omega, ↓reduceIte]
    exact Ev.some _
  | succ d ih =>
    intro i e
    have hi : i < T.length := by omega
    have hp2 : 2 ^ i < 128 := pow_lt_128 (by omega)
    have hg := h.get hi
    have ho : T.getD i 0 ||| 2 ^ i < 128 := Nat.or_lt_two_pow (n := 7) hg hp2
    have hn := ih (i + 1) (by omega)
    refine Ev.step (fun k => by rw [spec_shSimplicial.l0]) ?_
    simp only [show ((i : Int) < (T.length : Int)) from by omega, show (0 : Int) ≤ (i : Int) from by omega, castL_length, spIn_eq q i (by omega), Option.bind_some, rd_castL T hi, shl1 (show i ≤ 61 from by omega), bOr (show T.getD i 0 < 2 ^ 62 from by omega) (show 2 ^ i < 2 ^ 62 from by omega), bAndn (show q < 2 ^ 62 from by omega) (show T.getD i 0 ||| 2 ^ i < 2 ^ 62 from by omega), Int.natCast_eq_zero, andn_or, ↓reduceIte]
    rw [wnext (n := T.length) (by omega) (by omega)]
    cases hb : q.testBit i with
    | false => simp only [↓reduceIte, Bool.false_eq_true]; exact hn.eq (by simp only [allF, hb, Bool.not_false, Bool.true_or, Bool.true_and])
    | true =>
      simp only [↓reduceIte]
      by_cases hc : andn (andn q (2 ^ i)) (T.getD i 0) = 0
      · simp only [hc, ↓reduceIte]; exact hn.eq (by simp only [allF, hb, cliqP, hc, decide_true, Bool.or_true, Bool.true_and])
      · simp only [hc, ↓reduceIte]; exact (Ev.some _).eq (by simp only [allF, hb, cliqP, hc, decide_false, Bool.not_true, Bool.or_false, Bool.false_and])
theorem shSimp_ev {T : List Nat} (h : NetN T) {v c : Nat} (hv : v < T.length) (hc : c < 128) : Ev (fun k => spec_shSimplicial.f k (castL T) (v : Int) (c : Int)) (simpN T v c) := by
  unfold spec_shSimplicial.f
  have hg := h.get hv
  have hl7 := h.l7
  have hq : T.getD v 0 &&& c < 128 := Nat.lt_of_le_of_lt Nat.and_le_left hg
  simp only [show (0 : Int) ≤ (v : Int) from by omega, castL_length, show (v : Int) < (T.length : Int) from by omega, rd_castL T hv, bAnd (show T.getD v 0 < 2 ^ 62 from by omega) (show c < 2 ^ 62 from by omega), ↓reduceIte]
  refine (shSimp_loop h _ hq T.length 0 (by omega)).eq ?_
  rw [Bool.eq_iff_iff, allF0]
  unfold simpN
  rw [List.all_eq_true]
  constructor
  · intro hh i hi
    have h1 := mem_itemsN.1 hi
    rcases Nat.lt_or_ge i T.length with h3 | h3
    · have := hh i h3; rw [h1.2] at this; simpa only [Bool.not_true, Bool.false_or] using this
    · have h2 := h.lt _ (getD_mem hv)
      have h4 := Nat.testBit_lt_two_pow (Nat.lt_of_lt_of_le h2 (Nat.pow_le_pow_right (by omega) h3))
      have h5 := h1.2
      rw [Nat.testBit_and, h4, Bool.false_and] at h5; exact absurd h5 (by decide)
  · intro hh i hi
    cases hb : (T.getD v 0 &&& c).testBit i with
    | false => rfl
    | true => simpa only [Bool.not_true, Bool.false_or] using hh i (mem_itemsN.2 ⟨by omega, hb⟩)
end Go.Proofs.Ytnpfkbfmipnofaa.Q
