/- Renumbering the items of a set: the program's and the reference's; conditions: as each theorem states. -/
import Derived.Test.YtniehinnbdcafaaCFnExactBehindSetQFam
import Derived.Test.YtniehinnbdcafaaCFnExactBehindSetP4
namespace Go.Proofs.Ytniehinnbdcafaa.Q
open Go.RowKit Go.Proofs.YtniehinnbdcafaaW.PrintWords Go.Proofs.YtniehinnbdcafaaW.PrintLast Go.Proofs.YtniehinnbdcafaaW.PrintMore Go.Proofs.Ytniehinnbdcafaa.P
set_option linter.unusedVariables false
set_option linter.unusedSimpArgs false

theorem shl0 {n : Nat} (h : n ≤ 61) : shl .i64 0 (n : Int) = 0 := by
  unfold shl
  rw [Int.toNat_natCast, show IntKind.i64.bits = 64 from rfl, Nat.min_eq_left (by omega), Int.zero_mul]
  rfl
/-- The items of a list that a set has, renumbered from j on. -/
def sqL (x : Nat) : List Nat → Nat → Nat → Nat
  | [], _, s => s
  | i :: r, j, s => sqL x r (j + 1) (if x.testBit i then s ||| 2 ^ j else s)
def sqN (x q : Nat) : Nat := sqL x (itemsN q) 0 0
theorem sqL_lt {x : Nat} : ∀ {l : List Nat} {j s : Nat}, j + l.length ≤ 7 → s < 128 → sqL x l j s < 128
  | [], _, s, _, hs => hs
  | i :: r, j, s, hj, hs => by
    simp only [List.length_cons] at hj
    have hp2 : 2 ^ j < 128 := pow_lt_128 (by omega)
    unfold sqL
    refine sqL_lt (l := r) (by omega) ?_
    by_cases hb : x.testBit i
    · rw [if_pos hb]; exact Nat.or_lt_two_pow (n := 7) hs hp2
    · rw [if_neg hb]; exact hs
theorem itemsN_len (q : Nat) : (itemsN q).length ≤ 7 := by
  unfold itemsN; exact Nat.le_trans (List.length_filter_le _ _) (by simp)
theorem sqN_lt (x q : Nat) : sqN x q < 128 := sqL_lt (by have := itemsN_len q; omega) (by omega)
theorem squeezed_loop {x : Nat} (hx : x < 128) (L : List Nat) (hL : ∀ i ∈ L, i < 7) (hl : L.length ≤ 7) : ∀ (rest pre : List Nat) (s : Nat), pre ++ rest = L → s < 128 →
    Ev (fun k => impl_squeezed.l0 k (x : Int) (s : Int) (castL L) (L.length : Int) (pre.length : Int)) ((sqL x rest pre.length s : Nat) : Int) := by
  intro rest
  induction rest with
  | nil =>
    intro pre s e hs
    obtain rfl : pre = L := by simpa using e
    refine Ev.step (fun k => by rw [impl_squeezed.l0]) ?_
    simp only [show ¬ ((pre.length : Int) < (pre.length : Int)) from by omega, ↓reduceIte]
    exact Ev.some _
  | cons i rest ih =>
    intro pre s e hs
    have hi : i < 7 := hL i (by rw [← e]; simp)
    have hlen : L.length = pre.length + (rest.length + 1) := by rw [← e]; simp
    have hp2 : 2 ^ pre.length < 128 := pow_lt_128 (by omega)
    have er : rd (castL L) (pre.length : Int) = (i : Int) := by rw [← e]; exact rd_castL_mid _ _ _
    have hn := fun s' hs' => ih (pre ++ [i]) s' (by simp [e]) hs'
    simp only [List.length_append, List.length_singleton] at hn
    refine Ev.step (fun k => by rw [impl_squeezed.l0]) ?_
    simp only [show ((pre.length : Int) < (L.length : Int)) from by omega, show (0 : Int) ≤ (pre.length : Int) from by omega, castL_length, er, show (0 : Int) ≤ (i : Int) from by omega, bitAnd (show x < 2 ^ 62 from by omega) (show i ≤ 64 from by omega), ↓reduceIte]
    rw [wnext (n := L.length) (by omega) (by omega)]
    cases hb : x.testBit i with
    | true =>
      simp only [↓reduceIte, shl1 (show pre.length ≤ 61 from by omega), bOr (show s < 2 ^ 62 from by omega) (show 2 ^ pre.length < 2 ^ 62 from by omega)]
      exact (hn _ (Nat.or_lt_two_pow (n := 7) hs hp2)).eq (by simp [sqL, hb])
    | false =>
      have b0 : Go.bits .or .i64 (s : Int) 0 = (s : Int) := by
        have := bOr (a := s) (b := 0) (by omega) (by omega)
        simpa using this
      simp only [↓reduceIte, Bool.false_eq_true, shl0 (show pre.length ≤ 61 from by omega), b0]
      exact (hn _ hs).eq (by simp [sqL, hb])
theorem squeezed_ev {x q : Nat} (hx : x < 128) (hq : q < 128) : Ev (fun k => impl_squeezed.f k (x : Int) (q : Int)) ((sqN x q : Nat) : Int) := by
  unfold impl_squeezed.f
  refine Ev.bind (items_ev hq) ?_
  have := squeezed_loop hx (itemsN q) (fun i hi => (mem_itemsN.1 hi).1) (itemsN_len q) (itemsN q) [] 0 rfl (by omega)
  simpa [sqN] using this
theorem numbered_loop {x q : Nat} (hx : x < 128) (hq : q < 128) : ∀ d i j s : Nat, i + d = 7 → j ≤ i → s < 128 →
    Ev (fun k => spec_spNumbered.l0 k (x : Int) (q : Int) (s : Int) (j : Int) (i : Int)) ((sqL x ((List.range' i d).filter q.testBit) j s : Nat) : Int) := by
  intro d
  induction d with
  | zero =>
    intro i j s h hj hs
    obtain rfl : i = 7 := by omega
    refine Ev.step (fun k => by rw [spec_spNumbered.l0]) ?_
    simp only [show ¬ (((7 : Nat) : Int) < 7) from by omega, ↓reduceIte]
    exact Ev.some _
  | succ d ih =>
    intro i j s h hj hs
    have hi : i < 7 := by omega
    have hp2 : 2 ^ j < 128 := pow_lt_128 (by omega)
    refine Ev.step (fun k => by rw [spec_spNumbered.l0]) ?_
    simp only [show ((i : Int) < 7) from by omega, spIn_eq q i (by omega), spIn_eq x i (by omega), Option.bind_some, ↓reduceIte, show (0 : Int) ≤ (j : Int) from by omega, shl1 (show j ≤ 61 from by omega), bOr (show s < 2 ^ 62 from by omega) (show 2 ^ j < 2 ^ 62 from by omega)]
    rw [wnext (i := i) (n := 7) hi (by omega), wnext (i := j) (n := 7) (by omega) (by omega), List.range'_succ]
    cases hb : q.testBit i with
    | false =>
      simp only [↓reduceIte, Bool.false_eq_true]
      rw [List.filter_cons_of_neg (by simp [hb])]
      exact ih (i + 1) j s (by omega) (by omega) hs
    | true =>
      simp only [↓reduceIte]
      rw [List.filter_cons_of_pos hb]
      cases hc : x.testBit i with
      | true =>
        simp only [↓reduceIte, sqL, hc]
        exact ih (i + 1) (j + 1) _ (by omega) (by omega) (Nat.or_lt_two_pow (n := 7) hs hp2)
      | false =>
        simp only [↓reduceIte, sqL, hc, Bool.false_eq_true]
        exact ih (i + 1) (j + 1) _ (by omega) (by omega) hs
theorem numbered_ev {x q : Nat} (hx : x < 128) (hq : q < 128) : Ev (fun k => spec_spNumbered.f k (x : Int) (q : Int)) ((sqN x q : Nat) : Int) := by
  unfold spec_spNumbered.f
  have := numbered_loop hx hq 7 0 0 0 rfl (by omega) (by omega)
  simpa [sqN, itemsN, List.range_eq_range'] using this
theorem sqL_and (x q : Nat) : ∀ (l : List Nat) (j s : Nat), (∀ i ∈ l, q.testBit i = true) → sqL (x &&& q) l j s = sqL x l j s
  | [], _, _, _ => rfl
  | i :: r, j, s, h => by
    have hi := h i (by simp)
    simp only [sqL, Nat.testBit_and, hi, Bool.and_true]
    exact sqL_and x q r _ _ (fun k hk => h k (by simp [hk]))
theorem sqN_and (x q : Nat) : sqN (x &&& q) q = sqN x q := sqL_and x q _ 0 0 (fun i hi => (mem_itemsN.1 hi).2)
end Go.Proofs.Ytniehinnbdcafaa.Q
