/- The extreme items of a set: the program's and the reference's; conditions: as each theorem states. -/
import Derived.Test.YtniehinnbdcafaaCFnExactExtremeOfQHull
import Derived.Test.YtniehinnbdcafaaCFnExactExtremeOfP3
namespace Go.Proofs.Ytniehinnbdcafaa.Q
open Go.RowKit Go.Proofs.YtniehinnbdcafaaW.PrintWords Go.Proofs.YtniehinnbdcafaaW.PrintLast Go.Proofs.YtniehinnbdcafaaW.PrintMore Go.Proofs.Ytniehinnbdcafaa.P
set_option linter.unusedVariables false
set_option linter.unusedSimpArgs false

/-- Is an item of the set outside the hull of the others? -/
def extP (m : Nat) (T : List Nat) (x i : Nat) : Bool := !(hullN m T (andn x (2 ^ i))).testBit i
theorem extreme_loop {m : Nat} {T : List Nat} (h : SpN m T) {x : Nat} (hx : x < 128) (L : List Nat) (hL : ∀ i ∈ L, i < 7) (hl : L.length ≤ 1099511627776) : ∀ (rest pre : List Nat) (s : Nat), pre ++ rest = L → s < 128 →
    Ev (fun k => impl_Space_extreme.l0 k (x : Int) (s : Int) (castL L) (L.length : Int) (pre.length : Int) (m : Int) (castL T)) ((sumL (extP m T x) rest s : Nat) : Int) := by
  intro rest
  induction rest with
  | nil =>
    intro pre s e hs
    obtain rfl : pre = L := by simpa using e
    refine Ev.step (fun k => by rw [impl_Space_extreme.l0]) ?_
    simp only [show ¬ ((pre.length : Int) < (pre.length : Int)) from by omega, ↓reduceIte]
    exact Ev.some _
  | cons i rest ih =>
    intro pre s e hs
    have hi : i < 7 := hL i (by rw [← e]; simp)
    have hp2 : 2 ^ i < 128 := pow_lt_128 hi
    have hlen : L.length = pre.length + (rest.length + 1) := by rw [← e]; simp
    have er : rd (castL L) (pre.length : Int) = (i : Int) := by rw [← e]; exact rd_castL_mid _ _ _
    have hd : andn x (2 ^ i) < 128 := andn_lt hx
    have hh := hullN_lt h.m7 T (andn x (2 ^ i))
    have hn := fun s' hs' => ih (pre ++ [i]) s' (by simp [e]) hs'
    simp only [List.length_append, List.length_singleton] at hn
    refine Ev.step (fun k => by rw [impl_Space_extreme.l0]) ?_
    simp only [show ((pre.length : Int) < (L.length : Int)) from by omega, show (0 : Int) ≤ (pre.length : Int) from by omega, castL_length, er, shl1 (show i ≤ 61 from by omega), bAndn (show x < 2 ^ 62 from by omega) (show 2 ^ i < 2 ^ 62 from by omega), bOr (show s < 2 ^ 62 from by omega) (show 2 ^ i < 2 ^ 62 from by omega),
      show (0 : Int) ≤ (i : Int) from by omega, ↓reduceIte]
    refine Ev.bind (hull_ev h hd) ?_
    simp only [bitAnd (show hullN m T (andn x (2 ^ i)) < 2 ^ 62 from by omega) (show i ≤ 64 from by omega)]
    rw [wnext (n := L.length) (by omega) hl]
    cases hb : (hullN m T (andn x (2 ^ i))).testBit i with
    | true =>
      simp only [↓reduceIte, show ¬ ((1 : Int) = 0) from by omega]
      exact (hn _ hs).eq (by simp [sumL, extP, hb])
    | false =>
      simp only [↓reduceIte, Bool.false_eq_true]
      exact (hn _ (Nat.or_lt_two_pow (n := 7) hs hp2)).eq (by simp [sumL, extP, hb])
/-- The extreme items, looked for among m. -/
def extN (m : Nat) (T : List Nat) (x n : Nat) : Nat := sumN (fun i => x.testBit i && extP m T x i) n
theorem extreme_ev {m : Nat} {T : List Nat} (h : SpN m T) {x : Nat} (hx : x < 128) : Ev (fun k => impl_Space_extreme.f k (m : Int) (castL T) (x : Int)) ((extN m T x 7 : Nat) : Int) := by
  unfold impl_Space_extreme.f
  refine Ev.bind (items_ev hx) ?_
  have hl7 : (itemsN x).length ≤ 7 := by
    unfold itemsN; exact Nat.le_trans (List.length_filter_le _ _) (by simp)
  have hh := extreme_loop h hx (itemsN x) (fun i hi => (mem_itemsN.1 hi).1) (by omega) (itemsN x) [] 0 rfl (by omega)
  rw [sumL_items] at hh
  simpa [extN] using hh
theorem spec_extreme_loop {m : Nat} {T : List Nat} (h : SpN m T) {x : Nat} (hx : x < 128) : ∀ d i : Nat, i + d = m →
    Ev (fun k => spec_ExtremeOf.l0 k (x : Int) ((extN m T x i : Nat) : Int) (i : Int) (m : Int) (castL T)) (((extN m T x m : Nat) : Int), true) := by
  intro d
  have hm7 := h.m7
  induction d with
  | zero =>
    intro i e
    obtain rfl : i = m := by omega
    refine Ev.step (fun k => by rw [spec_ExtremeOf.l0]) ?_
    simp only [show ¬ ((i : Int) < (i : Int)) from by omega, ↓reduceIte]
    exact Ev.some _
  | succ d ih =>
    intro i e
    have hi : i < 7 := by omega
    have hp2 : 2 ^ i < 128 := pow_lt_128 hi
    have hs : extN m T x i < 128 := Nat.lt_trans (sumN_lt _ _) hp2
    have hd : andn x (2 ^ i) < 128 := andn_lt hx
    have b2 : Go.bits .or .i64 ((extN m T x i : Nat) : Int) ((2 ^ i : Nat) : Int) = ((extN m T x i ||| 2 ^ i : Nat) : Int) := bOr (by omega) (by omega)
    have hn := ih (i + 1) (by omega)
    have e1 : extN m T x (i + 1) = if (x.testBit i && extP m T x i) = true then extN m T x i ||| 2 ^ i else extN m T x i := by unfold extN; rw [sumN_succ]
    rw [e1] at hn
    refine Ev.step (fun k => by rw [spec_ExtremeOf.l0]) ?_
    simp only [show ((i : Int) < (m : Int)) from by omega, show (0 : Int) ≤ (i : Int) from by omega, spIn_eq x i (by omega), Option.bind_some, shl1 (show i ≤ 61 from by omega), bAndn (show x < 2 ^ 62 from by omega) (show 2 ^ i < 2 ^ 62 from by omega), b2, ↓reduceIte]
    rw [wnext (n := 7) hi (by omega)]
    by_cases hb : x.testBit i = true
    · simp only [hb, ↓reduceIte]
      refine Ev.bind (spHull_ev h hd) ?_
      simp only [spIn_eq _ i (show i ≤ 64 from by omega), Option.bind_some]
      cases hq : (hullN m T (andn x (2 ^ i))).testBit i with
      | true =>
        simp only [↓reduceIte]
        simpa [extP, hb, hq] using hn
      | false =>
        simp only [↓reduceIte, Bool.false_eq_true]
        simpa [extP, hb, hq] using hn
    · have hb' : x.testBit i = false := by simpa using hb
      simp only [hb', ↓reduceIte, Bool.false_eq_true]
      simpa [hb'] using hn
theorem extN_same {m : Nat} {T : List Nat} (hm : m ≤ 7) {x : Nat} (hx : x < 2 ^ m) : extN m T x 7 = extN m T x m := by
  apply Nat.eq_of_testBit_eq
  intro i
  unfold extN
  rw [sumN_testBit, sumN_testBit]
  by_cases hi : i < m
  · simp [hi, show i < 7 from by omega]
  · have : x.testBit i = false := Nat.testBit_lt_two_pow (Nat.lt_of_lt_of_le hx (Nat.pow_le_pow_right (by omega) (by omega)))
    simp [hi, this]
end Go.Proofs.Ytniehinnbdcafaa.Q
