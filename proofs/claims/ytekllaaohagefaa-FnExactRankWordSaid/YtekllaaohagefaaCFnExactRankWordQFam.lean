/- The program's family of sets, its inner fringe; conditions: as each theorem states. -/
import Derived.Test.YtekllaaohagefaaCFnExactRankWordQSet
import Derived.Test.YtekllaaohagefaaCFnExactRankWordP4
namespace Go.Proofs.Ytekllaaohagefaa.Q
open Go.RowKit Go.Proofs.YtekllaaohagefaaW.PrintWords Go.Proofs.YtekllaaohagefaaW.PrintLast Go.Proofs.YtekllaaohagefaaW.PrintMore Go.Proofs.Ytekllaaohagefaa.P
set_option linter.unusedVariables false
set_option linter.unusedSimpArgs false

/-- The family whose sets are told. -/
def famN (p : Nat → Bool) : List Bool := (List.range 128).map p
theorem famN_length (p : Nat → Bool) : (famN p).length = 128 := by simp [famN]
theorem famN_get (p : Nat → Bool) {x : Nat} (hx : x < 128) : rdOf false (famN p) (x : Int) = p x := by
  rw [rdOf_nat _ _ _ (by rw [famN_length]; exact hx)]; simp [famN]
theorem famN_none : famN (fun _ => false) = List.replicate 128 false := by decide
theorem famN_set (p : Nat → Bool) (x : Nat) : (famN p).set x true = famN (fun y => p y || y == x) := by
  unfold famN
  apply List.ext_getElem
  · simp
  · intro i h1 h2
    rw [List.getElem_set]
    by_cases h : x = i
    · subst h; simp
    · have h' : ¬ i = x := fun e => h e.symm
      simp [h, h']
theorem famN_congr {p q : Nat → Bool} (h : ∀ x, x < 128 → p x = q x) : famN p = famN q := by
  unfold famN; apply List.map_congr_left; intro x hx; exact h x (List.mem_range.1 hx)

theorem family_loop (T : List Nat) (hT : ∀ x ∈ T, x < 128) (hl : T.length ≤ 1099511627776) : ∀ rest pre : List Nat, pre ++ rest = T →
    Ev (fun k => impl_Space_family.l0 k (famN fun y => decide (y ∈ pre)) (castL T) (T.length : Int) (pre.length : Int)) (famN fun y => decide (y ∈ T)) := by
  intro rest
  induction rest with
  | nil =>
    intro pre h
    obtain rfl : pre = T := by simpa using h
    refine Ev.step (fun k => by rw [impl_Space_family.l0]) ?_
    simp only [show ¬ ((pre.length : Int) < (pre.length : Int)) from by omega, ↓reduceIte]
    exact Ev.some _
  | cons x rest ih =>
    intro pre h
    have hx : x < 128 := hT x (by rw [← h]; simp)
    have hlen : T.length = pre.length + (rest.length + 1) := by rw [← h]; simp
    have e : rd (castL T) (pre.length : Int) = (x : Int) := by rw [← h]; exact rd_castL_mid _ _ _
    refine Ev.step (fun k => by rw [impl_Space_family.l0]) ?_
    simp only [show ((pre.length : Int) < (T.length : Int)) from by omega, show (0 : Int) ≤ (pre.length : Int) from by omega, castL_length, e, famN_length,
      show (0 : Int) ≤ (x : Int) from by omega, show ((x : Int) < ((128 : Nat) : Int)) from by omega, show ((x : Int) < 128) from by omega, ↓reduceIte, Int.toNat_natCast, famN_set]
    rw [wnext (n := T.length) (by omega) hl]
    have := ih (pre ++ [x]) (by simp [h])
    refine Ev.congr (fun k => ?_) this
    rw [List.length_append, List.length_singleton]
    congr 1
    apply famN_congr
    intro y _
    simp [Bool.decide_or, BEq.beq, instBEqOfDecidableEq]
theorem family_ev (n : Int) (T : List Nat) (hT : ∀ x ∈ T, x < 128) (hl : T.length ≤ 1099511627776) : Ev (fun k => impl_Space_family.f k n (castL T)) (famN fun y => decide (y ∈ T)) := by
  unfold impl_Space_family.f
  have h := family_loop T hT hl T [] rfl
  simpa [famN_none] using h

/-- Sums of the items for which something holds. -/
def sumN (p : Nat → Bool) (n : Nat) : Nat := (List.range n).foldl (fun s i => if p i then s ||| 2 ^ i else s) 0
theorem sumN_succ (p : Nat → Bool) (n : Nat) : sumN p (n + 1) = if p n then sumN p n ||| 2 ^ n else sumN p n := by
  unfold sumN; rw [List.range_succ, List.foldl_append]; rfl
theorem sumN_testBit (p : Nat → Bool) (n i : Nat) : (sumN p n).testBit i = (decide (i < n) && p i) := by
  induction n with
  | zero => simp [sumN]
  | succ n ih =>
    rw [sumN_succ]
    by_cases hi : i = n
    · subst hi
      by_cases hp : p i = true
      · rw [if_pos hp, Nat.testBit_or, Nat.testBit_two_pow]; simp [hp]
      · rw [if_neg hp, ih]; simp [hp]
    · have e : decide (i < n + 1) = decide (i < n) := by
        by_cases h : i < n
        · simp [h]; omega
        · have : ¬ i < n + 1 := by omega
          simp [h, this]
      rw [e, ← ih]
      by_cases hp : p n = true
      · rw [if_pos hp, Nat.testBit_or, Nat.testBit_two_pow]
        have : ¬ n = i := fun e => hi e.symm
        simp [this]
      · rw [if_neg hp]
theorem sumN_lt (p : Nat → Bool) (n : Nat) : sumN p n < 2 ^ n := by
  apply Nat.lt_pow_two_of_testBit
  intro i hi
  rw [sumN_testBit]; simp; omega
/-- The same over a list of items. -/
def sumL (p : Nat → Bool) (l : List Nat) (s : Nat) : Nat := l.foldl (fun s i => if p i then s ||| 2 ^ i else s) s
theorem sumL_testBit (p : Nat → Bool) (l : List Nat) (s i : Nat) : (sumL p l s).testBit i = (s.testBit i || (decide (i ∈ l) && p i)) := by
  induction l generalizing s with
  | nil => simp [sumL]
  | cons a l ih =>
    have e : sumL p (a :: l) s = sumL p l (if p a then s ||| 2 ^ a else s) := rfl
    rw [e, ih]
    by_cases hp : p a = true
    · rw [if_pos hp, Nat.testBit_or, Nat.testBit_two_pow]
      by_cases ha : a = i
      · subst ha; simp [hp]
      · have : ¬ i = a := fun e => ha e.symm
        simp [ha, this]
    · rw [if_neg hp]
      by_cases ha : a = i
      · subst ha; simp [hp]
      · have : ¬ i = a := fun e => ha e.symm
        simp [this]
theorem sumL_items (p : Nat → Bool) (x : Nat) : sumL p (itemsN x) 0 = sumN (fun i => x.testBit i && p i) 7 := by
  apply Nat.eq_of_testBit_eq
  intro i
  rw [sumL_testBit, sumN_testBit, Nat.zero_testBit, Bool.false_or]
  by_cases h : i ∈ itemsN x
  · have := mem_itemsN.1 h; simp [h, this]
  · rw [show decide (i ∈ itemsN x) = false from by simpa using h, Bool.false_and]
    by_cases hi : i < 7
    · have : x.testBit i = false := by
        cases hb : x.testBit i with
        | false => rfl
        | true => exact absurd (mem_itemsN.2 ⟨hi, hb⟩) h
      simp [this]
    · simp [hi]

/-- The inner fringe. -/
def innN (p : Nat → Bool) (x : Nat) : Nat := sumN (fun i => x.testBit i && p (andn x (2 ^ i))) 7
theorem inner_loop (p : Nat → Bool) (x : Nat) (hx : x < 128) (L : List Nat) (hL : ∀ i ∈ L, i < 7) (hl : L.length ≤ 1099511627776) : ∀ (rest pre : List Nat) (s : Nat), pre ++ rest = L → s < 128 →
    Ev (fun k => impl_family_inner.l0 k (famN p) (x : Int) (s : Int) (castL L) (L.length : Int) (pre.length : Int)) ((sumL (fun i => p (andn x (2 ^ i))) rest s : Nat) : Int) := by
  intro rest
  induction rest with
  | nil =>
    intro pre s h hs
    obtain rfl : pre = L := by simpa using h
    refine Ev.step (fun k => by rw [impl_family_inner.l0]) ?_
    simp only [show ¬ ((pre.length : Int) < (pre.length : Int)) from by omega, ↓reduceIte]
    exact Ev.some _
  | cons i rest ih =>
    intro pre s h hs
    have hi : i < 7 := hL i (by rw [← h]; simp)
    have hp2 : 2 ^ i < 128 := pow_lt_128 hi
    have hlen : L.length = pre.length + (rest.length + 1) := by rw [← h]; simp
    have e : rd (castL L) (pre.length : Int) = (i : Int) := by rw [← h]; exact rd_castL_mid _ _ _
    have hd : andn x (2 ^ i) < 128 := andn_lt hx
    have b1 : Go.bits .andNot .i64 (x : Int) ((2 ^ i : Nat) : Int) = ((andn x (2 ^ i) : Nat) : Int) := bAndn (by omega) (by omega)
    have b2 : Go.bits .or .i64 (s : Int) ((2 ^ i : Nat) : Int) = ((s ||| 2 ^ i : Nat) : Int) := bOr (by omega) (by omega)
    have hso : s ||| 2 ^ i < 128 := Nat.or_lt_two_pow (n := 7) hs hp2
    refine Ev.step (fun k => by rw [impl_family_inner.l0]) ?_
    simp only [show ((pre.length : Int) < (L.length : Int)) from by omega, show (0 : Int) ≤ (pre.length : Int) from by omega, castL_length, e, famN_length, shl1 (show i ≤ 61 from by omega), b1, b2,
      show (0 : Int) ≤ (i : Int) from by omega, show (0 : Int) ≤ ((andn x (2 ^ i) : Nat) : Int) from by omega, show (((andn x (2 ^ i) : Nat) : Int) < ((128 : Nat) : Int)) from by omega, show (((andn x (2 ^ i) : Nat) : Int) < 128) from by omega, ↓reduceIte, famN_get _ hd]
    rw [wnext (n := L.length) (by omega) hl]
    by_cases hb : p (andn x (2 ^ i)) = true
    · have := ih (pre ++ [i]) (s ||| 2 ^ i) (by simp [h]) hso
      rw [List.length_append, List.length_singleton] at this
      simp only [hb, ↓reduceIte]
      exact this.eq (by simp [sumL, hb])
    · have := ih (pre ++ [i]) s (by simp [h]) hs
      rw [List.length_append, List.length_singleton] at this
      simp only [hb, ↓reduceIte, Bool.false_eq_true]
      exact this.eq (by simp [sumL, hb])
theorem inner_ev (p : Nat → Bool) {x : Nat} (hx : x < 128) : Ev (fun k => impl_family_inner.f k (famN p) (x : Int)) ((innN p x : Nat) : Int) := by
  unfold impl_family_inner.f
  refine Ev.bind (items_ev hx) ?_
  have hl7 : (itemsN x).length ≤ 7 := by
    unfold itemsN; exact Nat.le_trans (List.length_filter_le _ _) (by simp)
  have h := inner_loop p x hx (itemsN x) (fun i hi => (mem_itemsN.1 hi).1) (by omega) (itemsN x) [] 0 rfl (by omega)
  rw [sumL_items] at h
  simpa [innN] using h
end Go.Proofs.Ytekllaaohagefaa.Q
