/- The space made of some paths: the program's and the reference's; conditions: as each theorem states. -/
import Derived.Test.YtnpfkbfmipnofaaCFnExactSpaceOfPathsQSpIf
import Derived.Test.YtnpfkbfmipnofaaCFnExactSpaceOfPathsQFamOf
import Derived.Test.YtnpfkbfmipnofaaCFnExactSpaceOfPathsQAcc
import Derived.Test.YtnpfkbfmipnofaaCFnExactSpaceOfPathsQPart
import Derived.Test.YtnpfkbfmipnofaaCFnExactSpaceOfPathsP4
namespace Go.Proofs.Ytnpfkbfmipnofaa.Q
open Go.RowKit Go.Proofs.YtnpfkbfmipnofaaW.PrintWords Go.Proofs.YtnpfkbfmipnofaaW.PrintLast Go.Proofs.YtnpfkbfmipnofaaW.PrintMore Go.Proofs.Ytnpfkbfmipnofaa.P
set_option linter.unusedVariables false
set_option linter.unusedSimpArgs false

theorem andn_zero {a b : Nat} : andn a b = 0 ↔ ∀ j, a.testBit j = true → b.testBit j = true := by
  constructor
  · intro h j hj
    have := congrArg (fun x => Nat.testBit x j) h
    simp only [testBit_andn, hj, Bool.true_and, Nat.zero_testBit, Bool.not_eq_false'] at this
    exact this
  · intro h
    apply Nat.eq_of_testBit_eq
    intro j
    rw [testBit_andn, Nat.zero_testBit]
    cases ha : a.testBit j with
    | false => rfl
    | true => rw [h j ha]; rfl
/-- What the sets of a list within a set make up, with some more. -/
def restL (s : Nat) : List Nat → Nat → Nat
  | [], r => r
  | y :: l, r => restL s l (if andn y s = 0 then r ||| y else r)
theorem restL_lt {s n : Nat} : ∀ {l : List Nat} {r : Nat}, (∀ y ∈ l, y < 2 ^ n) → r < 2 ^ n → restL s l r < 2 ^ n
  | [], _, _, h => h
  | y :: l, r, hl, h => by
    refine restL_lt (l := l) (fun z hz => hl z (by simp [hz])) ?_
    split
    · exact Nat.or_lt_two_pow h (hl y (by simp))
    · exact h
theorem restL_sub {s : Nat} : ∀ {l : List Nat} {r : Nat}, andn r s = 0 → andn (restL s l r) s = 0
  | [], _, h => h
  | y :: l, r, h => by
    refine restL_sub (l := l) ?_
    split
    · rename_i hy
      rw [andn_zero] at h hy ⊢
      intro j hj
      rw [Nat.testBit_or, Bool.or_eq_true] at hj
      rcases hj with hj | hj
      · exact h j hj
      · exact hy j hj
    · exact h
theorem restL_uc {s : Nat} {B : Nat → Prop} : ∀ {l : List Nat} {r : Nat}, (∀ y ∈ l, B y) → UC B r → UC B (restL s l r)
  | [], _, _, h => h
  | y :: l, r, hl, h => by
    refine restL_uc (l := l) (fun z hz => hl z (by simp [hz])) ?_
    split
    · exact .or h (.base (hl y (by simp)))
    · exact h
/-- Is an item one whose removal leaves a union of sets of the list? -/
def gB (L : List Nat) (x i : Nat) : Bool := x.testBit i && restL (andn x (2 ^ i)) L 0 == andn x (2 ^ i)
def goodX (L : List Nat) (x : Nat) : Bool := (itemsN x).any (gB L x)
def exB (p : Nat → Bool) : Nat → Nat → Bool
  | _, 0 => false
  | i, d + 1 => p i || exB p (i + 1) d
theorem exB_iff {p : Nat → Bool} : ∀ {d i : Nat}, exB p i d = true ↔ ∃ j, i ≤ j ∧ j < i + d ∧ p j = true
  | 0, i => by
    simp only [exB, Bool.false_eq_true, false_iff]
    rintro ⟨j, h1, h2, _⟩; omega
  | d + 1, i => by
    simp only [exB, Bool.or_eq_true, exB_iff (d := d)]
    constructor
    · rintro (h | ⟨j, h1, h2, h3⟩)
      · exact ⟨i, by omega, by omega, h⟩
      · exact ⟨j, by omega, by omega, h3⟩
    · rintro ⟨j, h1, h2, h3⟩
      by_cases e : j = i
      · subst e; exact .inl h3
      · exact .inr ⟨j, by omega, by omega, h3⟩
theorem good_ex {L : List Nat} {x m : Nat} (hm : m ≤ 7) (hx : x < 2 ^ m) : exB (gB L x) 0 m = goodX L x := by
  rw [Bool.eq_iff_iff, exB_iff, goodX, List.any_eq_true]
  constructor
  · rintro ⟨j, _, h2, h3⟩
    refine ⟨j, mem_itemsN.2 ⟨by omega, ?_⟩, h3⟩
    simp only [gB, Bool.and_eq_true] at h3
    exact h3.1
  · rintro ⟨j, h1, h3⟩
    have hb := (mem_itemsN.1 h1).2
    refine ⟨j, by omega, ?_, h3⟩
    rcases Nat.lt_or_ge j m with h | h
    · omega
    · rw [Nat.testBit_lt_two_pow (Nat.lt_of_lt_of_le hx (Nat.pow_le_pow_right (by omega) h))] at hb; cases hb
theorem natBeq (a b : Nat) : ((a : Int) == (b : Int)) = (a == b) := by rw [Bool.eq_iff_iff, beq_iff_eq, beq_iff_eq]; omega
theorem rest_or {x i r : Nat} (hb : x.testBit i = true) (hr : andn r (andn x (2 ^ i)) = 0) : (r ||| 2 ^ i == x) = (r == andn x (2 ^ i)) := by
  have hp : ∀ j, (2 ^ i).testBit j = decide (i = j) := fun j => by rw [Nat.testBit_two_pow]
  have hri : r.testBit i = false := by
    rw [Bool.eq_false_iff]
    intro h
    have := (andn_zero.1 hr) i h
    rw [testBit_andn, hp] at this
    simp at this
  rw [Bool.eq_iff_iff, beq_iff_eq, beq_iff_eq]
  constructor
  · intro h
    apply Nat.eq_of_testBit_eq
    intro j
    rw [← h, testBit_andn, Nat.testBit_or, hp]
    by_cases e : i = j
    · subst e; simp [hri]
    · simp [e]
  · intro h
    apply Nat.eq_of_testBit_eq
    intro j
    rw [h, Nat.testBit_or, testBit_andn, hp]
    by_cases e : i = j
    · subst e; simp [hb]
    · simp [e]
theorem within_not {x y i : Nat} (hb : x.testBit i = true) : andn y (andn x (2 ^ i)) = 0 ↔ andn y x = 0 ∧ y.testBit i = false := by
  have hp : ∀ j, (2 ^ i).testBit j = decide (i = j) := fun j => by rw [Nat.testBit_two_pow]
  rw [andn_zero, andn_zero]
  constructor
  · intro h
    refine ⟨fun j hj => ?_, ?_⟩
    · have := h j hj
      rw [testBit_andn, Bool.and_eq_true] at this
      exact this.1
    · rw [Bool.eq_false_iff]
      intro hj
      have := h i hj
      rw [testBit_andn, hp] at this
      simp at this
  · rintro ⟨h1, h2⟩ j hj
    rw [testBit_andn, hp, h1 j hj]
    by_cases e : i = j
    · subst e; rw [h2] at hj; cases hj
    · simp [e]

/-! ### the program -/
section
variable {m : Nat} {L : List Nat} (m7 : m ≤ 7) (hL : ∀ x ∈ L, x < 2 ^ m) (hl : L.length ≤ 1000)
include m7 hL hl
theorem impl_paths_l2 (F : List Bool) (t : Int) {x i : Nat} (hx : x < 2 ^ m) (hi : i < 7) (hb : x.testBit i = true) (g : Bool) (P : List Int) (np ip : Int) (I : List Int) (ni ii : Int) (res : Int × List Int × Bool) : ∀ (rest pre : List Nat) (r : Nat), pre ++ rest = L → r < 2 ^ m → andn r (andn x (2 ^ i)) = 0 →
    Ev (fun k => impl_SpaceOfPaths.l1 k (m : Int) (castL L) F t (x : Int) (g || restL (andn x (2 ^ i)) rest r == andn x (2 ^ i)) P np ip I ni (wrap64 (ii + 1))) res →
    Ev (fun k => impl_SpaceOfPaths.l2 k (m : Int) (castL L) F t (x : Int) g (i : Int) (r : Int) P np ip I ni ii (castL L) (L.length : Int) (pre.length : Int)) res := by
  have hp2 := pow_le_128 m7
  have h2i := pow_lt_128 hi
  intro rest
  induction rest with
  | nil =>
    intro pre r e hr hs hn
    obtain rfl : pre = L := by simpa using e
    refine Ev.step (fun k => by rw [impl_SpaceOfPaths.l2]) ?_
    simp only [show ¬ ((pre.length : Int) < (pre.length : Int)) from by omega, ↓reduceIte]
    cases g with
    | true => simpa using hn
    | false =>
      simp only [Bool.false_eq_true, ↓reduceIte, show (0 : Int) ≤ (i : Int) from by omega, shl1 (show i ≤ 61 from by omega), bOr (show r < 2 ^ 62 from by omega) (show 2 ^ i < 2 ^ 62 from by omega), natBeq, rest_or hb hs]
      simpa [restL] using hn
  | cons y rest ih =>
    intro pre r e hr hs hn
    have hy : y < 2 ^ m := hL y (by rw [← e]; simp)
    have hlen : L.length = pre.length + (rest.length + 1) := by rw [← e]; simp
    have er : rd (castL L) (pre.length : Int) = (y : Int) := by rw [← e]; exact rd_castL_mid _ _ _
    have hw := within_not (y := y) hb
    refine Ev.step (fun k => by rw [impl_SpaceOfPaths.l2]) ?_
    simp only [show ((pre.length : Int) < (L.length : Int)) from by omega, show (0 : Int) ≤ (pre.length : Int) from by omega, castL_length, er, part_eq (show y < 2 ^ 62 from by omega) (show x < 2 ^ 62 from by omega), Option.bind_some, decide_eq_true_eq, show (0 : Int) ≤ (i : Int) from by omega, bitAnd (show y < 2 ^ 62 from by omega) (show i ≤ 64 from by omega), bOr (show r < 2 ^ 62 from by omega) (show y < 2 ^ 62 from by omega), ↓reduceIte]
    rw [wnext (n := L.length) (by omega) (by omega)]
    by_cases hc : andn y (andn x (2 ^ i)) = 0
    · have hc2 := hw.1 hc
      have hn2 := ih (pre ++ [y]) (r ||| y) (by simp [e]) (Nat.or_lt_two_pow hr hy) (by
        rw [andn_zero] at hs hc ⊢
        intro j hj
        rw [Nat.testBit_or, Bool.or_eq_true] at hj
        rcases hj with hj | hj
        · exact hs j hj
        · exact hc j hj) (by simpa [restL, hc] using hn)
      simp only [List.length_append, List.length_singleton] at hn2
      simp only [hc2.1, hc2.2, ↓reduceIte, Bool.false_eq_true]
      exact hn2
    · have hn2 := ih (pre ++ [y]) r (by simp [e]) hr hs (by simpa [restL, hc] using hn)
      simp only [List.length_append, List.length_singleton] at hn2
      by_cases h1 : andn y x = 0
      · have h2 : y.testBit i = true := by
          rw [← Bool.not_eq_false]
          intro h2; exact hc (hw.2 ⟨h1, h2⟩)
        simp only [h1, h2, ↓reduceIte, show ¬ ((1 : Int) = 0) from by omega]
        exact hn2
      · simp only [h1, ↓reduceIte]
        exact hn2
theorem impl_paths_l1 (F : List Bool) (t : Int) {x : Nat} (hx : x < 2 ^ m) (P : List Int) (np ip : Int) (res : Int × List Int × Bool) : ∀ (rest pre : List Nat) (g : Bool), pre ++ rest = itemsN x →
    (if (g || rest.any (gB L x)) = true then Ev (fun k => impl_SpaceOfPaths.l0 k (m : Int) (castL L) F t P np (wrap64 (ip + 1))) res else res = (0, [], false)) →
    Ev (fun k => impl_SpaceOfPaths.l1 k (m : Int) (castL L) F t (x : Int) g P np ip (castL (itemsN x)) ((itemsN x).length : Int) (pre.length : Int)) res := by
  have hI : (itemsN x).length ≤ 7 := Nat.le_trans (List.length_filter_le _ _) (by simp)
  intro rest
  induction rest with
  | nil =>
    intro pre g e hn
    have e' : pre = itemsN x := by simpa using e
    refine Ev.step (fun k => by rw [impl_SpaceOfPaths.l1]) ?_
    simp only [show ¬ ((pre.length : Int) < ((itemsN x).length : Int)) from by rw [e']; omega, ↓reduceIte]
    cases g with
    | true => simpa using hn
    | false =>
      simp only [Bool.false_eq_true, ↓reduceIte]
      have hn' : res = (0, [], false) := by simpa using hn
      rw [hn']
      exact Ev.some _
  | cons i rest ih =>
    intro pre g e hn
    have hmem : i ∈ itemsN x := by rw [← e]; simp
    obtain ⟨hi, hb⟩ := mem_itemsN.1 hmem
    have hlen : (itemsN x).length = pre.length + (rest.length + 1) := by rw [← e]; simp
    have er : rd (castL (itemsN x)) (pre.length : Int) = (i : Int) := by rw [← e]; exact rd_castL_mid _ _ _
    refine Ev.step (fun k => by rw [impl_SpaceOfPaths.l1]) ?_
    simp only [show ((pre.length : Int) < ((itemsN x).length : Int)) from by omega, show (0 : Int) ≤ (pre.length : Int) from by omega, castL_length, er, ↓reduceIte]
    have := impl_paths_l2 m7 hL hl F t hx hi hb g P np ip (castL (itemsN x)) ((itemsN x).length : Int) (pre.length : Int) res L [] 0 rfl (Nat.two_pow_pos _) (by rw [andn_zero]; intro j hj; rw [Nat.zero_testBit] at hj; cases hj) (by
      rw [wnext (n := (itemsN x).length) (by omega) (by omega)]
      have hn2 := ih (pre ++ [i]) (g || restL (andn x (2 ^ i)) L 0 == andn x (2 ^ i)) (by simp [e]) (by
        simp only [List.any_cons, gB, hb, Bool.true_and, ← Bool.or_assoc] at hn
        simpa [gB] using hn)
      simpa using hn2)
    simpa using this
theorem impl_paths_l0 (F : List Bool) (fin : Int × List Int × Bool) (hfin : L.all (goodX L) = true → Ev (fun k => impl_SpaceOfPaths.l0 k (m : Int) (castL L) F ((orAll L 0 : Nat) : Int) (castL L) (L.length : Int) (L.length : Int)) fin) : ∀ (rest pre : List Nat) (s : Nat), pre ++ rest = L → s < 2 ^ m → orAll rest s = orAll L 0 → pre.all (goodX L) = true →
    Ev (fun k => impl_SpaceOfPaths.l0 k (m : Int) (castL L) F (s : Int) (castL L) (L.length : Int) (pre.length : Int)) (if L.all (goodX L) = true then fin else (0, [], false)) := by
  have hp2 := pow_le_128 m7
  intro rest
  induction rest with
  | nil =>
    intro pre s e hs ho hpre
    obtain rfl : pre = L := by simpa using e
    have ho' : s = orAll pre 0 := ho
    rw [if_pos hpre, ho']
    exact hfin hpre
  | cons x rest ih =>
    intro pre s e hs ho hpre
    have hx : x < 2 ^ m := hL x (by rw [← e]; simp)
    have hlen : L.length = pre.length + (rest.length + 1) := by rw [← e]; simp
    have er : rd (castL L) (pre.length : Int) = (x : Int) := by rw [← e]; exact rd_castL_mid _ _ _
    refine Ev.step (fun k => by rw [impl_SpaceOfPaths.l0]) ?_
    simp only [show ((pre.length : Int) < (L.length : Int)) from by omega, show (0 : Int) ≤ (pre.length : Int) from by omega, castL_length, er, bOr (show s < 2 ^ 62 from by omega) (show x < 2 ^ 62 from by omega), ↓reduceIte]
    refine Ev.bind (items_ev (show x < 128 by omega)) ?_
    rw [castL_length]
    have h1 := impl_paths_l1 m7 hL hl F ((s ||| x : Nat) : Int) hx (castL L) (L.length : Int) (pre.length : Int) (if L.all (goodX L) = true then fin else (0, [], false)) (itemsN x) [] false rfl (by
      rw [Bool.false_or, show (itemsN x).any (gB L x) = goodX L x from rfl]
      by_cases hg : goodX L x = true
      · rw [if_pos hg, wnext (n := L.length) (by omega) (by omega)]
        have hn := ih (pre ++ [x]) (s ||| x) (by simp [e]) (Nat.or_lt_two_pow hs hx) ho (by rw [List.all_append, hpre]; simp [hg])
        simpa using hn
      · rw [if_neg hg, if_neg]
        intro h
        exact hg (List.all_eq_true.1 h x (by rw [← e]; simp)))
    simpa using h1

/-! ### the reference -/
theorem spec_paths_l2 {x i : Nat} (hx : x < 2 ^ m) (hi : i < 7) (g : Bool) (P : List Int) (np ip : Int) (res : Int × List Int × Bool) : ∀ (rest pre : List Nat) (r : Nat), pre ++ rest = L → r < 2 ^ m →
    Ev (fun k => spec_SpaceOfPaths.l1 k (m : Int) (castL L) (x : Int) (g || (x.testBit i && restL (andn x (2 ^ i)) rest r == andn x (2 ^ i))) (wrap64 ((i : Int) + 1)) P np ip) res →
    Ev (fun k => spec_SpaceOfPaths.l2 k (m : Int) (castL L) (x : Int) g (i : Int) (r : Int) P np ip (castL L) (L.length : Int) (pre.length : Int)) res := by
  have hp2 := pow_le_128 m7
  have h2i := pow_lt_128 hi
  have hal : andn x (2 ^ i) < 2 ^ m := andn_lt hx
  intro rest
  induction rest with
  | nil =>
    intro pre r e hr hn
    obtain rfl : pre = L := by simpa using e
    refine Ev.step (fun k => by rw [spec_SpaceOfPaths.l2]) ?_
    simp only [show ¬ ((pre.length : Int) < (pre.length : Int)) from by omega, ↓reduceIte]
    cases g with
    | true => simpa using hn
    | false =>
      simp only [Bool.false_eq_true, ↓reduceIte, spIn_eq x i (by omega), Option.bind_some]
      cases hb : x.testBit i with
      | true =>
        simp only [↓reduceIte, show (0 : Int) ≤ (i : Int) from by omega, shl1 (show i ≤ 61 from by omega), bAndn (show x < 2 ^ 62 from by omega) (show 2 ^ i < 2 ^ 62 from by omega), natBeq]
        simpa [restL, hb] using hn
      | false =>
        simp only [↓reduceIte, Bool.false_eq_true]
        simpa [hb] using hn
  | cons y rest ih =>
    intro pre r e hr hn
    have hy : y < 2 ^ m := hL y (by rw [← e]; simp)
    have hlen : L.length = pre.length + (rest.length + 1) := by rw [← e]; simp
    have er : rd (castL L) (pre.length : Int) = (y : Int) := by rw [← e]; exact rd_castL_mid _ _ _
    refine Ev.step (fun k => by rw [spec_SpaceOfPaths.l2]) ?_
    simp only [show ((pre.length : Int) < (L.length : Int)) from by omega, show (0 : Int) ≤ (pre.length : Int) from by omega, castL_length, er, show (0 : Int) ≤ (i : Int) from by omega, shl1 (show i ≤ 61 from by omega), bAndn (show x < 2 ^ 62 from by omega) (show 2 ^ i < 2 ^ 62 from by omega), bAndn (show y < 2 ^ 62 from by omega) (show andn x (2 ^ i) < 2 ^ 62 from by omega), Int.natCast_eq_zero, bOr (show r < 2 ^ 62 from by omega) (show y < 2 ^ 62 from by omega), ↓reduceIte]
    rw [wnext (n := L.length) (by omega) (by omega)]
    by_cases hc : andn y (andn x (2 ^ i)) = 0
    · have hn2 := ih (pre ++ [y]) (r ||| y) (by simp [e]) (Nat.or_lt_two_pow hr hy) (by simpa [restL, hc] using hn)
      simp only [List.length_append, List.length_singleton] at hn2
      simp only [hc, ↓reduceIte]
      exact hn2
    · have hn2 := ih (pre ++ [y]) r (by simp [e]) hr (by simpa [restL, hc] using hn)
      simp only [List.length_append, List.length_singleton] at hn2
      simp only [hc, ↓reduceIte]
      exact hn2
theorem spec_paths_l1 {x : Nat} (hx : x < 2 ^ m) (P : List Int) (np ip : Int) (res : Int × List Int × Bool) : ∀ (d i : Nat) (g : Bool), i + d = m →
    (if (g || exB (gB L x) i d) = true then Ev (fun k => spec_SpaceOfPaths.l0 k (m : Int) (castL L) P np (wrap64 (ip + 1))) res else res = (0, [], false)) →
    Ev (fun k => spec_SpaceOfPaths.l1 k (m : Int) (castL L) (x : Int) g (i : Int) P np ip) res := by
  intro d
  induction d with
  | zero =>
    intro i g e hn
    obtain rfl : i = m := by omega
    refine Ev.step (fun k => by rw [spec_SpaceOfPaths.l1]) ?_
    simp only [show ¬ ((i : Int) < (i : Int)) from by omega, ↓reduceIte]
    cases g with
    | true => simpa using hn
    | false =>
      simp only [Bool.false_eq_true, ↓reduceIte]
      have hn' : res = (0, [], false) := by simpa [exB] using hn
      rw [hn']
      exact Ev.some _
  | succ d ih =>
    intro i g e hn
    have hi : i < 7 := by omega
    refine Ev.step (fun k => by rw [spec_SpaceOfPaths.l1]) ?_
    simp only [show ((i : Int) < (m : Int)) from by omega, castL_length, ↓reduceIte]
    have := spec_paths_l2 m7 hL hl hx hi g P np ip res L [] 0 rfl (Nat.two_pow_pos _) (by
      rw [wnext (n := m) (by omega) (by omega)]
      refine ih (i + 1) _ (by omega) ?_
      simp only [exB, ← Bool.or_assoc] at hn
      exact hn)
    simpa using this
theorem spec_paths_l0 (fin : Int × List Int × Bool) (hfin : L.all (goodX L) = true → Ev (fun k => spec_SpaceOfPaths.l0 k (m : Int) (castL L) (castL L) (L.length : Int) (L.length : Int)) fin) : ∀ (rest pre : List Nat), pre ++ rest = L → pre.all (goodX L) = true →
    Ev (fun k => spec_SpaceOfPaths.l0 k (m : Int) (castL L) (castL L) (L.length : Int) (pre.length : Int)) (if L.all (goodX L) = true then fin else (0, [], false)) := by
  intro rest
  induction rest with
  | nil =>
    intro pre e hpre
    obtain rfl : pre = L := by simpa using e
    rw [if_pos hpre]
    exact hfin hpre
  | cons x rest ih =>
    intro pre e hpre
    have hx : x < 2 ^ m := hL x (by rw [← e]; simp)
    have hlen : L.length = pre.length + (rest.length + 1) := by rw [← e]; simp
    have er : rd (castL L) (pre.length : Int) = (x : Int) := by rw [← e]; exact rd_castL_mid _ _ _
    refine Ev.step (fun k => by rw [spec_SpaceOfPaths.l0]) ?_
    simp only [show ((pre.length : Int) < (L.length : Int)) from by omega, show (0 : Int) ≤ (pre.length : Int) from by omega, castL_length, er, ↓reduceIte]
    have h1 := spec_paths_l1 m7 hL hl hx (castL L) (L.length : Int) (pre.length : Int) (if L.all (goodX L) = true then fin else (0, [], false)) m 0 false (by omega) (by
      rw [Bool.false_or, good_ex m7 hx]
      by_cases hg : goodX L x = true
      · rw [if_pos hg, wnext (n := L.length) (by omega) (by omega)]
        have hn := ih (pre ++ [x]) (by simp [e]) (by rw [List.all_append, hpre]; simp [hg])
        simpa using hn
      · rw [if_neg hg, if_neg]
        intro h
        exact hg (List.all_eq_true.1 h x (by rw [← e]; simp)))
    simpa using h1
end
theorem SpaceOfPaths_both (a : Int) (w : List Int) (hw : w.length ≤ 1048576) : ∃ (n' : Int) (L : List Int) (b : Bool), L.length ≤ 1048576 ∧ Ev (fun k => spec_SpaceOfPaths.f k a w) (n', L, b) ∧ Ev (fun k => impl_SpaceOfPaths.f k a w) (n', L, b) := by
  have hj : ∀ a : Int, Ev (fun k => spec_SpaceOfPaths.j0 k a w true) (0, [], false) := by
    intro a
    refine Ev.step (fun k => by rw [spec_SpaceOfPaths.j0]) ?_
    simp only [↓reduceIte]; exact Ev.some _
  rcases famOf_cases a w hw 60 (by omega) with ⟨h1, hbad⟩ | ⟨m, L, rfl, rfl, m1, m7, hlen, hL, hset, h1⟩
  · refine ⟨0, [], false, by simp, ?_, ?_⟩
    · unfold spec_SpaceOfPaths.f
      by_cases g1 : 1 ≤ a ∧ a ≤ 7
      · simp only [spItems_eq, Option.bind_some, decide_eq_true g1, ↓reduceIte]
        by_cases g2 : (w.length : Int) > 60
        · simp only [g2, ↓reduceIte]; exact hj a
        · obtain ⟨m, rfl⟩ := Int.eq_ofNat_of_zero_le (show 0 ≤ a by omega)
          simp only [g2, ↓reduceIte, show (0 : Int) ≤ (m : Int) from by omega, pow1 (show m ≤ 61 from by omega)]
          have hb : (w.all fun x => decide (0 ≤ x ∧ x ≤ ((2 ^ m - 1 : Nat) : Int))) = false := by
            rw [Bool.eq_false_iff]
            intro h
            exact hbad ⟨g1, by omega, by rw [Int.toNat_natCast]; exact h⟩
          refine Ev.bind ((l1All_ev w (by omega) _ _).eq hb) ?_
          exact hj _
      · simp only [spItems_eq, Option.bind_some, decide_eq_false g1, ↓reduceIte, Bool.false_eq_true]
        exact hj a
    · unfold impl_SpaceOfPaths.f
      refine Ev.bind h1 ?_
      simp only [↓reduceIte, Bool.false_eq_true]
      exact Ev.some _
  · have hp2 := pow_le_128 m7
    have hpos : 0 < 2 ^ m := Nat.two_pow_pos _
    have hL2 : ∀ x ∈ L, x < 128 := fun x hx => Nat.lt_of_lt_of_le (hL x hx) hp2
    obtain ⟨p, hc, hp⟩ := closed_ev (L := L) hL2
    obtain ⟨R, hu, hI, hR⟩ := unions_ev (L := L) hL2 (by omega)
    have hlist : listN p = R := closed_list hL2 hp hI hR
    have hRlt : ∀ x ∈ R, x < 128 := fun x hx => UC.lt (n := 7) hL2 ((hR x).1 hx)
    have hRl := inc_len hI hRlt
    have hUC : UC (· ∈ L) (2 ^ m - 1) ↔ orAll L 0 = 2 ^ m - 1 := full_iff hL
    have horl : orAll L 0 < 2 ^ m := orAll_lt hL hpos
    obtain ⟨fin, hfl, hfi, hfs⟩ : ∃ fin : Int × List Int × Bool, fin.2.1.length ≤ 1048576 ∧
        Ev (fun k => impl_SpaceOfPaths.l0 k (m : Int) (castL L) (famN fun y => decide (y ∈ L)) ((orAll L 0 : Nat) : Int) (castL L) (L.length : Int) (L.length : Int)) fin ∧
        (L.all (goodX L) = true → Ev (fun k => spec_SpaceOfPaths.l0 k (m : Int) (castL L) (castL L) (L.length : Int) (L.length : Int)) fin) := by
      by_cases hf : orAll L 0 = 2 ^ m - 1
      · refine ⟨((m : Int), castL R, true), by simp; omega, ?_, fun hok => ?_⟩
        · refine Ev.step (fun k => by rw [impl_SpaceOfPaths.l0]) ?_
          simp only [show ¬ ((L.length : Int) < (L.length : Int)) from by omega, show (0 : Int) ≤ (m : Int) from by omega, pow1 (show m ≤ 61 from by omega), hf, ↓reduceIte]
          refine Ev.bind hc ?_
          refine Ev.bind (fam_space_ev _ _) ?_
          rw [hlist]
          exact Ev.some _
        · have hS : SpN m R := uc_space m1 m7 hL (fun x hx h0 => by
            have h2 := List.all_eq_true.1 hok x hx
            rw [goodX, List.any_eq_true] at h2
            obtain ⟨i, _, h3⟩ := h2
            simp only [gB, Bool.and_eq_true, beq_iff_eq] at h3
            refine ⟨i, h3.1, ?_⟩
            rw [← h3.2]
            exact restL_uc (fun y hy => hy) .zero) (hUC.2 hf) hI hR
          refine Ev.step (fun k => by rw [spec_SpaceOfPaths.l0]) ?_
          simp only [show ¬ ((L.length : Int) < (L.length : Int)) from by omega, ↓reduceIte]
          refine Ev.bind hu ?_
          exact Ev.bind (spIf_yes hS) (Ev.some _)
      · refine ⟨(0, [], false), by simp, ?_, fun hok => ?_⟩
        · refine Ev.step (fun k => by rw [impl_SpaceOfPaths.l0]) ?_
          simp only [show ¬ ((L.length : Int) < (L.length : Int)) from by omega, show (0 : Int) ≤ (m : Int) from by omega, pow1 (show m ≤ 61 from by omega), show ¬ ((orAll L 0 : Nat) : Int) = ((2 ^ m - 1 : Nat) : Int) from by omega, ↓reduceIte]
          exact Ev.some _
        · refine Ev.step (fun k => by rw [spec_SpaceOfPaths.l0]) ?_
          simp only [show ¬ ((L.length : Int) < (L.length : Int)) from by omega, ↓reduceIte]
          refine Ev.bind hu ?_
          exact Ev.bind (spIf_no (by omega) (fun h => hf (hUC.1 ((hR _).1 h)))) (Ev.some _)
    have hi := impl_paths_l0 m7 hL (by omega) (famN fun y => decide (y ∈ L)) fin (fun _ => hfi) L [] 0 rfl hpos rfl rfl
    have hs := spec_paths_l0 m7 hL (by omega) fin hfs L [] rfl rfl
    obtain ⟨res, hres, hr1⟩ : ∃ res : Int × List Int × Bool, res = (if L.all (goodX L) = true then fin else (0, [], false)) ∧ res.2.1.length ≤ 1048576 := by
      refine ⟨_, rfl, ?_⟩
      by_cases g : L.all (goodX L) = true
      · rw [if_pos g]; exact hfl
      · rw [if_neg g]; simp
    rw [← hres] at hi hs
    refine ⟨res.1, res.2.1, res.2.2, hr1, ?_, ?_⟩
    · unfold spec_SpaceOfPaths.f
      have g1 : (1 : Int) ≤ (m : Int) ∧ (m : Int) ≤ 7 := by omega
      simp only [spItems_eq, Option.bind_some, decide_eq_true g1, ↓reduceIte, castL_length, show ¬ ((L.length : Int) > 60) from by omega, show (0 : Int) ≤ (m : Int) from by omega, pow1 (show m ≤ 61 from by omega)]
      refine Ev.bind ((l1All_ev (castL L) (by simp; omega) _ _).eq hset) ?_
      refine Ev.step (fun k => by rw [spec_SpaceOfPaths.j0]) ?_
      simp only [Bool.not_true, ↓reduceIte, Bool.false_eq_true, castL_length]
      simpa using hs
    · unfold impl_SpaceOfPaths.f
      refine Ev.bind h1 ?_
      simp only [↓reduceIte, castL_length]
      simpa using hi
end Go.Proofs.Ytnpfkbfmipnofaa.Q
