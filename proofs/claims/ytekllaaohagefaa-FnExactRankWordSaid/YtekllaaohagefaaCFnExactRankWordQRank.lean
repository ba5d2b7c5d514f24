/- The rank of a full word: the program's count and the reference's; conditions: as each theorem states. -/
import Derived.Test.YtekllaaohagefaaCFnExactRankWordQWaysN
import Derived.Test.YtekllaaohagefaaCFnExactRankWordQWord
import Derived.Test.YtekllaaohagefaaCFnExactRankWordQEqual
import Derived.Test.YtekllaaohagefaaCFnExactRankWordP4
namespace Go.Proofs.Ytekllaaohagefaa.Q
open Go.RowKit Go.Proofs.YtekllaaohagefaaW.PrintWords Go.Proofs.YtekllaaohagefaaW.PrintLast Go.Proofs.YtekllaaohagefaaW.PrintMore Go.Proofs.Ytekllaaohagefaa.P
set_option linter.unusedVariables false
set_option linter.unusedSimpArgs false

/-- The ways behind a set, if it is one of the space's. -/
def stepN (m : Nat) (T : List Nat) (x y : Nat) : Nat := if x.testBit y = true then 0 else if x ||| 2 ^ y ∈ T then waysN m T (x ||| 2 ^ y) else 0
def sideN (m : Nat) (T : List Nat) (x a : Nat) : Nat := ((List.range a).map (stepN m T x)).sum
/-- The words before a word that goes on from a set. -/
def rkN (m : Nat) (T : List Nat) : Nat → List Int → Nat
  | _, [] => 0
  | x, a :: r => sideN m T x a.toNat + rkN m T (x ||| 2 ^ a.toNat) r
theorem stepN_le {m : Nat} {T : List Nat} (h : SpN m T) (x y : Nat) : stepN m T x y ≤ 40353607 := by
  unfold stepN
  split
  · omega
  · split
    · rename_i hT; exact waysN_le h (h.lt128 _ hT)
    · omega
theorem sideN_le {m : Nat} {T : List Nat} (h : SpN m T) (x a : Nat) : sideN m T x a ≤ a * 40353607 := by
  have := sum_le (stepN m T x) 40353607 (List.range a) (fun y _ => stepN_le h x y)
  rwa [List.length_range] at this
theorem sideN_succ (m : Nat) (T : List Nat) (x a : Nat) : sideN m T x (a + 1) = sideN m T x a + stepN m T x a := by
  unfold sideN
  rw [List.range_succ, List.map_append, List.sum_append]
  simp
/-- A word that goes on from a set to all items, in steps of the space. -/
inductive Goes (m : Nat) (T : List Nat) : Nat → List Int → Prop
  | done : Goes m T (2 ^ m - 1) []
  | step {x a : Nat} {r : List Int} : a < m → x.testBit a = false → x ||| 2 ^ a ∈ T → Goes m T (x ||| 2 ^ a) r → Goes m T x ((a : Int) :: r)
theorem full_cnt : ((List.range 8).all fun m => (List.range (2 ^ m)).all fun x => !decide (cntN x = m) || decide (x = 2 ^ m - 1)) = true := by decide +kernel
theorem cnt_full {m x : Nat} (m7 : m ≤ 7) (hx : x < 2 ^ m) (hc : cntN x = m) : x = 2 ^ m - 1 := by
  have h := List.all_eq_true.1 (List.all_eq_true.1 full_cnt m (List.mem_range.2 (by omega))) x (List.mem_range.2 hx)
  rw [decide_eq_true hc] at h
  simpa using h
theorem goes_of {m : Nat} {T : List Nat} (h : SpN m T) : ∀ (w : List Int) (x : Nat), x ∈ T → (wordR m T w x).2 = true → cntN x + w.length = m → Goes m T x w
  | [], x, hx, _, hc => by
    have := cnt_full h.m7 (h.lt x hx) (by simpa using hc)
    subst this
    exact .done
  | a :: r, x, hx, hw, hc => by
    unfold wordR at hw
    by_cases h1 : 0 ≤ a ∧ a ≤ (m : Int) - 1
    rotate_left
    · rw [if_neg h1] at hw; cases hw
    rw [if_pos h1] at hw
    obtain ⟨i, rfl⟩ := Int.eq_ofNat_of_zero_le h1.1
    rw [Int.toNat_natCast] at hw
    cases hb : x.testBit i with
    | true => rw [if_pos hb] at hw; cases hw
    | false =>
      rw [if_neg (by rw [hb]; decide)] at hw
      by_cases hT : x ||| 2 ^ i ∈ T
      rotate_left
      · rw [if_neg hT] at hw; cases hw
      rw [if_pos hT] at hw
      have m7 := h.m7
      have hc2 := cnt_put2 ⟨x, h.lt128 x hx⟩ ⟨i, by omega⟩ hb
      simp only at hc2
      exact .step (by omega) hb hT (goes_of h r _ hT hw (by rw [List.length_cons] at hc; omega))
theorem Goes.notfull {m : Nat} {T : List Nat} (h : SpN m T) {x : Nat} {a : Nat} {r : List Int} (hg : Goes m T x ((a : Int) :: r)) : x ≠ 2 ^ m - 1 := by
  intro e
  generalize hl : ((a : Int) :: r) = l at hg
  cases hg with
  | done => cases hl
  | step ha hb _ _ =>
    rw [e, Nat.testBit_two_pow_sub_one] at hb
    simp only [decide_eq_false_iff_not] at hb
    exact hb ha
theorem rkN_le {m : Nat} {T : List Nat} (h : SpN m T) {x : Nat} {r : List Int} (hg : Goes m T x r) : rkN m T x r ≤ r.length * 282475249 := by
  have m7 := h.m7
  induction hg with
  | done => simp [rkN]
  | @step x a r ha hb hT hg ih =>
    rw [rkN, Int.toNat_natCast, List.length_cons]
    have h1 := sideN_le h x a
    have h2 : a * 40353607 ≤ 7 * 40353607 := Nat.mul_le_mul_right _ (by omega)
    omega

/-! ### the reference -/
theorem woFrom_no {m : Nat} {T : List Nat} (h : SpN m T) {x : Nat} (hx : x ∉ T) : ∀ (rest pre : List Nat), pre ++ rest = T →
    Ev (fun k => spec_woFrom.l0 k (castL (T.map (waysN m T))) (x : Int) (castL T) (T.length : Int) (pre.length : Int)) 0 := by
  have hTl := h.short
  intro rest
  induction rest with
  | nil =>
    intro pre e
    obtain rfl : pre = T := by simpa using e
    refine Ev.step (fun k => by rw [spec_woFrom.l0]) ?_
    simp only [show ¬ ((pre.length : Int) < (pre.length : Int)) from by omega, ↓reduceIte]
    exact Ev.some _
  | cons y rest ih =>
    intro pre e
    have hlen : T.length = pre.length + (rest.length + 1) := by rw [← e]; simp
    have er : rd (castL T) (pre.length : Int) = (y : Int) := by rw [← e]; exact rd_castL_mid _ _ _
    have hy : y ≠ x := by rintro rfl; exact hx (by rw [← e]; simp)
    refine Ev.step (fun k => by rw [spec_woFrom.l0]) ?_
    simp only [show ((pre.length : Int) < (T.length : Int)) from by omega, show (0 : Int) ≤ (pre.length : Int) from by omega, castL_length, er, show ¬ ((y : Int) = (x : Int)) from by omega, ↓reduceIte]
    rw [wnext (n := T.length) (by omega) (by omega)]
    have := ih (pre ++ [y]) (by simp [e])
    rw [List.length_append, List.length_singleton] at this
    exact this
theorem woFrom_any {m : Nat} {T : List Nat} (h : SpN m T) (x : Nat) : Ev (fun k => spec_woFrom.f k (m : Int) (castL T) (castL (T.map (waysN m T))) (x : Int)) ((if x ∈ T then waysN m T x else 0 : Nat) : Int) := by
  by_cases hx : x ∈ T
  · rw [if_pos hx]; exact woFrom_ev h hx
  · rw [if_neg hx]
    unfold spec_woFrom.f
    rw [castL_length]
    exact woFrom_no h hx T [] rfl
theorem rank_in {m : Nat} {T : List Nat} (h : SpN m T) (w : List Int) (p : Int) {x a : Nat} (hx : x < 128) (ha : a < 7) (n : Nat) (hn : n + sideN m T x a ≤ 1099511627776) (v : Int × Bool) (L : Int)
    (hv : Ev (fun k => spec_RankWord.l0 k (castL (T.map (waysN m T))) ((n + sideN m T x a : Nat) : Int) ((x ||| 2 ^ a : Nat) : Int) w L (wrap64 (p + 1)) (m : Int) (castL T)) v) : ∀ d y : Nat, y + d = a →
    Ev (fun k => spec_RankWord.l1 k (castL (T.map (waysN m T))) ((n + sideN m T x y : Nat) : Int) (x : Int) (a : Int) (y : Int) w L p (m : Int) (castL T)) v := by
  have h2a := pow_lt_128 ha
  intro d
  induction d with
  | zero =>
    intro y e
    obtain rfl : y = a := by omega
    refine Ev.step (fun k => by rw [spec_RankWord.l1]) ?_
    simp only [show ¬ ((y : Int) < (y : Int)) from by omega, show (0 : Int) ≤ (y : Int) from by omega, shl1 (show y ≤ 61 from by omega), bOr (show x < 2 ^ 62 from by omega) (show 2 ^ y < 2 ^ 62 from by omega), ↓reduceIte]
    exact hv
  | succ d ih =>
    intro y e
    have hy7 : y < 7 := by omega
    have h2y := pow_lt_128 hy7
    have hi := ih (y + 1) (by omega)
    rw [sideN_succ] at hi
    have hs := stepN_le h x y
    have hle : sideN m T x (y + 1) ≤ sideN m T x a := by
      have : ∀ q, sideN m T x (y + 1) ≤ sideN m T x (y + 1 + q) := by
        intro q
        induction q with
        | zero => exact Nat.le_refl _
        | succ q ihq => exact Nat.le_trans ihq (by rw [← Nat.add_assoc, sideN_succ m T x (y + 1 + q)]; omega)
      have := this (a - (y + 1))
      rwa [show y + 1 + (a - (y + 1)) = a from by omega] at this
    rw [sideN_succ] at hle
    refine Ev.step (fun k => by rw [spec_RankWord.l1]) ?_
    simp only [show ((y : Int) < (a : Int)) from by omega, show (0 : Int) ≤ (y : Int) from by omega, spIn_eq x y (by omega), Option.bind_some, shl1 (show y ≤ 61 from by omega), bOr (show x < 2 ^ 62 from by omega) (show 2 ^ y < 2 ^ 62 from by omega), ↓reduceIte]
    rw [wnext (n := 7) hy7 (by omega)]
    cases hb : x.testBit y with
    | true =>
      simp only [↓reduceIte]
      have e0 : stepN m T x y = 0 := by unfold stepN; rw [if_pos hb]
      rw [e0] at hi
      exact hi
    | false =>
      simp only [Bool.false_eq_true, ↓reduceIte]
      refine Ev.bind (woFrom_any h _) ?_
      have e0 : stepN m T x y = if x ||| 2 ^ y ∈ T then waysN m T (x ||| 2 ^ y) else 0 := by unfold stepN; rw [if_neg (by rw [hb]; decide)]
      rw [← e0, w64 (by omega) (by omega), show (((n + sideN m T x y : Nat) : Int) + ((stepN m T x y : Nat) : Int)) = ((n + (sideN m T x y + stepN m T x y) : Nat) : Int) from by omega]
      exact hi
theorem rank_loop {m : Nat} {T : List Nat} (h : SpN m T) (w : List Int) (hw : w.length ≤ 7) {x : Nat} {r : List Int} (hg : Goes m T x r) : ∀ (pre : List Int) (n : Nat), pre ++ r = w → x < 128 → n + r.length * 282475249 ≤ 2000000000 →
    Ev (fun k => spec_RankWord.l0 k (castL (T.map (waysN m T))) (n : Int) (x : Int) w (w.length : Int) (pre.length : Int) (m : Int) (castL T)) (((n + rkN m T x r : Nat) : Int), true) := by
  have m7 := h.m7
  induction hg with
  | done =>
    intro pre n e hx hn
    obtain rfl : pre = w := by simpa using e
    refine Ev.step (fun k => by rw [spec_RankWord.l0]) ?_
    simp only [show ¬ ((pre.length : Int) < (pre.length : Int)) from by omega, ↓reduceIte, rkN]
    exact Ev.some _
  | @step x a r ha hb hT hg ih =>
    intro pre n e hx hn
    have hlen : w.length = pre.length + (r.length + 1) := by rw [← e]; simp
    have er : rd w (pre.length : Int) = (a : Int) := by rw [← e]; exact rd_mid _ _ _
    rw [List.length_cons] at hn
    have h1 := sideN_le h x a
    have h2 : a * 40353607 ≤ 7 * 40353607 := Nat.mul_le_mul_right _ (by omega)
    have hi := ih (pre ++ [(a : Int)]) (n + sideN m T x a) (by simp [e]) (h.lt128 _ hT) (by omega)
    rw [List.length_append, List.length_singleton, ← wnext (n := w.length) (by omega) (by omega)] at hi
    refine Ev.step (fun k => by rw [spec_RankWord.l0]) ?_
    simp only [show ((pre.length : Int) < (w.length : Int)) from by omega, show (0 : Int) ≤ (pre.length : Int) from by omega, er, ↓reduceIte]
    have h0 := rank_in h w (pre.length : Int) hx (show a < 7 from by omega) n (by omega) _ _ hi a 0 (by omega)
    have e0 : sideN m T x 0 = 0 := rfl
    rw [e0, Nat.add_zero] at h0
    refine h0.eq ?_
    rw [rkN, Int.toNat_natCast, Nat.add_assoc]

/-! ### the program -/
theorem run_false (g : Int → Int → Option (Bool × Int)) (L : List Int) (n : Int) : impl_Space_words_1.run g L false n = some (false, n) := by
  cases L <;> simp [impl_Space_words_1.run]
theorem run_all {g : Nat → Int → Int → Option (Bool × Int)} {V : Nat → Nat} {B : Nat} : ∀ (L : List Nat) (n : Nat), (∀ i ∈ L, ∀ q : Nat, q + V i ≤ B → Ev (fun k => g k (i : Int) (q : Int)) (true, ((q + V i : Nat) : Int))) → n + (L.map V).sum ≤ B →
    Ev (fun k => impl_Space_words_1.run (g k) (castL L) true (n : Int)) (true, ((n + (L.map V).sum : Nat) : Int))
  | [], n, _, _ => by
    simp only [castL_nil, impl_Space_words_1.run]
    exact (Ev.some _).eq (by simp)
  | i :: L, n, hg, hb => by
    simp only [List.map_cons, List.sum_cons] at hb ⊢
    simp only [castL_cons, impl_Space_words_1.run, show (0 : Int) ≤ (i : Int) from by omega, ↓reduceIte]
    refine Ev.bind (hg i (by simp) n (by omega)) ?_
    exact (run_all L (n + V i) (fun j hj => hg j (by simp [hj])) (by omega)).eq (by rw [Nat.add_assoc])
theorem run_at {g : Nat → Int → Int → Option (Bool × Int)} {V : Nat → Nat} {B a R : Nat} (ha : ∀ q : Nat, q + R ≤ B → Ev (fun k => g k (a : Int) (q : Int)) (false, ((q + R : Nat) : Int))) : ∀ (L : List Nat) (n : Nat), L.Pairwise (· < ·) → a ∈ L → (∀ i ∈ L, i < a → ∀ q : Nat, q + V i ≤ B → Ev (fun k => g k (i : Int) (q : Int)) (true, ((q + V i : Nat) : Int))) → n + (((L.filter fun i => decide (i < a)).map V).sum + R) ≤ B →
    Ev (fun k => impl_Space_words_1.run (g k) (castL L) true (n : Int)) (false, ((n + (((L.filter fun i => decide (i < a)).map V).sum + R) : Nat) : Int))
  | [], _, _, hm, _, _ => by simp at hm
  | i :: L, n, hp, hm, hg, hb => by
    have hp1 := List.pairwise_cons.1 hp
    simp only [castL_cons, impl_Space_words_1.run, show (0 : Int) ≤ (i : Int) from by omega, ↓reduceIte]
    rcases List.mem_cons.1 hm with rfl | hm2
    · have hnil : (L.filter fun i => decide (i < a)) = [] := by
        rw [List.filter_eq_nil_iff]
        intro j hj hlt
        have := hp1.1 j hj
        have := of_decide_eq_true hlt
        omega
      rw [List.filter_cons, hnil, decide_eq_false (Nat.lt_irrefl a)] at hb ⊢
      simp only [Bool.false_eq_true, ↓reduceIte, List.map_nil, List.sum_nil, Nat.zero_add] at hb ⊢
      refine Ev.bind (ha n hb) ?_
      simp only [run_false]
      exact Ev.some _
    · have hlt := hp1.1 a hm2
      rw [List.filter_cons, decide_eq_true hlt] at hb ⊢
      simp only [↓reduceIte, List.map_cons, List.sum_cons] at hb ⊢
      refine Ev.bind (hg i (by simp) hlt n (by omega)) ?_
      exact (run_at ha L (n + V i) hp1.2 hm2 (fun j hj => hg j (by simp [hj])) (by omega)).eq (by rw [Nat.add_assoc, Nat.add_assoc])
theorem sum_if (P : Nat → Bool) (V : Nat → Nat) : ∀ L : List Nat, ((L.filter P).map V).sum = (L.map fun i => if P i = true then V i else 0).sum
  | [] => rfl
  | i :: L => by
    rw [List.filter_cons]
    cases hP : P i with
    | true => simp [hP, sum_if P V L]
    | false => simp [hP, sum_if P V L]
theorem range_cut (P : Nat → Bool) {a N : Nat} (h : a ≤ N) : (((List.range N).filter P).filter fun i => decide (i < a)) = (List.range a).filter P := by
  obtain ⟨b, rfl⟩ : ∃ b, N = a + b := ⟨N - a, by omega⟩
  rw [List.range_add, List.filter_append, List.filter_append]
  have h1 : (((List.range a).filter P).filter fun i => decide (i < a)) = (List.range a).filter P := by
    rw [List.filter_eq_self]
    intro i hi
    exact decide_eq_true (List.mem_range.1 (List.mem_filter.1 hi).1)
  have h2 : ((((List.range b).map (a + ·)).filter P).filter fun i => decide (i < a)) = [] := by
    rw [List.filter_eq_nil_iff]
    intro i hi hlt
    obtain ⟨j, _, rfl⟩ := List.mem_map.1 (List.mem_filter.1 hi).1
    have := of_decide_eq_true hlt
    omega
  rw [h1, h2, List.append_nil]
theorem side_eq {m : Nat} {T : List Nat} {x a : Nat} (ha : a < 7) : (((itemsN (outN (fun y => decide (y ∈ T)) x 7)).filter fun i => decide (i < a)).map fun i => waysN m T (x ||| 2 ^ i)).sum = sideN m T x a := by
  unfold itemsN sideN
  rw [range_cut _ (by omega : a ≤ 7), sum_if]
  congr 1
  apply List.map_congr_left
  intro i hi
  have hi7 : i < 7 := by have := List.mem_range.1 hi; omega
  rw [outN, sumN_testBit, outP, decide_eq_true hi7, Bool.true_and]
  unfold stepN
  cases hb : x.testBit i with
  | true => simp
  | false =>
    by_cases hT : x ||| 2 ^ i ∈ T
    · simp [hT]
    · simp [hT]
theorem items_sorted (x : Nat) : (itemsN x).Pairwise (· < ·) := List.Pairwise.filter _ List.pairwise_lt_range
theorem ways_items {m : Nat} {T : List Nat} (h : SpN m T) {x : Nat} (hx : x ∈ T) (hf : x ≠ 2 ^ m - 1) : waysN m T x = ((itemsN (outN (fun y => decide (y ∈ T)) x 7)).map fun i => waysN m T (x ||| 2 ^ i)).sum := by
  rw [waysN_step h hx hf, ← cov_same h (h.lt128 x hx), covI, List.map_map]; rfl
theorem out_facts {m : Nat} {T : List Nat} (h : SpN m T) {x i : Nat} (hx : x ∈ T) (hi : i ∈ itemsN (outN (fun y => decide (y ∈ T)) x 7)) : i < 7 ∧ x.testBit i = false ∧ x ||| 2 ^ i ∈ T ∧ cntN (x ||| 2 ^ i) = cntN x + 1 ∧ cntN x + 1 ≤ m := by
  have hi7 := (mem_itemsN.1 hi).1
  have hb := (mem_itemsN.1 hi).2
  rw [outN, sumN_testBit, outP] at hb
  simp only [Bool.and_eq_true, decide_eq_true_eq, Bool.not_eq_true'] at hb
  obtain ⟨_, hb1, hb2⟩ := hb
  have hc := cnt_put2 ⟨x, h.lt128 x hx⟩ ⟨i, hi7⟩ hb1
  simp only at hc
  have hcm := cnt_le h.m7 (h.lt _ hb2)
  exact ⟨hi7, hb1, hb2, hc, by omega⟩
theorem words_no {m : Nat} {T : List Nat} (h : SpN m T) (W : List Int) : ∀ (d x : Nat) (wl : List Int) (n : Nat), x ∈ T → m - cntN x < d → wl.length + d ≤ 100 → ¬ wl <+: W → n + waysN m T x ≤ 1099511627776 →
    Ev (fun k => impl_Space_words_1.f d k (famN fun y => decide (y ∈ T)) (m : Int) (castL T) W (x : Int) wl (n : Int)) (true, ((n + waysN m T x : Nat) : Int))
  | 0, _, _, _, _, hd, _, _, _ => by omega
  | d + 1, x, wl, n, hxT, hd, hl, hno, hb => by
    have hx := h.lt128 x hxT
    have hpos : 0 < 2 ^ m := Nat.two_pow_pos m
    simp only [impl_Space_words_1.f, all_eq h.m61, Option.bind_some]
    by_cases hf : x = 2 ^ m - 1
    · simp only [show ((x : Int) = ((2 ^ m - 1 : Nat) : Int)) from by omega, ↓reduceIte]
      unfold impl_RankWord_1.f
      refine Ev.bind (equal_ev wl W (by omega)) ?_
      have hne : ¬ wl = W := by rintro rfl; exact hno (List.prefix_refl _)
      simp only [hne, decide_false, Bool.false_eq_true, ↓reduceIte]
      rw [w64 (by omega) (by omega), hf, waysN_full, show ((n : Int) + 1) = ((n + 1 : Nat) : Int) from by omega]
      exact Ev.some _
    · simp only [show ¬ ((x : Int) = ((2 ^ m - 1 : Nat) : Int)) from by omega, ↓reduceIte]
      refine Ev.bind (outer_ev _ hx) ?_
      have ho : outN (fun y => decide (y ∈ T)) x 7 < 128 := sumN_lt _ 7
      refine Ev.bind (items_ev ho) ?_
      have hl7 : (itemsN (outN (fun y => decide (y ∈ T)) x 7)).length ≤ 7 := Nat.le_trans (List.length_filter_le _ _) (by simp)
      simp only [castL_length, hl7, show wl.length < 1000 from by omega, ↓reduceIte]
      rw [ways_items h hxT hf] at hb ⊢
      refine run_all (B := 1099511627776) (V := fun i => waysN m T (x ||| 2 ^ i)) _ n (fun i hi q hq => ?_) hb
      obtain ⟨hi7, hb1, hb2, hc, hcm⟩ := out_facts h hxT hi
      have h2i := pow_lt_128 hi7
      simp only [shl1 (show i ≤ 61 from by omega), bOr (show x < 2 ^ 62 from by omega) (show 2 ^ i < 2 ^ 62 from by omega)]
      exact words_no h W d (x ||| 2 ^ i) (wl ++ [(i : Int)]) q hb2 (by omega) (by simp; omega) (fun hp => hno (List.IsPrefix.trans (List.prefix_append _ _) hp)) hq
theorem words_at {m : Nat} {T : List Nat} (h : SpN m T) (W : List Int) : ∀ (d x : Nat) (wl r : List Int) (n : Nat), x ∈ T → m - cntN x < d → wl.length + d ≤ 100 → wl ++ r = W → Goes m T x r → n + rkN m T x r ≤ 1099511627776 →
    Ev (fun k => impl_Space_words_1.f d k (famN fun y => decide (y ∈ T)) (m : Int) (castL T) W (x : Int) wl (n : Int)) (false, ((n + rkN m T x r : Nat) : Int))
  | 0, _, _, _, _, _, hd, _, _, _, _ => by omega
  | d + 1, x, wl, r, n, hxT, hd, hl, he, hg, hb => by
    have hx := h.lt128 x hxT
    have m7 := h.m7
    have hpos : 0 < 2 ^ m := Nat.two_pow_pos m
    simp only [impl_Space_words_1.f, all_eq h.m61, Option.bind_some]
    cases hg with
    | done =>
      simp only [↓reduceIte]
      unfold impl_RankWord_1.f
      refine Ev.bind (equal_ev wl W (by omega)) ?_
      have heq : wl = W := by simpa using he
      simp only [heq, decide_true, ↓reduceIte, rkN]
      exact Ev.some _
    | @step _ a r ha hb1 hT hg =>
      have hf : x ≠ 2 ^ m - 1 := Goes.notfull h (.step ha hb1 hT hg)
      simp only [show ¬ ((x : Int) = ((2 ^ m - 1 : Nat) : Int)) from by omega, ↓reduceIte]
      refine Ev.bind (outer_ev _ hx) ?_
      have ho : outN (fun y => decide (y ∈ T)) x 7 < 128 := sumN_lt _ 7
      refine Ev.bind (items_ev ho) ?_
      have hl7 : (itemsN (outN (fun y => decide (y ∈ T)) x 7)).length ≤ 7 := Nat.le_trans (List.length_filter_le _ _) (by simp)
      simp only [castL_length, hl7, show wl.length < 1000 from by omega, ↓reduceIte]
      rw [rkN, Int.toNat_natCast, ← side_eq (by omega : a < 7)] at hb ⊢
      have ha7 : a < 7 := by omega
      have hmem : a ∈ itemsN (outN (fun y => decide (y ∈ T)) x 7) := by
        rw [mem_itemsN, outN, sumN_testBit, outP]
        simp [ha7, hb1, hT]
      refine run_at (B := 1099511627776) (V := fun i => waysN m T (x ||| 2 ^ i)) (R := rkN m T (x ||| 2 ^ a) r) (fun q hq => ?_) _ n (items_sorted _) hmem (fun i hi hlt q hq => ?_) hb
      · obtain ⟨hi7, hb1, hb2, hc, hcm⟩ := out_facts h hxT hmem
        have h2i := pow_lt_128 hi7
        simp only [shl1 (show a ≤ 61 from by omega), bOr (show x < 2 ^ 62 from by omega) (show 2 ^ a < 2 ^ 62 from by omega)]
        exact words_at h W d (x ||| 2 ^ a) (wl ++ [(a : Int)]) r q hb2 (by omega) (by simp; omega) (by rw [List.append_assoc]; exact he) hg hq
      · obtain ⟨hi7, hb1, hb2, hc, hcm⟩ := out_facts h hxT hi
        have h2i := pow_lt_128 hi7
        simp only [shl1 (show i ≤ 61 from by omega), bOr (show x < 2 ^ 62 from by omega) (show 2 ^ i < 2 ^ 62 from by omega)]
        refine words_no h W d (x ||| 2 ^ i) (wl ++ [(i : Int)]) q hb2 (by omega) (by simp; omega) ?_ hq
        rw [← he]
        intro hp
        have h5 := (List.prefix_append_right_inj wl).1 hp
        have h6 := List.cons_prefix_cons.1 h5
        have h7 := h6.1
        omega
theorem words_ev {m : Nat} {T : List Nat} (h : SpN m T) (W : List Int) (hg : Goes m T 0 W) (hb : rkN m T 0 W ≤ 1099511627776) : Ev (fun k => impl_Space_words.f k (m : Int) (castL T) W 0) ((rkN m T 0 W : Nat) : Int) := by
  have m7 := h.m7
  unfold impl_Space_words.f
  refine Ev.bind (family_ev _ T h.lt128 h.small) ?_
  refine Ev.bind (setOf_ev h [] (by simp)) ?_
  have := words_at h W 9 0 [] W 0 h.zero (by omega) (by simp) rfl hg (by omega)
  rw [Nat.zero_add] at this
  exact Ev.bind this (Ev.some _)
theorem RankWord_both (n : Int) (S : List Int) (hS : S.length ≤ 1048576) (w : List Int) (hw : w.length ≤ 1048576) : ∃ v : Int × Bool, Ev (fun k => spec_RankWord.f k n S w) v ∧ Ev (fun k => impl_RankWord.f k n S w) v := by
  have hS2 : S.length ≤ 1099511627776 := by omega
  have hw2 : w.length ≤ 1099511627776 := by omega
  cases hg : goodB n S with
  | false =>
    refine ⟨(0, false), ?_, ?_⟩
    · have hf1 : Ev (fun k => spec_woFull.f k n S w) false := by
        unfold spec_woFull.f
        refine Ev.bind ((spec_spGood_ev n S hS2).eq hg) ?_
        simp only [↓reduceIte, Bool.false_eq_true]; exact Ev.some _
      unfold spec_RankWord.f
      refine Ev.bind hf1 ?_
      simp only [↓reduceIte, Bool.false_eq_true]; exact Ev.some _
    · have hf2 : Ev (fun k => impl_isFull.f k n S w) false := by
        unfold impl_isFull.f
        refine Ev.bind (isWord_no hS2 hg w) ?_
        simp only [↓reduceIte, Bool.false_eq_true]; exact Ev.some _
      unfold impl_RankWord.f
      refine Ev.bind hf2 ?_
      simp only [↓reduceIte, Bool.false_eq_true]; exact Ev.some _
  | true =>
    obtain ⟨m, T, rfl, rfl, h⟩ := good_space hg
    have m7 := h.m7
    have m1 := h.m1
    have hf1 : Ev (fun k => spec_woFull.f k (m : Int) (castL T) w) (decide (w.length = m) && (wordR m T w 0).2) := by
      unfold spec_woFull.f
      refine Ev.bind h.spec ?_
      simp only [↓reduceIte]
      by_cases e : w.length = m
      · simp only [show ((w.length : Int) = (m : Int)) from by omega, ↓reduceIte]
        exact Ev.bind (woSet_ev h w (by omega)) ((Ev.some _).eq (by simp [e]))
      · simp only [show ¬ ((w.length : Int) = (m : Int)) from by omega, ↓reduceIte]
        exact (Ev.some _).eq (by simp [e])
    have hf2 : Ev (fun k => impl_isFull.f k (m : Int) (castL T) w) (decide (w.length = m) && (wordR m T w 0).2) := by
      unfold impl_isFull.f
      refine Ev.bind (isWord_ev h w (by omega)) ?_
      cases hw2 : (wordR m T w 0).2 with
      | false => simp only [↓reduceIte, Bool.false_eq_true]; exact (Ev.some _).eq (by simp)
      | true =>
        simp only [↓reduceIte]
        refine (Ev.some _).eq ?_
        rw [Bool.eq_iff_iff, beq_iff_eq, Bool.and_true, decide_eq_true_eq]
        omega
    cases h1 : (decide (w.length = m) && (wordR m T w 0).2) with
    | false =>
      rw [h1] at hf1 hf2
      refine ⟨(0, false), ?_, ?_⟩
      · unfold spec_RankWord.f
        refine Ev.bind hf1 ?_
        simp only [↓reduceIte, Bool.false_eq_true]; exact Ev.some _
      · unfold impl_RankWord.f
        refine Ev.bind hf2 ?_
        simp only [↓reduceIte, Bool.false_eq_true]; exact Ev.some _
    | true =>
      rw [h1] at hf1 hf2
      obtain ⟨h2, h3⟩ := Bool.and_eq_true_iff.1 h1
      have hlm := of_decide_eq_true h2
      have hgo : Goes m T 0 w := goes_of h w 0 h.zero h3 (by rw [hlm]; simp [cntN, itemsN])
      have hr := rkN_le h hgo
      have hr2 : w.length * 282475249 ≤ 7 * 282475249 := Nat.mul_le_mul_right _ (by omega)
      refine ⟨(((rkN m T 0 w : Nat) : Int), true), ?_, ?_⟩
      · unfold spec_RankWord.f
        refine Ev.bind hf1 ?_
        simp only [↓reduceIte]
        refine Ev.bind (woWays_ev h) ?_
        have := rank_loop h w (by omega) hgo [] 0 rfl (by omega) (by omega)
        rw [Nat.zero_add] at this
        exact this
      · unfold impl_RankWord.f
        refine Ev.bind hf2 ?_
        simp only [↓reduceIte]
        exact Ev.bind (words_ev h w hgo (by omega)) (Ev.some _)
end Go.Proofs.Ytekllaaohagefaa.Q
