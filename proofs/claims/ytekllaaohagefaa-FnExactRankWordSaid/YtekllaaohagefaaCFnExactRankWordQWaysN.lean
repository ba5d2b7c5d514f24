/- How many words lead from a set to all items: the number, the reference; conditions: as each theorem states. -/
import Derived.Test.YtekllaaohagefaaCFnExactRankWordQCovL
import Derived.Test.YtekllaaohagefaaCFnExactRankWordP4
namespace Go.Proofs.Ytekllaaohagefaa.Q
open Go.RowKit Go.Proofs.YtekllaaohagefaaW.PrintWords Go.Proofs.YtekllaaohagefaaW.PrintLast Go.Proofs.YtekllaaohagefaaW.PrintMore Go.Proofs.Ytekllaaohagefaa.P
set_option linter.unusedVariables false
set_option linter.unusedSimpArgs false

/-- The ways, by at most so many steps. -/
def WN (m : Nat) (T : List Nat) : Nat → Nat → Nat
  | 0, _ => 0
  | d + 1, x => if x = 2 ^ m - 1 then 1 else ((covL T x).map (WN m T d)).sum
theorem cnt_le_all : ((List.range 8).all fun m => (List.range (2 ^ m)).all fun x => decide (cntN x ≤ m)) = true := by decide +kernel
theorem cnt_le {m x : Nat} (m7 : m ≤ 7) (hx : x < 2 ^ m) : cntN x ≤ m := by
  have h := List.all_eq_true.1 (List.all_eq_true.1 cnt_le_all m (List.mem_range.2 (by omega))) x (List.mem_range.2 hx)
  exact of_decide_eq_true h
theorem mem_covL {T : List Nat} {x y : Nat} : y ∈ covL T x ↔ y ∈ T ∧ andn x y = 0 ∧ cntN y = cntN x + 1 := by
  simp [covL, List.mem_filter, Bool.and_eq_true]
theorem WN_stable {m : Nat} {T : List Nat} (h : SpN m T) : ∀ (d x : Nat), x ∈ T → m - cntN x < d → WN m T (d + 1) x = WN m T d x
  | 0, _, _, hd => by omega
  | d + 1, x, hx, hd => by
    rw [WN, WN]
    by_cases hf : x = 2 ^ m - 1
    · rw [if_pos hf, if_pos hf]
    · rw [if_neg hf, if_neg hf]
      congr 1
      apply List.map_congr_left
      intro y hy
      obtain ⟨h1, _, h2⟩ := mem_covL.1 hy
      have h3 := cnt_le h.m7 (h.lt y h1)
      exact WN_stable h d y h1 (by omega)
theorem covL_le7 {m : Nat} {T : List Nat} (h : SpN m T) {x : Nat} (hx : x < 128) : (covL T x).length ≤ 7 := by
  rw [← cov_same h hx, covI, List.length_map]
  exact Nat.le_trans (List.length_filter_le _ _) (by simp)
theorem sum_le (f : Nat → Nat) (b : Nat) : ∀ l : List Nat, (∀ x ∈ l, f x ≤ b) → (l.map f).sum ≤ l.length * b
  | [], _ => by simp
  | x :: l, h => by
    have h1 := h x (by simp)
    have h2 := sum_le f b l (fun y hy => h y (by simp [hy]))
    simp only [List.map_cons, List.sum_cons, List.length_cons, Nat.succ_mul]; omega
theorem WN_le {m : Nat} {T : List Nat} (h : SpN m T) : ∀ (d x : Nat), x < 128 → WN m T d x ≤ 7 ^ d
  | 0, _, _ => by simp [WN]
  | d + 1, x, hx => by
    rw [WN]
    split
    · exact Nat.one_le_pow _ _ (by decide)
    · have h1 := sum_le (WN m T d) (7 ^ d) (covL T x) (fun y hy => WN_le h d y (h.lt128 y (mem_covL.1 hy).1))
      have h2 := covL_le7 h hx
      have h3 : (covL T x).length * 7 ^ d ≤ 7 * 7 ^ d := Nat.mul_le_mul_right _ h2
      rw [Nat.pow_succ, Nat.mul_comm]
      omega
/-- The ways. -/
def waysN (m : Nat) (T : List Nat) (x : Nat) : Nat := WN m T 9 x
theorem waysN_le {m : Nat} {T : List Nat} (h : SpN m T) {x : Nat} (hx : x < 128) : waysN m T x ≤ 40353607 := WN_le h 9 x hx
theorem waysN_full (m : Nat) (T : List Nat) : waysN m T (2 ^ m - 1) = 1 := by unfold waysN; rw [WN, if_pos rfl]
theorem waysN_step {m : Nat} {T : List Nat} (h : SpN m T) {x : Nat} (hx : x ∈ T) (hf : x ≠ 2 ^ m - 1) : waysN m T x = ((covL T x).map (waysN m T)).sum := by
  unfold waysN
  rw [WN, if_neg hf]
  congr 1
  apply List.map_congr_left
  intro y hy
  obtain ⟨h1, _, h2⟩ := mem_covL.1 hy
  have := h.m7
  exact (WN_stable h 8 y h1 (by omega)).symm

/-! ### the reference -/
theorem one_more_all : ((List.range 128).all fun x => (List.range 128).all fun y => !decide (andn x y = 0) || (decide (cntN (andn y x) = 1) == decide (cntN y = cntN x + 1))) = true := by decide +kernel
theorem one_more {x y : Nat} (hx : x < 128) (hy : y < 128) (h : andn x y = 0) : decide (cntN (andn y x) = 1) = decide (cntN y = cntN x + 1) := by
  have q := List.all_eq_true.1 (List.all_eq_true.1 one_more_all x (List.mem_range.2 hx)) y (List.mem_range.2 hy)
  rw [decide_eq_true h] at q
  simpa using q
theorem castL_set2 (L : List Nat) (i v : Nat) : (castL L).set i (v : Int) = castL (L.set i v) := by simp [castL, List.map_set]
theorem set_mid2 (A : List Nat) (a b : Nat) (B : List Nat) : (A ++ a :: B).set A.length b = A ++ b :: B := by simp
theorem idx_facts {p m r s t : Nat} (h1 : t = p + (s + 1)) (h2 : s = m + (r + 1)) : ((p + 1 + m : Nat) : Int) < ((p + 1 + s : Nat) : Int) ∧ (0 : Int) ≤ ((p + 1 + m : Nat) : Int) ∧ ((p + 1 + m : Nat) : Int) < (t : Int) ∧ (0 : Int) ≤ (p : Int) ∧ (p : Int) < (t : Int) ∧ (p : Int) < ((p + 1 + s : Nat) : Int) := by
  refine ⟨by omega, by omega, by omega, by omega, by omega, by omega⟩
theorem woWays_in {m : Nat} {T : List Nat} (h : SpN m T) {x : Nat} (pre suf : List Nat) (hT : pre ++ x :: suf = T) (tot : Nat) (htot : tot ≤ 5165261696) (v : List Int)
    (hv : Ev (fun k => spec_woWays.l0 k (castL (List.replicate pre.length 0 ++ tot :: suf.map (waysN m T))) (wrap64 ((pre.length : Int) - 1)) (m : Int) (castL T)) v) : ∀ (rest mid : List Nat) (acc : Nat), mid ++ rest = suf → acc + ((rest.filter fun y => decide (andn x y = 0) && decide (cntN y = cntN x + 1)).map (waysN m T)).sum = tot →
    Ev (fun k => spec_woWays.l1 k (castL (List.replicate pre.length 0 ++ acc :: suf.map (waysN m T))) (pre.length : Int) ((pre.length + 1 + mid.length : Nat) : Int) (m : Int) (castL T)) v := by
  have hTl := h.short
  have hlen : T.length = pre.length + (suf.length + 1) := by rw [← hT]; simp
  have hx := h.lt128 x (by rw [← hT]; simp)
  intro rest
  induction rest with
  | nil =>
    intro mid acc e ha
    obtain rfl : mid = suf := by simpa using e
    have hl : (castL (List.replicate pre.length 0 ++ acc :: mid.map (waysN m T))).length = pre.length + 1 + mid.length := by simp; omega
    refine Ev.step (fun k => by rw [spec_woWays.l1]) ?_
    simp only [hl, show ¬ (((pre.length + 1 + mid.length : Nat) : Int) < ((pre.length + 1 + mid.length : Nat) : Int)) from by omega, ↓reduceIte]
    have e2 : acc = tot := by simpa using ha
    rw [e2]; exact hv
  | cons y rest ih =>
    intro mid acc e ha
    have hy : y < 128 := h.lt128 y (by rw [← hT, ← e]; simp)
    have hsl : suf.length = mid.length + (rest.length + 1) := by rw [← e]; simp
    have hl : (castL (List.replicate pre.length 0 ++ acc :: suf.map (waysN m T))).length = pre.length + 1 + suf.length := by simp; omega
    have e1 : rd (castL T) (pre.length : Int) = (x : Int) := by rw [← hT]; exact rd_castL_mid _ _ _
    have e2 : rd (castL T) ((pre.length + 1 + mid.length : Nat) : Int) = (y : Int) := by
      have := rd_castL_mid (pre ++ x :: mid) y rest
      rw [List.length_append, List.length_cons, List.append_assoc, List.cons_append, e, hT] at this
      rw [show pre.length + 1 + mid.length = pre.length + (mid.length + 1) from by omega]
      exact this
    have e3 : rd (castL (List.replicate pre.length 0 ++ acc :: suf.map (waysN m T))) (pre.length : Int) = (acc : Int) := by
      have := rd_castL_mid (List.replicate pre.length 0) acc (suf.map (waysN m T))
      rwa [List.length_replicate] at this
    have e4 : rd (castL (List.replicate pre.length 0 ++ acc :: suf.map (waysN m T))) ((pre.length + 1 + mid.length : Nat) : Int) = ((waysN m T y : Nat) : Int) := by
      have := rd_castL_mid (List.replicate pre.length 0 ++ acc :: mid.map (waysN m T)) (waysN m T y) (rest.map (waysN m T))
      rw [List.length_append, List.length_cons, List.length_replicate, List.length_map, List.append_assoc, List.cons_append, ← List.map_cons, ← List.map_append, e] at this
      rw [show pre.length + 1 + mid.length = pre.length + (mid.length + 1) from by omega]
      exact this
    have hw : wrap64 (((pre.length + 1 + mid.length : Nat) : Int) + 1) = ((pre.length + 1 + (mid ++ [y]).length : Nat) : Int) := by
      rw [wnext (n := T.length) (by omega) (by omega)]; simp; omega
    have hd2 : andn y x < 128 := andn_lt hy
    obtain ⟨hq1, hq2, hq3, hq4, hq5, hq6⟩ := idx_facts hlen hsl
    refine Ev.step (fun k => by rw [spec_woWays.l1]) ?_
    simp only [hl, castL_length, hq1, hq2, hq3, hq4, hq5, e1, e2, e3, e4, bAndn (show x < 2 ^ 62 from by omega) (show y < 2 ^ 62 from by omega), bAndn (show y < 2 ^ 62 from by omega) (show x < 2 ^ 62 from by omega), hw, ↓reduceIte]
    have hskip : (decide (andn x y = 0) && decide (cntN y = cntN x + 1)) = false → Ev (fun k => spec_woWays.l1 k (castL (List.replicate pre.length 0 ++ acc :: suf.map (waysN m T))) (pre.length : Int) ((pre.length + 1 + (mid ++ [y]).length : Nat) : Int) (m : Int) (castL T)) v := by
      intro hf
      refine ih (mid ++ [y]) acc (by simp [e]) ?_
      rw [List.filter_cons, hf] at ha
      simpa using ha
    by_cases h1 : andn x y = 0
    rotate_left
    · simp only [show ¬ (((andn x y : Nat) : Int) = 0) from by omega, ↓reduceIte]
      exact hskip (by simp [h1])
    simp only [show (((andn x y : Nat) : Int) = 0) from by omega, ↓reduceIte]
    refine Ev.bind (spCount_ev hd2) ?_
    have h3 := one_more hx hy h1
    by_cases h2 : cntN (andn y x) = 1
    rotate_left
    · simp only [show ¬ (((cntN (andn y x) : Nat) : Int) = 1) from by omega, ↓reduceIte]
      rw [decide_eq_false h2] at h3
      exact hskip (by rw [← h3, Bool.and_false])
    rw [decide_eq_true h2] at h3
    have ha2 : acc + waysN m T y + ((rest.filter fun y => decide (andn x y = 0) && decide (cntN y = cntN x + 1)).map (waysN m T)).sum = tot := by
      rw [List.filter_cons, ← h3, decide_eq_true h1] at ha
      simp only [Bool.and_self, ↓reduceIte, List.map_cons, List.sum_cons] at ha
      omega
    have hn := ih (mid ++ [y]) (acc + waysN m T y) (by simp [e]) ha2
    simp only [show (((cntN (andn y x) : Nat) : Int) = 1) from by omega, hq6, ↓reduceIte]
    rw [w64 (by omega) (by omega), show ((acc : Int) + ((waysN m T y : Nat) : Int)) = ((acc + waysN m T y : Nat) : Int) from by omega, Int.toNat_natCast, castL_set2]
    have hset : (List.replicate pre.length 0 ++ acc :: suf.map (waysN m T)).set pre.length (acc + waysN m T y) = List.replicate pre.length 0 ++ (acc + waysN m T y) :: suf.map (waysN m T) := by
      have := set_mid2 (List.replicate pre.length 0) acc (acc + waysN m T y) (suf.map (waysN m T))
      rwa [List.length_replicate] at this
    rw [hset]
    exact hn
theorem cov_suf {m : Nat} {T : List Nat} (h : SpN m T) {x : Nat} {pre suf : List Nat} (hT : pre ++ x :: suf = T) : (suf.filter fun y => decide (andn x y = 0) && decide (cntN y = cntN x + 1)) = covL T x := by
  have hinc := h.inc
  have hx := h.lt128 x (by rw [← hT]; simp)
  unfold covL
  rw [← hT, List.filter_append, List.filter_cons]
  have h1 : (pre.filter fun y => decide (andn x y = 0) && decide (cntN y = cntN x + 1)) = [] := by
    rw [List.filter_eq_nil_iff]
    intro y hy hc
    simp only [Bool.and_eq_true, decide_eq_true_eq] at hc
    obtain ⟨i, _, hi, e⟩ := cover_bit hx (h.lt128 y (by rw [← hT]; simp [hy])) hc.1 hc.2
    rw [← hT] at hinc
    have hlt : y < x := (List.pairwise_append.1 hinc).2.2 y hy x (by simp)
    have : x ≤ y := by rw [e]; exact Nat.left_le_or
    omega
  have h2 : (decide (andn x x = 0) && decide (cntN x = cntN x + 1)) = false := by simp
  rw [h1, h2]
  simp
theorem woWays_loop {m : Nat} {T : List Nat} (h : SpN m T) : ∀ (pre suf : List Nat), pre ++ suf = T → suf ≠ [] →
    Ev (fun k => spec_woWays.l0 k (castL (List.replicate pre.length 0 ++ suf.map (waysN m T))) ((pre.length : Int) - 1) (m : Int) (castL T)) (castL (T.map (waysN m T))) := by
  intro pre
  induction hp : pre.length generalizing pre with
  | zero =>
    intro suf e _
    obtain rfl : pre = [] := List.eq_nil_of_length_eq_zero hp
    obtain rfl : suf = T := by simpa using e
    refine Ev.step (fun k => by rw [spec_woWays.l0]) ?_
    simp only [show ¬ (((0 : Nat) : Int) - 1 ≥ 0) from by omega, ↓reduceIte]
    exact (Ev.some _).eq (by simp)
  | succ n ih =>
    intro suf e hne
    obtain ⟨q, x, rfl⟩ : ∃ q x, pre = q ++ [x] := ⟨pre.dropLast, pre.getLast (by intro h0; rw [h0] at hp; cases hp), (List.dropLast_concat_getLast _).symm⟩
    have hq : q.length = n := by simpa using hp
    have e' : q ++ x :: suf = T := by rw [← e]; simp
    have hTl := h.short
    have hlen : T.length = q.length + (suf.length + 1) := by rw [← e']; simp
    have hxT : x ∈ T := by rw [← e']; simp
    have hxf : x ≠ 2 ^ m - 1 := by
      intro hx
      cases suf with
      | nil => exact hne rfl
      | cons y s =>
        have hinc := h.inc
        rw [← e'] at hinc
        have h1 : x < y := List.rel_of_pairwise_cons (List.pairwise_append.1 hinc).2.1 (by simp)
        have h2 := h.lt y (by rw [← e']; simp)
        omega
    have hn := ih q hq (x :: suf) e' (by simp)
    rw [List.map_cons, waysN_step h hxT hxf, ← cov_suf h e'] at hn
    have hrep : List.replicate (n + 1) 0 ++ suf.map (waysN m T) = List.replicate q.length 0 ++ 0 :: suf.map (waysN m T) := by
      rw [hq, List.replicate_succ', List.append_assoc]; rfl
    rw [hrep]
    have hnn : (((n + 1 : Nat) : Int) - 1) = (q.length : Int) := by omega
    rw [hnn]
    refine Ev.step (fun k => by rw [spec_woWays.l0]) ?_
    simp only [show ((q.length : Int) ≥ 0) from by omega, ↓reduceIte]
    rw [wnext (n := T.length) (by omega) (by omega)]
    have htb : ((suf.filter fun y => decide (andn x y = 0) && decide (cntN y = cntN x + 1)).map (waysN m T)).sum ≤ 5165261696 := by
      have h128 : ∀ y ∈ suf, y < 128 := fun y hy => h.lt128 y (by rw [← e']; simp [hy])
      refine Nat.le_trans (sum_le (waysN m T) 40353607 _ (fun y hy => waysN_le h (h128 y (List.mem_filter.1 hy).1))) ?_
      have hfl : (suf.filter fun y => decide (andn x y = 0) && decide (cntN y = cntN x + 1)).length ≤ 128 := Nat.le_trans (List.length_filter_le _ _) (by omega)
      exact Nat.le_trans (Nat.mul_le_mul_right _ hfl) (by decide)
    refine woWays_in h q suf e' _ htb _ ?_ suf [] 0 rfl (Nat.zero_add _)
    rw [w64 (by omega) (by omega)]
    rw [← hq] at hn
    exact hn
theorem woWays_ev {m : Nat} {T : List Nat} (h : SpN m T) : Ev (fun k => spec_woWays.f k (m : Int) (castL T)) (castL (T.map (waysN m T))) := by
  have hTl := h.short
  have hne : T ≠ [] := fun e => by have := h.zero; rw [e] at this; simp at this
  obtain ⟨q, x, rfl⟩ : ∃ q x, T = q ++ [x] := ⟨T.dropLast, T.getLast hne, (List.dropLast_concat_getLast _).symm⟩
  have hlen : (q ++ [x]).length = q.length + 1 := by simp
  have hx : x = 2 ^ m - 1 := by
    have hf := h.full
    have hinc := h.inc
    rcases List.mem_append.1 hf with hf | hf
    · have h1 : 2 ^ m - 1 < x := (List.pairwise_append.1 hinc).2.2 _ hf x (by simp)
      have h2 := h.lt x (by simp)
      omega
    · simp at hf; exact hf.symm
  have hn := woWays_loop h q [x] rfl (by simp)
  rw [List.map_cons, List.map_nil, hx, waysN_full, ← hx] at hn
  unfold spec_woWays.f
  simp only [castL_length, hlen, show (0 : Int) ≤ ((q.length + 1 : Nat) : Int) from by omega, Int.toNat_natCast, show q.length + 1 ≤ 35184372088832 from by rw [hlen] at hTl; omega, Option.bind_some, List.length_replicate, ↓reduceIte]
  rw [w64 (by omega) (by rw [hlen] at hTl; omega), w64 (by omega) (by rw [hlen] at hTl; omega)]
  simp only [show (0 : Int) ≤ ((q.length + 1 : Nat) : Int) - 1 from by omega, show ((q.length + 1 : Nat) : Int) - 1 < ((q.length + 1 : Nat) : Int) from by omega, show (((q.length + 1 : Nat) : Int) - 1).toNat = q.length from by omega, show ((q.length + 1 : Nat) : Int) - 2 = (q.length : Int) - 1 from by omega, ↓reduceIte]
  have hrep : (List.replicate (q.length + 1) (0 : Int)).set q.length 1 = castL (List.replicate q.length 0 ++ [1]) := by
    rw [List.replicate_succ']
    have := List.set_append_right (s := List.replicate q.length (0 : Int)) (t := [0]) q.length (1 : Int) (by simp)
    rw [this]
    simp [castL]
  rw [hrep]
  exact hn
theorem woFrom_loop {m : Nat} {T : List Nat} (h : SpN m T) {x : Nat} (hx : x ∈ T) : ∀ (rest pre : List Nat), pre ++ rest = T → x ∉ pre →
    Ev (fun k => spec_woFrom.l0 k (castL (T.map (waysN m T))) (x : Int) (castL T) (T.length : Int) (pre.length : Int)) ((waysN m T x : Nat) : Int) := by
  have hTl := h.short
  intro rest
  induction rest with
  | nil =>
    intro pre e hn
    obtain rfl : pre = T := by simpa using e
    exact absurd hx hn
  | cons y rest ih =>
    intro pre e hn
    have hlen : T.length = pre.length + (rest.length + 1) := by rw [← e]; simp
    have er : rd (castL T) (pre.length : Int) = (y : Int) := by rw [← e]; exact rd_castL_mid _ _ _
    have er2 : rd (castL (T.map (waysN m T))) (pre.length : Int) = ((waysN m T y : Nat) : Int) := by
      have e5 : T.map (waysN m T) = pre.map (waysN m T) ++ waysN m T y :: rest.map (waysN m T) := by
        rw [← List.map_cons, ← List.map_append, e]
      rw [e5]
      have := rd_castL_mid (pre.map (waysN m T)) (waysN m T y) (rest.map (waysN m T))
      rwa [List.length_map] at this
    refine Ev.step (fun k => by rw [spec_woFrom.l0]) ?_
    simp only [show ((pre.length : Int) < (T.length : Int)) from by omega, show (0 : Int) ≤ (pre.length : Int) from by omega, castL_length, List.length_map, er, er2, ↓reduceIte]
    by_cases hy : y = x
    · subst hy
      simp only [↓reduceIte]
      exact Ev.some _
    · simp only [show ¬ ((y : Int) = (x : Int)) from by omega, ↓reduceIte]
      rw [wnext (n := T.length) (by omega) (by omega)]
      have := ih (pre ++ [y]) (by simp [e]) (by simp [hn]; omega)
      rw [List.length_append, List.length_singleton] at this
      exact this
theorem woFrom_ev {m : Nat} {T : List Nat} (h : SpN m T) {x : Nat} (hx : x ∈ T) : Ev (fun k => spec_woFrom.f k (m : Int) (castL T) (castL (T.map (waysN m T))) (x : Int)) ((waysN m T x : Nat) : Int) := by
  unfold spec_woFrom.f
  rw [castL_length]
  exact woFrom_loop h hx T [] rfl (by simp)
end Go.Proofs.Ytekllaaohagefaa.Q
