/- The critical pairs of an item and a set: both; conditions: as each theorem states. -/
import Derived.Test.YtekllaaohagefaaCFnExactCriticalOfQOuter
import Derived.Test.YtekllaaohagefaaCFnExactCriticalOfQOutI
import Derived.Test.YtekllaaohagefaaCFnExactCriticalOfQSSRes
import Derived.Test.YtekllaaohagefaaCFnExactCriticalOfP4
namespace Go.Proofs.Ytekllaaohagefaa.Q
open Go.RowKit Go.Proofs.YtekllaaohagefaaW.PrintWords Go.Proofs.YtekllaaohagefaaW.PrintLast Go.Proofs.YtekllaaohagefaaW.PrintMore Go.Proofs.Ytekllaaohagefaa.P
set_option linter.unusedVariables false
set_option linter.unusedSimpArgs false

/-- Does each item that can be learnt at a set lead to a set at which i can be learnt? -/
def nxtB (T : List Nat) (i x k : Nat) : Bool := decide (x ||| 2 ^ k ||| 2 ^ i ∈ T)
def critB (T : List Nat) (i x : Nat) : Bool := !x.testBit i && !(outN (fun y => decide (y ∈ T)) x 7).testBit i && (itemsN (outN (fun y => decide (y ∈ T)) x 7)).all (nxtB T i x)
theorem crit1_ev {m : Nat} {T : List Nat} (h : SpN m T) {i x k : Nat} (hi : i < 7) (hx : x < 128) (hk : k < 7) (hxi : x.testBit i = false) (hki : k ≠ i) :
    Ev (fun q => impl_CriticalOf_1.f q (k : Int) [famN (fun y => decide (y ∈ T))] [(x : Int)] [(i : Int)]) (!nxtB T i x k) := by
  have h2 := pow_lt_128 hk
  have hor : x ||| 2 ^ k < 128 := Nat.or_lt_two_pow (n := 7) hx h2
  have e1 : rd_L5 [famN (fun y => decide (y ∈ T))] 0 = famN (fun y => decide (y ∈ T)) := rfl
  have ex : rd [(x : Int)] 0 = (x : Int) := rfl
  have ei : rd [(i : Int)] 0 = (i : Int) := rfl
  unfold impl_CriticalOf_1.f
  simp only [List.length_singleton, show ((0 : Int) < ((1 : Nat) : Int)) from by omega, show (0 : Int) ≤ (k : Int) from by omega, show (0 : Int) ≤ (i : Int) from by omega, e1, ex, ei, shl1 (show k ≤ 61 from by omega), bOr (show x < 2 ^ 62 from by omega) (show 2 ^ k < 2 ^ 62 from by omega), ↓reduceIte]
  refine Ev.bind (outer_ev _ hor) ?_
  have ho : outN (fun y => decide (y ∈ T)) (x ||| 2 ^ k) 7 < 128 := sumN_lt _ 7
  refine (Ev.some _).eq ?_
  rw [bitAnd (show outN (fun y => decide (y ∈ T)) (x ||| 2 ^ k) 7 < 2 ^ 62 from by omega) (show i ≤ 64 from by omega)]
  have hb : (outN (fun y => decide (y ∈ T)) (x ||| 2 ^ k) 7).testBit i = nxtB T i x k := by
    rw [outN, sumN_testBit, outP, Nat.testBit_or, hxi, Nat.testBit_two_pow]
    simp [hi, hki, nxtB]
  rw [hb]
  cases nxtB T i x k <;> rfl
theorem crit_idx {m : Nat} {T : List Nat} (h : SpN m T) {i x : Nat} (hi : i < 7) (hx : x < 128) (hxi : x.testBit i = false) (I : List Nat) (hI : ∀ k ∈ I, k < 7 ∧ k ≠ i) (hl : I.length ≤ 7) : ∀ rest pre : List Nat, pre ++ rest = I →
    ∃ v, Ev (fun q => slices_IndexFunc_int_int__CriticalOf_1.l0 q (castL I) (I.length : Int) (pre.length : Int) [famN (fun y => decide (y ∈ T))] [(x : Int)] [(i : Int)]) v ∧ (decide (v ≥ 0) = rest.any fun k => !nxtB T i x k) := by
  intro rest
  induction rest with
  | nil =>
    intro pre e
    obtain rfl : pre = I := by simpa using e
    refine ⟨-1, Ev.step (fun k => by rw [slices_IndexFunc_int_int__CriticalOf_1.l0]) ?_, rfl⟩
    simp only [show ¬ ((pre.length : Int) < (pre.length : Int)) from by omega, ↓reduceIte]
    exact Ev.some _
  | cons k rest ih =>
    intro pre e
    have hlen : I.length = pre.length + (rest.length + 1) := by rw [← e]; simp
    have er : rd (castL I) (pre.length : Int) = (k : Int) := by rw [← e]; exact rd_castL_mid _ _ _
    have hk := hI k (by rw [← e]; simp)
    have h1 := crit1_ev h hi hx hk.1 hxi hk.2
    obtain ⟨v, hv, hd⟩ := ih (pre ++ [k]) (by simp [e])
    rw [List.length_append, List.length_singleton, ← wnext (n := I.length) (by omega) (by omega)] at hv
    cases hn : nxtB T i x k with
    | false =>
      rw [hn] at h1
      refine ⟨(pre.length : Int), Ev.step (fun k => by rw [slices_IndexFunc_int_int__CriticalOf_1.l0]) ?_, by simp [hn]⟩
      simp only [show ((pre.length : Int) < (I.length : Int)) from by omega, show (0 : Int) ≤ (pre.length : Int) from by omega, castL_length, er, ↓reduceIte]
      refine Ev.bind h1 ?_
      simp only [Bool.not_false, ↓reduceIte]
      exact Ev.some _
    | true =>
      rw [hn] at h1
      refine ⟨v, Ev.step (fun k => by rw [slices_IndexFunc_int_int__CriticalOf_1.l0]) ?_, by simp [hn, hd]⟩
      simp only [show ((pre.length : Int) < (I.length : Int)) from by omega, show (0 : Int) ≤ (pre.length : Int) from by omega, castL_length, er, ↓reduceIte]
      refine Ev.bind h1 ?_
      simp only [Bool.not_true, Bool.false_eq_true, ↓reduceIte]
      exact hv
theorem crit_has {m : Nat} {T : List Nat} (h : SpN m T) {i x : Nat} (hi : i < 7) (hx : x < 128) (hxi : x.testBit i = false) (hoi : (outN (fun y => decide (y ∈ T)) x 7).testBit i = false) :
    Ev (fun q => slices_ContainsFunc_int_int__CriticalOf_1.f q (castL (itemsN (outN (fun y => decide (y ∈ T)) x 7))) [famN (fun y => decide (y ∈ T))] [(x : Int)] [(i : Int)]) (!(itemsN (outN (fun y => decide (y ∈ T)) x 7)).all (nxtB T i x)) := by
  obtain ⟨v, hv, hd⟩ := crit_idx h hi hx hxi (itemsN (outN (fun y => decide (y ∈ T)) x 7)) (fun k hk => ⟨(mem_itemsN.1 hk).1, fun e => by have := (mem_itemsN.1 hk).2; rw [e, hoi] at this; cases this⟩) (Nat.le_trans (List.length_filter_le _ _) (by simp)) (itemsN (outN (fun y => decide (y ∈ T)) x 7)) [] rfl
  unfold slices_ContainsFunc_int_int__CriticalOf_1.f slices_IndexFunc_int_int__CriticalOf_1.f
  rw [castL_length]
  refine Ev.bind hv ((Ev.some _).eq ?_)
  rw [hd, List.not_all_eq_any_not]
/-- The pairs of an item. -/
def prI (i : Nat) (l : List Nat) : List (List Int) := l.map fun (y : Nat) => [(i : Int), (y : Int)]
def critI (T : List Nat) (i : Nat) (l : List Nat) : List (List Int) := prI i (l.filter (critB T i))
def critAll (T : List Nat) (c : Nat) : List (List Int) := (List.range c).flatMap fun i => critI T i T
theorem critAll_succ (T : List Nat) (c : Nat) : critAll T (c + 1) = critAll T c ++ critI T c T := by simp [critAll, List.range_succ]
theorem critI_len (T : List Nat) (i : Nat) (l : List Nat) : (critI T i l).length ≤ l.length := by
  unfold critI prI
  rw [List.length_map]; exact List.length_filter_le _ _
theorem critI_snoc (T : List Nat) (i : Nat) (l : List Nat) (x : Nat) : critI T i (l ++ [x]) = if critB T i x = true then critI T i l ++ [[(i : Int), (x : Int)]] else critI T i l := by
  unfold critI prI
  rw [List.filter_append]
  by_cases h : critB T i x = true <;> simp [h]
theorem critAll_len {T : List Nat} (hT : T.length ≤ 128) : ∀ c : Nat, (critAll T c).length ≤ c * 128
  | 0 => by simp [critAll]
  | c + 1 => by
    have := critAll_len hT c
    have h2 := critI_len T c T
    rw [critAll_succ, List.length_append]; omega
theorem impl_crit_in {m : Nat} {T : List Nat} (h : SpN m T) {i : Nat} (hi : i < m) (R0 : List (List Int)) (hR0 : R0.length ≤ 1048576) (v : List (List Int) × Bool) (hv : Ev (fun k => impl_CriticalOf.l0 k (R0 ++ critI T i T) [famN (fun y => decide (y ∈ T))] (m : Int) (wrap64 ((i : Int) + 1)) (m : Int) (castL T)) v) : ∀ (rest pre : List Nat), pre ++ rest = T →
    Ev (fun k => impl_CriticalOf.l1 k (R0 ++ critI T i pre) [famN (fun y => decide (y ∈ T))] [(i : Int)] (m : Int) (i : Int) (castL T) (T.length : Int) (pre.length : Int) (m : Int) (castL T)) v := by
  intro rest
  have hT := h.short
  have m7 := h.m7
  induction rest with
  | nil =>
    intro pre e
    obtain rfl : pre = T := by simpa using e
    refine Ev.step (fun k => by rw [impl_CriticalOf.l1]) ?_
    simp only [show ¬ ((pre.length : Int) < (pre.length : Int)) from by omega, ↓reduceIte]
    exact hv
  | cons x rest ih =>
    intro pre e
    have hlen : T.length = pre.length + (rest.length + 1) := by rw [← e]; simp
    have er : rd (castL T) (pre.length : Int) = (x : Int) := by rw [← e]; exact rd_castL_mid _ _ _
    have hx : x < 128 := h.lt128 x (by rw [← e]; simp)
    have e1 : rd_L5 [famN (fun y => decide (y ∈ T))] 0 = famN (fun y => decide (y ∈ T)) := rfl
    have ex : rd [(x : Int)] 0 = (x : Int) := rfl
    have ei : rd [(i : Int)] 0 = (i : Int) := rfl
    have hlI := critI_len T i pre
    have ho : outN (fun y => decide (y ∈ T)) x 7 < 128 := sumN_lt _ 7
    have hn := ih (pre ++ [x]) (by simp [e])
    rw [List.length_append, List.length_singleton, ← wnext (n := T.length) (by omega) (by omega), critI_snoc] at hn
    have hskip : critB T i x = false → Ev (fun k => impl_CriticalOf.l1 k (R0 ++ critI T i pre) [famN (fun y => decide (y ∈ T))] [(i : Int)] (m : Int) (i : Int) (castL T) (T.length : Int) (wrap64 ((pre.length : Int) + 1)) (m : Int) (castL T)) v := by
      intro hc
      simpa [hc] using hn
    refine Ev.step (fun k => by rw [impl_CriticalOf.l1]) ?_
    simp only [show ((pre.length : Int) < (T.length : Int)) from by omega, show (0 : Int) ≤ (pre.length : Int) from by omega, castL_length, er, Option.bind_some, List.length_singleton, List.length_set, show ((0 : Int) < ((1 : Nat) : Int)) from by omega, show ((0 : Int)).toNat = 0 from rfl, List.set_cons_zero, e1, ex, ei, show (0 : Int) ≤ (i : Int) from by omega, ↓reduceIte]
    refine Ev.bind (outer_ev _ hx) ?_
    simp only [bitAnd (show x < 2 ^ 62 from by omega) (show i ≤ 64 from by omega), bitAnd (show outN (fun y => decide (y ∈ T)) x 7 < 2 ^ 62 from by omega) (show i ≤ 64 from by omega)]
    have hj : ∀ b : Bool, b = (x.testBit i || (outN (fun y => decide (y ∈ T)) x 7).testBit i) → Ev (fun k => impl_CriticalOf.j2 k (R0 ++ critI T i pre) [famN (fun y => decide (y ∈ T))] [(i : Int)] [(x : Int)] ((outN (fun y => decide (y ∈ T)) x 7 : Nat) : Int) (m : Int) (i : Int) (castL T) (T.length : Int) (pre.length : Int) b (m : Int) (castL T)) v := by
      intro b hb
      refine Ev.step (fun k => by rw [impl_CriticalOf.j2]) ?_
      cases b with
      | true =>
        simp only [↓reduceIte]
        refine hskip ?_
        unfold critB
        cases h1 : x.testBit i with
        | true => simp
        | false => rw [h1, Bool.false_or] at hb; rw [← hb]; simp
      | false =>
        simp only [Bool.false_eq_true, ↓reduceIte]
        have h1 : x.testBit i = false := by
          cases h1 : x.testBit i with
          | true => rw [h1, Bool.true_or] at hb; cases hb
          | false => rfl
        have h2 : (outN (fun y => decide (y ∈ T)) x 7).testBit i = false := by rw [h1, Bool.false_or] at hb; exact hb.symm
        refine Ev.bind (items_ev ho) ?_
        refine Ev.bind (crit_has h (show i < 7 by omega) hx h1 h2) ?_
        have hcb : critB T i x = (itemsN (outN (fun y => decide (y ∈ T)) x 7)).all (nxtB T i x) := by unfold critB; rw [h1, h2]; simp
        cases hall : (itemsN (outN (fun y => decide (y ∈ T)) x 7)).all (nxtB T i x) with
        | false =>
          simp only [Bool.not_false, ↓reduceIte]
          exact hskip (by rw [hcb, hall])
        | true =>
          rw [hall] at hcb
          simp only [Bool.not_true, Bool.false_eq_true, ↓reduceIte, List.length_singleton, show ((0 : Int) < ((1 : Nat) : Int)) from by omega, ex, ei, List.length_append, show R0.length + (critI T i pre).length < 5864062014805 from by omega]
          simp only [hcb, ↓reduceIte] at hn
          simpa [List.append_assoc] using hn
    cases h1 : x.testBit i with
    | true =>
      simp only [↓reduceIte]
      exact hj true (by rw [h1]; rfl)
    | false =>
      simp only [Bool.false_eq_true, show ¬ ((0 : Int) = 1) from by omega, ↓reduceIte]
      cases h2 : (outN (fun y => decide (y ∈ T)) x 7).testBit i with
      | true => simpa using hj true (by rw [h1, h2]; rfl)
      | false => simpa using hj false (by rw [h1, h2]; rfl)
theorem impl_crit_loop {m : Nat} {T : List Nat} (h : SpN m T) : ∀ (d c : Nat), c + d = m →
    Ev (fun k => impl_CriticalOf.l0 k (critAll T c) [famN (fun y => decide (y ∈ T))] (m : Int) (c : Int) (m : Int) (castL T)) (critAll T m, true) := by
  have hT := h.short
  have m7 := h.m7
  intro d
  induction d with
  | zero =>
    intro c e
    obtain rfl : c = m := by omega
    refine Ev.step (fun k => by rw [impl_CriticalOf.l0]) ?_
    simp only [show ¬ ((c : Int) < (c : Int)) from by omega, ↓reduceIte]
    exact Ev.some _
  | succ d ih =>
    intro c e
    have hc : c < m := by omega
    have hl := critAll_len hT c
    have hn := ih (c + 1) (by omega)
    rw [critAll_succ, ← wnext (n := m) hc (by omega)] at hn
    refine Ev.step (fun k => by rw [impl_CriticalOf.l0]) ?_
    simp only [show ((c : Int) < (m : Int)) from by omega, Option.bind_some, List.length_singleton, show ((0 : Int) < ((1 : Nat) : Int)) from by omega, show ((0 : Int)).toNat = 0 from rfl, List.set_cons_zero, castL_length, ↓reduceIte]
    simpa [critI, prI] using impl_crit_in h hc (critAll T c) (by omega) _ hn T [] rfl

/-! ### the reference -/
theorem spec_crit_k {m : Nat} {T : List Nat} (h : SpN m T) {i x : Nat} (hi : i < m) (hx : x < 128) (R : List (List Int)) (p : Int) (hR : R.length < 5864062014805) (v : List (List Int) × Bool) (g : Bool) : ∀ (d c : Nat), c + d = m →
    Ev (fun k => if (g && ((List.range m).all fun k => !(outN (fun y => decide (y ∈ T)) x m).testBit k || nxtB T i x k)) = true then spec_CriticalOf.l1 k (R ++ [[(i : Int), (x : Int)]]) (i : Int) (castL T) (T.length : Int) (wrap64 (p + 1)) (m : Int) (castL T) else spec_CriticalOf.l1 k R (i : Int) (castL T) (T.length : Int) (wrap64 (p + 1)) (m : Int) (castL T)) v →
    Ev (fun k => spec_CriticalOf.l2 k R (i : Int) (x : Int) ((outN (fun y => decide (y ∈ T)) x m : Nat) : Int) (g && ((List.range c).all fun k => !(outN (fun y => decide (y ∈ T)) x m).testBit k || nxtB T i x k)) (c : Int) (castL T) (T.length : Int) p (m : Int) (castL T)) v := by
  have m7 := h.m7
  intro d
  induction d with
  | zero =>
    intro c e hv
    obtain rfl : c = m := by omega
    refine Ev.step (fun k => by rw [spec_CriticalOf.l2]) ?_
    simp only [show ¬ ((c : Int) < (c : Int)) from by omega, hR, ↓reduceIte]
    exact hv
  | succ d ih =>
    intro c e hv
    have hc : c < m := by omega
    have hn := ih (c + 1) (by omega) hv
    have e2 : ((List.range (c + 1)).all fun k => !(outN (fun y => decide (y ∈ T)) x m).testBit k || nxtB T i x k) = (((List.range c).all fun k => !(outN (fun y => decide (y ∈ T)) x m).testBit k || nxtB T i x k) && (!(outN (fun y => decide (y ∈ T)) x m).testBit c || nxtB T i x c)) := by simp [List.range_succ]
    rw [e2, ← Bool.and_assoc, ← wnext (n := m) hc (by omega)] at hn
    have h2 : 2 ^ c < 128 := pow_lt_128 (by omega)
    have h2i : 2 ^ i < 128 := pow_lt_128 (by omega)
    have hor : x ||| 2 ^ c < 128 := Nat.or_lt_two_pow (n := 7) hx h2
    refine Ev.step (fun k => by rw [spec_CriticalOf.l2]) ?_
    simp only [show ((c : Int) < (m : Int)) from by omega, spIn_eq _ c (show c ≤ 64 from by omega), Option.bind_some, show (0 : Int) ≤ (c : Int) from by omega, show (0 : Int) ≤ (i : Int) from by omega, shl1 (show c ≤ 61 from by omega), shl1 (show i ≤ 61 from by omega), bOr (show x < 2 ^ 62 from by omega) (show 2 ^ c < 2 ^ 62 from by omega), bOr (show x ||| 2 ^ c < 2 ^ 62 from by omega) (show 2 ^ i < 2 ^ 62 from by omega), ↓reduceIte]
    cases hb : (outN (fun y => decide (y ∈ T)) x m).testBit c with
    | false =>
      rw [hb] at hn
      simp only [Bool.false_eq_true, ↓reduceIte]
      simpa using hn
    | true =>
      rw [hb] at hn
      simp only [↓reduceIte]
      cases hg : (g && ((List.range c).all fun k => !(outN (fun y => decide (y ∈ T)) x m).testBit k || nxtB T i x k)) with
      | false =>
        rw [hg] at hn
        simp only [Bool.false_eq_true, ↓reduceIte]
        simpa using hn
      | true =>
        rw [hg] at hn
        simp only [↓reduceIte]
        refine Ev.bind (spHas_ev h.inc h.small _) ?_
        simpa [nxtB] using hn
theorem crit_same {m : Nat} {T : List Nat} (h : SpN m T) {i x : Nat} : critB T i x = (!x.testBit i && !(outN (fun y => decide (y ∈ T)) x m).testBit i && ((List.range m).all fun k => !(outN (fun y => decide (y ∈ T)) x m).testBit k || nxtB T i x k)) := by
  have e := outN_same h x
  unfold critB
  rw [e]
  congr 1
  rw [Bool.eq_iff_iff]
  simp only [List.all_eq_true, mem_itemsN, List.mem_range, Bool.or_eq_true, Bool.not_eq_true']
  constructor
  · intro hh k hk
    cases hb : (outN (fun y => decide (y ∈ T)) x m).testBit k with
    | false => exact .inl rfl
    | true => exact .inr (hh k ⟨by have := h.m7; omega, hb⟩)
  · rintro hh k ⟨h1, h2⟩
    have hkm : k < m := by
      rw [outN, sumN_testBit] at h2
      simp only [Bool.and_eq_true, decide_eq_true_eq] at h2
      exact h2.1
    rcases hh k hkm with h3 | h3
    · rw [h2] at h3; cases h3
    · exact h3
theorem spec_crit_in {m : Nat} {T : List Nat} (h : SpN m T) {i : Nat} (hi : i < m) (R0 : List (List Int)) (hR0 : R0.length ≤ 1048576) (v : List (List Int) × Bool) (hv : Ev (fun k => spec_CriticalOf.l0 k (R0 ++ critI T i T) (wrap64 ((i : Int) + 1)) (m : Int) (castL T)) v) : ∀ (rest pre : List Nat), pre ++ rest = T →
    Ev (fun k => spec_CriticalOf.l1 k (R0 ++ critI T i pre) (i : Int) (castL T) (T.length : Int) (pre.length : Int) (m : Int) (castL T)) v := by
  intro rest
  have hT := h.short
  have m7 := h.m7
  induction rest with
  | nil =>
    intro pre e
    obtain rfl : pre = T := by simpa using e
    refine Ev.step (fun k => by rw [spec_CriticalOf.l1]) ?_
    simp only [show ¬ ((pre.length : Int) < (pre.length : Int)) from by omega, ↓reduceIte]
    exact hv
  | cons x rest ih =>
    intro pre e
    have hlen : T.length = pre.length + (rest.length + 1) := by rw [← e]; simp
    have er : rd (castL T) (pre.length : Int) = (x : Int) := by rw [← e]; exact rd_castL_mid _ _ _
    have hx : x < 128 := h.lt128 x (by rw [← e]; simp)
    have hlI := critI_len T i pre
    have hn := ih (pre ++ [x]) (by simp [e])
    rw [List.length_append, List.length_singleton, ← wnext (n := T.length) (by omega) (by omega), critI_snoc] at hn
    have hc := crit_same h (i := i) (x := x)
    refine Ev.step (fun k => by rw [spec_CriticalOf.l1]) ?_
    simp only [show ((pre.length : Int) < (T.length : Int)) from by omega, show (0 : Int) ≤ (pre.length : Int) from by omega, castL_length, er, ↓reduceIte]
    refine Ev.bind (spOuter_ev h hx) ?_
    simp only [spIn_eq _ i (show i ≤ 64 from by omega), Option.bind_some]
    have hj : ∀ b : Bool, b = (x.testBit i || (outN (fun y => decide (y ∈ T)) x m).testBit i) → Ev (fun k => spec_CriticalOf.j2 k (R0 ++ critI T i pre) (i : Int) (x : Int) ((outN (fun y => decide (y ∈ T)) x m : Nat) : Int) (castL T) (T.length : Int) (pre.length : Int) b (m : Int) (castL T)) v := by
      intro b hb
      refine Ev.step (fun k => by rw [spec_CriticalOf.j2]) ?_
      cases b with
      | true =>
        simp only [↓reduceIte]
        have hc0 : critB T i x = false := by
          rw [hc]
          cases h1 : x.testBit i with
          | true => simp
          | false => rw [h1, Bool.false_or] at hb; rw [← hb]; simp
        simpa [hc0] using hn
      | false =>
        simp only [Bool.false_eq_true, ↓reduceIte]
        have h1 : x.testBit i = false := by
          cases h1 : x.testBit i with
          | true => rw [h1, Bool.true_or] at hb; cases hb
          | false => rfl
        have h2 : (outN (fun y => decide (y ∈ T)) x m).testBit i = false := by rw [h1, Bool.false_or] at hb; exact hb.symm
        rw [h1, h2] at hc
        simp only [Bool.not_false, Bool.and_self, Bool.true_and] at hc
        have hk := spec_crit_k h hi hx (R0 ++ critI T i pre) (pre.length : Int) (by rw [List.length_append]; omega) v true m 0 (by omega) (by
          rw [Bool.true_and, ← hc]
          by_cases hcb : critB T i x = true
          · simp only [hcb, ↓reduceIte, ← List.append_assoc] at hn ⊢; exact hn
          · simp only [hcb, ↓reduceIte, Bool.false_eq_true] at hn ⊢; exact hn)
        simpa using hk
    cases h1 : x.testBit i with
    | true =>
      simp only [↓reduceIte]
      exact hj true (by rw [h1]; rfl)
    | false =>
      simp only [Bool.false_eq_true, ↓reduceIte]
      exact hj _ (by rw [h1, Bool.false_or])
theorem spec_crit_loop {m : Nat} {T : List Nat} (h : SpN m T) : ∀ (d c : Nat), c + d = m →
    Ev (fun k => spec_CriticalOf.l0 k (critAll T c) (c : Int) (m : Int) (castL T)) (critAll T m, true) := by
  have hT := h.short
  have m7 := h.m7
  intro d
  induction d with
  | zero =>
    intro c e
    obtain rfl : c = m := by omega
    refine Ev.step (fun k => by rw [spec_CriticalOf.l0]) ?_
    simp only [show ¬ ((c : Int) < (c : Int)) from by omega, ↓reduceIte]
    exact Ev.some _
  | succ d ih =>
    intro c e
    have hc : c < m := by omega
    have hl := critAll_len hT c
    have hn := ih (c + 1) (by omega)
    rw [critAll_succ, ← wnext (n := m) hc (by omega)] at hn
    refine Ev.step (fun k => by rw [spec_CriticalOf.l0]) ?_
    simp only [show ((c : Int) < (m : Int)) from by omega, castL_length, ↓reduceIte]
    simpa [critI, prI] using spec_crit_in h hc (critAll T c) (by omega) _ hn T [] rfl
theorem totLen_two : ∀ P : List (List Int), (∀ r ∈ P, r.length = 2) → totLen P = 2 * P.length
  | [], _ => rfl
  | x :: P, h => by
    have h1 := h x (by simp)
    have h2 := totLen_two P (fun r hr => h r (by simp [hr]))
    simp only [totLen, List.length_cons]; omega
theorem CriticalOf_both (n : Int) (S : List Int) (hS : S.length ≤ 1048576) : ∃ (P : List (List Int)) (b : Bool), P.length ≤ 1048576 ∧ (∀ r ∈ P, r.length ≤ 1048576) ∧ totLen P ≤ 1048576 ∧ Ev (fun k => spec_CriticalOf.f k n S) (P, b) ∧ Ev (fun k => impl_CriticalOf.f k n S) (P, b) := by
  have hS2 : S.length ≤ 1099511627776 := by omega
  cases hg : goodB n S with
  | false =>
    refine ⟨[], false, by simp, by simp, by simp [totLen], ?_, ?_⟩
    · unfold spec_CriticalOf.f
      refine Ev.bind ((spec_spGood_ev n S hS2).eq hg) ?_
      simp only [↓reduceIte, Bool.false_eq_true]; exact Ev.some _
    · unfold impl_CriticalOf.f
      refine Ev.bind ((impl_IsSpace_ev n S hS2).eq hg) ?_
      simp only [↓reduceIte, Bool.false_eq_true]; exact Ev.some _
  | true =>
    obtain ⟨m, T, rfl, rfl, h⟩ := good_space hg
    have hT := h.short
    have m7 := h.m7
    have hl := critAll_len hT m
    have h2 : ∀ r ∈ critAll T m, r.length = 2 := by
      intro r hr
      obtain ⟨i, _, hr⟩ := List.mem_flatMap.1 hr
      obtain ⟨y, _, rfl⟩ := List.mem_map.1 hr
      rfl
    refine ⟨critAll T m, true, by omega, fun r hr => by rw [h2 r hr]; omega, by rw [totLen_two _ h2]; omega, ?_, ?_⟩
    · unfold spec_CriticalOf.f
      refine Ev.bind h.spec ?_
      simp only [↓reduceIte]
      simpa [critAll] using spec_crit_loop h m 0 (by omega)
    · unfold impl_CriticalOf.f
      refine Ev.bind h.impl ?_
      simp only [↓reduceIte]
      refine Ev.bind (family_ev (m : Int) T h.lt128 (by omega)) ?_
      simp only [Option.bind_some, List.length_singleton, show ((0 : Int) < ((1 : Nat) : Int)) from by omega, show ((0 : Int)).toNat = 0 from rfl, List.set_cons_zero, ↓reduceIte]
      simpa [critAll] using impl_crit_loop h m 0 (by omega)
end Go.Proofs.Ytekllaaohagefaa.Q
