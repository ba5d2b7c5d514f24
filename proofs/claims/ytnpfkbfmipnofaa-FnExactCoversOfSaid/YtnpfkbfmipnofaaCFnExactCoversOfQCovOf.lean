/- All pairs of sets of which the second has one item more: both; conditions: as each theorem states. -/
import Derived.Test.YtnpfkbfmipnofaaCFnExactCoversOfQOutI
import Derived.Test.YtnpfkbfmipnofaaCFnExactCoversOfQCntS
import Derived.Test.YtnpfkbfmipnofaaCFnExactCoversOfQSSRes
import Derived.Test.YtnpfkbfmipnofaaCFnExactCoversOfP3
namespace Go.Proofs.Ytnpfkbfmipnofaa.Q
open Go.RowKit Go.Proofs.YtnpfkbfmipnofaaW.PrintWords Go.Proofs.YtnpfkbfmipnofaaW.PrintLast Go.Proofs.YtnpfkbfmipnofaaW.PrintMore Go.Proofs.Ytnpfkbfmipnofaa.P
set_option linter.unusedVariables false
set_option linter.unusedSimpArgs false

theorem cover_all : ((List.range 128).all fun x => (List.range 128).all fun y => !(decide (andn x y = 0) && decide (cntN y = cntN x + 1)) || (List.range 7).any fun i => !x.testBit i && decide (y = x ||| 2 ^ i)) = true := by decide +kernel
theorem cover_bit {x y : Nat} (hx : x < 128) (hy : y < 128) (h1 : andn x y = 0) (h2 : cntN y = cntN x + 1) : ∃ i, i < 7 ∧ x.testBit i = false ∧ y = x ||| 2 ^ i := by
  have h := List.all_eq_true.1 (List.all_eq_true.1 cover_all x (List.mem_range.2 hx)) y (List.mem_range.2 hy)
  rw [decide_eq_true h1, decide_eq_true h2] at h
  simp only [Bool.and_self, Bool.not_true, Bool.false_or, List.any_eq_true, List.mem_range, Bool.and_eq_true, Bool.not_eq_true', decide_eq_true_eq] at h
  obtain ⟨i, h3, h4, h5⟩ := h
  exact ⟨i, h3, h4, h5⟩
theorem cnt_put2 : ∀ x : Fin 128, ∀ i : Fin 7, x.val.testBit i.val = false → cntN (x.val ||| 2 ^ i.val) = cntN x.val + 1 := by decide +kernel
theorem andn_self_or (x z : Nat) : andn x (x ||| z) = 0 := by
  apply Nat.eq_of_testBit_eq
  intro j
  rw [testBit_andn, Nat.testBit_or, Nat.zero_testBit]
  cases x.testBit j <;> simp
/-- The sets that have one item more. -/
def covL (T : List Nat) (x : Nat) : List Nat := T.filter fun y => decide (andn x y = 0) && decide (cntN y = cntN x + 1)
def covI (T : List Nat) (x : Nat) : List Nat := (itemsN (outN (fun y => decide (y ∈ T)) x 7)).map fun i => x ||| 2 ^ i
theorem or_bit_lt7 : ∀ x : Fin 128, ∀ i j : Fin 7, x.val.testBit i.val = false → x.val.testBit j.val = false → i.val < j.val → x.val ||| 2 ^ i.val < x.val ||| 2 ^ j.val := by decide +kernel
theorem cov_same {m : Nat} {T : List Nat} (h : SpN m T) {x : Nat} (hx : x < 128) : covI T x = covL T x := by
  have hm : ∀ i, i ∈ itemsN (outN (fun y => decide (y ∈ T)) x 7) ↔ i < 7 ∧ x.testBit i = false ∧ (x ||| 2 ^ i) ∈ T := by
    intro i
    rw [mem_itemsN, outN, sumN_testBit, outP]
    simp only [Bool.and_eq_true, decide_eq_true_eq, Bool.not_eq_true']
    constructor
    · rintro ⟨a, _, b, c⟩; exact ⟨a, b, c⟩
    · rintro ⟨a, b, c⟩; exact ⟨a, a, b, c⟩
  refine inc_ext ?_ (h.inc.filter _) (fun z => ?_)
  · have hI : (itemsN (outN (fun y => decide (y ∈ T)) x 7)).Pairwise (· < ·) := (List.pairwise_lt_range).filter _
    refine List.pairwise_map.2 (hI.imp_of_mem ?_)
    intro a b ha hb hab
    exact or_bit_lt7 ⟨x, hx⟩ ⟨a, ((hm a).1 ha).1⟩ ⟨b, ((hm b).1 hb).1⟩ ((hm a).1 ha).2.1 ((hm b).1 hb).2.1 hab
  · rw [covI, covL, List.mem_map, List.mem_filter]
    simp only [Bool.and_eq_true, decide_eq_true_eq]
    constructor
    · rintro ⟨i, hi, rfl⟩
      obtain ⟨a, b, c⟩ := (hm i).1 hi
      exact ⟨c, andn_self_or _ _, cnt_put2 ⟨x, hx⟩ ⟨i, a⟩ b⟩
    · rintro ⟨h1, h2, h3⟩
      obtain ⟨i, h4, h5, rfl⟩ := cover_bit hx (h.lt128 _ h1) h2 h3
      exact ⟨i, (hm i).2 ⟨h4, h5, h1⟩, rfl⟩
def prs (x : Nat) (l : List Nat) : List (List Int) := l.map fun (y : Nat) => [(x : Int), (y : Int)]
theorem covL_len (T : List Nat) (x : Nat) : (covL T x).length ≤ T.length := List.length_filter_le _ _
/-- All pairs. -/
def allP (T : List Nat) (l : List Nat) : List (List Int) := l.flatMap fun x => prs x (covL T x)
theorem impl_cov_in {x : Nat} (hx : x < 128) (F : List Bool) (S : List Int) (nS iS : Int) (I : List Nat) (hI : ∀ i ∈ I, i < 7) (hl : I.length ≤ 7) (v : List (List Int) × Bool) : ∀ (rest pre : List Nat) (R : List (List Int)), pre ++ rest = I → R.length ≤ 1048576 + pre.length →
    Ev (fun k => impl_CoversOf.l0 k (R ++ prs x (rest.map fun i => x ||| 2 ^ i)) F S nS (wrap64 (iS + 1))) v →
    Ev (fun k => impl_CoversOf.l1 k R F (x : Int) S nS iS (castL I) (I.length : Int) (pre.length : Int)) v := by
  intro rest
  induction rest with
  | nil =>
    intro pre R e hR hv
    obtain rfl : pre = I := by simpa using e
    refine Ev.step (fun k => by rw [impl_CoversOf.l1]) ?_
    simp only [show ¬ ((pre.length : Int) < (pre.length : Int)) from by omega, ↓reduceIte]
    simpa [prs] using hv
  | cons i rest ih =>
    intro pre R e hR hv
    have hlen : I.length = pre.length + (rest.length + 1) := by rw [← e]; simp
    have er : rd (castL I) (pre.length : Int) = (i : Int) := by rw [← e]; exact rd_castL_mid _ _ _
    have hi := hI i (by rw [← e]; simp)
    have h2i := pow_lt_128 hi
    have hn := ih (pre ++ [i]) (R ++ [[(x : Int), ((x ||| 2 ^ i : Nat) : Int)]]) (by simp [e]) (by simp; omega) (by simpa [prs] using hv)
    rw [List.length_append, List.length_singleton, ← wnext (n := I.length) (by omega) (by omega)] at hn
    refine Ev.step (fun k => by rw [impl_CoversOf.l1]) ?_
    simp only [show ((pre.length : Int) < (I.length : Int)) from by omega, show (0 : Int) ≤ (pre.length : Int) from by omega, castL_length, er, show (0 : Int) ≤ (i : Int) from by omega, shl1 (show i ≤ 61 from by omega), bOr (show x < 2 ^ 62 from by omega) (show 2 ^ i < 2 ^ 62 from by omega), show R.length < 5864062014805 from by omega, ↓reduceIte]
    exact hn
theorem impl_cov_loop {m : Nat} {T : List Nat} (h : SpN m T) : ∀ (rest pre : List Nat), pre ++ rest = T →
    Ev (fun k => impl_CoversOf.l0 k (allP T pre) (famN fun y => decide (y ∈ T)) (castL T) (T.length : Int) (pre.length : Int)) (allP T T, true) := by
  have hT := h.short
  have hal : ∀ l : List Nat, l.length ≤ 128 → (allP T l).length ≤ l.length * 128 := by
    intro l
    induction l with
    | nil => intro _; simp [allP]
    | cons a l ih =>
      intro hl
      have h1 := ih (by simp at hl; omega)
      have h2 := covL_len T a
      simp only [allP, List.flatMap_cons, List.length_append, List.length_cons, prs, List.length_map] at h1 ⊢
      omega
  intro rest
  induction rest with
  | nil =>
    intro pre e
    obtain rfl : pre = T := by simpa using e
    refine Ev.step (fun k => by rw [impl_CoversOf.l0]) ?_
    simp only [show ¬ ((pre.length : Int) < (pre.length : Int)) from by omega, ↓reduceIte]
    exact Ev.some _
  | cons x rest ih =>
    intro pre e
    have hlen : T.length = pre.length + (rest.length + 1) := by rw [← e]; simp
    have er : rd (castL T) (pre.length : Int) = (x : Int) := by rw [← e]; exact rd_castL_mid _ _ _
    have hx : x < 128 := h.lt128 x (by rw [← e]; simp)
    have ho : outN (fun y => decide (y ∈ T)) x 7 < 128 := sumN_lt _ 7
    have hpl := hal pre (by omega)
    have hn := ih (pre ++ [x]) (by simp [e])
    have ea : allP T (pre ++ [x]) = allP T pre ++ prs x (covI T x) := by rw [cov_same h hx]; simp [allP]
    rw [List.length_append, List.length_singleton, ← wnext (n := T.length) (by omega) (by omega), ea] at hn
    refine Ev.step (fun k => by rw [impl_CoversOf.l0]) ?_
    simp only [show ((pre.length : Int) < (T.length : Int)) from by omega, show (0 : Int) ≤ (pre.length : Int) from by omega, castL_length, er, ↓reduceIte]
    refine Ev.bind (outer_ev _ hx) ?_
    refine Ev.bind (items_ev ho) ?_
    rw [castL_length]
    exact impl_cov_in hx _ _ _ _ _ (fun i hi => (mem_itemsN.1 hi).1) (Nat.le_trans (List.length_filter_le _ _) (by simp)) _ _ [] _ rfl (by omega) hn
theorem spec_cov_in {x : Nat} (hx : x < 128) {T : List Nat} (hT : ∀ y ∈ T, y < 128) (hl : T.length ≤ 128) (S : List Int) (nS iS n : Int) (v : List (List Int) × Bool) : ∀ (rest pre : List Nat) (R : List (List Int)), pre ++ rest = T → R.length ≤ 1048576 + pre.length →
    Ev (fun k => spec_CoversOf.l0 k (R ++ prs x (rest.filter fun y => decide (andn x y = 0) && decide (cntN y = cntN x + 1))) S nS (wrap64 (iS + 1)) n (castL T)) v →
    Ev (fun k => spec_CoversOf.l1 k R (x : Int) S nS iS (castL T) (T.length : Int) (pre.length : Int) n (castL T)) v := by
  intro rest
  induction rest with
  | nil =>
    intro pre R e hR hv
    obtain rfl : pre = T := by simpa using e
    refine Ev.step (fun k => by rw [spec_CoversOf.l1]) ?_
    simp only [show ¬ ((pre.length : Int) < (pre.length : Int)) from by omega, ↓reduceIte]
    simpa [prs] using hv
  | cons y rest ih =>
    intro pre R e hR hv
    have hlen : T.length = pre.length + (rest.length + 1) := by rw [← e]; simp
    have er : rd (castL T) (pre.length : Int) = (y : Int) := by rw [← e]; exact rd_castL_mid _ _ _
    have hy := hT y (by rw [← e]; simp)
    have hskip : (decide (andn x y = 0) && decide (cntN y = cntN x + 1)) = false → Ev (fun k => spec_CoversOf.l1 k R (x : Int) S nS iS (castL T) (T.length : Int) (wrap64 ((pre.length : Int) + 1)) n (castL T)) v := by
      intro hf
      have hn := ih (pre ++ [y]) R (by simp [e]) (by simp; omega) (by rw [List.filter_cons, hf] at hv; simpa using hv)
      rw [List.length_append, List.length_singleton, ← wnext (n := T.length) (by omega) (by omega)] at hn
      exact hn
    refine Ev.step (fun k => by rw [spec_CoversOf.l1]) ?_
    simp only [show ((pre.length : Int) < (T.length : Int)) from by omega, show (0 : Int) ≤ (pre.length : Int) from by omega, castL_length, er, bAndn (show x < 2 ^ 62 from by omega) (show y < 2 ^ 62 from by omega), ↓reduceIte]
    by_cases h1 : andn x y = 0
    rotate_left
    · simp only [show ¬ (((andn x y : Nat) : Int) = 0) from by omega, ↓reduceIte]
      exact hskip (by simp [h1])
    simp only [show (((andn x y : Nat) : Int) = 0) from by omega, ↓reduceIte]
    refine Ev.bind (spCount_ev hy) ?_
    refine Ev.bind (spCount_ev hx) ?_
    have hc : cntN x ≤ 7 := Nat.le_trans (List.length_filter_le _ _) (by simp)
    rw [wnext (i := cntN x) (n := 8) (by omega) (by omega)]
    by_cases h2 : cntN y = cntN x + 1
    rotate_left
    · simp only [show ¬ (((cntN y : Nat) : Int) = ((cntN x + 1 : Nat) : Int)) from by omega, ↓reduceIte]
      exact hskip (by simp [h2])
    simp only [show (((cntN y : Nat) : Int) = ((cntN x + 1 : Nat) : Int)) from by omega, show R.length < 5864062014805 from by omega, ↓reduceIte]
    have hn := ih (pre ++ [y]) (R ++ [[(x : Int), (y : Int)]]) (by simp [e]) (by simp; omega) (by
      rw [List.filter_cons, decide_eq_true h1, decide_eq_true h2] at hv
      simpa [prs] using hv)
    rw [List.length_append, List.length_singleton, ← wnext (n := T.length) (by omega) (by omega)] at hn
    exact hn
theorem spec_cov_loop {m : Nat} {T : List Nat} (h : SpN m T) : ∀ (rest pre : List Nat), pre ++ rest = T →
    Ev (fun k => spec_CoversOf.l0 k (allP T pre) (castL T) (T.length : Int) (pre.length : Int) (m : Int) (castL T)) (allP T T, true) := by
  have hT := h.short
  have hal : ∀ l : List Nat, l.length ≤ 128 → (allP T l).length ≤ l.length * 128 := by
    intro l
    induction l with
    | nil => intro _; simp [allP]
    | cons a l ih =>
      intro hl
      have h1 := ih (by simp at hl; omega)
      have h2 := covL_len T a
      simp only [allP, List.flatMap_cons, List.length_append, List.length_cons, prs, List.length_map] at h1 ⊢
      omega
  intro rest
  induction rest with
  | nil =>
    intro pre e
    obtain rfl : pre = T := by simpa using e
    refine Ev.step (fun k => by rw [spec_CoversOf.l0]) ?_
    simp only [show ¬ ((pre.length : Int) < (pre.length : Int)) from by omega, ↓reduceIte]
    exact Ev.some _
  | cons x rest ih =>
    intro pre e
    have hlen : T.length = pre.length + (rest.length + 1) := by rw [← e]; simp
    have er : rd (castL T) (pre.length : Int) = (x : Int) := by rw [← e]; exact rd_castL_mid _ _ _
    have hx : x < 128 := h.lt128 x (by rw [← e]; simp)
    have hpl := hal pre (by omega)
    have hn := ih (pre ++ [x]) (by simp [e])
    have ea : allP T (pre ++ [x]) = allP T pre ++ prs x (covL T x) := by simp [allP]
    rw [List.length_append, List.length_singleton, ← wnext (n := T.length) (by omega) (by omega), ea] at hn
    refine Ev.step (fun k => by rw [spec_CoversOf.l0]) ?_
    simp only [show ((pre.length : Int) < (T.length : Int)) from by omega, show (0 : Int) ≤ (pre.length : Int) from by omega, castL_length, er, ↓reduceIte]
    exact spec_cov_in hx h.lt128 (by omega) _ _ _ _ _ T [] _ rfl (by omega) hn
theorem totLen_append (a b : List (List Int)) : totLen (a ++ b) = totLen a + totLen b := by
  induction a with
  | nil => simp [totLen]
  | cons x a ih => simp only [List.cons_append, totLen, ih]; omega
theorem CoversOf_both (n : Int) (S : List Int) (hS : S.length ≤ 1048576) : ∃ (P : List (List Int)) (b : Bool), P.length ≤ 1048576 ∧ (∀ r ∈ P, r.length ≤ 1048576) ∧ totLen P ≤ 1048576 ∧ Ev (fun k => spec_CoversOf.f k n S) (P, b) ∧ Ev (fun k => impl_CoversOf.f k n S) (P, b) := by
  have hS2 : S.length ≤ 1099511627776 := by omega
  cases hg : goodB n S with
  | false =>
    refine ⟨[], false, by simp, by simp, by simp [totLen], ?_, ?_⟩
    · unfold spec_CoversOf.f
      refine Ev.bind ((spec_spGood_ev n S hS2).eq hg) ?_
      simp only [↓reduceIte, Bool.false_eq_true]; exact Ev.some _
    · unfold impl_CoversOf.f
      refine Ev.bind ((impl_IsSpace_ev n S hS2).eq hg) ?_
      simp only [↓reduceIte, Bool.false_eq_true]; exact Ev.some _
  | true =>
    obtain ⟨m, T, rfl, rfl, h⟩ := good_space hg
    have hT := h.short
    have htot : ∀ l : List Nat, totLen (allP T l) ≤ l.length * 256 ∧ (allP T l).length ≤ l.length * 128 := by
      intro l
      induction l with
      | nil => simp [allP, totLen]
      | cons a l ih =>
        have h2 := covL_len T a
        have h3 : ∀ q : List Nat, totLen (prs a q) = 2 * q.length := by
          intro q
          induction q with
          | nil => rfl
          | cons z q ih2 => simp only [prs, List.map_cons, totLen, List.length_cons, List.length_nil] at ih2 ⊢; omega
        have h4 : allP T (a :: l) = prs a (covL T a) ++ allP T l := rfl
        rw [h4, totLen_append, h3, List.length_append, List.length_cons]
        simp only [prs, List.length_map]
        omega
    have ht := htot T
    refine ⟨allP T T, true, by omega, fun r hr => ?_, by omega, ?_, ?_⟩
    · obtain ⟨x, _, hr⟩ := List.mem_flatMap.1 hr
      obtain ⟨y, _, rfl⟩ := List.mem_map.1 hr
      simp
    · unfold spec_CoversOf.f
      refine Ev.bind h.spec ?_
      simp only [↓reduceIte, castL_length]
      simpa [allP] using spec_cov_loop h T [] rfl
    · unfold impl_CoversOf.f
      refine Ev.bind h.impl ?_
      simp only [↓reduceIte, castL_length]
      refine Ev.bind (family_ev (m : Int) T h.lt128 (by omega)) ?_
      simpa [allP] using impl_cov_loop h T [] rfl
end Go.Proofs.Ytnpfkbfmipnofaa.Q
