/- A space with other names: both; conditions: as each theorem states. -/
import Derived.Test.YtpliebmaagoahaaCFnExactRenameItemsQOrder
import Derived.Test.YtpliebmaagoahaaCFnExactRenameItemsQIns
import Derived.Test.YtpliebmaagoahaaCFnExactRenameItemsQSp
import Derived.Test.YtpliebmaagoahaaCFnExactRenameItemsP4
namespace Go.Proofs.Ytpliebmaagoahaa.Q
open Go.RowKit Go.Proofs.YtpliebmaagoahaaW.PrintWords Go.Proofs.YtpliebmaagoahaaW.PrintLast Go.Proofs.YtpliebmaagoahaaW.PrintMore Go.Proofs.Ytpliebmaagoahaa.P
set_option linter.unusedVariables false
set_option linter.unusedSimpArgs false

/-- A set of items with other names. -/
def renL (W : List Nat) : List Nat → Nat → Nat
  | [], s => s
  | i :: l, s => renL W l (s ||| 2 ^ (W.getD i 0))
theorem renL_bit (W : List Nat) : ∀ (l : List Nat) (s b : Nat), (renL W l s).testBit b = true ↔ s.testBit b = true ∨ ∃ i ∈ l, W.getD i 0 = b
  | [], s, b => by simp [renL]
  | i :: l, s, b => by
    rw [renL, renL_bit W l, Nat.testBit_or, Bool.or_eq_true, Nat.testBit_two_pow, decide_eq_true_eq]
    constructor
    · rintro ((h | h) | ⟨j, hj, h⟩)
      · exact .inl h
      · exact .inr ⟨i, by simp, h⟩
      · exact .inr ⟨j, by simp [hj], h⟩
    · rintro (h | ⟨j, hj, h⟩)
      · exact .inl (.inl h)
      · rcases List.mem_cons.1 hj with rfl | hj
        · exact .inl (.inr h)
        · exact .inr ⟨j, hj, h⟩
def renS (W : List Nat) (x : Nat) : Nat → Nat → Nat → Nat
  | _, 0, s => s
  | i, d + 1, s => renS W x (i + 1) d (if x.testBit i = true then s ||| 2 ^ (W.getD i 0) else s)
theorem renS_bit (W : List Nat) (x : Nat) : ∀ (d i s b : Nat), (renS W x i d s).testBit b = true ↔ s.testBit b = true ∨ ∃ j, i ≤ j ∧ j < i + d ∧ x.testBit j = true ∧ W.getD j 0 = b
  | 0, i, s, b => by
    simp only [renS]
    constructor
    · exact .inl
    · rintro (h | ⟨j, h1, h2, _⟩)
      · exact h
      · omega
  | d + 1, i, s, b => by
    rw [renS, renS_bit W x d]
    by_cases hx : x.testBit i = true
    · rw [if_pos hx, Nat.testBit_or, Bool.or_eq_true, Nat.testBit_two_pow, decide_eq_true_eq]
      constructor
      · rintro ((h | h) | ⟨j, h1, h2, h3⟩)
        · exact .inl h
        · exact .inr ⟨i, by omega, by omega, hx, h⟩
        · exact .inr ⟨j, by omega, by omega, h3⟩
      · rintro (h | ⟨j, h1, h2, h3, h4⟩)
        · exact .inl (.inl h)
        · by_cases e : j = i
          · subst e; exact .inl (.inr h4)
          · exact .inr ⟨j, by omega, by omega, h3, h4⟩
    · rw [if_neg hx]
      constructor
      · rintro (h | ⟨j, h1, h2, h3⟩)
        · exact .inl h
        · exact .inr ⟨j, by omega, by omega, h3⟩
      · rintro (h | ⟨j, h1, h2, h3, h4⟩)
        · exact .inl h
        · by_cases e : j = i
          · subst e; exact absurd h3 hx
          · exact .inr ⟨j, by omega, by omega, h3, h4⟩
def renN (W : List Nat) (x : Nat) : Nat := renL W (itemsN x) 0
theorem renS_eq {W : List Nat} {x m : Nat} (hm : m ≤ 7) (hx : x < 2 ^ m) : renS W x 0 m 0 = renN W x := by
  apply Nat.eq_of_testBit_eq
  intro b
  rw [Bool.eq_iff_iff, renS_bit, renN, renL_bit]
  constructor
  · rintro (h | ⟨j, _, h2, h3, h4⟩)
    · exact .inl h
    · exact .inr ⟨j, mem_itemsN.2 ⟨by omega, h3⟩, h4⟩
  · rintro (h | ⟨j, hj, h4⟩)
    · exact .inl h
    · have hb := (mem_itemsN.1 hj).2
      refine .inr ⟨j, by omega, ?_, hb, h4⟩
      rcases Nat.lt_or_ge j m with h | h
      · omega
      · rw [Nat.testBit_lt_two_pow (Nat.lt_of_lt_of_le hx (Nat.pow_le_pow_right (by omega) h))] at hb; cases hb
theorem pow_get {n : Nat} {W : List Nat} (h : OrdN n W) (h7 : n ≤ 7) (i : Nat) (hi : i < W.length) : W.getD i 0 < 7 ∧ 2 ^ (W.getD i 0) < 128 := by
  have := h.lt _ (getD_mem hi)
  have h2 : W.getD i 0 < 7 := by omega
  exact ⟨h2, pow_lt_128 h2⟩
theorem renL_lt {n : Nat} {W : List Nat} (h : OrdN n W) (h7 : n ≤ 7) : ∀ {l : List Nat} {s : Nat}, (∀ i ∈ l, i < W.length) → s < 128 → renL W l s < 128
  | [], _, _, hs => hs
  | i :: l, s, hl, hs => renL_lt h h7 (l := l) (fun j hj => hl j (by simp [hj])) (Nat.or_lt_two_pow (n := 7) hs (pow_get h h7 i (hl i (by simp))).2)
theorem renamed_loop {n : Nat} {W : List Nat} (h : OrdN n W) (h7 : n ≤ 7) (I : List Nat) (hI : ∀ i ∈ I, i < W.length) (hl : I.length ≤ 7) : ∀ (rest pre : List Nat) (s : Nat), pre ++ rest = I → s < 128 →
    Ev (fun k => impl_renamed.l0 k (castL W) (s : Int) (castL I) (I.length : Int) (pre.length : Int)) ((renL W rest s : Nat) : Int) := by
  intro rest
  induction rest with
  | nil =>
    intro pre s e hs
    obtain rfl : pre = I := by simpa using e
    refine Ev.step (fun k => by rw [impl_renamed.l0]) ?_
    simp only [show ¬ ((pre.length : Int) < (pre.length : Int)) from by omega, ↓reduceIte]
    exact Ev.some _
  | cons i rest ih =>
    intro pre s e hs
    have hlen : I.length = pre.length + (rest.length + 1) := by rw [← e]; simp
    have er : rd (castL I) (pre.length : Int) = (i : Int) := by rw [← e]; exact rd_castL_mid _ _ _
    have hi := hI i (by rw [← e]; simp)
    obtain ⟨hw, hp⟩ := pow_get h h7 i hi
    have hn := ih (pre ++ [i]) (s ||| 2 ^ (W.getD i 0)) (by simp [e]) (Nat.or_lt_two_pow (n := 7) hs hp)
    simp only [List.length_append, List.length_singleton] at hn
    refine Ev.step (fun k => by rw [impl_renamed.l0]) ?_
    simp only [show ((pre.length : Int) < (I.length : Int)) from by omega, show (0 : Int) ≤ (pre.length : Int) from by omega, castL_length, er, show (0 : Int) ≤ (i : Int) from by omega, show ((i : Int) < (W.length : Int)) from by omega, rd_castL W hi, show (0 : Int) ≤ ((W.getD i 0 : Nat) : Int) from by omega, shl1 (show W.getD i 0 ≤ 61 from by omega), bOr (show s < 2 ^ 62 from by omega) (show 2 ^ (W.getD i 0) < 2 ^ 62 from by omega), ↓reduceIte]
    rw [wnext (n := I.length) (by omega) (by omega)]
    exact hn
theorem renamed_ev {n : Nat} {W : List Nat} (h : OrdN n W) (h7 : n ≤ 7) {x : Nat} (hx : x < 2 ^ n) : Ev (fun k => impl_renamed.f k (x : Int) (castL W)) ((renN W x : Nat) : Int) := by
  have hp2 : 2 ^ n ≤ 2 ^ 7 := Nat.pow_le_pow_right (by omega) h7
  have hI : ∀ i ∈ itemsN x, i < W.length := by
    intro i hi
    have hb := (mem_itemsN.1 hi).2
    rw [h.len]
    rcases Nat.lt_or_ge i n with h1 | h1
    · exact h1
    · rw [Nat.testBit_lt_two_pow (Nat.lt_of_lt_of_le hx (Nat.pow_le_pow_right (by omega) h1))] at hb; cases hb
  have hl : (itemsN x).length ≤ 7 := Nat.le_trans (List.length_filter_le _ _) (by simp)
  unfold impl_renamed.f
  refine Ev.bind (items_ev (show x < 128 by omega)) ?_
  rw [castL_length]
  exact renamed_loop h h7 _ hI hl (itemsN x) [] 0 rfl (by omega)
/-- What is among the new sets. -/
def amongB (W T : List Nat) (z : Nat) : Bool := decide (∃ x ∈ T, renN W x = z)
theorem rename_loop {m : Nat} {T W : List Nat} (h : SpN m T) (hO : OrdN m W) : ∀ (rest pre : List Nat), pre ++ rest = T →
    Ev (fun k => impl_Space_rename.l0 k (castL W) (famN (amongB W pre)) (castL T) (T.length : Int) (pre.length : Int) (m : Int) (castL T)) ((m : Int), castL (listN (amongB W T))) := by
  have h7 := h.m7
  have hsh := h.short
  intro rest
  induction rest with
  | nil =>
    intro pre e
    obtain rfl : pre = T := by simpa using e
    refine Ev.step (fun k => by rw [impl_Space_rename.l0]) ?_
    simp only [show ¬ ((pre.length : Int) < (pre.length : Int)) from by omega, ↓reduceIte]
    exact Ev.bind (fam_space_ev _ _) (Ev.some _)
  | cons x rest ih =>
    intro pre e
    have hlen : T.length = pre.length + (rest.length + 1) := by rw [← e]; simp
    have er : rd (castL T) (pre.length : Int) = (x : Int) := by rw [← e]; exact rd_castL_mid _ _ _
    have hx := h.lt x (by rw [← e]; simp)
    have hr : renN W x < 128 := by
      refine renL_lt hO h7 (fun i hi => ?_) (by omega)
      have hb := (mem_itemsN.1 hi).2
      rw [hO.len]
      rcases Nat.lt_or_ge i m with h1 | h1
      · exact h1
      · rw [Nat.testBit_lt_two_pow (Nat.lt_of_lt_of_le hx (Nat.pow_le_pow_right (by omega) h1))] at hb; cases hb
    have hn := ih (pre ++ [x]) (by simp [e])
    simp only [List.length_append, List.length_singleton] at hn
    refine Ev.step (fun k => by rw [impl_Space_rename.l0]) ?_
    simp only [show ((pre.length : Int) < (T.length : Int)) from by omega, show (0 : Int) ≤ (pre.length : Int) from by omega, castL_length, er, ↓reduceIte]
    refine Ev.bind (renamed_ev hO h7 hx) ?_
    simp only [famN_length, show (0 : Int) < ((128 : Nat) : Int) from by omega, show (0 : Int) ≤ ((renN W x : Nat) : Int) from by omega, show (((renN W x : Nat) : Int) < ((128 : Nat) : Int)) from by omega, show (((renN W x : Nat) : Int) < 128) from by omega, Int.toNat_natCast, famN_set, ↓reduceIte]
    rw [wnext (n := T.length) (by omega) (by omega)]
    refine Ev.congr (fun k => ?_) hn
    congr 1
    apply famN_congr
    intro z _
    rw [Bool.eq_iff_iff]
    simp only [amongB, Bool.or_eq_true, decide_eq_true_eq, beq_iff_eq, List.mem_append, List.mem_singleton]
    constructor
    · rintro (⟨y, hy, e2⟩ | e2)
      · exact ⟨y, .inl hy, e2⟩
      · exact ⟨x, .inr rfl, e2.symm⟩
    · rintro ⟨y, hy | hy, e2⟩
      · exact .inl ⟨y, hy, e2⟩
      · exact .inr (by rw [← e2, hy])
theorem specRen_in {m : Nat} {T W : List Nat} (h : SpN m T) (hO : OrdN m W) {x : Nat} (hx : x < 2 ^ m) (i : Int) (R : List Nat) (hR : R.length ≤ 1000) (v : Int × List Int × Bool)
    (hv : Ev (fun k => spec_RenameItems.l0 k (castL W) (castL T) (T.length : Int) (wrap64 (i + 1)) (m : Int) (castL (insN (renN W x) R))) v) : ∀ (d j s : Nat), j + d = m → s < 128 → renS W x j d s = renN W x →
    Ev (fun k => spec_RenameItems.l1 k (castL W) (x : Int) (s : Int) (castL T) (T.length : Int) i (castL W) (m : Int) (j : Int) (m : Int) (castL R)) v := by
  have h7 := h.m7
  have hp2 := pow_le_128 h7
  have hWl := hO.len
  intro d
  induction d with
  | zero =>
    intro j s e hs hr
    obtain rfl : j = m := by omega
    have hr' : s = renN W x := hr
    refine Ev.step (fun k => by rw [spec_RenameItems.l1]) ?_
    simp only [show ¬ ((j : Int) < (j : Int)) from by omega, ↓reduceIte]
    rw [hr']
    exact Ev.bind (spPut_ev R (by omega) _) hv
  | succ d ih =>
    intro j s e hs hr
    have hj : j < W.length := by omega
    obtain ⟨hw, hp⟩ := pow_get hO h7 j hj
    refine Ev.step (fun k => by rw [spec_RenameItems.l1]) ?_
    simp only [show ((j : Int) < (m : Int)) from by omega, show (0 : Int) ≤ (j : Int) from by omega, castL_length, show ((j : Int) < (W.length : Int)) from by omega, spIn_eq x j (by omega), Option.bind_some, rd_castL W hj, show (0 : Int) ≤ ((W.getD j 0 : Nat) : Int) from by omega, shl1 (show W.getD j 0 ≤ 61 from by omega), bOr (show s < 2 ^ 62 from by omega) (show 2 ^ (W.getD j 0) < 2 ^ 62 from by omega), ↓reduceIte]
    rw [wnext (n := m) (by omega) (by omega)]
    rw [renS] at hr
    by_cases hb : x.testBit j = true
    · rw [if_pos hb] at hr
      simp only [hb, ↓reduceIte]
      exact ih (j + 1) _ (by omega) (Nat.or_lt_two_pow (n := 7) hs hp) hr
    · rw [if_neg hb] at hr
      simp only [hb, ↓reduceIte]
      exact ih (j + 1) _ (by omega) hs hr
theorem specRen_loop {m : Nat} {T W : List Nat} (h : SpN m T) (hO : OrdN m W) : ∀ (rest pre R : List Nat), pre ++ rest = T → Inc R → (∀ z, z ∈ R ↔ ∃ x ∈ pre, renN W x = z) → R.length ≤ pre.length →
    Ev (fun k => spec_RenameItems.l0 k (castL W) (castL T) (T.length : Int) (pre.length : Int) (m : Int) (castL R)) ((m : Int), castL (listN (amongB W T)), true) := by
  have h7 := h.m7
  have hsh := h.short
  intro rest
  induction rest with
  | nil =>
    intro pre R e hI hR hl
    obtain rfl : pre = T := by simpa using e
    refine Ev.step (fun k => by rw [spec_RenameItems.l0]) ?_
    simp only [show ¬ ((pre.length : Int) < (pre.length : Int)) from by omega, ↓reduceIte]
    have hlist : listN (amongB W pre) = R := inc_ext (inc_listN _) hI (fun z => by
      rw [mem_listN, hR, amongB, decide_eq_true_eq]
      constructor
      · exact fun h => h.2
      · rintro ⟨x, hx, rfl⟩
        have hxl := h.lt x hx
        refine ⟨renL_lt hO h7 (fun i hi => ?_) (by omega), x, hx, rfl⟩
        have hb := (mem_itemsN.1 hi).2
        rw [hO.len]
        rcases Nat.lt_or_ge i m with h1 | h1
        · exact h1
        · rw [Nat.testBit_lt_two_pow (Nat.lt_of_lt_of_le hxl (Nat.pow_le_pow_right (by omega) h1))] at hb; cases hb)
    rw [hlist]
    exact Ev.some _
  | cons x rest ih =>
    intro pre R e hI hR hl
    have hlen : T.length = pre.length + (rest.length + 1) := by rw [← e]; simp
    have er : rd (castL T) (pre.length : Int) = (x : Int) := by rw [← e]; exact rd_castL_mid _ _ _
    have hx := h.lt x (by rw [← e]; simp)
    have hn := ih (pre ++ [x]) (insN (renN W x) R) (by simp [e]) (inc_insN hI) (fun z => by
      rw [mem_insN, hR]
      simp only [List.mem_append, List.mem_singleton]
      constructor
      · rintro (rfl | ⟨y, hy, e⟩)
        · exact ⟨x, .inr rfl, rfl⟩
        · exact ⟨y, .inl hy, e⟩
      · rintro ⟨y, hy | hy, e2⟩
        · exact .inr ⟨y, hy, e2⟩
        · exact .inl (by rw [← e2, hy])) (by have := insN_length (x := renN W x) (l := R); simp; omega)
    simp only [List.length_append, List.length_singleton] at hn
    refine Ev.step (fun k => by rw [spec_RenameItems.l0]) ?_
    simp only [show ((pre.length : Int) < (T.length : Int)) from by omega, show (0 : Int) ≤ (pre.length : Int) from by omega, castL_length, er, hO.len, ↓reduceIte]
    refine specRen_in h hO hx _ R (by omega) _ ?_ m 0 0 (by omega) (by omega) (renS_eq h7 hx)
    rw [wnext (n := T.length) (by omega) (by omega)]
    exact hn
theorem RenameItems_both (n : Int) (S : List Int) (hS : S.length ≤ 1048576) (w : List Int) (hw : w.length ≤ 1048576) : ∃ (n' : Int) (L : List Int) (b : Bool), L.length ≤ 1048576 ∧ Ev (fun k => spec_RenameItems.f k n S w) (n', L, b) ∧ Ev (fun k => impl_RenameItems.f k n S w) (n', L, b) := by
  have hS2 : S.length ≤ 1099511627776 := by omega
  have hsj : ∀ (m : Int) (S : List Int), Ev (fun k => spec_RenameItems.j0 k w true m S) (0, [], false) := fun m S => by
    refine Ev.step (fun k => by rw [spec_RenameItems.j0]) ?_
    simp only [↓reduceIte]; exact Ev.some _
  cases hg : goodB n S with
  | false =>
    refine ⟨0, [], false, by simp, ?_, ?_⟩
    · unfold spec_RenameItems.f
      refine Ev.bind ((spec_spGood_ev n S hS2).eq hg) ?_
      simp only [↓reduceIte, Bool.false_eq_true]; exact hsj _ _
    · unfold impl_RenameItems.f
      refine Ev.bind ((impl_IsSpace_ev n S hS2).eq hg) ?_
      simp only [↓reduceIte, Bool.false_eq_true]; exact Ev.some _
  | true =>
    obtain ⟨m, T, rfl, rfl, h⟩ := good_space hg
    by_cases hlen : w.length = m
    · subst hlen
      rcases order_cases (w := w) (by omega) with ⟨h1, h2⟩ | ⟨W, hW, hO, h1, h2⟩
      · refine ⟨0, [], false, by simp, ?_, ?_⟩
        · unfold spec_RenameItems.f
          refine Ev.bind h.spec ?_
          simp only [↓reduceIte]
          refine Ev.bind h2 ?_
          exact hsj _ _
        · unfold impl_RenameItems.f
          refine Ev.bind h.impl ?_
          simp only [↓reduceIte]
          refine Ev.bind h1 ?_
          simp only [↓reduceIte, Bool.false_eq_true]; exact Ev.some _
      · have hll : (listN (amongB W T)).length ≤ 128 := Nat.le_trans (List.length_filter_le _ _) (by simp)
        refine ⟨(w.length : Int), castL (listN (amongB W T)), true, by rw [castL_length]; omega, ?_, ?_⟩
        · unfold spec_RenameItems.f
          refine Ev.bind h.spec ?_
          simp only [↓reduceIte]
          refine Ev.bind h2 ?_
          refine Ev.step (fun k => by rw [spec_RenameItems.j0]) ?_
          simp only [Bool.not_true, ↓reduceIte, Bool.false_eq_true, castL_length]
          have := specRen_loop h hO T [] [] rfl (by simp [Inc]) (by simp) (by simp)
          rw [← hW] at this
          exact this
        · unfold impl_RenameItems.f
          refine Ev.bind h.impl ?_
          simp only [↓reduceIte]
          refine Ev.bind h1 ?_
          simp only [↓reduceIte]
          have hr : Ev (fun k => impl_Space_rename.f k (w.length : Int) (castL T) w) ((w.length : Int), castL (listN (amongB W T))) := by
            unfold impl_Space_rename.f
            have := rename_loop h hO T [] rfl
            rw [← hW] at this
            have e0 : famN (amongB W []) = List.replicate 128 false := by
              rw [← famN_none]; apply famN_congr; intro z _; simp [amongB]
            rw [e0] at this
            rw [castL_length]
            exact this
          exact Ev.bind hr (Ev.some _)
    · have hne : ¬ (w.length : Int) = (m : Int) := by omega
      refine ⟨0, [], false, by simp, ?_, ?_⟩
      · unfold spec_RenameItems.f
        refine Ev.bind h.spec ?_
        simp only [hne, ↓reduceIte]; exact hsj _ _
      · unfold impl_RenameItems.f
        refine Ev.bind h.impl ?_
        simp only [↓reduceIte]
        refine Ev.bind ((isOrder_val w (by omega) m).eq (show _ = false from by simp [hlen])) ?_
        simp only [↓reduceIte, Bool.false_eq_true]; exact Ev.some _
end Go.Proofs.Ytpliebmaagoahaa.Q
