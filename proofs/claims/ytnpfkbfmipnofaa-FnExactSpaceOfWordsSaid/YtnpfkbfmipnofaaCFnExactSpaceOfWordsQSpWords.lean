/- The least space of words: both; conditions: as each theorem states. -/
import Derived.Test.YtnpfkbfmipnofaaCFnExactSpaceOfWordsQOrder
import Derived.Test.YtnpfkbfmipnofaaCFnExactSpaceOfWordsQClosed
import Derived.Test.YtnpfkbfmipnofaaCFnExactSpaceOfWordsQLawPts
import Derived.Test.YtnpfkbfmipnofaaCFnExactSpaceOfWordsP3
namespace Go.Proofs.Ytnpfkbfmipnofaa.Q
open Go.RowKit Go.Proofs.YtnpfkbfmipnofaaW.PrintWords Go.Proofs.YtnpfkbfmipnofaaW.PrintLast Go.Proofs.YtnpfkbfmipnofaaW.PrintMore Go.Proofs.Ytnpfkbfmipnofaa.P
set_option linter.unusedVariables false
set_option linter.unusedSimpArgs false

/-- A list is an order of n items. -/
def ordB (n : Nat) (w : List Int) : Bool := decide (w.length = n) && decide (1 ≤ n ∧ n ≤ 7) && (rngB n w && decide (orL (w.map Int.toNat) 0 = 2 ^ n - 1))
theorem ord_len {n : Nat} {w : List Int} (h : w.length ≠ n) : ordB n w = false := by simp [ordB, h]
theorem ord_spec {w : List Int} (hl : w.length ≤ 1099511627776) : Ev (fun k => spec_spOrder.f k w) (ordB w.length w) := by
  have hv := isOrder_val w hl w.length
  rcases order_cases hl with ⟨h1, h2⟩ | ⟨W, e, h, h1, h2⟩
  · exact h2.eq (h1.unique hv)
  · exact h2.eq (h1.unique hv)
theorem ord_data {n : Nat} {w : List Int} (hl : w.length ≤ 1099511627776) (h : ordB n w = true) : ∃ W : List Nat, w = castL W ∧ W.length = n ∧ 1 ≤ n ∧ n ≤ 7 ∧ ∀ i ∈ W, i < n := by
  simp only [ordB, Bool.and_eq_true, decide_eq_true_eq, rngB, List.all_eq_true] at h
  obtain ⟨⟨h1, h2⟩, h3, _⟩ := h
  have h0 : ∀ x ∈ w, 0 ≤ x := fun x hx => (h3 x hx).1
  refine ⟨w.map Int.toNat, (castL_of h0).symm, by simpa using h1, h2.1, h2.2, fun i hi => ?_⟩
  obtain ⟨x, hx, rfl⟩ := List.mem_map.1 hi
  have := h3 x hx
  omega
/-- The sets of a chain, but the empty one. -/
def chS : List Nat → Nat → List Nat
  | [], _ => []
  | i :: r, s => (s ||| 2 ^ i) :: chS r (s ||| 2 ^ i)
theorem chS_lt : ∀ {W : List Nat} {s : Nat}, (∀ i ∈ W, i < 7) → s < 128 → ∀ x ∈ chS W s, x < 128
  | [], _, _, _ => by simp [chS]
  | i :: r, s, hW, hs => by
    have hsi := Nat.or_lt_two_pow (n := 7) hs (pow_lt_128 (hW i (by simp)))
    intro x hx
    rcases List.mem_cons.1 hx with rfl | hx
    · exact hsi
    · exact chS_lt (W := r) (fun j hj => hW j (by simp [hj])) hsi x hx
def insAll : List Nat → List Nat → List Nat
  | [], B => B
  | c :: r, B => insAll r (insN c B)
theorem insAll_inc : ∀ {C B : List Nat}, Inc B → Inc (insAll C B)
  | [], _, h => h
  | c :: r, B, h => insAll_inc (C := r) (inc_insN h)
theorem mem_insAll {z : Nat} : ∀ {C B : List Nat}, z ∈ insAll C B ↔ z ∈ B ∨ z ∈ C
  | [], B => by simp [insAll]
  | c :: r, B => by
    rw [insAll, mem_insAll (C := r), mem_insN, List.mem_cons, or_assoc, or_left_comm]
theorem insAll_length : ∀ {C B : List Nat}, (insAll C B).length ≤ B.length + C.length
  | [], _ => by simp [insAll]
  | c :: r, B => by
    have h1 := insAll_length (C := r) (B := insN c B)
    have h2 := insN_length (x := c) (l := B)
    simp only [insAll, List.length_cons]; omega
theorem chS_length : ∀ {W : List Nat} {s : Nat}, (chS W s).length = W.length
  | [], _ => rfl
  | i :: r, s => by simp [chS, chS_length (W := r)]
theorem spChainW_loop (W : List Nat) (hW : ∀ i ∈ W, i < 7) (hl : W.length ≤ 7) : ∀ (rest pre T : List Nat) (s : Nat), pre ++ rest = W → s < 128 → T.length ≤ 1 + pre.length →
    Ev (fun k => spec_spChain.l0 k (castL T) (s : Int) (castL W) (W.length : Int) (pre.length : Int)) (castL (insAll (chS rest s) T)) := by
  intro rest
  induction rest with
  | nil =>
    intro pre T s e hs ht
    obtain rfl : pre = W := by simpa using e
    refine Ev.step (fun k => by rw [spec_spChain.l0]) ?_
    simp only [show ¬ ((pre.length : Int) < (pre.length : Int)) from by omega, ↓reduceIte]
    exact Ev.some _
  | cons i rest ih =>
    intro pre T s e hs ht
    have hi : i < 7 := hW i (by rw [← e]; simp)
    have hp2 : 2 ^ i < 128 := pow_lt_128 hi
    have hlen : W.length = pre.length + (rest.length + 1) := by rw [← e]; simp
    have er : rd (castL W) (pre.length : Int) = (i : Int) := by rw [← e]; exact rd_castL_mid _ _ _
    have hil := insN_length (x := s ||| 2 ^ i) (l := T)
    have hn := ih (pre ++ [i]) (insN (s ||| 2 ^ i) T) (s ||| 2 ^ i) (by simp [e]) (Nat.or_lt_two_pow (n := 7) hs hp2) (by simp; omega)
    simp only [List.length_append, List.length_singleton] at hn
    refine Ev.step (fun k => by rw [spec_spChain.l0]) ?_
    simp only [show ((pre.length : Int) < (W.length : Int)) from by omega, show (0 : Int) ≤ (pre.length : Int) from by omega, castL_length, er, show (0 : Int) ≤ (i : Int) from by omega, shl1 (show i ≤ 61 from by omega), bOr (show s < 2 ^ 62 from by omega) (show 2 ^ i < 2 ^ 62 from by omega), ↓reduceIte]
    refine Ev.bind (spPut_ev T (by omega) _) ?_
    rw [wnext (n := W.length) (by omega) (by omega)]
    exact hn
theorem spChainW_ev (W : List Nat) (hW : ∀ i ∈ W, i < 7) (hl : W.length ≤ 7) : Ev (fun k => spec_spChain.f k (castL W)) (castL (insAll (chS W 0) [0])) := by
  unfold spec_spChain.f
  rw [castL_length]
  exact spChainW_loop W hW hl W [] [0] 0 rfl (by omega) (by simp)

/-! ### the check of the lists, both -/
theorem idx_words (P : List (List Int)) (n : Nat) (hl : P.length ≤ 1048576) (hrow : ∀ x ∈ P, x.length ≤ 1048576) : ∀ rest pre : List (List Int), pre ++ rest = P →
    ∃ v, Ev (fun k => slices_IndexFunc_int_int__SpaceOfWords_1.l0 k P (P.length : Int) (pre.length : Int) [(n : Int)]) v ∧ (decide (v ≥ 0) = rest.any fun r => !ordB n r) := by
  have e0 : rd [(n : Int)] 0 = (n : Int) := rfl
  intro rest
  induction rest with
  | nil =>
    intro pre h
    obtain rfl : pre = P := by simpa using h
    refine ⟨-1, Ev.step (fun k => by rw [slices_IndexFunc_int_int__SpaceOfWords_1.l0]) ?_, rfl⟩
    simp only [show ¬ ((pre.length : Int) < (pre.length : Int)) from by omega, ↓reduceIte]
    exact Ev.some _
  | cons r rest ih =>
    intro pre h
    have hlen : P.length = pre.length + (rest.length + 1) := by rw [← h]; simp
    have e : rd_L2 P (pre.length : Int) = r := by rw [← h]; exact rdL_mid _ _ _
    have hr := hrow r (by rw [← h]; simp)
    obtain ⟨v, hv, hd⟩ := ih (pre ++ [r]) (by simp [h])
    rw [List.length_append, List.length_singleton] at hv
    have hc : Ev (fun k => impl_SpaceOfWords_1.f k r [(n : Int)]) (!ordB n r) := by
      unfold impl_SpaceOfWords_1.f
      simp only [List.length_singleton, show ((0 : Int) < ((1 : Nat) : Int)) from by omega, ↓reduceIte, e0]
      exact Ev.bind (isOrder_val r (by omega) n) (Ev.some _)
    cases hp : ordB n r with
    | false =>
      refine ⟨(pre.length : Int), Ev.step (fun k => by rw [slices_IndexFunc_int_int__SpaceOfWords_1.l0]) ?_, by simp [hp]⟩
      simp only [show ((pre.length : Int) < (P.length : Int)) from by omega, show (0 : Int) ≤ (pre.length : Int) from by omega, e, ↓reduceIte]
      refine Ev.bind hc ?_
      simp only [hp, Bool.not_false, ↓reduceIte]
      exact Ev.some _
    | true =>
      refine ⟨v, Ev.step (fun k => by rw [slices_IndexFunc_int_int__SpaceOfWords_1.l0]) ?_, by simp [hp, hd]⟩
      simp only [show ((pre.length : Int) < (P.length : Int)) from by omega, show (0 : Int) ≤ (pre.length : Int) from by omega, e, ↓reduceIte]
      refine Ev.bind hc ?_
      simp only [hp, Bool.not_true, Bool.false_eq_true, ↓reduceIte]
      rw [wnext (n := P.length) (by omega) (by omega)]
      exact hv
theorem contains_words (P : List (List Int)) (n : Nat) (hl : P.length ≤ 1048576) (hrow : ∀ x ∈ P, x.length ≤ 1048576) : Ev (fun k => slices_ContainsFunc_int_int__SpaceOfWords_1.f k P [(n : Int)]) (!P.all (ordB n)) := by
  obtain ⟨v, hv, hd⟩ := idx_words P n hl hrow P [] rfl
  unfold slices_ContainsFunc_int_int__SpaceOfWords_1.f slices_IndexFunc_int_int__SpaceOfWords_1.f
  refine Ev.bind hv ((Ev.some _).eq ?_)
  rw [hd, List.not_all_eq_any_not]
theorem woLists_loop (P : List (List Int)) (n : Nat) (hn : ((rd_L2 P 0).length : Int) = (n : Int)) (hl : P.length ≤ 1048576) (hrow : ∀ x ∈ P, x.length ≤ 1048576) : ∀ rest pre : List (List Int), pre ++ rest = P →
    Ev (fun k => spec_woLists.l0 k P P (P.length : Int) (pre.length : Int)) (rest.all (ordB n)) := by
  intro rest
  induction rest with
  | nil =>
    intro pre h
    obtain rfl : pre = P := by simpa using h
    refine Ev.step (fun k => by rw [spec_woLists.l0]) ?_
    simp only [show ¬ ((pre.length : Int) < (pre.length : Int)) from by omega, ↓reduceIte]
    exact Ev.some _
  | cons r rest ih =>
    intro pre h
    have hlen : P.length = pre.length + (rest.length + 1) := by rw [← h]; simp
    have e : rd_L2 P (pre.length : Int) = r := by rw [← h]; exact rdL_mid _ _ _
    have hr := hrow r (by rw [← h]; simp)
    have hv := ih (pre ++ [r]) (by simp [h])
    rw [List.length_append, List.length_singleton] at hv
    refine Ev.step (fun k => by rw [spec_woLists.l0]) ?_
    simp only [show ((pre.length : Int) < (P.length : Int)) from by omega, show (0 : Int) ≤ (pre.length : Int) from by omega, show (0 : Int) < (P.length : Int) from by omega, e, hn, ↓reduceIte]
    by_cases hrn : r.length = n
    · simp only [show ((r.length : Int) = (n : Int)) from by omega, ↓reduceIte]
      have hs := ord_spec (w := r) (by omega)
      rw [hrn] at hs
      refine Ev.bind hs ?_
      cases hp : ordB n r with
      | false =>
        simp only [Bool.false_eq_true, ↓reduceIte]
        exact (Ev.some _).eq (by simp [hp])
      | true =>
        simp only [↓reduceIte]
        rw [wnext (n := P.length) (by omega) (by omega)]
        exact hv.eq (by simp [hp])
    · simp only [show ¬ ((r.length : Int) = (n : Int)) from by omega, ↓reduceIte]
      exact (Ev.some _).eq (by simp [ord_len hrn])
theorem words_data {P : List (List Int)} {n : Nat} (hrow : ∀ x ∈ P, x.length ≤ 1048576) (h : P.all (ordB n) = true) : ∃ Ws : List (List Nat), P = Ws.map castL ∧ ∀ W ∈ Ws, W.length = n ∧ n ≤ 7 ∧ ∀ i ∈ W, i < 7 := by
  induction P with
  | nil => exact ⟨[], rfl, by simp⟩
  | cons w P ih =>
    simp only [List.all_cons, Bool.and_eq_true] at h
    obtain ⟨Ws, e, hW⟩ := ih (fun x hx => hrow x (by simp [hx])) h.2
    obtain ⟨W, e2, h1, h2, h3, h4⟩ := ord_data (by have := hrow w (by simp); omega) h.1
    refine ⟨W :: Ws, by rw [e, e2]; rfl, fun V hV => ?_⟩
    rcases List.mem_cons.1 hV with rfl | hV
    · exact ⟨h1, h3, fun i hi => by have := h4 i hi; omega⟩
    · exact hW V hV
theorem rdL_words (pre : List (List Nat)) (W : List Nat) (rest : List (List Nat)) : rd_L2 ((pre ++ W :: rest).map castL) (pre.length : Int) = castL W := by
  rw [List.map_append, List.map_cons]
  have := rdL_mid (pre.map castL) (castL W) (rest.map castL)
  rwa [List.length_map] at this

/-! ### the program -/
def chA : List Nat → Nat → List Nat → List Nat
  | [], _, L => L
  | i :: r, s, L => chA r (s ||| 2 ^ i) ((s ||| 2 ^ i) :: L)
theorem mem_chA {z : Nat} : ∀ {W : List Nat} {s : Nat} {L : List Nat}, z ∈ chA W s L ↔ z ∈ L ∨ z ∈ chS W s
  | [], s, L => by simp [chA, chS]
  | i :: r, s, L => by
    rw [chA, mem_chA (W := r), List.mem_cons, chS, List.mem_cons]
    constructor
    · rintro ((h | h) | h)
      · exact .inr (.inl h)
      · exact .inl h
      · exact .inr (.inr h)
    · rintro (h | h | h)
      · exact .inl (.inr h)
      · exact .inl (.inl h)
      · exact .inr h
theorem spaceOf_in {n : Int} {P : List (List Int)} {nP iP : Int} {W : List Nat} (hW : ∀ i ∈ W, i < 7) (hl : W.length ≤ 7) (v : Int × List Int) : ∀ (rest pre : List Nat) (s : Nat) (L : List Nat), pre ++ rest = W → s < 128 →
    Ev (fun k => impl_spaceOf.l0 k n (famN fun y => decide (y ∈ chA rest s L)) P nP (wrap64 (iP + 1))) v →
    Ev (fun k => impl_spaceOf.l1 k n (famN fun y => decide (y ∈ L)) (s : Int) P nP iP (castL W) (W.length : Int) (pre.length : Int)) v := by
  intro rest
  induction rest with
  | nil =>
    intro pre s L e hs hv
    obtain rfl : pre = W := by simpa using e
    refine Ev.step (fun k => by rw [impl_spaceOf.l1]) ?_
    simp only [show ¬ ((pre.length : Int) < (pre.length : Int)) from by omega, ↓reduceIte]
    exact hv
  | cons i rest ih =>
    intro pre s L e hs hv
    have hi : i < 7 := hW i (by rw [← e]; simp)
    have hp2 : 2 ^ i < 128 := pow_lt_128 hi
    have hsi := Nat.or_lt_two_pow (n := 7) hs hp2
    have hlen : W.length = pre.length + (rest.length + 1) := by rw [← e]; simp
    have er : rd (castL W) (pre.length : Int) = (i : Int) := by rw [← e]; exact rd_castL_mid _ _ _
    have hn := ih (pre ++ [i]) (s ||| 2 ^ i) ((s ||| 2 ^ i) :: L) (by simp [e]) hsi hv
    simp only [List.length_append, List.length_singleton] at hn
    refine Ev.step (fun k => by rw [impl_spaceOf.l1]) ?_
    simp only [show ((pre.length : Int) < (W.length : Int)) from by omega, show (0 : Int) ≤ (pre.length : Int) from by omega, castL_length, er, show (0 : Int) ≤ (i : Int) from by omega, shl1 (show i ≤ 61 from by omega), bOr (show s < 2 ^ 62 from by omega) (show 2 ^ i < 2 ^ 62 from by omega), famN_length,
      show (0 : Int) ≤ ((s ||| 2 ^ i : Nat) : Int) from by omega, show (((s ||| 2 ^ i : Nat) : Int) < ((128 : Nat) : Int)) from by omega, show (((s ||| 2 ^ i : Nat) : Int) < 128) from by omega, Int.toNat_natCast, famN_set, ↓reduceIte]
    rw [wnext (n := W.length) (by omega) (by omega)]
    refine Ev.congr (fun k => ?_) hn
    congr 1
    apply famN_congr
    intro y _
    rw [Bool.eq_iff_iff]
    simp only [Bool.or_eq_true, decide_eq_true_eq, beq_iff_eq, List.mem_cons]
    exact or_comm
theorem spaceOf_loop {n : Nat} {Ws : List (List Nat)} (hW : ∀ W ∈ Ws, W.length = n ∧ n ≤ 7 ∧ ∀ i ∈ W, i < 7) (hl : Ws.length ≤ 1048576) (v : Int × List Int)
    (hv : ∀ L : List Nat, (∀ z, z ∈ L ↔ ∃ W ∈ Ws, z ∈ chS W 0) → Ev (fun k => impl_spaceOf.l0 k (n : Int) (famN fun y => decide (y ∈ L)) (Ws.map castL) (Ws.length : Int) (Ws.length : Int)) v) : ∀ (rest pre : List (List Nat)) (L : List Nat), pre ++ rest = Ws → (∀ z, z ∈ L ↔ ∃ W ∈ pre, z ∈ chS W 0) →
    Ev (fun k => impl_spaceOf.l0 k (n : Int) (famN fun y => decide (y ∈ L)) (Ws.map castL) (Ws.length : Int) (pre.length : Int)) v := by
  intro rest
  induction rest with
  | nil =>
    intro pre L e hL
    obtain rfl : pre = Ws := by simpa using e
    exact hv L hL
  | cons W rest ih =>
    intro pre L e hL
    have hlen : Ws.length = pre.length + (rest.length + 1) := by rw [← e]; simp
    have er : rd_L2 (Ws.map castL) (pre.length : Int) = castL W := by rw [← e]; exact rdL_words _ _ _
    have hWm := hW W (by rw [← e]; simp)
    refine Ev.step (fun k => by rw [impl_spaceOf.l0]) ?_
    simp only [show ((pre.length : Int) < (Ws.length : Int)) from by omega, show (0 : Int) ≤ (pre.length : Int) from by omega, List.length_map, er, castL_length, ↓reduceIte]
    refine spaceOf_in hWm.2.2 (by omega) v W [] 0 L rfl (by omega) ?_
    have hn := ih (pre ++ [W]) (chA W 0 L) (by simp [e]) (fun z => by
      rw [mem_chA, hL]
      constructor
      · rintro (⟨V, hV, hz⟩ | hz)
        · exact ⟨V, by simp [hV], hz⟩
        · exact ⟨W, by simp, hz⟩
      · rintro ⟨V, hV, hz⟩
        rcases List.mem_append.1 hV with hV | hV
        · exact .inl ⟨V, hV, hz⟩
        · rw [List.mem_singleton] at hV; subst hV; exact .inr hz)
    rw [List.length_append, List.length_singleton] at hn
    rw [wnext (n := Ws.length) (by omega) (by omega)]
    exact hn

/-! ### the reference -/
theorem specWords_in {P : List (List Int)} {nP iP : Int} {C : List Nat} (hC : C.length ≤ 128) (v : Int × List Int × Bool) : ∀ (rest pre B : List Nat), pre ++ rest = C → B.length ≤ 1000 + pre.length →
    Ev (fun k => spec_SpaceOfWords.l0 k P (castL (insAll rest B)) P nP (wrap64 (iP + 1))) v →
    Ev (fun k => spec_SpaceOfWords.l1 k P (castL B) P nP iP (castL C) (C.length : Int) (pre.length : Int)) v := by
  intro rest
  induction rest with
  | nil =>
    intro pre B e hB hv
    obtain rfl : pre = C := by simpa using e
    refine Ev.step (fun k => by rw [spec_SpaceOfWords.l1]) ?_
    simp only [show ¬ ((pre.length : Int) < (pre.length : Int)) from by omega, ↓reduceIte]
    exact hv
  | cons c rest ih =>
    intro pre B e hB hv
    have hlen : C.length = pre.length + (rest.length + 1) := by rw [← e]; simp
    have er : rd (castL C) (pre.length : Int) = (c : Int) := by rw [← e]; exact rd_castL_mid _ _ _
    have hil := insN_length (x := c) (l := B)
    have hn := ih (pre ++ [c]) (insN c B) (by simp [e]) (by simp; omega) hv
    rw [List.length_append, List.length_singleton] at hn
    refine Ev.step (fun k => by rw [spec_SpaceOfWords.l1]) ?_
    simp only [show ((pre.length : Int) < (C.length : Int)) from by omega, show (0 : Int) ≤ (pre.length : Int) from by omega, castL_length, er, ↓reduceIte]
    refine Ev.bind (spPut_ev B (by omega) _) ?_
    rw [wnext (n := C.length) (by omega) (by omega)]
    exact hn
theorem specWords_loop {n : Nat} {Ws : List (List Nat)} (hW : ∀ W ∈ Ws, W.length = n ∧ n ≤ 7 ∧ ∀ i ∈ W, i < 7) (hl : Ws.length ≤ 1048576) (v : Int × List Int × Bool)
    (hv : ∀ B : List Nat, Inc B → (∀ z ∈ B, z < 128) → (∀ z, z ∈ B ↔ ∃ W ∈ Ws, z = 0 ∨ z ∈ chS W 0) → Ev (fun k => spec_SpaceOfWords.l0 k (Ws.map castL) (castL B) (Ws.map castL) (Ws.length : Int) (Ws.length : Int)) v) : ∀ (rest pre : List (List Nat)) (B : List Nat), pre ++ rest = Ws → Inc B → (∀ z ∈ B, z < 128) → (∀ z, z ∈ B ↔ ∃ W ∈ pre, z = 0 ∨ z ∈ chS W 0) →
    Ev (fun k => spec_SpaceOfWords.l0 k (Ws.map castL) (castL B) (Ws.map castL) (Ws.length : Int) (pre.length : Int)) v := by
  intro rest
  induction rest with
  | nil =>
    intro pre B e hI hlt hB
    obtain rfl : pre = Ws := by simpa using e
    exact hv B hI hlt hB
  | cons W rest ih =>
    intro pre B e hI hlt hB
    have hlen : Ws.length = pre.length + (rest.length + 1) := by rw [← e]; simp
    have er : rd_L2 (Ws.map castL) (pre.length : Int) = castL W := by rw [← e]; exact rdL_words _ _ _
    have hWm := hW W (by rw [← e]; simp)
    have hBl := inc_len hI hlt
    have hcl := insAll_length (C := chS W 0) (B := [0])
    rw [chS_length] at hcl
    simp only [List.length_singleton] at hcl
    refine Ev.step (fun k => by rw [spec_SpaceOfWords.l0]) ?_
    simp only [show ((pre.length : Int) < (Ws.length : Int)) from by omega, show (0 : Int) ≤ (pre.length : Int) from by omega, List.length_map, er, ↓reduceIte]
    refine Ev.bind (spChainW_ev W hWm.2.2 (by omega)) ?_
    rw [castL_length]
    refine specWords_in (by omega) v (insAll (chS W 0) [0]) [] B rfl (by omega) ?_
    have hm : ∀ z, z ∈ insAll (insAll (chS W 0) [0]) B ↔ z ∈ B ∨ (z = 0 ∨ z ∈ chS W 0) := fun z => by
      rw [mem_insAll, mem_insAll, List.mem_singleton]
    have hn := ih (pre ++ [W]) (insAll (insAll (chS W 0) [0]) B) (by simp [e]) (insAll_inc hI) (fun z hz => by
      rcases (hm z).1 hz with h | h | h
      · exact hlt z h
      · omega
      · exact chS_lt hWm.2.2 (by omega) z h) (fun z => by
      rw [hm, hB]
      constructor
      · rintro (⟨V, hV, hz⟩ | hz)
        · exact ⟨V, by simp [hV], hz⟩
        · exact ⟨W, by simp, hz⟩
      · rintro ⟨V, hV, hz⟩
        rcases List.mem_append.1 hV with hV | hV
        · exact .inl ⟨V, hV, hz⟩
        · rw [List.mem_singleton] at hV; subst hV; exact .inr hz)
    rw [List.length_append, List.length_singleton] at hn
    rw [wnext (n := Ws.length) (by omega) (by omega)]
    exact hn
theorem SpaceOfWords_both (P : List (List Int)) (hl : P.length ≤ 1048576) (hrow : ∀ x ∈ P, x.length ≤ 1048576) : ∃ (n' : Int) (L : List Int) (b : Bool), L.length ≤ 1048576 ∧ Ev (fun k => spec_SpaceOfWords.f k P) (n', L, b) ∧ Ev (fun k => impl_SpaceOfWords.f k P) (n', L, b) := by
  by_cases h : 1 ≤ (P.length : Int) ∧ (P.length : Int) ≤ 200
  rotate_left
  · refine ⟨0, [], false, by simp, ?_, ?_⟩
    · have : Ev (fun k => spec_woLists.f k P) false := by
        unfold spec_woLists.f
        simp only [l1In_eq, Option.bind_some, decide_eq_false h, Bool.false_eq_true, ↓reduceIte]
        exact Ev.some _
      unfold spec_SpaceOfWords.f
      refine Ev.bind this ?_
      simp only [Bool.false_eq_true, ↓reduceIte]; exact Ev.some _
    · unfold impl_SpaceOfWords.f
      simp only [within_eq, Option.bind_some, decide_eq_false h, Bool.false_eq_true, ↓reduceIte]
      exact Ev.some _
  obtain ⟨n, hn⟩ : ∃ n : Nat, n = (rd_L2 P 0).length := ⟨_, rfl⟩
  have hnI : ((rd_L2 P 0).length : Int) = (n : Int) := by rw [hn]
  have e1 : ([0] : List Int).set (0 : Int).toNat (n : Int) = [(n : Int)] := rfl
  have e0 : rd [(n : Int)] 0 = (n : Int) := rfl
  have hsp : Ev (fun k => spec_woLists.f k P) (P.all (ordB n)) := by
    unfold spec_woLists.f
    simp only [l1In_eq, Option.bind_some, decide_eq_true h, ↓reduceIte]
    exact woLists_loop P n hnI hl hrow P [] rfl
  have hs : ∀ v, Ev (fun k => if P.all (ordB n) = true then (spec_SpaceOfWords.l0 k P ([] : List Int) P (P.length : Int) 0) else (some (0, ([] : List Int), false))) v → Ev (fun k => spec_SpaceOfWords.f k P) v := by
    intro v hv
    unfold spec_SpaceOfWords.f
    exact Ev.bind hsp hv
  have hi : ∀ v, Ev (fun k => if (!P.all (ordB n)) = true then (some (0, ([] : List Int), false)) else ((impl_spaceOf.f k (n : Int) P).bind fun bt => (some (bt.1, bt.2, true)))) v → Ev (fun k => impl_SpaceOfWords.f k P) v := by
    intro v hv
    unfold impl_SpaceOfWords.f
    simp only [within_eq, Option.bind_some, decide_eq_true h, ↓reduceIte, show (0 : Int) < (P.length : Int) from by omega, List.length_singleton, show ((0 : Int) < ((1 : Nat) : Int)) from by omega, hnI, e1, e0]
    exact Ev.bind (contains_words P n hl hrow) hv
  cases hall : P.all (ordB n) with
  | false =>
    rw [hall] at hs hi
    refine ⟨0, [], false, by simp, hs _ ?_, hi _ ?_⟩
    · simp only [Bool.false_eq_true, ↓reduceIte]; exact Ev.some _
    · simp only [Bool.not_false, ↓reduceIte]; exact Ev.some _
  | true =>
    rw [hall] at hs hi
    simp only [Bool.not_true, Bool.false_eq_true, ↓reduceIte] at hs hi
    obtain ⟨Ws, rfl, hW⟩ := words_data hrow hall
    rw [List.length_map] at hl
    have hlI : (((Ws.map castL).length : Nat) : Int) = ((Ws.length : Nat) : Int) := by rw [List.length_map]
    have h0 : 0 < Ws.length := by rw [hlI] at h; omega
    rw [hlI] at hs
    -- the sets
    obtain ⟨W0, hW0⟩ : ∃ W, W ∈ Ws := by
      cases Ws with
      | nil => simp at h0
      | cons W _ => exact ⟨W, by simp⟩
    have key : ∃ R : List Nat, Inc R ∧ (∀ z ∈ R, z < 128) ∧ Ev (fun k => spec_SpaceOfWords.l0 k (Ws.map castL) (castL []) (Ws.map castL) (Ws.length : Int) (([] : List (List Nat)).length : Int)) ((n : Int), castL R, true) ∧
        Ev (fun k => impl_spaceOf.l0 k (n : Int) (famN fun y => decide (y ∈ ([] : List Nat))) (Ws.map castL) (Ws.length : Int) (([] : List (List Nat)).length : Int)) ((n : Int), castL R) := by
      obtain ⟨B, hB⟩ : ∃ B : List Nat, ∀ z, z ∈ B ↔ ∃ W ∈ Ws, z = 0 ∨ z ∈ chS W 0 := by
        refine ⟨Ws.flatMap fun W => 0 :: chS W 0, fun z => ?_⟩
        simp [List.mem_flatMap]
      have hB2 : ∀ z ∈ B, z < 128 := fun z hz => by
        obtain ⟨W, hWm, hz⟩ := (hB z).1 hz
        rcases hz with rfl | hz
        · omega
        · exact chS_lt (hW W hWm).2.2 (by omega) z hz
      have hBI : Inc (insAll B []) := insAll_inc List.Pairwise.nil
      have hBm : ∀ z, z ∈ insAll B [] ↔ z ∈ B := fun z => by rw [mem_insAll]; simp
      have hBlt : ∀ z ∈ insAll B [], z < 128 := fun z hz => hB2 z ((hBm z).1 hz)
      have hBl := inc_len hBI hBlt
      obtain ⟨R, hu, hI, hR⟩ := unions_ev (L := insAll B []) hBlt (by omega)
      have hRlt : ∀ x ∈ R, x < 128 := fun x hx => UC.lt (n := 7) hBlt ((hR x).1 hx)
      refine ⟨R, hI, hRlt, specWords_loop hW hl _ (fun B' h1 h2 h3 => ?_) Ws [] [] rfl List.Pairwise.nil (by simp) (by simp), spaceOf_loop hW hl _ (fun L hL => ?_) Ws [] [] rfl (by simp)⟩
      · have eB : B' = insAll B [] := inc_ext h1 hBI (fun z => by rw [h3, hBm, hB])
        subst eB
        refine Ev.step (fun k => by rw [spec_SpaceOfWords.l0]) ?_
        simp only [show ¬ ((Ws.length : Int) < (Ws.length : Int)) from by omega, ↓reduceIte, List.length_map, show (0 : Int) < (Ws.length : Int) from by omega, hnI]
        exact Ev.bind hu (Ev.some _)
      · have hL2 : ∀ x ∈ L, x < 128 := fun x hx => by
          obtain ⟨W, hWm, hz⟩ := (hL x).1 hx
          exact chS_lt (hW W hWm).2.2 (by omega) x hz
        obtain ⟨p, hc, hp⟩ := closed_ev (L := L) hL2
        have huc : ∀ z, UC (· ∈ L) z ↔ UC (· ∈ insAll B []) z := fun z => by
          constructor
          · exact UC.mono (fun x hx => by
              obtain ⟨W, hWm, hz⟩ := (hL x).1 hx
              exact (hBm x).2 ((hB x).2 ⟨W, hWm, .inr hz⟩))
          · intro hz
            induction hz with
            | zero => exact .zero
            | base hx =>
              obtain ⟨W, hWm, hz⟩ := (hB _).1 ((hBm _).1 hx)
              rcases hz with rfl | hz
              · exact .zero
              · exact .base ((hL _).2 ⟨W, hWm, hz⟩)
            | or _ _ ha hb => exact .or ha hb
        have hlist : listN p = R := closed_list hBlt (fun z hz => (hp z hz).trans (huc z)) hI hR
        refine Ev.step (fun k => by rw [impl_spaceOf.l0]) ?_
        simp only [show ¬ ((Ws.length : Int) < (Ws.length : Int)) from by omega, ↓reduceIte]
        refine Ev.bind hc ?_
        refine Ev.bind (fam_space_ev _ _) ?_
        rw [hlist]
        exact Ev.some _
    obtain ⟨R, hI, hRlt, hk1, hk2⟩ := key
    have hRl := inc_len hI hRlt
    refine ⟨(n : Int), castL R, true, by rw [castL_length]; omega, hs _ hk1, hi _ ?_⟩
    have he : (famN fun y => decide (y ∈ ([] : List Nat))) = List.replicate 128 false := by rw [← famN_none]; exact famN_congr (fun z _ => by simp)
    rw [he] at hk2
    have : Ev (fun k => impl_spaceOf.f k (n : Int) (Ws.map castL)) ((n : Int), castL R) := by
      unfold impl_spaceOf.f
      rw [hlI]
      exact hk2
    exact Ev.bind this (Ev.some _)
end Go.Proofs.Ytnpfkbfmipnofaa.Q
