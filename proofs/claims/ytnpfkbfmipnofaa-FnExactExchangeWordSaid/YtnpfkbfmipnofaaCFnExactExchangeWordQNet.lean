/- When the program and the reference call a net valid; conditions: as each theorem states. -/
import Derived.Test.YtnpfkbfmipnofaaCFnExactExchangeWordQSet
import Derived.Test.YtnpfkbfmipnofaaCFnExactExchangeWordP4
namespace Go.Proofs.Ytnpfkbfmipnofaa.Q
open Go.RowKit Go.Proofs.YtnpfkbfmipnofaaW.PrintWords Go.Proofs.YtnpfkbfmipnofaaW.PrintLast Go.Proofs.YtnpfkbfmipnofaaW.PrintMore Go.Proofs.Ytnpfkbfmipnofaa.P
set_option linter.unusedVariables false
set_option linter.unusedSimpArgs false

/-- Something holds for the d numbers from i on. -/
def allF (p : Nat → Bool) : Nat → Nat → Bool
  | _, 0 => true
  | i, d + 1 => p i && allF p (i + 1) d
theorem allF_iff {p : Nat → Bool} : ∀ {d i : Nat}, allF p i d = true ↔ ∀ j, i ≤ j → j < i + d → p j = true
  | 0, i => by simp [allF]; intro j h1 h2; omega
  | d + 1, i => by
    simp only [allF, Bool.and_eq_true, allF_iff (d := d) (i := i + 1)]
    constructor
    · rintro ⟨h0, h⟩ j h1 h2
      by_cases e : j = i
      · rw [e]; exact h0
      · exact h j (by omega) (by omega)
    · intro h
      exact ⟨h i (by omega) (by omega), fun j h1 h2 => h j (by omega) (by omega)⟩
theorem allF0 {p : Nat → Bool} {d : Nat} : allF p 0 d = true ↔ ∀ j, j < d → p j = true := by
  rw [allF_iff]; exact ⟨fun h j hj => h j (by omega) (by omega), fun h j _ hj => h j (by omega)⟩
theorem rd_castL (T : List Nat) {v : Nat} (h : v < T.length) : rd (castL T) (v : Int) = ((T.getD v 0 : Nat) : Int) := by
  rw [rd_nat _ _ (by simpa using h)]; simp [castL, h]
theorem getD_mem {T : List Nat} {v : Nat} (h : v < T.length) : T.getD v 0 ∈ T := by
  rw [List.getD_eq_getElem?_getD, List.getElem?_eq_getElem h]; exact List.getElem_mem h

/-- A bit of any number, as the program takes it. -/
def bI (x : Int) (i : Nat) : Int := Go.bits .and .i64 (shr .i64 x (i : Int)) 1
theorem bI_nat {a i : Nat} (ha : a < 2 ^ 62) (hi : i ≤ 64) : bI (a : Int) i = if a.testBit i then 1 else 0 := bitAnd ha hi
def inR (n : Nat) (x : Int) : Bool := decide (0 ≤ x ∧ x ≤ ((2 ^ n - 1 : Nat) : Int))
def rowI (S : List Int) (v : Nat) : Bool := allF (fun w => decide (bI (rd S (v : Int)) w = bI (rd S (w : Int)) v)) 0 S.length
def okI (S : List Int) (v : Nat) : Bool := inR S.length (rd S (v : Int)) && !(bI (rd S (v : Int)) v == 1)
theorem impl_row (S : List Int) (hS : S.length ≤ 1099511627776) (v : Nat) (r : Bool) (hr : Ev (fun k => impl_IsNet.l0 k (S.length : Int) S (S.length : Int) (wrap64 ((v : Int) + 1)) S) r) : ∀ d w : Nat, w + d = S.length →
    Ev (fun k => impl_IsNet.l1 k (S.length : Int) (v : Int) (rd S (v : Int)) S (S.length : Int) (v : Int) (S.length : Int) (w : Int) S) (allF (fun w => decide (bI (rd S (v : Int)) w = bI (rd S (w : Int)) v)) w d && r) := by
  intro d
  induction d with
  | zero =>
    intro w h
    obtain rfl : w = S.length := by omega
    refine Ev.step (fun k => by rw [impl_IsNet.l1]) ?_
    simp only [show ¬ ((S.length : Int) < (S.length : Int)) from by omega, ↓reduceIte]
    exact hr.eq (by simp [allF])
  | succ d ih =>
    intro w h
    have hn := ih (w + 1) (by omega)
    refine Ev.step (fun k => by rw [impl_IsNet.l1]) ?_
    simp only [show ((w : Int) < (S.length : Int)) from by omega, show (0 : Int) ≤ (w : Int) from by omega, show (0 : Int) ≤ (v : Int) from by omega, ↓reduceIte]
    rw [wnext (n := S.length) (by omega) hS]
    by_cases hb : bI (rd S (v : Int)) w = bI (rd S (w : Int)) v
    · have hb' := hb
      unfold bI at hb'
      simp only [hb', ↓reduceIte]
      exact hn.eq (by simp [allF, hb])
    · have hb' := hb
      unfold bI at hb'
      simp only [hb', ↓reduceIte]
      exact (Ev.some _).eq (by simp [allF, hb])
theorem impl_net_loop (S : List Int) (hS : S.length ≤ 61) : ∀ d v : Nat, v + d = S.length →
    Ev (fun k => impl_IsNet.l0 k (S.length : Int) S (S.length : Int) (v : Int) S) (allF (fun v => okI S v && rowI S v) v d) := by
  intro d
  induction d with
  | zero =>
    intro v h
    obtain rfl : v = S.length := by omega
    refine Ev.step (fun k => by rw [impl_IsNet.l0]) ?_
    simp only [show ¬ ((S.length : Int) < (S.length : Int)) from by omega, ↓reduceIte]
    exact Ev.some _
  | succ d ih =>
    intro v h
    have hn := ih (v + 1) (by omega)
    rw [← wnext (n := S.length) (by omega) (by omega)] at hn
    have hj : ∀ b : Bool, Ev (fun k => impl_IsNet.j1 k (S.length : Int) (v : Int) (rd S (v : Int)) S (S.length : Int) (v : Int) b S) (!b && (rowI S v && allF (fun v => okI S v && rowI S v) (v + 1) d)) := by
      intro b
      refine Ev.step (fun k => by rw [impl_IsNet.j1]) ?_
      cases b with
      | true => simp only [↓reduceIte]; exact Ev.some _
      | false =>
        simp only [↓reduceIte, Bool.false_eq_true]
        exact impl_row S (by omega) v _ hn S.length 0 (by omega)
    refine Ev.step (fun k => by rw [impl_IsNet.l0]) ?_
    simp only [show ((v : Int) < (S.length : Int)) from by omega, show (0 : Int) ≤ (v : Int) from by omega, isSet_eq hS, Option.bind_some, decide_eq_true_eq, ↓reduceIte]
    by_cases hr : 0 ≤ rd S (v : Int) ∧ rd S (v : Int) ≤ ((2 ^ S.length - 1 : Nat) : Int)
    · simp only [hr, and_self, ↓reduceIte]
      exact (hj _).eq (by simp [allF, okI, inR, hr, bI, Bool.and_assoc])
    · simp only [hr, ↓reduceIte]
      exact (hj true).eq (by simp [allF, okI, inR, hr])
def netI (S : List Int) : Bool := decide (1 ≤ S.length ∧ S.length ≤ 7) && allF (fun v => okI S v && rowI S v) 0 S.length
theorem impl_IsNet_val (S : List Int) : Ev (fun k => impl_IsNet.f k S) (netI S) := by
  unfold impl_IsNet.f netI
  simp only [isSize_eq, Option.bind_some, decide_eq_true_eq]
  by_cases h : 1 ≤ S.length ∧ S.length ≤ 7
  · simp only [show (1 : Int) ≤ (S.length : Int) ∧ (S.length : Int) ≤ 7 from by omega, and_self, ↓reduceIte]
    exact (impl_net_loop S (by omega) S.length 0 (by omega)).eq (by simp [h])
  · simp only [show ¬ ((1 : Int) ≤ (S.length : Int) ∧ (S.length : Int) ≤ 7) from by omega, ↓reduceIte]
    exact (Ev.some _).eq (by simp [h])

/-! ### the reference -/
theorem l1All_loop (S : List Int) (hS : S.length ≤ 1099511627776) (lo hi : Int) : ∀ rest pre : List Int, pre ++ rest = S →
    Ev (fun k => spec_l1All.l0 k lo hi S (S.length : Int) (pre.length : Int)) (rest.all fun x => decide (lo ≤ x ∧ x ≤ hi)) := by
  intro rest
  induction rest with
  | nil =>
    intro pre h
    obtain rfl : pre = S := by simpa using h
    refine Ev.step (fun k => by rw [spec_l1All.l0]) ?_
    simp only [show ¬ ((pre.length : Int) < (pre.length : Int)) from by omega, ↓reduceIte]
    exact Ev.some _
  | cons x rest ih =>
    intro pre h
    have hlen : S.length = pre.length + (rest.length + 1) := by rw [← h]; simp
    have e : rd S (pre.length : Int) = x := by rw [← h]; exact rd_mid _ _ _
    have hn := ih (pre ++ [x]) (by simp [h])
    simp only [List.length_append, List.length_singleton] at hn
    refine Ev.step (fun k => by rw [spec_l1All.l0]) ?_
    simp only [show ((pre.length : Int) < (S.length : Int)) from by omega, show (0 : Int) ≤ (pre.length : Int) from by omega, e, l1In_eq, Option.bind_some, decide_eq_true_eq, ↓reduceIte]
    rw [wnext (n := S.length) (by omega) hS]
    by_cases hb : lo ≤ x ∧ x ≤ hi
    · simp only [hb, and_self, ↓reduceIte]; exact hn.eq (by simp [hb])
    · simp only [hb, ↓reduceIte]; exact (Ev.some _).eq (by simp [hb])
theorem l1All_ev (S : List Int) (hS : S.length ≤ 1099511627776) (lo hi : Int) : Ev (fun k => spec_l1All.f k S lo hi) (S.all fun x => decide (lo ≤ x ∧ x ≤ hi)) := by
  unfold spec_l1All.f
  simpa using l1All_loop S hS lo hi S [] rfl
def rowS (T : List Nat) (v w : Nat) : Bool := !(T.getD v 0).testBit w || (decide (v ≠ w) && (T.getD w 0).testBit v)
theorem spec_row (T : List Nat) (hT : T.length ≤ 7) (v : Nat) (hv : v < T.length) (r : Bool) (hr : Ev (fun k => spec_shGood.l0 k (castL T) (T.length : Int) (wrap64 ((v : Int) + 1)) (castL T)) r) : ∀ d w : Nat, w + d = T.length →
    Ev (fun k => spec_shGood.l1 k (v : Int) ((T.getD v 0 : Nat) : Int) (castL T) (T.length : Int) (v : Int) (T.length : Int) (w : Int) (castL T)) (allF (rowS T v) w d && r) := by
  intro d
  induction d with
  | zero =>
    intro w h
    obtain rfl : w = T.length := by omega
    refine Ev.step (fun k => by rw [spec_shGood.l1]) ?_
    simp only [show ¬ ((T.length : Int) < (T.length : Int)) from by omega, ↓reduceIte]
    exact hr.eq (by simp [allF])
  | succ d ih =>
    intro w h
    have hn := ih (w + 1) (by omega)
    refine Ev.step (fun k => by rw [spec_shGood.l1]) ?_
    simp only [show ((w : Int) < (T.length : Int)) from by omega, show (0 : Int) ≤ (w : Int) from by omega, spIn_eq _ w (show w ≤ 64 from by omega), Option.bind_some, castL_length, rd_castL T (show w < T.length from by omega), spIn_eq _ v (show v ≤ 64 from by omega), ↓reduceIte]
    rw [wnext (n := T.length) (by omega) (by omega)]
    cases hb : (T.getD v 0).testBit w with
    | false =>
      simp only [↓reduceIte, Bool.false_eq_true]
      exact hn.eq (by simp only [allF, rowS, hb, Bool.not_false, Bool.true_or, Bool.true_and])
    | true =>
      simp only [↓reduceIte]
      by_cases hvw : v = w
      · simp only [show ((v : Int) = (w : Int)) from by omega, ↓reduceIte]
        exact (Ev.some _).eq (by subst hvw; simp only [allF, rowS, hb, ne_eq, not_true_eq_false, decide_false, Bool.false_and, Bool.or_false, Bool.not_true])
      · simp only [show ¬ ((v : Int) = (w : Int)) from by omega, ↓reduceIte]
        cases hc : (T.getD w 0).testBit v with
        | true => simp only [↓reduceIte]; exact hn.eq (by simp only [allF, rowS, hb, hc]; simp [hvw])
        | false => simp only [↓reduceIte, Bool.false_eq_true]; exact (Ev.some _).eq (by simp only [allF, rowS, hb, hc]; simp)
theorem spec_net_loop (T : List Nat) (hT : T.length ≤ 7) : ∀ d v : Nat, v + d = T.length →
    Ev (fun k => spec_shGood.l0 k (castL T) (T.length : Int) (v : Int) (castL T)) (allF (fun v => allF (rowS T v) 0 T.length) v d) := by
  intro d
  induction d with
  | zero =>
    intro v h
    obtain rfl : v = T.length := by omega
    refine Ev.step (fun k => by rw [spec_shGood.l0]) ?_
    simp only [show ¬ ((T.length : Int) < (T.length : Int)) from by omega, ↓reduceIte]
    exact Ev.some _
  | succ d ih =>
    intro v h
    have hn := ih (v + 1) (by omega)
    rw [← wnext (n := T.length) (by omega) (by omega)] at hn
    refine Ev.step (fun k => by rw [spec_shGood.l0]) ?_
    simp only [show ((v : Int) < (T.length : Int)) from by omega, show (0 : Int) ≤ (v : Int) from by omega, castL_length, rd_castL T (show v < T.length from by omega), ↓reduceIte]
    exact spec_row T hT v (by omega) _ hn T.length 0 (by omega)
/-- A valid net. -/
structure NetN (T : List Nat) : Prop where
  l1 : 1 ≤ T.length
  l7 : T.length ≤ 7
  lt : ∀ x ∈ T, x < 2 ^ T.length
  irr : ∀ v, v < T.length → (T.getD v 0).testBit v = false
  sym : ∀ v w, v < T.length → w < T.length → (T.getD v 0).testBit w = (T.getD w 0).testBit v
theorem NetN.lt128 {T : List Nat} (h : NetN T) : ∀ x ∈ T, x < 128 := fun x hx => Nat.lt_of_lt_of_le (h.lt x hx) (Nat.le_trans (Nat.pow_le_pow_right (by omega) h.l7) (by omega))
theorem NetN.get {T : List Nat} (h : NetN T) {v : Nat} (hv : v < T.length) : T.getD v 0 < 128 := h.lt128 _ (getD_mem hv)
theorem netI_iff (T : List Nat) : netI (castL T) = true ↔ NetN T := by
  unfold netI
  rw [Bool.and_eq_true, decide_eq_true_eq, allF0, castL_length]
  have key : ∀ (h7 : T.length ≤ 7) (hlt : ∀ x ∈ T, x < 2 ^ T.length) v w, v < T.length → w < T.length → bI (rd (castL T) (v : Int)) w = if (T.getD v 0).testBit w then 1 else 0 := by
    intro h7 hlt v w hv hw
    have := hlt _ (getD_mem hv)
    have h2 : 2 ^ T.length ≤ 2 ^ 7 := Nat.pow_le_pow_right (by omega) h7
    rw [rd_castL T hv, bI_nat (by omega) (by omega)]
  constructor
  · rintro ⟨⟨h1, h7⟩, h⟩
    have hlt : ∀ x ∈ T, x < 2 ^ T.length := by
      intro x hx
      obtain ⟨v, hv, rfl⟩ := List.getElem_of_mem hx
      have := h v hv
      simp only [okI, inR, castL_length, Bool.and_eq_true, decide_eq_true_eq, rd_castL T hv] at this
      have := this.1.1.2
      have e : T.getD v 0 = T[v] := by simp [hv]
      have hp : 0 < 2 ^ T.length := Nat.two_pow_pos _
      omega
    refine ⟨h1, h7, hlt, ?_, ?_⟩
    · intro v hv
      have := h v hv
      simp only [okI, Bool.and_eq_true, key h7 hlt v v hv hv] at this
      cases hb : (T.getD v 0).testBit v with
      | false => rfl
      | true => rw [hb] at this; exact absurd this.1.2 (by decide)
    · intro v w hv hw
      have := (h v hv)
      simp only [Bool.and_eq_true, rowI] at this
      have := (allF0.1 this.2) w (by simpa using hw)
      simp only [decide_eq_true_eq, key h7 hlt v w hv hw, key h7 hlt w v hw hv] at this
      cases hb : (T.getD v 0).testBit w <;> cases hc : (T.getD w 0).testBit v <;> first | rfl | (rw [hb, hc] at this; exact absurd this (by decide))
  · intro h
    refine ⟨⟨h.l1, h.l7⟩, fun v hv => ?_⟩
    have hlt := h.lt _ (getD_mem hv)
    simp only [okI, inR, rowI, Bool.and_eq_true, decide_eq_true_eq, castL_length, rd_castL T hv, allF0]
    rw [← rd_castL T hv, key h.l7 h.lt v v hv hv, h.irr v hv]
    rw [rd_castL T hv]
    refine ⟨⟨by omega, by decide⟩, fun w hw => ?_⟩
    rw [← rd_castL T hv, key h.l7 h.lt v w hv hw, key h.l7 h.lt w v hw hv, h.sym v w hv hw]
theorem net_cases {S : List Int} (hS : S.length ≤ 1099511627776) : (Ev (fun k => impl_IsNet.f k S) false ∧ Ev (fun k => spec_shGood.f k S) false) ∨
    ∃ T : List Nat, S = castL T ∧ NetN T ∧ Ev (fun k => impl_IsNet.f k (castL T)) true ∧ Ev (fun k => spec_shGood.f k (castL T)) true := by
  have hspec : ∀ r, Ev (fun k => spec_shGood.f k S) r → True := fun _ _ => trivial
  by_cases hn : 1 ≤ S.length ∧ S.length ≤ 7
  · have hn' : (1 : Int) ≤ (S.length : Int) ∧ (S.length : Int) ≤ 7 := by omega
    have hj : Ev (fun k => spec_shGood.j0 k true S) false := by
      refine Ev.step (fun k => by rw [spec_shGood.j0]) ?_
      simp only [↓reduceIte]; exact Ev.some _
    cases ha : S.all (fun x => decide (0 ≤ x ∧ x ≤ ((2 ^ S.length - 1 : Nat) : Int))) with
    | false =>
      refine .inl ⟨(impl_IsNet_val S).eq ?_, ?_⟩
      · unfold netI
        rw [Bool.and_eq_false_iff]
        refine .inr ?_
        rw [Bool.eq_false_iff]
        intro h
        rw [allF0] at h
        rw [Bool.eq_false_iff] at ha
        apply ha
        rw [List.all_eq_true]
        intro x hx
        obtain ⟨v, hv, rfl⟩ := List.getElem_of_mem hx
        have := h v hv
        simp only [okI, inR, Bool.and_eq_true, rd_nat _ _ hv] at this
        exact this.1.1
      · unfold spec_shGood.f
        simp only [spItems_eq, hn', and_self, decide_true, Option.bind_some, ↓reduceIte, pow1 (show S.length ≤ 61 from by omega)]
        refine Ev.bind ((l1All_ev S hS _ _).eq ha) ?_
        exact hj
    | true =>
      have hall := List.all_eq_true.1 ha
      simp only [decide_eq_true_eq] at hall
      obtain ⟨T, rfl⟩ : ∃ T, S = castL T := ⟨S.map Int.toNat, (castL_of fun x hx => (hall x hx).1).symm⟩
      simp only [castL_length] at *
      have hlt : ∀ x ∈ T, x < 2 ^ T.length := by
        intro x hx
        have := hall (x : Int) (mem_castL.2 hx)
        have hp : 0 < 2 ^ T.length := Nat.two_pow_pos _
        omega
      have hs : Ev (fun k => spec_shGood.f k (castL T)) (allF (fun v => allF (rowS T v) 0 T.length) 0 T.length) := by
        unfold spec_shGood.f
        simp only [spItems_eq, castL_length, hn', and_self, decide_true, Option.bind_some, ↓reduceIte, pow1 (show T.length ≤ 61 from by omega)]
        refine Ev.bind ((l1All_ev (castL T) (by simpa using hS) _ _).eq ha) ?_
        refine Ev.step (fun k => by rw [spec_shGood.j0]) ?_
        simp only [Bool.not_true, ↓reduceIte, Bool.false_eq_true, castL_length]
        exact spec_net_loop T hn.2 T.length 0 (by omega)
      have hiff : allF (fun v => allF (rowS T v) 0 T.length) 0 T.length = true ↔ NetN T := by
        rw [allF0]
        constructor
        · intro h
          have hrow : ∀ v w, v < T.length → w < T.length → (T.getD v 0).testBit w = true → v ≠ w ∧ (T.getD w 0).testBit v = true := by
            intro v w hv hw hb
            have := allF0.1 (h v hv) w hw
            simp only [rowS, hb, Bool.not_true, Bool.false_or, Bool.and_eq_true, decide_eq_true_eq] at this
            exact this
          refine ⟨hn.1, hn.2, hlt, ?_, ?_⟩
          · intro v hv
            cases hb : (T.getD v 0).testBit v with
            | false => rfl
            | true => exact absurd rfl (hrow v v hv hv hb).1
          · intro v w hv hw
            cases hb : (T.getD v 0).testBit w with
            | true => exact (hrow v w hv hw hb).2.symm
            | false =>
              cases hc : (T.getD w 0).testBit v with
              | false => rfl
              | true => have := (hrow w v hw hv hc).2; rw [hb] at this; exact absurd this (by decide)
        · intro h v hv
          rw [allF0]
          intro w hw
          simp only [rowS]
          cases hb : (T.getD v 0).testBit w with
          | false => rfl
          | true =>
            have h1 := h.sym v w hv hw
            rw [hb] at h1
            have h2 : v ≠ w := by rintro rfl; rw [h.irr v hv] at hb; exact absurd hb (by decide)
            rw [← h1]
            simp [h2]
      by_cases hN : NetN T
      · exact .inr ⟨T, rfl, hN, (impl_IsNet_val _).eq ((netI_iff T).2 hN), hs.eq (hiff.2 hN)⟩
      · refine .inl ⟨(impl_IsNet_val _).eq ?_, hs.eq ?_⟩
        · rw [Bool.eq_false_iff]; exact fun h => hN ((netI_iff T).1 h)
        · rw [Bool.eq_false_iff]; exact fun h => hN (hiff.1 h)
  · refine .inl ⟨(impl_IsNet_val S).eq (by simp [netI, hn]), ?_⟩
    have hn' : ¬ ((1 : Int) ≤ (S.length : Int) ∧ (S.length : Int) ≤ 7) := by omega
    unfold spec_shGood.f
    simp only [spItems_eq, hn', decide_false, Option.bind_some, ↓reduceIte, Bool.false_eq_true]
    refine Ev.step (fun k => by rw [spec_shGood.j0]) ?_
    simp only [↓reduceIte]; exact Ev.some _
end Go.Proofs.Ytnpfkbfmipnofaa.Q
