/- When the program and the reference call a space valid: both the same plain Bool; conditions: as each theorem states. -/
import Derived.Test.YtekllaaohagefaaCFnExactRankWordQFam
import Derived.Test.YtekllaaohagefaaCFnExactRankWordQHas
import Derived.Test.YtekllaaohagefaaCFnExactRankWordP4
namespace Go.Proofs.Ytekllaaohagefaa.Q
open Go.RowKit Go.Proofs.YtekllaaohagefaaW.PrintWords Go.Proofs.YtekllaaohagefaaW.PrintLast Go.Proofs.YtekllaaohagefaaW.PrintMore Go.Proofs.Ytekllaaohagefaa.P
set_option linter.unusedVariables false
set_option linter.unusedSimpArgs false

/-- Strictly increasing, from a number on, up to a bound. -/
def riseB (hi : Int) : Int → List Int → Bool
  | _, [] => true
  | lo, x :: t => decide (lo ≤ x ∧ x ≤ hi) && riseB hi (x + 1) t
def LoOf (pre : List Int) (lo : Int) : Prop := (pre = [] ∧ lo = 0) ∨ ∃ p' p, pre = p' ++ [p] ∧ lo = p + 1 ∧ 0 ≤ p
theorem LoOf.snoc {pre : List Int} {x : Int} (h : 0 ≤ x) : LoOf (pre ++ [x]) (x + 1) := .inr ⟨pre, x, rfl, rfl, h⟩
theorem riseB_mem {hi : Int} : ∀ {S : List Int} {lo : Int}, riseB hi lo S = true → ∀ x ∈ S, lo ≤ x ∧ x ≤ hi
  | [], _, _ => by simp
  | y :: t, lo, h => by
    simp only [riseB, Bool.and_eq_true, decide_eq_true_eq] at h
    intro x hx
    rcases List.mem_cons.1 hx with rfl | hx
    · exact h.1
    · have := riseB_mem h.2 x hx; omega
theorem riseB_inc {hi : Int} : ∀ {S : List Int} {lo : Int}, 0 ≤ lo → riseB hi lo S = true → Inc (S.map Int.toNat)
  | [], _, _, _ => List.Pairwise.nil
  | y :: t, lo, h0, h => by
    simp only [riseB, Bool.and_eq_true, decide_eq_true_eq] at h
    refine List.Pairwise.cons ?_ (riseB_inc (by omega) h.2)
    intro b hb
    obtain ⟨z, hz, rfl⟩ := List.mem_map.1 hb
    have := riseB_mem h.2 z hz
    omega

theorem impl_rise {m : Nat} (hm : m ≤ 61) (S : List Int) (hS : S.length ≤ 1099511627776) (r : Bool) : ∀ (rest pre : List Int) (lo : Int), pre ++ rest = S → LoOf pre lo →
    (riseB ((2 ^ m - 1 : Nat) : Int) lo rest = true → Ev (fun k => impl_IsSpace.l0 k S (S.length : Int) (S.length : Int) (m : Int) S) r) →
    Ev (fun k => impl_IsSpace.l0 k S (S.length : Int) (pre.length : Int) (m : Int) S) (riseB ((2 ^ m - 1 : Nat) : Int) lo rest && r) := by
  intro rest
  induction rest with
  | nil =>
    intro pre lo h hlo hfin
    obtain rfl : pre = S := by simpa using h
    exact (hfin rfl).eq (by simp [riseB])
  | cons x rest ih =>
    intro pre lo h hlo hfin
    have hlen : S.length = pre.length + (rest.length + 1) := by rw [← h]; simp
    have e : rd S (pre.length : Int) = x := by rw [← h]; exact rd_mid _ _ _
    refine Ev.step (fun k => by rw [impl_IsSpace.l0]) ?_
    simp only [show ((pre.length : Int) < (S.length : Int)) from by omega, show (0 : Int) ≤ (pre.length : Int) from by omega, e, isSet_eq hm, Option.bind_some, decide_eq_true_eq, ↓reduceIte]
    have hnext := wnext (i := pre.length) (n := S.length) (by omega) hS
    have go : lo ≤ x ∧ x ≤ ((2 ^ m - 1 : Nat) : Int) → 0 ≤ x → Ev (fun k => impl_IsSpace.l0 k S (S.length : Int) (wrap64 ((pre.length : Int) + 1)) (m : Int) S) (riseB ((2 ^ m - 1 : Nat) : Int) lo (x :: rest) && r) := by
      intro hb h0
      have := ih (pre ++ [x]) (x + 1) (by simp [h]) (LoOf.snoc h0) (fun hr => hfin (by simp [riseB, hb, hr]))
      rw [List.length_append, List.length_singleton] at this
      rw [hnext]
      exact this.eq (by simp [riseB, hb])
    by_cases hin : 0 ≤ x ∧ x ≤ ((2 ^ m - 1 : Nat) : Int)
    · simp only [hin, and_self, ↓reduceIte]
      rcases hlo with ⟨rfl, rfl⟩ | ⟨p', p, rfl, rfl, hp⟩
      · simp only [List.length_nil, show ¬ (((0 : Nat) : Int) > 0) from by omega, ↓reduceIte]
        exact go hin hin.1
      · have e1 : wrap64 (((p' ++ [p]).length : Int) - 1) = ((p'.length : Nat) : Int) := by
          rw [List.length_append, List.length_singleton] at hlen ⊢
          rw [w64 (by omega) (by omega)]; omega
        have e2 : rd S ((p'.length : Nat) : Int) = p := by rw [← h, List.append_assoc]; exact rd_mid _ _ _
        have h3 : (((p' ++ [p]).length : Int) > 0) := by rw [List.length_append, List.length_singleton]; omega
        have h4 : ((p'.length : Nat) : Int) < (S.length : Int) := by
          rw [List.length_append] at hlen; omega
        simp only [h3, e1, e2, h4, show (0 : Int) ≤ ((p'.length : Nat) : Int) from by omega, ↓reduceIte]
        by_cases hle : x ≤ p
        · simp only [hle, ↓reduceIte]
          refine (Ev.some _).eq ?_
          have : ¬ (p + 1 ≤ x ∧ x ≤ ((2 ^ m - 1 : Nat) : Int)) := by omega
          simp only [riseB, this, decide_false, Bool.false_and]
        · simp only [hle, ↓reduceIte]
          exact go ⟨by omega, hin.2⟩ hin.1
    · simp only [hin, ↓reduceIte]
      refine (Ev.some _).eq ?_
      have : ¬ (lo ≤ x ∧ x ≤ ((2 ^ m - 1 : Nat) : Int)) := by
        rcases hlo with ⟨_, rfl⟩ | ⟨_, p, _, rfl, hp⟩ <;> omega
      simp only [riseB, this, decide_false, Bool.false_and]

theorem spec_rise (S : List Int) (hS : S.length ≤ 1099511627776) (hi : Int) : ∀ (rest pre : List Int) (lo : Int), pre ++ rest = S → LoOf pre lo →
    Ev (fun k => spec_l1Rising.l0 k S 0 hi S (S.length : Int) (pre.length : Int)) (riseB hi lo rest) := by
  intro rest
  induction rest with
  | nil =>
    intro pre lo h hlo
    obtain rfl : pre = S := by simpa using h
    refine Ev.step (fun k => by rw [spec_l1Rising.l0]) ?_
    simp only [show ¬ ((pre.length : Int) < (pre.length : Int)) from by omega, ↓reduceIte]
    exact (Ev.some _).eq (by simp [riseB])
  | cons x rest ih =>
    intro pre lo h hlo
    have hlen : S.length = pre.length + (rest.length + 1) := by rw [← h]; simp
    have e : rd S (pre.length : Int) = x := by rw [← h]; exact rd_mid _ _ _
    refine Ev.step (fun k => by rw [spec_l1Rising.l0]) ?_
    simp only [show ((pre.length : Int) < (S.length : Int)) from by omega, show (0 : Int) ≤ (pre.length : Int) from by omega, e, l1In_eq, Option.bind_some, decide_eq_true_eq, ↓reduceIte]
    have hnext := wnext (i := pre.length) (n := S.length) (by omega) hS
    have go : lo ≤ x ∧ x ≤ hi → 0 ≤ x → Ev (fun k => spec_l1Rising.l0 k S 0 hi S (S.length : Int) (wrap64 ((pre.length : Int) + 1))) (riseB hi lo (x :: rest)) := by
      intro hb h0
      have := ih (pre ++ [x]) (x + 1) (by simp [h]) (LoOf.snoc h0)
      rw [List.length_append, List.length_singleton] at this
      rw [hnext]
      exact this.eq (by simp [riseB, hb])
    by_cases hin : 0 ≤ x ∧ x ≤ hi
    · simp only [hin, and_self, ↓reduceIte]
      rcases hlo with ⟨rfl, rfl⟩ | ⟨p', p, rfl, rfl, hp⟩
      · simp only [List.length_nil, show ¬ (((0 : Nat) : Int) > 0) from by omega, ↓reduceIte]
        exact go hin hin.1
      · have e1 : wrap64 (((p' ++ [p]).length : Int) - 1) = ((p'.length : Nat) : Int) := by
          rw [List.length_append, List.length_singleton] at hlen ⊢
          rw [w64 (by omega) (by omega)]; omega
        have e2 : rd S ((p'.length : Nat) : Int) = p := by rw [← h, List.append_assoc]; exact rd_mid _ _ _
        have h3 : (((p' ++ [p]).length : Int) > 0) := by rw [List.length_append, List.length_singleton]; omega
        have h4 : ((p'.length : Nat) : Int) < (S.length : Int) := by
          rw [List.length_append] at hlen; omega
        simp only [h3, e1, e2, h4, show (0 : Int) ≤ ((p'.length : Nat) : Int) from by omega, ↓reduceIte, ge_iff_le]
        by_cases hle : x ≤ p
        · simp only [hle, ↓reduceIte]
          refine (Ev.some _).eq ?_
          have : ¬ (p + 1 ≤ x ∧ x ≤ hi) := by omega
          simp only [riseB, this, decide_false, Bool.false_and]
        · simp only [hle, ↓reduceIte]
          exact go ⟨by omega, hin.2⟩ hin.1
    · simp only [hin, ↓reduceIte]
      refine (Ev.some _).eq ?_
      have : ¬ (lo ≤ x ∧ x ≤ hi) := by
        rcases hlo with ⟨_, rfl⟩ | ⟨_, p, _, rfl, hp⟩ <;> omega
      simp only [riseB, this, decide_false, Bool.false_and]
theorem l1Rising_ev (S : List Int) (hS : S.length ≤ 1099511627776) (hi : Int) : Ev (fun k => spec_l1Rising.f k S 0 hi) (riseB hi 0 S) := by
  unfold spec_l1Rising.f
  simpa using spec_rise S hS hi S [] 0 rfl (.inl ⟨rfl, rfl⟩)

/-- The part of the check that looks at the sets together. -/
def goodT (T : List Nat) (m : Nat) : Bool :=
  decide (0 ∈ T) && decide (2 ^ m - 1 ∈ T) && T.all fun x => (x == 0 || innN (fun y => decide (y ∈ T)) x != 0) && T.all fun y => decide (x ||| y ∈ T)
/-- Is it a space? -/
def goodB (n : Int) (S : List Int) : Bool :=
  decide (1 ≤ n ∧ n ≤ 7) && decide (S.length ≤ 2 ^ n.toNat) && riseB ((2 ^ n.toNat - 1 : Nat) : Int) 0 S && goodT (S.map Int.toNat) n.toNat

/-! ### the program -/
theorem impl_pairs (T : List Nat) (hT : ∀ x ∈ T, x < 128) (hl : T.length ≤ 1099511627776) (n : Int) (x : Nat) (hx : x < 128) (i : Nat) (r : Bool)
    (S2 : List Int) (hout : Ev (fun k => impl_IsSpace.l1 k (famN fun y => decide (y ∈ T)) (castL T) (T.length : Int) (wrap64 ((i : Int) + 1)) n S2) r) :
    ∀ rest pre : List Nat, pre ++ rest = T →
    Ev (fun k => impl_IsSpace.l2 k (famN fun y => decide (y ∈ T)) (x : Int) (castL T) (T.length : Int) (i : Int) (castL T) (T.length : Int) (pre.length : Int) n S2) ((rest.all fun y => decide (x ||| y ∈ T)) && r) := by
  intro rest
  induction rest with
  | nil =>
    intro pre h
    obtain rfl : pre = T := by simpa using h
    refine Ev.step (fun k => by rw [impl_IsSpace.l2]) ?_
    simp only [show ¬ ((pre.length : Int) < (pre.length : Int)) from by omega, ↓reduceIte]
    exact hout.eq (by simp)
  | cons y rest ih =>
    intro pre h
    have hy : y < 128 := hT y (by rw [← h]; simp)
    have hlen : T.length = pre.length + (rest.length + 1) := by rw [← h]; simp
    have e : rd (castL T) (pre.length : Int) = (y : Int) := by rw [← h]; exact rd_castL_mid _ _ _
    have hxy : x ||| y < 128 := Nat.or_lt_two_pow (n := 7) hx hy
    refine Ev.step (fun k => by rw [impl_IsSpace.l2]) ?_
    simp only [show ((pre.length : Int) < (T.length : Int)) from by omega, show (0 : Int) ≤ (pre.length : Int) from by omega, castL_length, e, famN_length, bOr (show x < 2 ^ 62 from by omega) (show y < 2 ^ 62 from by omega),
      show (0 : Int) ≤ ((x ||| y : Nat) : Int) from by omega, show (((x ||| y : Nat) : Int) < ((128 : Nat) : Int)) from by omega, show (((x ||| y : Nat) : Int) < 128) from by omega, famN_get _ hxy, ↓reduceIte]
    by_cases hb : x ||| y ∈ T
    · have := ih (pre ++ [y]) (by simp [h])
      rw [List.length_append, List.length_singleton] at this
      simp only [hb, decide_true, ↓reduceIte]
      rw [wnext (n := T.length) (by omega) hl]
      exact this.eq (by simp [hb])
    · simp only [hb, decide_false, ↓reduceIte, Bool.false_eq_true]
      exact (Ev.some _).eq (by simp [hb])
theorem impl_sets (T : List Nat) (hT : ∀ x ∈ T, x < 128) (hl : T.length ≤ 1099511627776) (n : Int) : ∀ rest pre : List Nat, pre ++ rest = T →
    Ev (fun k => impl_IsSpace.l1 k (famN fun y => decide (y ∈ T)) (castL T) (T.length : Int) (pre.length : Int) n (castL T))
      (rest.all fun x => (x == 0 || innN (fun y => decide (y ∈ T)) x != 0) && T.all fun y => decide (x ||| y ∈ T)) := by
  intro rest
  induction rest with
  | nil =>
    intro pre h
    obtain rfl : pre = T := by simpa using h
    refine Ev.step (fun k => by rw [impl_IsSpace.l1]) ?_
    simp only [show ¬ ((pre.length : Int) < (pre.length : Int)) from by omega, ↓reduceIte]
    exact (Ev.some _).eq (by simp)
  | cons x rest ih =>
    intro pre h
    have hx : x < 128 := hT x (by rw [← h]; simp)
    have hlen : T.length = pre.length + (rest.length + 1) := by rw [← h]; simp
    have e : rd (castL T) (pre.length : Int) = (x : Int) := by rw [← h]; exact rd_castL_mid _ _ _
    have hnext := ih (pre ++ [x]) (by simp [h])
    rw [List.length_append, List.length_singleton, ← wnext (n := T.length) (by omega) hl] at hnext
    have hj : ∀ b : Bool, Ev (fun k => impl_IsSpace.j4 k (famN fun y => decide (y ∈ T)) (x : Int) (castL T) (T.length : Int) (pre.length : Int) b n (castL T))
        (!b && ((T.all fun y => decide (x ||| y ∈ T)) && rest.all fun x => (x == 0 || innN (fun y => decide (y ∈ T)) x != 0) && T.all fun y => decide (x ||| y ∈ T))) := by
      intro b
      refine Ev.step (fun k => by rw [impl_IsSpace.j4]) ?_
      cases b with
      | true => simp only [↓reduceIte]; exact (Ev.some _).eq (by simp)
      | false =>
        simp only [↓reduceIte, Bool.false_eq_true, castL_length]
        have := impl_pairs T hT hl n x hx pre.length _ (castL T) hnext T [] rfl
        exact this.eq (by simp)
    refine Ev.step (fun k => by rw [impl_IsSpace.l1]) ?_
    simp only [show ((pre.length : Int) < (T.length : Int)) from by omega, show (0 : Int) ≤ (pre.length : Int) from by omega, castL_length, e, ↓reduceIte]
    by_cases h0 : x = 0
    · have hz : ((x : Int) = 0) = True := eq_true (by omega)
      simp only [hz, ↓reduceIte]
      exact (hj false).eq (by simp [h0])
    · simp only [show ¬ ((x : Int) = 0) from by omega, ↓reduceIte]
      refine Ev.bind (inner_ev _ hx) ?_
      refine (hj _).eq ?_
      rw [natBeq0, List.all_cons, show (x == 0) = false from by simpa using h0, Bool.false_or, Bool.and_assoc]
      rfl
theorem pow_le_128 {m : Nat} (h : m ≤ 7) : 2 ^ m ≤ 128 := by
  have : 2 ^ m ≤ 2 ^ 7 := Nat.pow_le_pow_right (by decide) h
  omega
theorem impl_IsSpace_ev (n : Int) (S : List Int) (hS : S.length ≤ 1099511627776) : Ev (fun k => impl_IsSpace.f k n S) (goodB n S) := by
  have hno : ∀ a b, Ev (fun k => impl_IsSpace.j0 k true a b) false := by
    intro a b
    refine Ev.step (fun k => by rw [impl_IsSpace.j0]) ?_
    simp only [↓reduceIte]
    exact Ev.some _
  unfold impl_IsSpace.f
  simp only [isSize_eq, Option.bind_some, decide_eq_true_eq]
  by_cases hn : 1 ≤ n ∧ n ≤ 7
  · obtain ⟨m, rfl⟩ := Int.eq_ofNat_of_zero_le (show 0 ≤ n from by omega)
    have hm7 : m ≤ 7 := by omega
    have hp := pow_le_128 hm7
    simp only [hn, and_self, ↓reduceIte, show (0 : Int) ≤ (m : Int) from by omega, shl1 (show m ≤ 61 from by omega)]
    by_cases hlen : S.length ≤ 2 ^ m
    · rw [show decide ((S.length : Int) > ((2 ^ m : Nat) : Int)) = false from by simp; exact_mod_cast hlen]
      refine Ev.step (fun k => by rw [impl_IsSpace.j0]) ?_
      simp only [↓reduceIte, Bool.false_eq_true]
      have key := impl_rise (m := m) (by omega) S hS (goodT (S.map Int.toNat) m) S [] 0 rfl (.inl ⟨rfl, rfl⟩) (fun hr => by
        have hmem := riseB_mem hr
        have hS2 : castL (S.map Int.toNat) = S := castL_of (fun x hx => (hmem x hx).1)
        have hT : ∀ x ∈ S.map Int.toNat, x < 128 := by
          intro x hx
          obtain ⟨z, hz, rfl⟩ := List.mem_map.1 hx
          have := hmem z hz; omega
        have hl : (S.map Int.toNat).length ≤ 1099511627776 := by simpa using hS
        generalize hTd : S.map Int.toNat = T at hS2 hT hl ⊢
        subst hS2
        have hm1 : 2 ^ m - 1 < 128 := by omega
        have hno2 : ∀ F a b, Ev (fun k => impl_IsSpace.j2 k F true a b) false := by
          intro F a b
          refine Ev.step (fun k => by rw [impl_IsSpace.j2]) ?_
          simp only [↓reduceIte]
          exact Ev.some _
        refine Ev.step (fun k => by rw [impl_IsSpace.l0]) ?_
        simp only [show ¬ (((castL T).length : Int) < ((castL T).length : Int)) from by omega, ↓reduceIte]
        refine Ev.bind (family_ev _ T hT hl) ?_
        simp only [famN_length, show ((0 : Int) < ((128 : Nat) : Int)) from by omega, ↓reduceIte]
        have e0 : rdOf false (famN fun y => decide (y ∈ T)) 0 = decide (0 ∈ T) := famN_get (fun y => decide (y ∈ T)) (x := 0) (by omega)
        rw [e0]
        by_cases h0 : 0 ∈ T
        · simp only [h0, decide_true, ↓reduceIte, all_eq (show m ≤ 61 from by omega), Option.bind_some, show (0 : Int) ≤ ((2 ^ m - 1 : Nat) : Int) from by omega, show (((2 ^ m - 1 : Nat) : Int) < ((128 : Nat) : Int)) from by omega,
            show (((2 ^ m - 1 : Nat) : Int) < 128) from by omega, famN_get _ hm1]
          by_cases h1 : 2 ^ m - 1 ∈ T
          · simp only [h1, decide_true, Bool.not_true]
            refine Ev.step (fun k => by rw [impl_IsSpace.j2]) ?_
            simp only [↓reduceIte, Bool.false_eq_true, castL_length]
            have := impl_sets T hT hl (m : Int) T [] rfl
            exact this.eq (by simp [goodT, h0, h1])
          · simp only [h1, decide_false, Bool.not_false]
            exact (hno2 _ _ _).eq (by simp [goodT, h1])
        · simp only [h0, decide_false, ↓reduceIte, Bool.false_eq_true]
          exact (hno2 _ _ _).eq (by simp [goodT, h0]))
      exact key.eq (by
        have : (1 : Int) ≤ (m : Int) ∧ (m : Int) ≤ 7 := hn
        simp [goodB, this, hlen])
    · rw [show decide ((S.length : Int) > ((2 ^ m : Nat) : Int)) = true from by simp; have := hlen; exact_mod_cast Nat.lt_of_not_le this]
      exact (hno _ _).eq (by simp [goodB, hlen])
  · simp only [hn, ↓reduceIte]
    exact (hno _ _).eq (by simp [goodB, hn])

/-! ### the reference -/
theorem xor_andn {x i : Nat} (h : x.testBit i = true) : x ^^^ 2 ^ i = andn x (2 ^ i) := by
  apply Nat.eq_of_testBit_eq
  intro j
  rw [Nat.testBit_xor, testBit_andn, Nat.testBit_two_pow]
  by_cases hj : i = j
  · subst hj; simp [h]
  · simp [hj]
theorem sumL_range (p : Nat → Bool) (n : Nat) : sumL p (List.range' 0 n) 0 = sumN p n := by
  apply Nat.eq_of_testBit_eq
  intro i
  rw [sumL_testBit, sumN_testBit, Nat.zero_testBit, Bool.false_or]
  have : decide (i ∈ List.range' 0 n) = decide (i < n) := by
    rw [decide_eq_decide, List.mem_range'_1]; omega
  rw [this]
theorem spInner_loop {T : List Nat} (hT : Inc T) (hl : T.length ≤ 1099511627776) {x : Nat} (hx : x < 128) : ∀ (d i s : Nat), i + d = 7 → s < 128 →
    Ev (fun k => spec_spInner.l0 k (castL T) (x : Int) (s : Int) (i : Int)) ((sumL (fun i => x.testBit i && decide (andn x (2 ^ i) ∈ T)) (List.range' i d) s : Nat) : Int) := by
  intro d
  induction d with
  | zero =>
    intro i s h hs
    refine Ev.step (fun k => by rw [spec_spInner.l0]) ?_
    simp only [show ¬ ((i : Int) < 7) from by omega, ↓reduceIte]
    exact Ev.some _
  | succ d ih =>
    intro i s h hs
    have hp2 : 2 ^ i < 128 := pow_lt_128 (show i < 7 from by omega)
    have hso : s ||| 2 ^ i < 128 := Nat.or_lt_two_pow (n := 7) hs hp2
    refine Ev.step (fun k => by rw [spec_spInner.l0]) ?_
    simp only [show ((i : Int) < 7) from by omega, show (0 : Int) ≤ (i : Int) from by omega, spIn_eq _ _ (show i ≤ 64 from by omega), Option.bind_some, shl1 (show i ≤ 61 from by omega), ↓reduceIte]
    have hn : wrap64 ((i : Int) + 1) = ((i + 1 : Nat) : Int) := by rw [w64 (by omega) (by omega)]; omega
    rw [hn]
    by_cases hb : x.testBit i = true
    · simp only [hb, ↓reduceIte]
      rw [bXor (show x < 2 ^ 62 from by omega) (show 2 ^ i < 2 ^ 62 from by omega), xor_andn hb, bOr (show s < 2 ^ 62 from by omega) (show 2 ^ i < 2 ^ 62 from by omega)]
      refine Ev.bind (spHas_ev hT hl _) ?_
      by_cases hm : andn x (2 ^ i) ∈ T
      · simp only [hm, decide_true, ↓reduceIte]
        exact (ih (i + 1) (s ||| 2 ^ i) (by omega) hso).eq (by simp [List.range'_succ, sumL, hb, hm])
      · simp only [hm, decide_false, ↓reduceIte, Bool.false_eq_true]
        exact (ih (i + 1) s (by omega) hs).eq (by simp [List.range'_succ, sumL, hm])
    · simp only [hb, ↓reduceIte, Bool.false_eq_true]
      exact (ih (i + 1) s (by omega) hs).eq (by simp [List.range'_succ, sumL, hb])
theorem spInner_ev {T : List Nat} (hT : Inc T) (hl : T.length ≤ 1099511627776) {x : Nat} (hx : x < 128) :
    Ev (fun k => spec_spInner.f k (castL T) (x : Int)) ((innN (fun y => decide (y ∈ T)) x : Nat) : Int) := by
  unfold spec_spInner.f
  have h := spInner_loop hT hl hx 7 0 0 rfl (by omega)
  rw [sumL_range] at h
  simpa [innN] using h

theorem spec_pairs {T : List Nat} (hI : Inc T) (hT : ∀ x ∈ T, x < 128) (hl : T.length ≤ 1099511627776) (n : Int) (x : Nat) (hx : x < 128) (i : Nat) (r : Bool)
    (hout : Ev (fun k => spec_spGood.l0 k (castL T) (T.length : Int) (wrap64 ((i : Int) + 1)) n (castL T)) r) :
    ∀ rest pre : List Nat, pre ++ rest = T →
    Ev (fun k => spec_spGood.l1 k (x : Int) (castL T) (T.length : Int) (i : Int) (castL T) (T.length : Int) (pre.length : Int) n (castL T)) ((rest.all fun y => decide (x ||| y ∈ T)) && r) := by
  intro rest
  induction rest with
  | nil =>
    intro pre h
    obtain rfl : pre = T := by simpa using h
    refine Ev.step (fun k => by rw [spec_spGood.l1]) ?_
    simp only [show ¬ ((pre.length : Int) < (pre.length : Int)) from by omega, ↓reduceIte]
    exact hout.eq (by simp)
  | cons y rest ih =>
    intro pre h
    have hy : y < 128 := hT y (by rw [← h]; simp)
    have hlen : T.length = pre.length + (rest.length + 1) := by rw [← h]; simp
    have e : rd (castL T) (pre.length : Int) = (y : Int) := by rw [← h]; exact rd_castL_mid _ _ _
    refine Ev.step (fun k => by rw [spec_spGood.l1]) ?_
    simp only [show ((pre.length : Int) < (T.length : Int)) from by omega, show (0 : Int) ≤ (pre.length : Int) from by omega, castL_length, e, bOr (show x < 2 ^ 62 from by omega) (show y < 2 ^ 62 from by omega), ↓reduceIte]
    refine Ev.bind (spHas_ev hI hl _) ?_
    by_cases hb : x ||| y ∈ T
    · have := ih (pre ++ [y]) (by simp [h])
      rw [List.length_append, List.length_singleton] at this
      simp only [hb, decide_true, ↓reduceIte]
      rw [wnext (n := T.length) (by omega) hl]
      exact this.eq (by simp [hb])
    · simp only [hb, decide_false, ↓reduceIte, Bool.false_eq_true]
      exact (Ev.some _).eq (by simp [hb])
theorem spec_sets {T : List Nat} (hI : Inc T) (hT : ∀ x ∈ T, x < 128) (hl : T.length ≤ 1099511627776) (n : Int) : ∀ rest pre : List Nat, pre ++ rest = T →
    Ev (fun k => spec_spGood.l0 k (castL T) (T.length : Int) (pre.length : Int) n (castL T))
      (rest.all fun x => (x == 0 || innN (fun y => decide (y ∈ T)) x != 0) && T.all fun y => decide (x ||| y ∈ T)) := by
  intro rest
  induction rest with
  | nil =>
    intro pre h
    obtain rfl : pre = T := by simpa using h
    refine Ev.step (fun k => by rw [spec_spGood.l0]) ?_
    simp only [show ¬ ((pre.length : Int) < (pre.length : Int)) from by omega, ↓reduceIte]
    exact (Ev.some _).eq (by simp)
  | cons x rest ih =>
    intro pre h
    have hx : x < 128 := hT x (by rw [← h]; simp)
    have hlen : T.length = pre.length + (rest.length + 1) := by rw [← h]; simp
    have e : rd (castL T) (pre.length : Int) = (x : Int) := by rw [← h]; exact rd_castL_mid _ _ _
    have hnext := ih (pre ++ [x]) (by simp [h])
    rw [List.length_append, List.length_singleton, ← wnext (n := T.length) (by omega) hl] at hnext
    have hj : ∀ b : Bool, Ev (fun k => spec_spGood.j3 k (x : Int) (castL T) (T.length : Int) (pre.length : Int) b n (castL T))
        (!b && ((T.all fun y => decide (x ||| y ∈ T)) && rest.all fun x => (x == 0 || innN (fun y => decide (y ∈ T)) x != 0) && T.all fun y => decide (x ||| y ∈ T))) := by
      intro b
      refine Ev.step (fun k => by rw [spec_spGood.j3]) ?_
      cases b with
      | true => simp only [↓reduceIte]; exact (Ev.some _).eq (by simp)
      | false =>
        simp only [↓reduceIte, Bool.false_eq_true, castL_length]
        have := spec_pairs hI hT hl n x hx pre.length _ hnext T [] rfl
        exact this.eq (by simp)
    refine Ev.step (fun k => by rw [spec_spGood.l0]) ?_
    simp only [show ((pre.length : Int) < (T.length : Int)) from by omega, show (0 : Int) ≤ (pre.length : Int) from by omega, castL_length, e, ↓reduceIte]
    by_cases h0 : x = 0
    · have hz : ((x : Int) > 0) = False := eq_false (by omega)
      simp only [hz, ↓reduceIte]
      exact (hj false).eq (by simp [h0])
    · simp only [show ((x : Int) > 0) from by omega, ↓reduceIte]
      refine Ev.bind (spInner_ev hI hl hx) ?_
      refine (hj _).eq ?_
      rw [natBeq0, List.all_cons, show (x == 0) = false from by simpa using h0, Bool.false_or, Bool.and_assoc]
      rfl
theorem spec_spGood_ev (n : Int) (S : List Int) (hS : S.length ≤ 1099511627776) : Ev (fun k => spec_spGood.f k n S) (goodB n S) := by
  have hno : ∀ a b, Ev (fun k => spec_spGood.j0 k true a b) false := by
    intro a b
    refine Ev.step (fun k => by rw [spec_spGood.j0]) ?_
    simp only [↓reduceIte]
    exact Ev.some _
  have hno1 : ∀ a b, Ev (fun k => spec_spGood.j1 k true a b) false := by
    intro a b
    refine Ev.step (fun k => by rw [spec_spGood.j1]) ?_
    simp only [↓reduceIte]
    exact Ev.some _
  unfold spec_spGood.f
  simp only [spItems_eq, Option.bind_some, decide_eq_true_eq]
  by_cases hn : 1 ≤ n ∧ n ≤ 7
  · obtain ⟨m, rfl⟩ := Int.eq_ofNat_of_zero_le (show 0 ≤ n from by omega)
    have hm7 : m ≤ 7 := by omega
    have hp := pow_le_128 hm7
    have hn' : (1 : Int) ≤ (m : Int) ∧ (m : Int) ≤ 7 := hn
    simp only [hn, and_self, ↓reduceIte, show (0 : Int) ≤ (m : Int) from by omega, shl1 (show m ≤ 61 from by omega), pow1' (show m ≤ 61 from by omega)]
    by_cases hlen : S.length ≤ 2 ^ m
    · have hle : ¬ ((S.length : Int) > ((2 ^ m : Nat) : Int)) := by omega
      simp only [hle, ↓reduceIte]
      refine Ev.bind (l1Rising_ev S hS _) ?_
      by_cases hr : riseB ((2 ^ m - 1 : Nat) : Int) 0 S = true
      · rw [hr]
        have hmem := riseB_mem hr
        have hS2 : castL (S.map Int.toNat) = S := castL_of (fun x hx => (hmem x hx).1)
        have hI : Inc (S.map Int.toNat) := riseB_inc (by omega) hr
        have hT : ∀ x ∈ S.map Int.toNat, x < 128 := by
          intro x hx
          obtain ⟨z, hz, rfl⟩ := List.mem_map.1 hx
          have := hmem z hz; omega
        have hl : (S.map Int.toNat).length ≤ 1099511627776 := by simpa using hS
        have hg : goodB (m : Int) S = goodT (S.map Int.toNat) m := by simp [goodB, hn', hlen, hr]
        rw [hg]
        generalize hTd : S.map Int.toNat = T at hS2 hT hl hI ⊢
        subst hS2
        refine Ev.step (fun k => by rw [spec_spGood.j0]) ?_
        simp only [Bool.not_true, ↓reduceIte, Bool.false_eq_true]
        refine Ev.bind (show Ev (fun k => spec_spHas.f k (castL T) 0) (decide (0 ∈ T)) from spHas_ev hI hl 0) ?_
        by_cases h0 : 0 ∈ T
        · simp only [h0, decide_true, ↓reduceIte, show (0 : Int) ≤ (m : Int) from by omega, shl1 (show m ≤ 61 from by omega), pow1' (show m ≤ 61 from by omega)]
          refine Ev.bind (spHas_ev hI hl _) ?_
          by_cases h1 : 2 ^ m - 1 ∈ T
          · simp only [h1, decide_true, Bool.not_true]
            refine Ev.step (fun k => by rw [spec_spGood.j1]) ?_
            simp only [↓reduceIte, Bool.false_eq_true, castL_length]
            have := spec_sets hI hT hl (m : Int) T [] rfl
            exact this.eq (by simp [goodT, h0, h1])
          · simp only [h1, decide_false, Bool.not_false]
            exact (hno1 _ _).eq (by simp [goodT, h1])
        · simp only [h0, decide_false, ↓reduceIte, Bool.false_eq_true]
          exact (hno1 _ _).eq (by simp [goodT, h0])
      · rw [show riseB ((2 ^ m - 1 : Nat) : Int) 0 S = false from by simpa using hr]
        exact (hno _ _).eq (by simp [goodB, hr])
    · have hgt : ((S.length : Int) > ((2 ^ m : Nat) : Int)) := by omega
      simp only [hgt, ↓reduceIte]
      exact (hno _ _).eq (by simp [goodB, hlen])
  · simp only [hn, ↓reduceIte]
    exact (hno _ _).eq (by simp [goodB, hn])
end Go.Proofs.Ytekllaaohagefaa.Q
