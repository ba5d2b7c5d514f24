/- The space of clauses: both; conditions: as each theorem states. -/
import Derived.Test.YthpbmecinoninaaCFnExactSpaceOfClausesQSpIf
import Derived.Test.YthpbmecinoninaaCFnExactSpaceOfClausesQAcc
import Derived.Test.YthpbmecinoninaaCFnExactSpaceOfClausesQPart
import Derived.Test.YthpbmecinoninaaCFnExactSpaceOfClausesQOwn
import Derived.Test.YthpbmecinoninaaCFnExactSpaceOfClausesQCount
import Derived.Test.YthpbmecinoninaaCFnExactSpaceOfClausesQIns
import Derived.Test.YthpbmecinoninaaCFnExactSpaceOfClausesQLawPts
import Derived.Test.YthpbmecinoninaaCFnExactSpaceOfClausesP6
namespace Go.Proofs.Ythpbmecinoninaa.Q
open Go.RowKit Go.Proofs.YthpbmecinoninaaW.PrintWords Go.Proofs.YthpbmecinoninaaW.PrintLast Go.Proofs.YthpbmecinoninaaW.PrintMore Go.Proofs.Ythpbmecinoninaa.P
set_option linter.unusedVariables false
set_option linter.unusedSimpArgs false

theorem andn_or_bit {x i : Nat} (h : x.testBit i = false) : andn (x ||| 2 ^ i) (2 ^ i) = x := by
  apply Nat.eq_of_testBit_eq
  intro j
  rw [testBit_andn, Nat.testBit_or, Nat.testBit_two_pow]
  by_cases e : i = j
  · subst e; simp [h]
  · simp [e]
theorem or_bit_self {x i : Nat} (h : x.testBit i = true) : x ||| 2 ^ i = x := by
  apply Nat.eq_of_testBit_eq
  intro j
  rw [Nat.testBit_or, Nat.testBit_two_pow]
  by_cases e : i = j
  · subst e; simp [h]
  · simp [e]
theorem or_bit_gt {x i : Nat} (h : x.testBit i = false) : x < x ||| 2 ^ i := by
  have h1 : x ≤ x ||| 2 ^ i := Nat.left_le_or
  have h2 : x ≠ x ||| 2 ^ i := by
    intro e
    have := congrArg (fun x => Nat.testBit x i) e
    simp only [Nat.testBit_or, h, Nat.testBit_two_pow, decide_true, Bool.or_true] at this
    cases this
  omega
theorem andn_zero' {a b : Nat} : andn a b = 0 ↔ ∀ j, a.testBit j = true → b.testBit j = true := by
  constructor
  · intro h j hj
    have := congrArg (fun x => Nat.testBit x j) h
    simp only [testBit_andn, hj, Bool.true_and, Nat.zero_testBit, Bool.not_eq_false'] at this
    exact this
  · intro h
    apply Nat.eq_of_testBit_eq
    intro j
    rw [testBit_andn, Nat.zero_testBit]
    cases ha : a.testBit j with
    | false => rfl
    | true => rw [h j ha]; rfl
theorem cnt_put : ∀ x : Fin 128, ∀ i : Fin 7, x.val.testBit i.val = false → cntN (x.val ||| 2 ^ i.val) = cntN x.val + 1 := by decide +kernel
theorem cnt_zero : ∀ x : Fin 128, cntN x.val = 0 → x.val = 0 := by decide +kernel
theorem cnt_le : ∀ m : Fin 8, ∀ x : Fin 128, x.val < 2 ^ m.val → cntN x.val ≤ m.val := by decide +kernel

/-- A clause: an item, and a set without it. -/
def clB (m : Nat) : List Int → Bool
  | [a, b] => decide (0 ≤ a ∧ a ≤ (m : Int) - 1) && (decide (0 ≤ b ∧ b ≤ ((2 ^ m - 1 : Nat) : Int)) && !(b.toNat.testBit a.toNat))
  | _ => false
theorem clB_of {m : Nat} (hm : m ≤ 7) {r : List Int} (h : clB m r = true) : ∃ i p : Nat, r = [(i : Int), (p : Int)] ∧ i < m ∧ p < 2 ^ m ∧ p.testBit i = false := by
  have hpos : 0 < 2 ^ m := Nat.two_pow_pos _
  match r, h with
  | [x, y], h =>
    simp only [clB, Bool.and_eq_true, decide_eq_true_eq, Bool.not_eq_true'] at h
    obtain ⟨a, rfl⟩ := Int.eq_ofNat_of_zero_le h.1.1
    obtain ⟨b, rfl⟩ := Int.eq_ofNat_of_zero_le h.2.1.1
    exact ⟨a, b, rfl, by omega, by omega, h.2.2⟩
theorem clB_len {m : Nat} {r : List Int} (h : r.length ≠ 2) : clB m r = false := by
  match r, h with
  | [], _ => rfl
  | [_], _ => rfl
  | [_, _], hl => exact absurd rfl hl
  | _ :: _ :: _ :: _, _ => rfl
/-- The sets that clauses lead to. -/
inductive CL (P : List (List Int)) : Nat → Prop
  | zero : CL P 0
  | step {x i p : Nat} : CL P x → [(i : Int), (p : Int)] ∈ P → x.testBit i = false → andn p x = 0 → CL P (x ||| 2 ^ i)
theorem CL.lt {m : Nat} {P : List (List Int)} (hP : ∀ r ∈ P, clB m r = true) (hm : m ≤ 7) {z : Nat} (h : CL P z) : z < 2 ^ m := by
  induction h with
  | zero => exact Nat.two_pow_pos _
  | step _ hi _ _ ih =>
    obtain ⟨i', p', e, h1, _, _⟩ := clB_of hm (hP _ hi)
    simp only [List.cons.injEq, and_true] at e
    have : i' < m := h1
    exact Nat.or_lt_two_pow ih (Nat.pow_lt_pow_right (by omega) (by omega))
theorem CL.inv {P : List (List Int)} {z : Nat} (h : CL P z) (h0 : z ≠ 0) : ∃ x i p : Nat, z = x ||| 2 ^ i ∧ CL P x ∧ [(i : Int), (p : Int)] ∈ P ∧ x.testBit i = false ∧ andn p x = 0 := by
  cases h with
  | zero => exact absurd rfl h0
  | @step x i p h1 hi hb hs => exact ⟨x, i, p, rfl, h1, hi, hb, hs⟩
theorem CL.or {P : List (List Int)} {x y : Nat} (hx : CL P x) (hy : CL P y) : CL P (x ||| y) := by
  induction hy with
  | zero => rwa [Nat.or_zero]
  | @step y i p h1 hi hb hs ih =>
    rw [← Nat.or_assoc]
    cases hbi : (x ||| y).testBit i with
    | true => rwa [or_bit_self hbi]
    | false =>
      refine .step ih hi hbi ?_
      rw [andn_zero'] at hs ⊢
      intro j hj
      rw [Nat.testBit_or, hs j hj, Bool.or_true]
noncomputable def clR (P : List (List Int)) (z : Nat) : Bool := @decide (CL P z) (Classical.propDecidable _)
theorem clR_iff {P : List (List Int)} {z : Nat} : clR P z = true ↔ CL P z := by unfold clR; exact @decide_eq_true_iff _ (Classical.propDecidable _)
theorem clR_space {m : Nat} {P : List (List Int)} (m1 : 1 ≤ m) (hm : m ≤ 7) (hP : ∀ r ∈ P, clB m r = true) (hf : CL P (2 ^ m - 1)) {R : List Nat} (hI : Inc R) (hR : ∀ z, z ∈ R ↔ CL P z) : SpN m R := by
  have hL : ∀ x ∈ R, x < 2 ^ m := fun x hx => CL.lt hP hm ((hR x).1 hx)
  refine uc_space m1 hm hL (fun x hx h0 => ?_) (.base ((hR _).2 hf)) hI (fun z => ⟨fun h => .base h, fun h => ?_⟩)
  · obtain ⟨y, i, p, rfl, h1, _, hb, _⟩ := ((hR x).1 hx).inv h0
    refine ⟨i, by rw [Nat.testBit_or, Nat.testBit_two_pow]; simp, ?_⟩
    rw [andn_or_bit hb]
    exact .base ((hR y).2 h1)
  · induction h with
    | zero => exact (hR 0).2 .zero
    | base hx => exact hx
    | or _ _ ha hb => exact (hR _).2 (CL.or ((hR _).1 ha) ((hR _).1 hb))

/-! ### the program -/
/-- What one set leads to, within a list of clauses. -/
def clN (p : Nat → Bool) (x : Nat) (l : List (List Int)) : Nat → Bool := fun z => p z || l.any fun r => decide (andn (rd r 1).toNat x = 0) && z == (x ||| 2 ^ (rd r 0).toNat)
theorem impl_cl_in {m : Nat} (m7 : m ≤ 7) {P : List (List Int)} (hl : P.length ≤ 1048576) (hP : ∀ r ∈ P, clB m r = true) {x : Nat} (hx : x < 128) (v : Int × List Int × Bool) : ∀ (rest pre : List (List Int)) (p : Nat → Bool), pre ++ rest = P → p x = true →
    Ev (fun k => impl_SpaceOfClauses.l1 k (m : Int) P (famN (clN p x rest)) (wrap64 ((x : Int) + 1))) v →
    Ev (fun k => impl_SpaceOfClauses.l2 k (m : Int) P (famN p) (x : Int) (x : Int) P (P.length : Int) (pre.length : Int)) v := by
  intro rest
  induction rest with
  | nil =>
    intro pre p e hpx hv
    obtain rfl : pre = P := by simpa using e
    refine Ev.step (fun k => by rw [impl_SpaceOfClauses.l2]) ?_
    simp only [show ¬ ((pre.length : Int) < (pre.length : Int)) from by omega, ↓reduceIte]
    refine Ev.congr (fun k => ?_) hv
    congr 1
    apply famN_congr
    intro z _
    simp [clN]
  | cons r rest ih =>
    intro pre p e hpx hv
    have hlen : P.length = pre.length + (rest.length + 1) := by rw [← e]; simp
    have er : rd_L2 P (pre.length : Int) = r := by rw [← e]; exact rdL_mid _ _ _
    obtain ⟨i, q, rfl, hi, hq, hb⟩ := clB_of m7 (hP r (by rw [← e]; simp))
    have ea : rd [(i : Int), (q : Int)] 0 = (i : Int) := rfl
    have eb : rd [(i : Int), (q : Int)] 1 = (q : Int) := rfl
    have h2i := pow_lt_128 (show i < 7 by omega)
    have hp2 := pow_le_128 m7
    have hxi : x ||| 2 ^ i < 128 := Nat.or_lt_two_pow (n := 7) hx h2i
    have hnx : wrap64 ((pre.length : Int) + 1) = (((pre ++ [[(i : Int), (q : Int)]]).length : Nat) : Int) := by
      rw [wnext (n := P.length) (by omega) (by omega), List.length_append, List.length_singleton]
    refine Ev.step (fun k => by rw [impl_SpaceOfClauses.l2]) ?_
    simp only [show ((pre.length : Int) < (P.length : Int)) from by omega, show (0 : Int) ≤ (pre.length : Int) from by omega, er, ea, eb, List.length_cons, List.length_nil, show (((0 + 1 + 1 : Nat) : Int) = 2) from rfl, show ((0 : Int) < 2) from by omega, show ((1 : Int) < 2) from by omega, show (0 : Int) ≤ (x : Int) from by omega, famN_length, show ((x : Int) < ((128 : Nat) : Int)) from by omega, show ((x : Int) < 128) from by omega, famN_get _ hx, hpx, part_eq (show q < 2 ^ 62 from by omega) (show x < 2 ^ 62 from by omega), Option.bind_some, ↓reduceIte, hnx]
    by_cases hs : andn q x = 0
    · simp only [hs, decide_true, ↓reduceIte, show (0 : Int) ≤ (i : Int) from by omega, shl1 (show i ≤ 61 from by omega), bOr (show x < 2 ^ 62 from by omega) (show 2 ^ i < 2 ^ 62 from by omega), show (0 : Int) ≤ ((x ||| 2 ^ i : Nat) : Int) from by omega, show (((x ||| 2 ^ i : Nat) : Int) < ((128 : Nat) : Int)) from by omega, show (((x ||| 2 ^ i : Nat) : Int) < 128) from by omega, Int.toNat_natCast, famN_set]
      refine ih _ (fun z => p z || z == (x ||| 2 ^ i)) (by simp [e]) (by simp [hpx]) ?_
      refine Ev.congr (fun k => ?_) hv
      congr 1
      apply famN_congr
      intro z _
      simp only [clN, List.any_cons, ea, eb, Int.toNat_natCast, hs, decide_true, Bool.true_and, Bool.or_assoc]
    · simp only [hs, decide_false, ↓reduceIte, Bool.false_eq_true]
      refine ih _ p (by simp [e]) hpx ?_
      refine Ev.congr (fun k => ?_) hv
      congr 1
      apply famN_congr
      intro z _
      simp only [clN, List.any_cons, ea, eb, Int.toNat_natCast, hs, decide_false, Bool.false_and, Bool.false_or]
theorem impl_cl_skip {m : Nat} {P : List (List Int)} (hl : P.length ≤ 1048576) {x : Nat} (hx : x < 128) (v : Int × List Int × Bool) (p : Nat → Bool) (hpx : p x = false)
    (hv : Ev (fun k => impl_SpaceOfClauses.l1 k (m : Int) P (famN p) (wrap64 ((x : Int) + 1))) v) : ∀ (d i : Nat), i + d = P.length →
    Ev (fun k => impl_SpaceOfClauses.l2 k (m : Int) P (famN p) (x : Int) (x : Int) P (P.length : Int) (i : Int)) v := by
  intro d
  induction d with
  | zero =>
    intro i e
    obtain rfl : i = P.length := by omega
    refine Ev.step (fun k => by rw [impl_SpaceOfClauses.l2]) ?_
    simp only [show ¬ ((P.length : Int) < (P.length : Int)) from by omega, ↓reduceIte]
    exact hv
  | succ d ih =>
    intro i e
    refine Ev.step (fun k => by rw [impl_SpaceOfClauses.l2]) ?_
    simp only [show ((i : Int) < (P.length : Int)) from by omega, show (0 : Int) ≤ (i : Int) from by omega, show (0 : Int) ≤ (x : Int) from by omega, famN_length, show ((x : Int) < ((128 : Nat) : Int)) from by omega, show ((x : Int) < 128) from by omega, famN_get _ hx, hpx, Bool.false_eq_true, ↓reduceIte]
    rw [wnext (n := P.length) (by omega) (by omega)]
    exact ih (i + 1) (by omega)
theorem impl_cl_loop {m : Nat} (m7 : m ≤ 7) {P : List (List Int)} (hl : P.length ≤ 1048576) (hP : ∀ r ∈ P, clB m r = true) (v : Int × List Int × Bool)
    (hv : Ev (fun k => impl_SpaceOfClauses.l1 k (m : Int) P (famN (clR P)) 128) v) : ∀ (d x : Nat) (p : Nat → Bool), x + d = 128 → (∀ z, p z = true → CL P z) → p 0 = true →
    (∀ y, y < x → CL P y → ∀ i q : Nat, [(i : Int), (q : Int)] ∈ P → y.testBit i = false → andn q y = 0 → p (y ||| 2 ^ i) = true) →
    Ev (fun k => impl_SpaceOfClauses.l1 k (m : Int) P (famN p) (x : Int)) v := by
  have hp2 := pow_le_128 m7
  intro d
  induction d with
  | zero =>
    intro x p e h1 h2 h3
    obtain rfl : x = 128 := by omega
    have e2 : famN p = famN (clR P) := by
      apply famN_congr
      intro z _
      rw [Bool.eq_iff_iff, clR_iff]
      refine ⟨h1 z, fun hz => ?_⟩
      by_cases hz0 : z = 0
      · subst hz0; exact h2
      · obtain ⟨y, i, q, rfl, h4, h5, h6, h7⟩ := hz.inv hz0
        exact h3 y (by have := h4.lt hP m7; omega) h4 i q h5 h6 h7
    rw [e2]
    exact hv
  | succ d ih =>
    intro x p e h1 h2 h3
    have hx : x < 128 := by omega
    have hpx : p x = true ↔ CL P x := by
      refine ⟨h1 x, fun hz => ?_⟩
      by_cases hz0 : x = 0
      · subst hz0; exact h2
      · obtain ⟨y, i, q, e5, h4, h5, h6, h7⟩ := hz.inv hz0
        have := or_bit_gt h6
        subst e5
        exact h3 y this h4 i q h5 h6 h7
    refine Ev.step (fun k => by rw [impl_SpaceOfClauses.l1]) ?_
    simp only [show ((x : Int) < 128) from by omega, ↓reduceIte]
    by_cases hp : p x = true
    · have hcx := hpx.1 hp
      refine impl_cl_in m7 hl hP hx v P [] p rfl hp ?_
      rw [wnext (n := 128) hx (by omega)]
      refine ih (x + 1) _ (by omega) ?_ (by simp [clN, h2]) ?_
      · intro z hz
        simp only [clN, Bool.or_eq_true, List.any_eq_true, Bool.and_eq_true, decide_eq_true_eq, beq_iff_eq] at hz
        rcases hz with hz | ⟨r, hr, hs, rfl⟩
        · exact h1 z hz
        · obtain ⟨i, q, rfl, hi, hq, hb⟩ := clB_of m7 (hP r hr)
          have ea : rd [(i : Int), (q : Int)] 0 = (i : Int) := rfl
          have eb : rd [(i : Int), (q : Int)] 1 = (q : Int) := rfl
          rw [ea, Int.toNat_natCast]
          rw [eb, Int.toNat_natCast] at hs
          cases hbx : x.testBit i with
          | true => rwa [or_bit_self hbx]
          | false => exact .step hcx hr hbx hs
      · intro y hy hcy i q hi hb hs
        simp only [clN, Bool.or_eq_true, List.any_eq_true, Bool.and_eq_true, decide_eq_true_eq, beq_iff_eq]
        by_cases e2 : y = x
        · subst e2; exact .inr ⟨_, hi, hs, rfl⟩
        · exact .inl (h3 y (by omega) hcy i q hi hb hs)
    · refine impl_cl_skip hl hx v p (by simpa using hp) ?_ P.length 0 (by omega)
      rw [wnext (n := 128) hx (by omega)]
      refine ih (x + 1) p (by omega) h1 h2 (fun y hy hcy i q hi hb hs => ?_)
      by_cases e2 : y = x
      · subst e2; exact absurd (hpx.2 hcy) hp
      · exact h3 y (by omega) hcy i q hi hb hs

/-! ### the reference -/
theorem spec_cl_in {m : Nat} (m7 : m ≤ 7) {P : List (List Int)} (hl : P.length ≤ 1048576) (hP : ∀ r ∈ P, clB m r = true) {c x : Nat} (hx : x < 2 ^ m) (hcx : CL P x) (T : List Int) (nT iT : Int) (v : Int × List Int × Bool) : ∀ (rest pre : List (List Int)) (B : List Nat), pre ++ rest = P →
    Inc B → (∀ z ∈ B, CL P z ∧ cntN z ≤ c + 1) →
    (∀ B' : List Nat, Inc B' → (∀ z ∈ B', CL P z ∧ cntN z ≤ c + 1) → (∀ z ∈ B, z ∈ B') → (cntN x = c → ∀ i q : Nat, [(i : Int), (q : Int)] ∈ rest → x.testBit i = false → andn q x = 0 → (x ||| 2 ^ i) ∈ B') → Ev (fun k => spec_SpaceOfClauses.l2 k (m : Int) P (castL B') (c : Int) T nT (wrap64 (iT + 1))) v) →
    Ev (fun k => spec_SpaceOfClauses.l3 k (m : Int) P (castL B) (c : Int) (x : Int) T nT iT P (P.length : Int) (pre.length : Int)) v := by
  have hp2 := pow_le_128 m7
  intro rest
  induction rest with
  | nil =>
    intro pre B e hI hB hv
    obtain rfl : pre = P := by simpa using e
    refine Ev.step (fun k => by rw [spec_SpaceOfClauses.l3]) ?_
    simp only [show ¬ ((pre.length : Int) < (pre.length : Int)) from by omega, ↓reduceIte]
    exact hv B hI hB (fun z hz => hz) (fun _ i q hi => by simp at hi)
  | cons r rest ih =>
    intro pre B e hI hB hv
    have hlen : P.length = pre.length + (rest.length + 1) := by rw [← e]; simp
    have er : rd_L2 P (pre.length : Int) = r := by rw [← e]; exact rdL_mid _ _ _
    have hrP : r ∈ P := by rw [← e]; simp
    obtain ⟨i, q, rfl, hi, hq, hb⟩ := clB_of m7 (hP r hrP)
    have ea : rd [(i : Int), (q : Int)] 0 = (i : Int) := rfl
    have eb : rd [(i : Int), (q : Int)] 1 = (q : Int) := rfl
    have h2i := pow_lt_128 (show i < 7 by omega)
    have hBl : B.length ≤ 128 := inc_len hI (fun z hz => Nat.lt_of_lt_of_le ((hB z hz).1.lt hP m7) hp2)
    have hnx : wrap64 ((pre.length : Int) + 1) = (((pre ++ [[(i : Int), (q : Int)]]).length : Nat) : Int) := by
      rw [wnext (n := P.length) (by omega) (by omega), List.length_append, List.length_singleton]
    have hskip : (cntN x = c → x.testBit i = false → andn q x = 0 → False) → Ev (fun k => spec_SpaceOfClauses.l3 k (m : Int) P (castL B) (c : Int) (x : Int) T nT iT P (P.length : Int) (((pre ++ [[(i : Int), (q : Int)]]).length : Nat) : Int)) v := by
      intro hno
      refine ih _ B (by simp [e]) hI hB (fun B' h1 h2 h3 h4 => hv B' h1 h2 h3 (fun hc i' q' hm hb' hs' => ?_))
      rcases List.mem_cons.1 hm with he | hm
      · simp only [List.cons.injEq, and_true] at he
        obtain rfl : i' = i := by omega
        obtain rfl : q' = q := by omega
        exact (hno hc hb' hs').elim
      · exact h4 hc i' q' hm hb' hs'
    refine Ev.step (fun k => by rw [spec_SpaceOfClauses.l3]) ?_
    simp only [show ((pre.length : Int) < (P.length : Int)) from by omega, show (0 : Int) ≤ (pre.length : Int) from by omega, er, ea, eb, List.length_cons, List.length_nil, show (((0 + 1 + 1 : Nat) : Int) = 2) from rfl, show ((0 : Int) < 2) from by omega, show ((1 : Int) < 2) from by omega, hnx, ↓reduceIte]
    refine Ev.bind (spCount_ev (show x < 128 by omega)) ?_
    by_cases hc : cntN x = c
    · simp only [show ((cntN x : Nat) : Int) = (c : Int) from by omega, ↓reduceIte, spIn_eq x i (by omega), Option.bind_some]
      cases hbx : x.testBit i with
      | true =>
        simp only [↓reduceIte]
        exact hskip (fun _ h => by rw [hbx] at h; cases h)
      | false =>
        simp only [↓reduceIte, Bool.false_eq_true, bAndn (show q < 2 ^ 62 from by omega) (show x < 2 ^ 62 from by omega)]
        by_cases hs : andn q x = 0
        · simp only [show (((andn q x : Nat) : Int) = 0) from by omega, ↓reduceIte, show (0 : Int) ≤ (i : Int) from by omega, shl1 (show i ≤ 61 from by omega), bOr (show x < 2 ^ 62 from by omega) (show 2 ^ i < 2 ^ 62 from by omega)]
          refine Ev.bind (spPut_ev B (by omega) _) ?_
          have hcnt : cntN (x ||| 2 ^ i) = cntN x + 1 := cnt_put ⟨x, by omega⟩ ⟨i, by omega⟩ hbx
          refine ih _ (insN (x ||| 2 ^ i) B) (by simp [e]) (inc_insN hI) (fun z hz => ?_) (fun B' h1 h2 h3 h4 => hv B' h1 h2 (fun z hz => h3 z (mem_insN.2 (.inr hz))) (fun hc' i' q' hm hb' hs' => ?_))
          · rcases mem_insN.1 hz with rfl | hz
            · exact ⟨.step hcx hrP hbx hs, by omega⟩
            · exact hB z hz
          · rcases List.mem_cons.1 hm with he | hm
            · simp only [List.cons.injEq, and_true] at he
              obtain rfl : i' = i := by omega
              exact h3 _ (mem_insN.2 (.inl rfl))
            · exact h4 hc' i' q' hm hb' hs'
        · simp only [show ¬ (((andn q x : Nat) : Int) = 0) from by omega, ↓reduceIte]
          exact hskip (fun _ _ h => hs h)
    · simp only [show ¬ ((cntN x : Nat) : Int) = (c : Int) from by omega, ↓reduceIte]
      exact hskip (fun h => (hc h).elim)
theorem spec_cl_mid {m : Nat} (m7 : m ≤ 7) {P : List (List Int)} (hl : P.length ≤ 1048576) (hP : ∀ r ∈ P, clB m r = true) {c : Nat} {T : List Nat} (hT : ∀ z ∈ T, CL P z) (hTl : T.length ≤ 128) (v : Int × List Int × Bool)
    (hv : ∀ B' : List Nat, Inc B' → (∀ z ∈ B', CL P z ∧ cntN z ≤ c + 1) → (∀ z ∈ T, z ∈ B') → (∀ x ∈ T, cntN x = c → ∀ i q : Nat, [(i : Int), (q : Int)] ∈ P → x.testBit i = false → andn q x = 0 → (x ||| 2 ^ i) ∈ B') → Ev (fun k => spec_SpaceOfClauses.l1 k (m : Int) P (castL B') (wrap64 ((c : Int) + 1))) v) : ∀ (rest pre : List Nat) (B : List Nat), pre ++ rest = T →
    Inc B → (∀ z ∈ B, CL P z ∧ cntN z ≤ c + 1) → (∀ z ∈ T, z ∈ B) →
    (∀ x ∈ pre, cntN x = c → ∀ i q : Nat, [(i : Int), (q : Int)] ∈ P → x.testBit i = false → andn q x = 0 → (x ||| 2 ^ i) ∈ B) →
    Ev (fun k => spec_SpaceOfClauses.l2 k (m : Int) P (castL B) (c : Int) (castL T) (T.length : Int) (pre.length : Int)) v := by
  intro rest
  induction rest with
  | nil =>
    intro pre B e hI hB hTB hpre
    obtain rfl : pre = T := by simpa using e
    refine Ev.step (fun k => by rw [spec_SpaceOfClauses.l2]) ?_
    simp only [show ¬ ((pre.length : Int) < (pre.length : Int)) from by omega, ↓reduceIte]
    exact hv B hI hB hTB hpre
  | cons x rest ih =>
    intro pre B e hI hB hTB hpre
    have hlen : T.length = pre.length + (rest.length + 1) := by rw [← e]; simp
    have er : rd (castL T) (pre.length : Int) = (x : Int) := by rw [← e]; exact rd_castL_mid _ _ _
    have hxT : x ∈ T := by rw [← e]; simp
    refine Ev.step (fun k => by rw [spec_SpaceOfClauses.l2]) ?_
    simp only [show ((pre.length : Int) < (T.length : Int)) from by omega, show (0 : Int) ≤ (pre.length : Int) from by omega, castL_length, er, ↓reduceIte]
    refine spec_cl_in m7 hl hP ((hT x hxT).lt hP m7) (hT x hxT) _ _ _ v P [] B rfl hI hB (fun B' h1 h2 h3 h4 => ?_)
    rw [wnext (n := T.length) (by omega) (by omega)]
    have := ih (pre ++ [x]) B' (by simp [e]) h1 h2 (fun z hz => h3 z (hTB z hz)) (fun y hy hc i q hm hb hs => ?_)
    · rwa [List.length_append, List.length_singleton] at this
    · rw [List.mem_append, List.mem_singleton] at hy
      rcases hy with hy | rfl
      · exact h3 _ (hpre y hy hc i q hm hb hs)
      · exact h4 hc i q hm hb hs
theorem spec_cl_loop {m : Nat} (m7 : m ≤ 7) {P : List (List Int)} (hl : P.length ≤ 1048576) (hP : ∀ r ∈ P, clB m r = true) (v : Int × List Int × Bool)
    (hv : ∀ A : List Nat, Inc A → (∀ z, z ∈ A ↔ CL P z) → Ev (fun k => spec_spIf.f k (m : Int) (castL A)) v) : ∀ (d c : Nat) (A : List Nat), c + d = m → Inc A → (∀ z, z ∈ A ↔ CL P z ∧ cntN z ≤ c) →
    Ev (fun k => spec_SpaceOfClauses.l1 k (m : Int) P (castL A) (c : Int)) v := by
  have hp2 := pow_le_128 m7
  intro d
  induction d with
  | zero =>
    intro c A e hI hA
    obtain rfl : c = m := by omega
    refine Ev.step (fun k => by rw [spec_SpaceOfClauses.l1]) ?_
    simp only [show ¬ ((c : Int) < (c : Int)) from by omega, ↓reduceIte]
    refine Ev.bind (hv A hI (fun z => ⟨fun h => ((hA z).1 h).1, fun h => (hA z).2 ⟨h, ?_⟩⟩)) ((Ev.some _).eq rfl)
    have hz := h.lt hP m7
    exact cnt_le ⟨c, by omega⟩ ⟨z, by omega⟩ hz
  | succ d ih =>
    intro c A e hI hA
    have hA2 : ∀ z ∈ A, CL P z := fun z hz => ((hA z).1 hz).1
    have hAl : A.length ≤ 128 := inc_len hI (fun z hz => Nat.lt_of_lt_of_le ((hA2 z hz).lt hP m7) hp2)
    refine Ev.step (fun k => by rw [spec_SpaceOfClauses.l1]) ?_
    simp only [show ((c : Int) < (m : Int)) from by omega, ↓reduceIte, own_eq (castL A) (by rw [castL_length]; omega), Option.bind_some, castL_length]
    refine spec_cl_mid m7 hl hP hA2 hAl v (fun B' h1 h2 h3 h4 => ?_) A [] A rfl hI (fun z hz => ⟨hA2 z hz, by have := ((hA z).1 hz).2; omega⟩) (fun z hz => hz) (fun x hx => by simp at hx)
    rw [wnext (n := m) (by omega) (by omega)]
    refine ih (c + 1) B' (by omega) h1 (fun z => ⟨fun h => h2 z h, fun ⟨h5, h6⟩ => ?_⟩)
    by_cases h7 : cntN z ≤ c
    · exact h3 z ((hA z).2 ⟨h5, h7⟩)
    · by_cases h0 : z = 0
      · subst h0; exact absurd (by decide : cntN 0 ≤ 0) (by omega)
      · obtain ⟨y, i, q, rfl, h8, h9, h10, h11⟩ := h5.inv h0
        obtain ⟨i', q', e', hi', _, _⟩ := clB_of m7 (hP _ h9)
        simp only [List.cons.injEq, and_true] at e'
        have hy := h8.lt hP m7
        have hcnt : cntN (y ||| 2 ^ i) = cntN y + 1 := cnt_put ⟨y, by omega⟩ ⟨i, by omega⟩ h10
        exact h4 y ((hA y).2 ⟨h8, by omega⟩) (by omega) i q h9 h10 h11

/-! ### the check of the clauses, both -/
theorem impl_cl_check {m : Nat} (m1 : 1 ≤ m) (m7 : m ≤ 7) {P : List (List Int)} (hl : P.length ≤ 1048576) (v : Int × List Int × Bool) (hg : (∀ r ∈ P, clB m r = true) → Ev (fun k => impl_SpaceOfClauses.l1 k (m : Int) P (famN fun z => z == 0) 0) v) (hb : P.all (clB m) = false → v = (0, [], false)) :
    ∀ rest pre : List (List Int), pre ++ rest = P → (∀ r ∈ pre, clB m r = true) → Ev (fun k => impl_SpaceOfClauses.l0 k (m : Int) P P (P.length : Int) (pre.length : Int)) v := by
  have hw : wrap64 ((m : Int) - 1) = (m : Int) - 1 := w64 (by omega) (by omega)
  intro rest
  induction rest with
  | nil =>
    intro pre h hpre
    obtain rfl : pre = P := by simpa using h
    have e0 : (List.replicate 128 false).set (0 : Int).toNat true = famN fun z => z == 0 := by decide
    refine Ev.step (fun k => by rw [impl_SpaceOfClauses.l0]) ?_
    simp only [show ¬ ((pre.length : Int) < (pre.length : Int)) from by omega, ↓reduceIte, Option.bind_some, List.length_replicate, show (0 : Int) < ((128 : Nat) : Int) from by omega, e0]
    exact hg hpre
  | cons r rest ih =>
    intro pre h hpre
    have hlen : P.length = pre.length + (rest.length + 1) := by rw [← h]; simp
    have e : rd_L2 P (pre.length : Int) = r := by rw [← h]; exact rdL_mid _ _ _
    refine Ev.step (fun k => by rw [impl_SpaceOfClauses.l0]) ?_
    simp only [show ((pre.length : Int) < (P.length : Int)) from by omega, show (0 : Int) ≤ (pre.length : Int) from by omega, e, hw, ↓reduceIte]
    have hbad : clB m r = false → v = (0, [], false) := fun hr => hb (by rw [← h]; simp [hr])
    have hgood : clB m r = true → Ev (fun k => impl_SpaceOfClauses.l0 k (m : Int) P P (P.length : Int) (wrap64 ((pre.length : Int) + 1))) v := by
      intro hr
      have := ih (pre ++ [r]) (by simp [h]) (fun z hz => (List.mem_append.1 hz).elim (hpre z) (fun h => by rw [List.mem_singleton.1 h]; exact hr))
      rw [List.length_append, List.length_singleton] at this
      rw [wnext (n := P.length) (by omega) (by omega)]
      exact this
    by_cases hl2 : r.length = 2
    rotate_left
    · simp only [show ¬ ((r.length : Int) = 2) from by omega, ↓reduceIte]
      rw [hbad (clB_len hl2)]
      exact Ev.some _
    match r, hl2, hbad, hgood with
    | [a, b], _, hbad, hgood =>
      have ea : rd [a, b] 0 = a := rfl
      have eb : rd [a, b] 1 = b := rfl
      simp only [List.length_cons, List.length_nil, ea, eb, show (((0 + 1 + 1 : Nat) : Int) = 2) from rfl, show ((0 : Int) < 2) from by omega, show ((1 : Int) < 2) from by omega, within_eq, isSet_eq (show m ≤ 61 from by omega), Option.bind_some, ↓reduceIte]
      by_cases ha : 0 ≤ a ∧ a ≤ (m : Int) - 1
      rotate_left
      · simp only [decide_eq_false ha, ↓reduceIte, Bool.false_eq_true]
        rw [hbad (by simp [clB, decide_eq_false ha])]
        exact Ev.some _
      by_cases hs : 0 ≤ b ∧ b ≤ ((2 ^ m - 1 : Nat) : Int)
      rotate_left
      · simp only [decide_eq_true ha, decide_eq_false hs, ↓reduceIte, Bool.false_eq_true]
        rw [hbad (by simp only [clB, decide_eq_false hs, Bool.false_and, Bool.and_false])]
        exact Ev.some _
      obtain ⟨i, rfl⟩ := Int.eq_ofNat_of_zero_le ha.1
      obtain ⟨q, rfl⟩ := Int.eq_ofNat_of_zero_le hs.1
      have hp2 := pow_le_128 m7
      simp only [decide_eq_true ha, decide_eq_true hs, ↓reduceIte]
      simp only [show (0 : Int) ≤ (i : Int) from by omega, bitAnd (show q < 2 ^ 62 from by omega) (show i ≤ 64 from by omega), ↓reduceIte]
      cases hbit : q.testBit i with
      | true =>
        simp only [↓reduceIte]
        rw [hbad (by simp [clB, hbit])]
        exact Ev.some _
      | false =>
        simp only [↓reduceIte, Bool.false_eq_true, show ¬ ((0 : Int) = 1) from by omega]
        exact hgood (by simp only [clB, decide_eq_true ha, decide_eq_true hs, Int.toNat_natCast, hbit]; rfl)
theorem spec_cl_check {m : Nat} (m1 : 1 ≤ m) (m7 : m ≤ 7) {P : List (List Int)} (hl : P.length ≤ 1048576) (v : Int × List Int × Bool) (hg : (∀ r ∈ P, clB m r = true) → Ev (fun k => spec_SpaceOfClauses.l1 k (m : Int) P [0] 0) v) (hb : P.all (clB m) = false → v = (0, [], false)) :
    ∀ rest pre : List (List Int), pre ++ rest = P → (∀ r ∈ pre, clB m r = true) → Ev (fun k => spec_SpaceOfClauses.l0 k (m : Int) P P (P.length : Int) (pre.length : Int)) v := by
  have hw : wrap64 ((m : Int) - 1) = (m : Int) - 1 := w64 (by omega) (by omega)
  intro rest
  induction rest with
  | nil =>
    intro pre h hpre
    obtain rfl : pre = P := by simpa using h
    refine Ev.step (fun k => by rw [spec_SpaceOfClauses.l0]) ?_
    simp only [show ¬ ((pre.length : Int) < (pre.length : Int)) from by omega, ↓reduceIte]
    exact hg hpre
  | cons r rest ih =>
    intro pre h hpre
    have hlen : P.length = pre.length + (rest.length + 1) := by rw [← h]; simp
    have e : rd_L2 P (pre.length : Int) = r := by rw [← h]; exact rdL_mid _ _ _
    refine Ev.step (fun k => by rw [spec_SpaceOfClauses.l0]) ?_
    simp only [show ((pre.length : Int) < (P.length : Int)) from by omega, show (0 : Int) ≤ (pre.length : Int) from by omega, e, hw, ↓reduceIte]
    have hbad : clB m r = false → v = (0, [], false) := fun hr => hb (by rw [← h]; simp [hr])
    have hgood : clB m r = true → Ev (fun k => spec_SpaceOfClauses.l0 k (m : Int) P P (P.length : Int) (wrap64 ((pre.length : Int) + 1))) v := by
      intro hr
      have := ih (pre ++ [r]) (by simp [h]) (fun z hz => (List.mem_append.1 hz).elim (hpre z) (fun h => by rw [List.mem_singleton.1 h]; exact hr))
      rw [List.length_append, List.length_singleton] at this
      rw [wnext (n := P.length) (by omega) (by omega)]
      exact this
    by_cases hl2 : r.length = 2
    rotate_left
    · simp only [show ¬ ((r.length : Int) = 2) from by omega, ↓reduceIte]
      rw [hbad (clB_len hl2)]
      exact Ev.some _
    match r, hl2, hbad, hgood with
    | [a, b], _, hbad, hgood =>
      have ea : rd [a, b] 0 = a := rfl
      have eb : rd [a, b] 1 = b := rfl
      simp only [List.length_cons, List.length_nil, ea, eb, show (((0 + 1 + 1 : Nat) : Int) = 2) from rfl, show ((0 : Int) < 2) from by omega, show ((1 : Int) < 2) from by omega, l1In_eq, show (0 : Int) ≤ (m : Int) from by omega, pow1 (show m ≤ 61 from by omega), Option.bind_some, ↓reduceIte]
      by_cases ha : 0 ≤ a ∧ a ≤ (m : Int) - 1
      rotate_left
      · simp only [decide_eq_false ha, ↓reduceIte, Bool.false_eq_true]
        rw [hbad (by simp [clB, decide_eq_false ha])]
        exact Ev.some _
      by_cases hs : 0 ≤ b ∧ b ≤ ((2 ^ m - 1 : Nat) : Int)
      rotate_left
      · simp only [decide_eq_true ha, decide_eq_false hs, ↓reduceIte, Bool.false_eq_true]
        rw [hbad (by simp only [clB, decide_eq_false hs, Bool.false_and, Bool.and_false])]
        exact Ev.some _
      obtain ⟨i, rfl⟩ := Int.eq_ofNat_of_zero_le ha.1
      obtain ⟨q, rfl⟩ := Int.eq_ofNat_of_zero_le hs.1
      simp only [decide_eq_true ha, decide_eq_true hs, ↓reduceIte, spIn_eq q i (by omega), Option.bind_some]
      cases hbit : q.testBit i with
      | true =>
        simp only [↓reduceIte]
        rw [hbad (by simp [clB, hbit])]
        exact Ev.some _
      | false =>
        simp only [↓reduceIte, Bool.false_eq_true]
        exact hgood (by simp only [clB, decide_eq_true ha, decide_eq_true hs, Int.toNat_natCast, hbit]; rfl)
theorem SpaceOfClauses_both (P : List (List Int)) (hl : P.length ≤ 1048576) (hrow : ∀ x ∈ P, x.length ≤ 1048576) (n : Int) : ∃ (n' : Int) (L : List Int) (b : Bool), L.length ≤ 1048576 ∧ Ev (fun k => spec_SpaceOfClauses.f k n P) (n', L, b) ∧ Ev (fun k => impl_SpaceOfClauses.f k n P) (n', L, b) := by
  have hno : Ev (fun k => impl_SpaceOfClauses.j0 k n P true) (0, [], false) := by
    refine Ev.step (fun k => by rw [impl_SpaceOfClauses.j0]) ?_
    simp only [↓reduceIte]; exact Ev.some _
  have hno2 : Ev (fun k => spec_SpaceOfClauses.j0 k n P true) (0, [], false) := by
    refine Ev.step (fun k => by rw [spec_SpaceOfClauses.j0]) ?_
    simp only [↓reduceIte]; exact Ev.some _
  by_cases h : 1 ≤ n ∧ n ≤ 7
  rotate_left
  · refine ⟨0, [], false, by simp, ?_, ?_⟩
    · unfold spec_SpaceOfClauses.f
      simp only [spItems_eq, Option.bind_some, decide_eq_false h, ↓reduceIte, Bool.false_eq_true]
      exact hno2
    · unfold impl_SpaceOfClauses.f
      simp only [isSize_eq, Option.bind_some, decide_eq_false h, ↓reduceIte, Bool.false_eq_true]
      exact hno
  obtain ⟨m, rfl⟩ := Int.eq_ofNat_of_zero_le (show 0 ≤ n by omega)
  have m7 : m ≤ 7 := by omega
  have m1 : 1 ≤ m := by omega
  have hp2 := pow_le_128 m7
  have hpos : 0 < 2 ^ m := Nat.two_pow_pos _
  by_cases h60 : P.length ≤ 60
  rotate_left
  · refine ⟨0, [], false, by simp, ?_, ?_⟩
    · unfold spec_SpaceOfClauses.f
      simp only [spItems_eq, Option.bind_some, decide_eq_true h, ↓reduceIte, decide_eq_true (show ((P.length : Int) > 60) from by omega)]
      exact hno2
    · unfold impl_SpaceOfClauses.f
      simp only [isSize_eq, Option.bind_some, decide_eq_true h, ↓reduceIte, decide_eq_true (show ((P.length : Int) > 60) from by omega)]
      exact hno
  have hs : ∀ v, Ev (fun k => spec_SpaceOfClauses.l0 k (m : Int) P P (P.length : Int) 0) v → Ev (fun k => spec_SpaceOfClauses.f k (m : Int) P) v := by
    intro v hv
    unfold spec_SpaceOfClauses.f
    simp only [spItems_eq, Option.bind_some, decide_eq_true h, ↓reduceIte, decide_eq_false (show ¬ ((P.length : Int) > 60) from by omega)]
    refine Ev.step (fun k => by rw [spec_SpaceOfClauses.j0]) ?_
    simp only [↓reduceIte, Bool.false_eq_true]
    exact hv
  have hi : ∀ v, Ev (fun k => impl_SpaceOfClauses.l0 k (m : Int) P P (P.length : Int) 0) v → Ev (fun k => impl_SpaceOfClauses.f k (m : Int) P) v := by
    intro v hv
    unfold impl_SpaceOfClauses.f
    simp only [isSize_eq, Option.bind_some, decide_eq_true h, ↓reduceIte, decide_eq_false (show ¬ ((P.length : Int) > 60) from by omega)]
    refine Ev.step (fun k => by rw [impl_SpaceOfClauses.j0]) ?_
    simp only [↓reduceIte, Bool.false_eq_true]
    exact hv
  cases hall : P.all (clB m) with
  | false =>
    have hf : ¬ ∀ r ∈ P, clB m r = true := fun hh => by rw [List.all_eq_true.2 hh] at hall; cases hall
    exact ⟨0, [], false, by simp, hs _ (spec_cl_check m1 m7 hl _ (fun hh => (hf hh).elim) (fun _ => rfl) P [] rfl (by simp)), hi _ (impl_cl_check m1 m7 hl _ (fun hh => (hf hh).elim) (fun _ => rfl) P [] rfl (by simp))⟩
  | true =>
    have hP := List.all_eq_true.1 hall
    have hnf : ∀ {v : Int × List Int × Bool}, P.all (clB m) = false → v = (0, [], false) := fun hh => by rw [hall] at hh; cases hh
    have hRl : (listN (clR P)).length ≤ 128 := inc_len (inc_listN _) (fun z hz => (mem_listN.1 hz).1)
    have hR : ∀ z, z ∈ listN (clR P) ↔ CL P z := fun z => by
      rw [mem_listN, clR_iff]
      exact ⟨fun hh => hh.2, fun hh => ⟨by have := hh.lt hP m7; omega, hh⟩⟩
    have hsl : ∀ v, Ev (fun k => spec_spIf.f k (m : Int) (castL (listN (clR P)))) v → Ev (fun k => spec_SpaceOfClauses.f k (m : Int) P) v := by
      intro v hv
      refine hs _ (spec_cl_check m1 m7 hl _ (fun _ => ?_) hnf P [] rfl (by simp))
      refine spec_cl_loop m7 hl hP v (fun A hI hA => ?_) m 0 [0] (by omega) (List.pairwise_singleton _ _) (fun z => ?_)
      · rw [inc_ext hI (inc_listN _) (fun z => by rw [hA, hR])]
        exact hv
      · rw [List.mem_singleton]
        constructor
        · rintro rfl; exact ⟨.zero, by decide⟩
        · rintro ⟨h1, h2⟩
          have := h1.lt hP m7
          exact cnt_zero ⟨z, by omega⟩ (Nat.le_zero.1 h2)
    have hil : ∀ v, Ev (fun k => impl_SpaceOfClauses.l1 k (m : Int) P (famN (clR P)) 128) v → Ev (fun k => impl_SpaceOfClauses.f k (m : Int) P) v := by
      intro v hv
      refine hi _ (impl_cl_check m1 m7 hl _ (fun _ => ?_) hnf P [] rfl (by simp))
      refine impl_cl_loop m7 hl hP v hv 128 0 _ (by omega) (fun z hz => ?_) rfl (fun y hy => by omega)
      rw [beq_iff_eq] at hz; subst hz; exact .zero
    by_cases hf : CL P (2 ^ m - 1)
    · have hS := clR_space m1 m7 hP hf (inc_listN _) hR
      refine ⟨(m : Int), castL (listN (clR P)), true, by rw [castL_length]; omega, hsl _ (spIf_yes hS), hil _ ?_⟩
      refine Ev.step (fun k => by rw [impl_SpaceOfClauses.l1]) ?_
      simp only [show ¬ ((128 : Int) < 128) from by omega, ↓reduceIte, show (0 : Int) ≤ (m : Int) from by omega, pow1 (show m ≤ 61 from by omega), show (0 : Int) ≤ ((2 ^ m - 1 : Nat) : Int) from by omega, famN_length, show (((2 ^ m - 1 : Nat) : Int) < ((128 : Nat) : Int)) from by omega, show (((2 ^ m - 1 : Nat) : Int) < 128) from by omega, famN_get _ (show 2 ^ m - 1 < 128 by omega), clR_iff.2 hf]
      exact Ev.bind (fam_space_ev _ _) (Ev.some _)
    · refine ⟨0, [], false, by simp, hsl _ (spIf_no (by omega) (fun hh => hf ((hR _).1 hh))), hil _ ?_⟩
      have hcf : clR P (2 ^ m - 1) = false := by rw [Bool.eq_false_iff]; exact fun hh => hf (clR_iff.1 hh)
      refine Ev.step (fun k => by rw [impl_SpaceOfClauses.l1]) ?_
      simp only [show ¬ ((128 : Int) < 128) from by omega, ↓reduceIte, show (0 : Int) ≤ (m : Int) from by omega, pow1 (show m ≤ 61 from by omega), show (0 : Int) ≤ ((2 ^ m - 1 : Nat) : Int) from by omega, famN_length, show (((2 ^ m - 1 : Nat) : Int) < ((128 : Nat) : Int)) from by omega, show (((2 ^ m - 1 : Nat) : Int) < 128) from by omega, famN_get _ (show 2 ^ m - 1 < 128 by omega), hcf, Bool.false_eq_true]
      exact Ev.some _
end Go.Proofs.Ythpbmecinoninaa.Q
