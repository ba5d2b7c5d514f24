/- The space of sets that can be taken away: both; conditions: as each theorem states. -/
import Derived.Test.YtnpfkbfmipnofaaCFnExactChordalSpaceQElimOf
import Derived.Test.YtnpfkbfmipnofaaCFnExactChordalSpaceQIns
import Derived.Test.YtnpfkbfmipnofaaCFnExactChordalSpaceP5
namespace Go.Proofs.Ytnpfkbfmipnofaa.Q
open Go.RowKit Go.Proofs.YtnpfkbfmipnofaaW.PrintWords Go.Proofs.YtnpfkbfmipnofaaW.PrintLast Go.Proofs.YtnpfkbfmipnofaaW.PrintMore Go.Proofs.Ytnpfkbfmipnofaa.P
set_option linter.unusedVariables false
set_option linter.unusedSimpArgs false

theorem andn_or_self {x i : Nat} (h : x.testBit i = false) : andn (x ||| 2 ^ i) (2 ^ i) = x := by
  apply Nat.eq_of_testBit_eq
  intro j
  rw [testBit_andn, Nat.testBit_or, Nat.testBit_two_pow]
  by_cases e : i = j
  · subst e; simp [h]
  · simp [e]
theorem or_andn_self {x i : Nat} (h : x.testBit i = true) : andn x (2 ^ i) ||| 2 ^ i = x := by
  apply Nat.eq_of_testBit_eq
  intro j
  rw [Nat.testBit_or, testBit_andn, Nat.testBit_two_pow]
  by_cases e : i = j
  · subst e; simp [h]
  · simp [e]
theorem andn_full {n x i : Nat} (hi : i < n) (hx : x.testBit i = true) : andn (2 ^ n - 1) x ||| 2 ^ i = andn (2 ^ n - 1) (andn x (2 ^ i)) := by
  apply Nat.eq_of_testBit_eq
  intro j
  rw [Nat.testBit_or, testBit_andn, testBit_andn, testBit_andn, Nat.testBit_two_pow, Nat.testBit_two_pow_sub_one]
  by_cases e : i = j
  · subst e; simp [hi]
  · simp [e]
/-- The sets that can be taken away, one simplicial point after the other. -/
inductive CR (T : List Nat) : Nat → Prop
  | zero : CR T 0
  | step {x i : Nat} : CR T x → i < T.length → x.testBit i = false → simpN T i (andn (2 ^ T.length - 1) x) = true → CR T (x ||| 2 ^ i)
theorem CR.lt {T : List Nat} {z : Nat} (h : CR T z) : z < 2 ^ T.length := by
  induction h with
  | zero => exact Nat.two_pow_pos _
  | step _ hi _ _ ih => exact Nat.or_lt_two_pow ih (Nat.pow_lt_pow_right (by omega) hi)
theorem CR.inv {T : List Nat} {z : Nat} (h : CR T z) (h0 : z ≠ 0) : ∃ i, i < T.length ∧ z.testBit i = true ∧ CR T (andn z (2 ^ i)) ∧ simpN T i (andn (2 ^ T.length - 1) (andn z (2 ^ i))) = true := by
  cases h with
  | zero => exact absurd rfl h0
  | @step x i h1 hi hb hs =>
    refine ⟨i, hi, by rw [Nat.testBit_or, Nat.testBit_two_pow]; simp, ?_, ?_⟩
    · rw [andn_or_self hb]; exact h1
    · rw [andn_or_self hb]; exact hs
theorem CR.intro' {T : List Nat} {z i : Nat} (hi : i < T.length) (hb : z.testBit i = true) (h : CR T (andn z (2 ^ i))) (hs : simpN T i (andn (2 ^ T.length - 1) (andn z (2 ^ i))) = true) : CR T z := by
  have h2 := CR.step h hi (by rw [testBit_andn, Nat.testBit_two_pow]; simp) hs
  rwa [or_andn_self hb] at h2
noncomputable def crB (T : List Nat) (z : Nat) : Bool := @decide (CR T z) (Classical.propDecidable _)
theorem crB_iff {T : List Nat} {z : Nat} : crB T z = true ↔ CR T z := by unfold crB; exact @decide_eq_true_iff _ (Classical.propDecidable _)
theorem mem_upN {p : Nat → Bool} {c z : Nat} : z ∈ upN p c ↔ z < c ∧ p z = true := by simp [upN]
theorem inc_upN (p : Nat → Bool) (c : Nat) : Inc (upN p c) := (inc_range c).filter _

/-! ### the program -/
theorem impl_ch_in {T : List Nat} (h7 : T.length ≤ 7) {x : Nat} (hx : x < 128) (A : Int) (I : List Nat) (hI : ∀ i ∈ I, i < 7) (hl : I.length ≤ 7) (v : Int × List Int × Bool) : ∀ (rest pre : List Nat) (p : Nat → Bool), pre ++ rest = I →
    Ev (fun k => impl_ChordalSpace.l0 k (famN fun z => p z || rest.any fun i => z == (x ||| 2 ^ i)) A (wrap64 ((x : Int) + 1)) (castL T)) v →
    Ev (fun k => impl_ChordalSpace.l1 k (famN p) (x : Int) A (x : Int) (castL I) (I.length : Int) (pre.length : Int) (castL T)) v := by
  intro rest
  induction rest with
  | nil =>
    intro pre p e hv
    obtain rfl : pre = I := by simpa using e
    refine Ev.step (fun k => by rw [impl_ChordalSpace.l1]) ?_
    simp only [show ¬ ((pre.length : Int) < (pre.length : Int)) from by omega, ↓reduceIte]
    refine Ev.congr (fun k => ?_) hv
    congr 1
    apply famN_congr
    intro z _
    simp
  | cons i rest ih =>
    intro pre p e hv
    have hlen : I.length = pre.length + (rest.length + 1) := by rw [← e]; simp
    have er : rd (castL I) (pre.length : Int) = (i : Int) := by rw [← e]; exact rd_castL_mid _ _ _
    have hi := hI i (by rw [← e]; simp)
    have h2i := pow_lt_128 hi
    have hxi : x ||| 2 ^ i < 128 := Nat.or_lt_two_pow (n := 7) hx h2i
    have hn := ih (pre ++ [i]) (fun z => p z || z == (x ||| 2 ^ i)) (by simp [e]) (by
      refine Ev.congr (fun k => ?_) hv
      congr 1
      apply famN_congr
      intro z _
      simp only [List.any_cons, Bool.or_assoc])
    simp only [List.length_append, List.length_singleton] at hn
    refine Ev.step (fun k => by rw [impl_ChordalSpace.l1]) ?_
    simp only [show ((pre.length : Int) < (I.length : Int)) from by omega, show (0 : Int) ≤ (pre.length : Int) from by omega, castL_length, er, show (0 : Int) ≤ (i : Int) from by omega, shl1 (show i ≤ 61 from by omega), bOr (show x < 2 ^ 62 from by omega) (show 2 ^ i < 2 ^ 62 from by omega), famN_length, show (0 : Int) < ((128 : Nat) : Int) from by omega, show (0 : Int) ≤ ((x ||| 2 ^ i : Nat) : Int) from by omega, show (((x ||| 2 ^ i : Nat) : Int) < ((128 : Nat) : Int)) from by omega, show (((x ||| 2 ^ i : Nat) : Int) < 128) from by omega, Int.toNat_natCast, famN_set, ↓reduceIte]
    rw [wnext (n := I.length) (by omega) (by omega)]
    exact hn
theorem impl_ch_loop {T : List Nat} (h : NetN T) : ∀ (d x : Nat) (p : Nat → Bool), x + d = 2 ^ T.length - 1 → (∀ z, p z = true → CR T z) → p 0 = true →
    (∀ y, y < x → CR T y → ∀ i, i < T.length → y.testBit i = false → simpN T i (andn (2 ^ T.length - 1) y) = true → p (y ||| 2 ^ i) = true) →
    Ev (fun k => impl_ChordalSpace.l0 k (famN p) ((2 ^ T.length - 1 : Nat) : Int) (x : Int) (castL T)) ((T.length : Int), castL (listN (crB T)), true) := by
  have hl7 := h.l7
  have hp2 := pow_le_128 hl7
  have hpos : 0 < 2 ^ T.length := Nat.two_pow_pos _
  intro d
  induction d with
  | zero =>
    intro x p e h1 h2 h3
    obtain rfl : x = 2 ^ T.length - 1 := by omega
    refine Ev.step (fun k => by rw [impl_ChordalSpace.l0]) ?_
    simp only [show ¬ (((2 ^ T.length - 1 : Nat) : Int) < ((2 ^ T.length - 1 : Nat) : Int)) from by omega, ↓reduceIte, castL_length]
    have e2 : famN p = famN (crB T) := by
      apply famN_congr
      intro z _
      rw [Bool.eq_iff_iff, crB_iff]
      refine ⟨h1 z, fun hz => ?_⟩
      by_cases hz0 : z = 0
      · subst hz0; exact h2
      · obtain ⟨i, hi, hb, hc, hs⟩ := hz.inv hz0
        have hlt := andn_bit_lt hb
        have hzl := hz.lt
        have := h3 (andn z (2 ^ i)) (by omega) hc i hi (by rw [testBit_andn, Nat.testBit_two_pow]; simp) hs
        rwa [or_andn_self hb] at this
    rw [e2]
    exact Ev.bind (fam_space_ev _ _) (Ev.some _)
  | succ d ih =>
    intro x p e h1 h2 h3
    have hx : x < 2 ^ T.length - 1 := by omega
    have hx2 : x < 128 := by omega
    have hpx : p x = true ↔ CR T x := by
      refine ⟨h1 x, fun hz => ?_⟩
      by_cases hz0 : x = 0
      · subst hz0; exact h2
      · obtain ⟨i, hi, hb, hc, hs⟩ := hz.inv hz0
        have hlt := andn_bit_lt hb
        have := h3 (andn x (2 ^ i)) hlt hc i hi (by rw [testBit_andn, Nat.testBit_two_pow]; simp) hs
        rwa [or_andn_self hb] at this
    refine Ev.step (fun k => by rw [impl_ChordalSpace.l0]) ?_
    simp only [show ((x : Int) < ((2 ^ T.length - 1 : Nat) : Int)) from by omega, show (0 : Int) ≤ (x : Int) from by omega, famN_length, show ((x : Int) < ((128 : Nat) : Int)) from by omega, show ((x : Int) < 128) from by omega, famN_get _ hx2, ↓reduceIte]
    by_cases hp : p x = true
    · have hcx := hpx.1 hp
      have hal : andn (2 ^ T.length - 1) x < 2 ^ T.length := andn_lt (by omega)
      have hq : simpOf T (andn (2 ^ T.length - 1) x) T.length < 2 ^ T.length := simpOf_lt
      simp only [hp, ↓reduceIte, netAll_eq (show T.length ≤ 61 from by omega), Option.bind_some, bAndn (show 2 ^ T.length - 1 < 2 ^ 62 from by omega) (show x < 2 ^ 62 from by omega)]
      refine Ev.bind (simplicial_ev h hal) ?_
      refine Ev.bind (items_ev (show simpOf T (andn (2 ^ T.length - 1) x) T.length < 128 by omega)) ?_
      rw [castL_length]
      have hmem : ∀ i, i ∈ itemsN (simpOf T (andn (2 ^ T.length - 1) x) T.length) ↔ i < 7 ∧ i < T.length ∧ x.testBit i = false ∧ simpN T i (andn (2 ^ T.length - 1) x) = true := by
        intro i
        rw [mem_itemsN, simpOf_bit, testBit_andn, Nat.testBit_two_pow_sub_one]
        simp only [Bool.and_eq_true, decide_eq_true_eq, Bool.not_eq_true']
        constructor
        · rintro ⟨a, b, ⟨_, c⟩, d⟩; exact ⟨a, b, c, d⟩
        · rintro ⟨a, b, c, d⟩; exact ⟨a, b, ⟨b, c⟩, d⟩
      refine impl_ch_in hl7 hx2 _ _ (fun i hi => ((hmem i).1 hi).1) (Nat.le_trans (List.length_filter_le _ _) (by simp)) _ _ [] p rfl ?_
      rw [wnext (n := 128) hx2 (by omega)]
      refine ih (x + 1) _ (by omega) ?_ (by simp [h2]) ?_
      · intro z hz
        simp only [Bool.or_eq_true, List.any_eq_true, beq_iff_eq] at hz
        rcases hz with hz | ⟨i, hi, rfl⟩
        · exact h1 z hz
        · obtain ⟨_, a, b, c⟩ := (hmem i).1 hi
          exact .step hcx a b c
      · intro y hy hcy i hi hb hs
        simp only [Bool.or_eq_true, List.any_eq_true, beq_iff_eq]
        by_cases e2 : y = x
        · subst e2; exact .inr ⟨i, (hmem i).2 ⟨by omega, hi, hb, hs⟩, rfl⟩
        · exact .inl (h3 y (by omega) hcy i hi hb hs)
    · simp only [hp, ↓reduceIte]
      rw [wnext (n := 128) hx2 (by omega)]
      refine ih (x + 1) p (by omega) h1 h2 (fun y hy hcy i hi hb hs => ?_)
      by_cases e2 : y = x
      · subst e2; exact absurd (hpx.2 hcy) hp
      · exact h3 y (by omega) hcy i hi hb hs

/-! ### the reference -/
def foundB (T : List Nat) (q : Nat → Bool) (c : Nat) : Nat → Nat → Bool
  | _, 0 => false
  | i, d + 1 => (c.testBit i && (q (andn c (2 ^ i)) && simpN T i (andn (2 ^ T.length - 1) (andn c (2 ^ i))))) || foundB T q c (i + 1) d
theorem foundB_iff {T : List Nat} {q : Nat → Bool} {c : Nat} : ∀ {d i : Nat}, foundB T q c i d = true ↔ ∃ j, i ≤ j ∧ j < i + d ∧ c.testBit j = true ∧ q (andn c (2 ^ j)) = true ∧ simpN T j (andn (2 ^ T.length - 1) (andn c (2 ^ j))) = true
  | 0, i => by
    simp only [foundB, Bool.false_eq_true, false_iff]
    rintro ⟨j, h1, h2, _⟩; omega
  | d + 1, i => by
    simp only [foundB, Bool.or_eq_true, Bool.and_eq_true, foundB_iff (d := d)]
    constructor
    · rintro (⟨h1, h2, h3⟩ | ⟨j, h1, h2, h3⟩)
      · exact ⟨i, by omega, by omega, h1, h2, h3⟩
      · exact ⟨j, by omega, by omega, h3⟩
    · rintro ⟨j, h1, h2, h3⟩
      by_cases e : j = i
      · subst e; exact .inl h3
      · exact .inr ⟨j, by omega, by omega, h3⟩
theorem spec_ch_in {T : List Nat} (h : NetN T) {c : Nat} (hc : c < 2 ^ T.length) (v : Int × List Int × Bool) : ∀ (d i : Nat) (g : Bool), i + d = T.length →
    Ev (fun k => if (g || foundB T (fun z => decide (z ∈ upN (crB T) c)) c i d) = true then (if (castL (upN (crB T) c)).length < 17592186044416 then spec_ChordalSpace.l0 k ((2 ^ T.length - 1 : Nat) : Int) (wrap64 ((c : Int) + 1)) (castL T) (T.length : Int) (castL (upN (crB T) c) ++ [(c : Int)]) else none) else spec_ChordalSpace.l0 k ((2 ^ T.length - 1 : Nat) : Int) (wrap64 ((c : Int) + 1)) (castL T) (T.length : Int) (castL (upN (crB T) c))) v →
    Ev (fun k => spec_ChordalSpace.l1 k ((2 ^ T.length - 1 : Nat) : Int) (c : Int) g (T.length : Int) (i : Int) (castL T) (T.length : Int) (castL (upN (crB T) c))) v := by
  have hl7 := h.l7
  have hp2 := pow_le_128 hl7
  have hul := upN_le (crB T) c
  intro d
  induction d with
  | zero =>
    intro i g e hv
    obtain rfl : i = T.length := by omega
    refine Ev.step (fun k => by rw [spec_ChordalSpace.l1]) ?_
    simp only [show ¬ ((T.length : Int) < (T.length : Int)) from by omega, ↓reduceIte]
    simpa [foundB] using hv
  | succ d ih =>
    intro i g e hv
    have hi : i < T.length := by omega
    have h2i := pow_lt_128 (show i < 7 by omega)
    refine Ev.step (fun k => by rw [spec_ChordalSpace.l1]) ?_
    simp only [show ((i : Int) < (T.length : Int)) from by omega, spIn_eq c i (by omega), Option.bind_some, ↓reduceIte]
    rw [wnext (n := T.length) hi (by omega)]
    by_cases hb : c.testBit i = true
    · have hbe := andn_full hi hb
      have hal : andn (2 ^ T.length - 1) c < 2 ^ T.length := andn_lt (by omega)
      have hal2 : andn (2 ^ T.length - 1) (andn c (2 ^ i)) < 2 ^ T.length := andn_lt (by omega)
      simp only [hb, ↓reduceIte, show (0 : Int) ≤ (i : Int) from by omega, shl1 (show i ≤ 61 from by omega), bAndn (show c < 2 ^ 62 from by omega) (show 2 ^ i < 2 ^ 62 from by omega)]
      refine Ev.bind (spHas_ev (inc_upN _ _) (by omega) _) ?_
      by_cases hm : andn c (2 ^ i) ∈ upN (crB T) c
      · simp only [decide_eq_true hm, ↓reduceIte, bAndn (show 2 ^ T.length - 1 < 2 ^ 62 from by omega) (show c < 2 ^ 62 from by omega), bOr (show andn (2 ^ T.length - 1) c < 2 ^ 62 from by omega) (show 2 ^ i < 2 ^ 62 from by omega), hbe]
        refine Ev.bind (shSimp_ev h hi (show andn (2 ^ T.length - 1) (andn c (2 ^ i)) < 128 by omega)) ?_
        cases hs : simpN T i (andn (2 ^ T.length - 1) (andn c (2 ^ i))) with
        | true =>
          simp only [↓reduceIte]
          refine ih (i + 1) true (by omega) ?_
          simpa [foundB, hb, hm, hs] using hv
        | false =>
          simp only [↓reduceIte, Bool.false_eq_true]
          refine ih (i + 1) g (by omega) ?_
          simpa [foundB, hb, hm, hs] using hv
      · simp only [decide_eq_false hm, ↓reduceIte, Bool.false_eq_true]
        refine ih (i + 1) g (by omega) ?_
        simpa [foundB, hb, hm] using hv
    · simp only [hb, ↓reduceIte]
      refine ih (i + 1) g (by omega) ?_
      simpa [foundB, hb] using hv
theorem spec_ch_loop {T : List Nat} (h : NetN T) : ∀ d c : Nat, c + d = 2 ^ T.length →
    Ev (fun k => spec_ChordalSpace.l0 k ((2 ^ T.length - 1 : Nat) : Int) (c : Int) (castL T) (T.length : Int) (castL (upN (crB T) c))) ((T.length : Int), castL (upN (crB T) (2 ^ T.length)), true) := by
  have hl7 := h.l7
  have hp2 := pow_le_128 hl7
  have hpos : 0 < 2 ^ T.length := Nat.two_pow_pos _
  intro d
  induction d with
  | zero =>
    intro c e
    obtain rfl : c = 2 ^ T.length := by omega
    refine Ev.step (fun k => by rw [spec_ChordalSpace.l0]) ?_
    simp only [show ¬ (((2 ^ T.length : Nat) : Int) ≤ ((2 ^ T.length - 1 : Nat) : Int)) from by omega, ↓reduceIte]
    exact Ev.some _
  | succ d ih =>
    intro c e
    have hc : c < 2 ^ T.length := by omega
    have hul := upN_le (crB T) c
    have hn := ih (c + 1) (by omega)
    rw [upN_succ] at hn
    refine Ev.step (fun k => by rw [spec_ChordalSpace.l0]) ?_
    simp only [show ((c : Int) ≤ ((2 ^ T.length - 1 : Nat) : Int)) from by omega, ↓reduceIte, castL_length]
    refine spec_ch_in h hc _ T.length 0 ((c : Int) == 0) (by omega) ?_
    have hfl : (((c : Int) == 0) || foundB T (fun z => decide (z ∈ upN (crB T) c)) c 0 T.length) = crB T c := by
      rw [Bool.eq_iff_iff, Bool.or_eq_true, crB_iff, foundB_iff, beq_iff_eq]
      constructor
      · rintro (h0 | ⟨j, _, h2, h3, h4, h5⟩)
        · obtain rfl : c = 0 := by omega
          exact .zero
        · rw [decide_eq_true_eq, mem_upN, crB_iff] at h4
          exact .intro' (by omega) h3 h4.2 h5
      · intro hz
        by_cases h0 : c = 0
        · exact .inl (by omega)
        · obtain ⟨i, hi, hb, hcc, hs⟩ := hz.inv h0
          exact .inr ⟨i, by omega, by omega, hb, by rw [decide_eq_true_eq, mem_upN, crB_iff]; exact ⟨andn_bit_lt hb, hcc⟩, hs⟩
    rw [hfl, wnext (n := 2 ^ T.length) hc (by omega)]
    by_cases hcr : crB T c = true
    · simp only [hcr, ↓reduceIte, castL_length, show (upN (crB T) c).length < 17592186044416 from by omega, castL_snoc] at hn ⊢
      exact hn
    · simp only [hcr, ↓reduceIte] at hn ⊢
      exact hn
theorem ChordalSpace_both (S : List Int) (hS : S.length ≤ 1048576) : ∃ (n' : Int) (L : List Int) (b : Bool), L.length ≤ 1048576 ∧ Ev (fun k => spec_ChordalSpace.f k S) (n', L, b) ∧ Ev (fun k => impl_ChordalSpace.f k S) (n', L, b) := by
  rcases net_cases (S := S) (by omega) with ⟨h1, h2⟩ | ⟨T, rfl, h, h1, h2⟩
  · refine ⟨0, [], false, by simp, ?_, ?_⟩
    · unfold spec_ChordalSpace.f
      refine Ev.bind h2 ?_
      simp only [↓reduceIte, Bool.false_eq_true]; exact Ev.some _
    · unfold impl_ChordalSpace.f
      refine Ev.bind h1 ?_
      simp only [↓reduceIte, Bool.false_eq_true]; exact Ev.some _
  · obtain ⟨L, b, hL, e1, e2⟩ := elim_both h
    have hl7 := h.l7
    have hp2 := pow_le_128 hl7
    have hpos : 0 < 2 ^ T.length := Nat.two_pow_pos _
    cases b with
    | false =>
      refine ⟨0, [], false, by simp, ?_, ?_⟩
      · unfold spec_ChordalSpace.f
        refine Ev.bind h2 ?_
        simp only [↓reduceIte]
        refine Ev.bind e1 ?_
        simp only [↓reduceIte, Bool.false_eq_true]; exact Ev.some _
      · unfold impl_ChordalSpace.f
        refine Ev.bind h1 ?_
        simp only [↓reduceIte]
        refine Ev.bind e2 ?_
        simp only [↓reduceIte, Bool.false_eq_true]; exact Ev.some _
    | true =>
      have hul := upN_le (crB T) (2 ^ T.length)
      have elist : listN (crB T) = upN (crB T) (2 ^ T.length) := inc_ext (inc_listN _) (inc_upN _ _) (fun z => by
        rw [mem_listN, mem_upN]
        constructor
        · rintro ⟨_, hz⟩; exact ⟨(crB_iff.1 hz).lt, hz⟩
        · rintro ⟨hz, hz2⟩; exact ⟨by omega, hz2⟩)
      refine ⟨(T.length : Int), castL (upN (crB T) (2 ^ T.length)), true, by rw [castL_length]; omega, ?_, ?_⟩
      · unfold spec_ChordalSpace.f
        refine Ev.bind h2 ?_
        simp only [↓reduceIte]
        refine Ev.bind e1 ?_
        simp only [↓reduceIte, castL_length, pow1 (show T.length ≤ 61 from by omega)]
        simpa [upN, castL_nil] using spec_ch_loop h (2 ^ T.length) 0 (by omega)
      · unfold impl_ChordalSpace.f
        refine Ev.bind h1 ?_
        simp only [↓reduceIte]
        refine Ev.bind e2 ?_
        have e0 : (List.replicate 128 false).set (0 : Int).toNat true = famN fun z => z == 0 := by decide
        simp only [↓reduceIte, Option.bind_some, List.length_replicate, show (0 : Int) < ((128 : Nat) : Int) from by omega, netAll_eq (show T.length ≤ 61 from by omega), e0]
        rw [← elist]
        have := impl_ch_loop h (2 ^ T.length - 1) 0 (fun z => z == 0) (by omega) (fun z hz => by
          rw [beq_iff_eq] at hz; subst hz; exact .zero) rfl (fun y hy => by omega)
        simpa using this
end Go.Proofs.Ytnpfkbfmipnofaa.Q
