/- All unions of the sets of a list: the program's closing of a family and the reference's list; conditions: as each theorem states. -/
import Derived.Test.YtnpfkbfmipnofaaCFnExactSpaceOfWordsQIns
import Derived.Test.YtnpfkbfmipnofaaCFnExactSpaceOfWordsQOwn
import Derived.Test.YtnpfkbfmipnofaaCFnExactSpaceOfWordsP3
namespace Go.Proofs.Ytnpfkbfmipnofaa.Q
open Go.RowKit Go.Proofs.YtnpfkbfmipnofaaW.PrintWords Go.Proofs.YtnpfkbfmipnofaaW.PrintLast Go.Proofs.YtnpfkbfmipnofaaW.PrintMore Go.Proofs.Ytnpfkbfmipnofaa.P
set_option linter.unusedVariables false
set_option linter.unusedSimpArgs false

/-- The unions of sets of B. -/
inductive UC (B : Nat → Prop) : Nat → Prop
  | zero : UC B 0
  | base {x : Nat} : B x → UC B x
  | or {a b : Nat} : UC B a → UC B b → UC B (a ||| b)
theorem UC.mono {B C : Nat → Prop} (h : ∀ x, B x → C x) {z : Nat} (hz : UC B z) : UC C z := by
  induction hz with
  | zero => exact .zero
  | base hx => exact .base (h _ hx)
  | or _ _ ha hb => exact .or ha hb
theorem UC.lt {B : Nat → Prop} {n : Nat} (h : ∀ x, B x → x < 2 ^ n) {z : Nat} (hz : UC B z) : z < 2 ^ n := by
  induction hz with
  | zero => exact Nat.two_pow_pos _
  | base hx => exact h _ hx
  | or _ _ ha hb => exact Nat.or_lt_two_pow ha hb

/-! ### the program -/
theorem or_ge {x y : Nat} : x ≤ x ||| y := Nat.left_le_or
theorem closed_in (x : Nat) (hx : x < 128) : ∀ (d y : Nat) (p : Nat → Bool), y + d = x →
    ∃ p' : Nat → Bool, (∀ z, p z = true → p' z = true) ∧ (∀ z, p' z = true → p z = true ∨ ∃ u, u < x ∧ p x = true ∧ p u = true ∧ z = x ||| u) ∧
      (∀ u, y ≤ u → u < x → p x = true → p u = true → p' (x ||| u) = true) ∧
      ∀ r, Ev (fun k => impl_family_closed.l0 k (famN p') (wrap64 ((x : Int) + 1))) r → Ev (fun k => impl_family_closed.l1 k (famN p) (x : Int) (x : Int) (x : Int) (y : Int)) r := by
  intro d
  induction d with
  | zero =>
    intro y p h
    obtain rfl : y = x := by omega
    refine ⟨p, fun z h => h, fun z h => .inl h, fun u h1 h2 => by omega, fun r hr => ?_⟩
    refine Ev.step (fun k => by rw [impl_family_closed.l1]) ?_
    simp only [show ¬ ((y : Int) < (y : Int)) from by omega, ↓reduceIte]
    exact hr
  | succ d ih =>
    intro y p h
    have hy : y < x := by omega
    have hy2 : y < 128 := by omega
    have hw : wrap64 ((y : Int) + 1) = ((y + 1 : Nat) : Int) := wnext (n := 128) hy2 (by omega)
    have unf : ∀ r, Ev (fun k => if p x = true then (if p y = true then impl_family_closed.l1 k (famN fun z => p z || z == (x ||| y)) (x : Int) (x : Int) (x : Int) ((y + 1 : Nat) : Int) else impl_family_closed.l1 k (famN p) (x : Int) (x : Int) (x : Int) ((y + 1 : Nat) : Int)) else impl_family_closed.l1 k (famN p) (x : Int) (x : Int) (x : Int) ((y + 1 : Nat) : Int)) r →
        Ev (fun k => impl_family_closed.l1 k (famN p) (x : Int) (x : Int) (x : Int) (y : Int)) r := by
      intro r hr
      have hxy : x ||| y < 128 := Nat.or_lt_two_pow (n := 7) hx hy2
      refine Ev.step (fun k => by rw [impl_family_closed.l1]) ?_
      simp only [show ((y : Int) < (x : Int)) from by omega, show (0 : Int) ≤ (x : Int) from by omega, show (0 : Int) ≤ (y : Int) from by omega, famN_length, show ((x : Int) < ((128 : Nat) : Int)) from by omega, show ((x : Int) < 128) from by omega, show ((y : Int) < ((128 : Nat) : Int)) from by omega, show ((y : Int) < 128) from by omega, famN_get _ hx, famN_get _ hy2, bOr (show x < 2 ^ 62 from by omega) (show y < 2 ^ 62 from by omega),
        show (0 : Int) ≤ ((x ||| y : Nat) : Int) from by omega, show (((x ||| y : Nat) : Int) < ((128 : Nat) : Int)) from by omega, show (((x ||| y : Nat) : Int) < 128) from by omega, Int.toNat_natCast, famN_set, hw, ↓reduceIte]
      exact hr
    by_cases h1 : p x = true
    · by_cases h2 : p y = true
      · obtain ⟨p', q1, q2, q3, q4⟩ := ih (y + 1) (fun z => p z || z == (x ||| y)) (by omega)
        have hge := or_ge (x := x) (y := y)
        have low : ∀ u, u < x → ((p u || u == (x ||| y)) = true ↔ p u = true) := by
          intro u hu
          have : (u == (x ||| y)) = false := by rw [beq_eq_false_iff_ne]; omega
          simp [this]
        have atx : (p x || x == (x ||| y)) = true := by simp [h1]
        refine ⟨p', fun z hz => q1 z (by simp [hz]), fun z hz => ?_, fun u hu1 hu2 hpx hpu => ?_, fun r hr => unf r ?_⟩
        · rcases q2 z hz with h3 | ⟨u, hu, _, hpu, e⟩
          · simp only [Bool.or_eq_true, beq_iff_eq] at h3
            rcases h3 with h3 | h3
            · exact .inl h3
            · exact .inr ⟨y, hy, h1, h2, h3⟩
          · exact .inr ⟨u, hu, h1, (low u hu).1 hpu, e⟩
        · by_cases e : u = y
          · subst e
            exact q1 _ (by simp)
          · exact q3 u (by omega) hu2 atx ((low u hu2).2 hpu)
        · simp only [h1, h2, ↓reduceIte]
          exact q4 r hr
      · obtain ⟨p', q1, q2, q3, q4⟩ := ih (y + 1) p (by omega)
        refine ⟨p', q1, q2, fun u hu1 hu2 hpx hpu => ?_, fun r hr => unf r ?_⟩
        · by_cases e : u = y
          · subst e; exact absurd hpu h2
          · exact q3 u (by omega) hu2 hpx hpu
        · simp only [h1, h2, ↓reduceIte, Bool.false_eq_true]
          exact q4 r hr
    · obtain ⟨p', q1, q2, q3, q4⟩ := ih (y + 1) p (by omega)
      refine ⟨p', q1, q2, fun u hu1 hu2 hpx hpu => absurd hpx h1, fun r hr => unf r ?_⟩
      simp only [h1, ↓reduceIte, Bool.false_eq_true]
      exact q4 r hr
theorem closed_loop {B : Nat → Prop} (hB : ∀ x, B x → x < 128) : ∀ (d x : Nat) (p : Nat → Bool), x + d = 128 → (∀ z, p z = true → UC B z) → p 0 = true → (∀ b, B b → p b = true) →
    (∀ a b, a < b → b < x → p a = true → p b = true → p (b ||| a) = true) →
    ∃ p' : Nat → Bool, Ev (fun k => impl_family_closed.l0 k (famN p) (x : Int)) (famN p') ∧ ∀ z, z < 128 → (p' z = true ↔ UC B z) := by
  intro d
  induction d with
  | zero =>
    intro x p h i1 i2 i3 i4
    obtain rfl : x = 128 := by omega
    refine ⟨p, ?_, fun z hz => ⟨i1 z, fun hu => ?_⟩⟩
    · refine Ev.step (fun k => by rw [impl_family_closed.l0]) ?_
      simp only [show ¬ (((128 : Nat) : Int) < 128) from by omega, ↓reduceIte]
      exact Ev.some _
    · have : ∀ z, UC B z → z < 128 ∧ p z = true := by
        intro z hz
        induction hz with
        | zero => exact ⟨by omega, i2⟩
        | base hx => exact ⟨hB _ hx, i3 _ hx⟩
        | @or a b _ _ ha hb =>
          refine ⟨Nat.or_lt_two_pow (n := 7) ha.1 hb.1, ?_⟩
          rcases Nat.lt_trichotomy a b with g | g | g
          · rw [Nat.or_comm]; exact i4 a b g hb.1 ha.2 hb.2
          · subst g; rw [Nat.or_self]; exact ha.2
          · exact i4 b a g ha.1 hb.2 ha.2
      exact (this z hu).2
  | succ d ih =>
    intro x p h i1 i2 i3 i4
    have hx : x < 128 := by omega
    obtain ⟨p', q1, q2, q3, q4⟩ := closed_in x hx x 0 p (by omega)
    have low : ∀ u, u ≤ x → p' u = true → p u = true := by
      intro u hu hp
      rcases q2 u hp with h1 | ⟨v, _, hpx, _, e⟩
      · exact h1
      · have := or_ge (x := x) (y := v)
        have : u = x := by omega
        subst this; exact hpx
    obtain ⟨p2, r1, r2⟩ := ih (x + 1) p' (by omega) (fun z hz => by
        rcases q2 z hz with h1 | ⟨v, _, hpx, hpv, rfl⟩
        · exact i1 z h1
        · exact .or (i1 _ hpx) (i1 _ hpv)) (q1 _ i2) (fun b hb => q1 _ (i3 b hb)) (fun a b hab hb ha hpb => by
        have ha' := low a (by omega) ha
        have hb' := low b (by omega) hpb
        by_cases e : b = x
        · subst e; exact q3 a (by omega) hab hb' ha'
        · exact q1 _ (i4 a b hab (by omega) ha' hb'))
    refine ⟨p2, ?_, r2⟩
    refine Ev.step (fun k => by rw [impl_family_closed.l0]) ?_
    simp only [show ((x : Int) < 128) from by omega, ↓reduceIte]
    have := q4 (famN p2) (by rw [wnext (n := 128) hx (by omega)]; exact r1)
    simpa using this
/-- The program's closing. -/
theorem closed_ev {L : List Nat} (hL : ∀ x ∈ L, x < 128) : ∃ p : Nat → Bool, Ev (fun k => impl_family_closed.f k (famN fun y => decide (y ∈ L))) (famN p) ∧ ∀ z, z < 128 → (p z = true ↔ UC (· ∈ L) z) := by
  obtain ⟨p, h1, h2⟩ := closed_loop (B := (· ∈ L)) hL 128 0 (fun y => decide (y ∈ L) || y == 0) rfl (fun z hz => by
    simp only [Bool.or_eq_true, decide_eq_true_eq, beq_iff_eq] at hz
    rcases hz with hz | rfl
    · exact .base hz
    · exact .zero) (by simp) (fun b hb => by simp [hb]) (fun a b _ hb => by omega)
  refine ⟨p, ?_, h2⟩
  unfold impl_family_closed.f
  have e0 : (0 : Int).toNat = 0 := rfl
  simp only [famN_length, show (0 : Int) < ((128 : Nat) : Int) from by omega, ↓reduceIte, e0, famN_set]
  simpa using h1

/-! ### the reference -/
/-- All that is put in one round. -/
def putL (x : Nat) : List Nat → List Nat → List Nat
  | [], R => R
  | y :: r, R => putL x r (insN (x ||| y) R)
theorem putL_inc {x : Nat} : ∀ {l R : List Nat}, Inc R → Inc (putL x l R)
  | [], _, h => h
  | y :: r, R, h => putL_inc (l := r) (inc_insN h)
theorem mem_putL {x z : Nat} : ∀ {l R : List Nat}, z ∈ putL x l R ↔ z ∈ R ∨ ∃ y ∈ l, z = x ||| y
  | [], R => by simp [putL]
  | y :: r, R => by
    simp only [putL, mem_putL (l := r), mem_insN, List.mem_cons]
    constructor
    · rintro ((h | h) | ⟨u, hu, e⟩)
      · exact .inr ⟨y, .inl rfl, h⟩
      · exact .inl h
      · exact .inr ⟨u, .inr hu, e⟩
    · rintro (h | ⟨u, rfl | hu, e⟩)
      · exact .inl (.inr h)
      · exact .inl (.inl e)
      · exact .inr ⟨u, hu, e⟩
theorem inc_len {R : List Nat} (hi : Inc R) (hR : ∀ x ∈ R, x < 128) : R.length ≤ 128 := by
  have e : listN (fun y => decide (y ∈ R)) = R := by
    refine inc_ext (inc_listN _) hi (fun x => ?_)
    rw [mem_listN, decide_eq_true_eq]
    exact ⟨fun h => h.2, fun h => ⟨hR x h, h⟩⟩
  rw [← e]
  exact Nat.le_trans (List.length_filter_le _ _) (by simp)
theorem unions_in {x : Nat} (hx : x < 128) (L : List Int) (nl i : Int) (O : List Nat) (hO : ∀ y ∈ O, y < 128) (hl : O.length ≤ 128) (r : List Int) : ∀ (rest pre R : List Nat), pre ++ rest = O → Inc R → (∀ y ∈ R, y < 128) →
    Ev (fun k => spec_spUnions.l0 k (castL (putL x rest R)) L nl (wrap64 (i + 1))) r →
    Ev (fun k => spec_spUnions.l1 k (castL R) (x : Int) L nl i (castL O) (O.length : Int) (pre.length : Int)) r := by
  intro rest
  induction rest with
  | nil =>
    intro pre R e hI hR hr
    obtain rfl : pre = O := by simpa using e
    refine Ev.step (fun k => by rw [spec_spUnions.l1]) ?_
    simp only [show ¬ ((pre.length : Int) < (pre.length : Int)) from by omega, ↓reduceIte]
    exact hr
  | cons y rest ih =>
    intro pre R e hI hR hr
    have hy : y < 128 := hO y (by rw [← e]; simp)
    have hxy : x ||| y < 128 := Nat.or_lt_two_pow (n := 7) hx hy
    have hlen : O.length = pre.length + (rest.length + 1) := by rw [← e]; simp
    have er : rd (castL O) (pre.length : Int) = (y : Int) := by rw [← e]; exact rd_castL_mid _ _ _
    have hRl := inc_len hI hR
    have hn := ih (pre ++ [y]) (insN (x ||| y) R) (by simp [e]) (inc_insN hI) (fun z hz => by
      rcases mem_insN.1 hz with rfl | hz
      · exact hxy
      · exact hR z hz) hr
    simp only [List.length_append, List.length_singleton] at hn
    refine Ev.step (fun k => by rw [spec_spUnions.l1]) ?_
    simp only [show ((pre.length : Int) < (O.length : Int)) from by omega, show (0 : Int) ≤ (pre.length : Int) from by omega, castL_length, er, bOr (show x < 2 ^ 62 from by omega) (show y < 2 ^ 62 from by omega), ↓reduceIte]
    refine Ev.bind (spPut_ev R (by omega) _) ?_
    rw [wnext (n := O.length) (by omega) (by omega)]
    exact hn
theorem uc_snoc {pre R : List Nat} {x : Nat} (hR : ∀ z, z ∈ R ↔ UC (· ∈ pre) z) (z : Nat) : z ∈ putL x R R ↔ UC (· ∈ pre ++ [x]) z := by
  rw [mem_putL]
  constructor
  · rintro (h | ⟨y, hy, rfl⟩)
    · exact ((hR z).1 h).mono (fun u hu => by simp [hu])
    · exact .or (.base (by simp)) (((hR y).1 hy).mono (fun u hu => by simp [hu]))
  · intro h
    have hcl : ∀ {a b}, a ∈ R → b ∈ R → a ||| b ∈ R := fun ha hb => (hR _).2 (.or ((hR _).1 ha) ((hR _).1 hb))
    induction h with
    | zero => exact .inl ((hR 0).2 .zero)
    | @base b hb =>
      rcases List.mem_append.1 hb with hb | hb
      · exact .inl ((hR _).2 (.base hb))
      · rw [List.mem_singleton] at hb
        exact .inr ⟨0, (hR 0).2 .zero, by simp [hb]⟩
    | @or a b _ _ ha hb =>
      rcases ha with ha | ⟨u, hu, rfl⟩ <;> rcases hb with hb | ⟨v, hv, rfl⟩
      · exact .inl (hcl ha hb)
      · exact .inr ⟨a ||| v, hcl ha hv, by rw [← Nat.or_assoc, Nat.or_comm a x, Nat.or_assoc]⟩
      · exact .inr ⟨u ||| b, hcl hu hb, by rw [Nat.or_assoc]⟩
      · refine .inr ⟨u ||| v, hcl hu hv, ?_⟩
        apply Nat.eq_of_testBit_eq
        intro i
        simp only [Nat.testBit_or]
        cases x.testBit i <;> cases u.testBit i <;> cases v.testBit i <;> rfl
theorem unions_loop (L : List Nat) (hL : ∀ x ∈ L, x < 128) (hl : L.length ≤ 1099511627776) : ∀ (rest pre R : List Nat), pre ++ rest = L → Inc R → (∀ z, z ∈ R ↔ UC (· ∈ pre) z) →
    ∃ R' : List Nat, Ev (fun k => spec_spUnions.l0 k (castL R) (castL L) (L.length : Int) (pre.length : Int)) (castL R') ∧ Inc R' ∧ ∀ z, z ∈ R' ↔ UC (· ∈ L) z := by
  intro rest
  induction rest with
  | nil =>
    intro pre R e hI hR
    obtain rfl : pre = L := by simpa using e
    refine ⟨R, ?_, hI, hR⟩
    refine Ev.step (fun k => by rw [spec_spUnions.l0]) ?_
    simp only [show ¬ ((pre.length : Int) < (pre.length : Int)) from by omega, ↓reduceIte]
    exact Ev.some _
  | cons x rest ih =>
    intro pre R e hI hR
    have hx : x < 128 := hL x (by rw [← e]; simp)
    have hlen : L.length = pre.length + (rest.length + 1) := by rw [← e]; simp
    have er : rd (castL L) (pre.length : Int) = (x : Int) := by rw [← e]; exact rd_castL_mid _ _ _
    have hpre : ∀ u, u ∈ pre → u < 2 ^ 7 := fun u hu => hL u (by rw [← e]; simp [hu])
    have hRlt : ∀ y ∈ R, y < 128 := fun y hy => UC.lt hpre ((hR y).1 hy)
    have hRl := inc_len hI hRlt
    obtain ⟨R', h1, h2, h3⟩ := ih (pre ++ [x]) (putL x R R) (by simp [e]) (putL_inc hI) (uc_snoc hR)
    simp only [List.length_append, List.length_singleton] at h1
    rw [← wnext (n := L.length) (by omega) hl] at h1
    refine ⟨R', ?_, h2, h3⟩
    refine Ev.step (fun k => by rw [spec_spUnions.l0]) ?_
    simp only [show ((pre.length : Int) < (L.length : Int)) from by omega, show (0 : Int) ≤ (pre.length : Int) from by omega, castL_length, er, own_eq (castL R) (by rw [castL_length]; omega), Option.bind_some, ↓reduceIte]
    exact unions_in hx _ _ _ R hRlt hRl _ R [] R rfl hI hRlt h1
/-- The reference's list. -/
theorem unions_ev {L : List Nat} (hL : ∀ x ∈ L, x < 128) (hl : L.length ≤ 1099511627776) : ∃ R : List Nat, Ev (fun k => spec_spUnions.f k (castL L)) (castL R) ∧ Inc R ∧ ∀ z, z ∈ R ↔ UC (· ∈ L) z := by
  unfold spec_spUnions.f
  rw [castL_length]
  have := unions_loop L hL hl L [] [0] rfl (by simp [Inc]) (fun z => by
    rw [List.mem_singleton]
    constructor
    · rintro rfl; exact .zero
    · intro h
      induction h with
      | zero => rfl
      | base hx => simp at hx
      | or _ _ ha hb => subst ha; subst hb; rfl)
  simpa [castL] using this
/-- The program's list of the closed family is the reference's. -/
theorem closed_list {L R : List Nat} {p : Nat → Bool} (hL : ∀ x ∈ L, x < 128) (hp : ∀ z, z < 128 → (p z = true ↔ UC (· ∈ L) z)) (hI : Inc R) (hR : ∀ z, z ∈ R ↔ UC (· ∈ L) z) : listN p = R := by
  refine inc_ext (inc_listN _) hI (fun z => ?_)
  rw [mem_listN, hR]
  constructor
  · rintro ⟨h1, h2⟩; exact (hp z h1).1 h2
  · intro h
    have hz : z < 128 := UC.lt (n := 7) hL h
    exact ⟨hz, (hp z hz).2 h⟩
end Go.Proofs.Ytnpfkbfmipnofaa.Q
