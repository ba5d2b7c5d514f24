/- All unions of the sets of a list: the program's closing of a family; conditions: as each theorem states. -/
import Derived.Test.YtekllaaohagefaaCFnExactUnionSpacesQIns
import Derived.Test.YtekllaaohagefaaCFnExactUnionSpacesP5
namespace Go.Proofs.Ytekllaaohagefaa.Q
open Go.RowKit Go.Proofs.YtekllaaohagefaaW.PrintWords Go.Proofs.YtekllaaohagefaaW.PrintLast Go.Proofs.YtekllaaohagefaaW.PrintMore Go.Proofs.Ytekllaaohagefaa.P
set_option linter.unusedVariables false
set_option linter.unusedSimpArgs false

/-- The unions of sets of B. -/
inductive UC (B : Nat → Prop) : Nat → Prop
  | zero : UC B 0
  | base {x : Nat} : B x → UC B x
  | or {a b : Nat} : UC B a → UC B b → UC B (a ||| b)
theorem UC.mono {B C : Nat → Prop} (h : ∀ x, B x → C x) {z : Nat} (hz : UC B z) : UC C z := by
  induction hz with
  | zero => exact .zero
  | base hx => exact .base (h _ hx)
  | or _ _ ha hb => exact .or ha hb
theorem UC.lt {B : Nat → Prop} {n : Nat} (h : ∀ x, B x → x < 2 ^ n) {z : Nat} (hz : UC B z) : z < 2 ^ n := by
  induction hz with
  | zero => exact Nat.two_pow_pos _
  | base hx => exact h _ hx
  | or _ _ ha hb => exact Nat.or_lt_two_pow ha hb

/-! ### the program -/
theorem or_ge {x y : Nat} : x ≤ x ||| y := Nat.left_le_or
theorem closed_in (x : Nat) (hx : x < 128) : ∀ (d y : Nat) (p : Nat → Bool), y + d = x →
    ∃ p' : Nat → Bool, (∀ z, p z = true → p' z = true) ∧ (∀ z, p' z = true → p z = true ∨ ∃ u, u < x ∧ p x = true ∧ p u = true ∧ z = x ||| u) ∧
      (∀ u, y ≤ u → u < x → p x = true → p u = true → p' (x ||| u) = true) ∧
      ∀ r, Ev (fun k => impl_family_closed.l0 k (famN p') (wrap64 ((x : Int) + 1))) r → Ev (fun k => impl_family_closed.l1 k (famN p) (x : Int) (x : Int) (x : Int) (y : Int)) r := by
  intro d
  induction d with
  | zero =>
    intro y p h
    obtain rfl : y = x := by omega
    refine ⟨p, fun z h => h, fun z h => .inl h, fun u h1 h2 => by omega, fun r hr => ?_⟩
    refine Ev.step (fun k => by rw [impl_family_closed.l1]) ?_
    simp only [show ¬ ((y : Int) < (y : Int)) from by omega, ↓reduceIte]
    exact hr
  | succ d ih =>
    intro y p h
    have hy : y < x := by omega
    have hy2 : y < 128 := by omega
    have hw : wrap64 ((y : Int) + 1) = ((y + 1 : Nat) : Int) := wnext (n := 128) hy2 (by omega)
    have unf : ∀ r, Ev (fun k => if p x = true then (if p y = true then impl_family_closed.l1 k (famN fun z => p z || z == (x ||| y)) (x : Int) (x : Int) (x : Int) ((y + 1 : Nat) : Int) else impl_family_closed.l1 k (famN p) (x : Int) (x : Int) (x : Int) ((y + 1 : Nat) : Int)) else impl_family_closed.l1 k (famN p) (x : Int) (x : Int) (x : Int) ((y + 1 : Nat) : Int)) r →
        Ev (fun k => impl_family_closed.l1 k (famN p) (x : Int) (x : Int) (x : Int) (y : Int)) r := by
      intro r hr
      have hxy : x ||| y < 128 := Nat.or_lt_two_pow (n := 7) hx hy2
      refine Ev.step (fun k => by rw [impl_family_closed.l1]) ?_
      simp only [show ((y : Int) < (x : Int)) from by omega, show (0 : Int) ≤ (x : Int) from by omega, show (0 : Int) ≤ (y : Int) from by omega, famN_length, show ((x : Int) < ((128 : Nat) : Int)) from by omega, show ((x : Int) < 128) from by omega, show ((y : Int) < ((128 : Nat) : Int)) from by omega, show ((y : Int) < 128) from by omega, famN_get _ hx, famN_get _ hy2, bOr (show x < 2 ^ 62 from by omega) (show y < 2 ^ 62 from by omega),
        show (0 : Int) ≤ ((x ||| y : Nat) : Int) from by omega, show (((x ||| y : Nat) : Int) < ((128 : Nat) : Int)) from by omega, show (((x ||| y : Nat) : Int) < 128) from by omega, Int.toNat_natCast, famN_set, hw, ↓reduceIte]
      exact hr
    by_cases h1 : p x = true
    · by_cases h2 : p y = true
      · obtain ⟨p', q1, q2, q3, q4⟩ := ih (y + 1) (fun z => p z || z == (x ||| y)) (by omega)
        have hge := or_ge (x := x) (y := y)
        have low : ∀ u, u < x → ((p u || u == (x ||| y)) = true ↔ p u = true) := by
          intro u hu
          have : (u == (x ||| y)) = false := by rw [beq_eq_false_iff_ne]; omega
          simp [this]
        have atx : (p x || x == (x ||| y)) = true := by simp [h1]
        refine ⟨p', fun z hz => q1 z (by simp [hz]), fun z hz => ?_, fun u hu1 hu2 hpx hpu => ?_, fun r hr => unf r ?_⟩
        · rcases q2 z hz with h3 | ⟨u, hu, _, hpu, e⟩
          · simp only [Bool.or_eq_true, beq_iff_eq] at h3
            rcases h3 with h3 | h3
            · exact .inl h3
            · exact .inr ⟨y, hy, h1, h2, h3⟩
          · exact .inr ⟨u, hu, h1, (low u hu).1 hpu, e⟩
        · by_cases e : u = y
          · subst e
            exact q1 _ (by simp)
          · exact q3 u (by omega) hu2 atx ((low u hu2).2 hpu)
        · simp only [h1, h2, ↓reduceIte]
          exact q4 r hr
      · obtain ⟨p', q1, q2, q3, q4⟩ := ih (y + 1) p (by omega)
        refine ⟨p', q1, q2, fun u hu1 hu2 hpx hpu => ?_, fun r hr => unf r ?_⟩
        · by_cases e : u = y
          · subst e; exact absurd hpu h2
          · exact q3 u (by omega) hu2 hpx hpu
        · simp only [h1, h2, ↓reduceIte, Bool.false_eq_true]
          exact q4 r hr
    · obtain ⟨p', q1, q2, q3, q4⟩ := ih (y + 1) p (by omega)
      refine ⟨p', q1, q2, fun u hu1 hu2 hpx hpu => absurd hpx h1, fun r hr => unf r ?_⟩
      simp only [h1, ↓reduceIte, Bool.false_eq_true]
      exact q4 r hr
theorem closed_loop {B : Nat → Prop} (hB : ∀ x, B x → x < 128) : ∀ (d x : Nat) (p : Nat → Bool), x + d = 128 → (∀ z, p z = true → UC B z) → p 0 = true → (∀ b, B b → p b = true) →
    (∀ a b, a < b → b < x → p a = true → p b = true → p (b ||| a) = true) →
    ∃ p' : Nat → Bool, Ev (fun k => impl_family_closed.l0 k (famN p) (x : Int)) (famN p') ∧ ∀ z, z < 128 → (p' z = true ↔ UC B z) := by
  intro d
  induction d with
  | zero =>
    intro x p h i1 i2 i3 i4
    obtain rfl : x = 128 := by omega
    refine ⟨p, ?_, fun z hz => ⟨i1 z, fun hu => ?_⟩⟩
    · refine Ev.step (fun k => by rw [impl_family_closed.l0]) ?_
      simp only [show ¬ (((128 : Nat) : Int) < 128) from by omega, ↓reduceIte]
      exact Ev.some _
    · have : ∀ z, UC B z → z < 128 ∧ p z = true := by
        intro z hz
        induction hz with
        | zero => exact ⟨by omega, i2⟩
        | base hx => exact ⟨hB _ hx, i3 _ hx⟩
        | @or a b _ _ ha hb =>
          refine ⟨Nat.or_lt_two_pow (n := 7) ha.1 hb.1, ?_⟩
          rcases Nat.lt_trichotomy a b with g | g | g
          · rw [Nat.or_comm]; exact i4 a b g hb.1 ha.2 hb.2
          · subst g; rw [Nat.or_self]; exact ha.2
          · exact i4 b a g ha.1 hb.2 ha.2
      exact (this z hu).2
  | succ d ih =>
    intro x p h i1 i2 i3 i4
    have hx : x < 128 := by omega
    obtain ⟨p', q1, q2, q3, q4⟩ := closed_in x hx x 0 p (by omega)
    have low : ∀ u, u ≤ x → p' u = true → p u = true := by
      intro u hu hp
      rcases q2 u hp with h1 | ⟨v, _, hpx, _, e⟩
      · exact h1
      · have := or_ge (x := x) (y := v)
        have : u = x := by omega
        subst this; exact hpx
    obtain ⟨p2, r1, r2⟩ := ih (x + 1) p' (by omega) (fun z hz => by
        rcases q2 z hz with h1 | ⟨v, _, hpx, hpv, rfl⟩
        · exact i1 z h1
        · exact .or (i1 _ hpx) (i1 _ hpv)) (q1 _ i2) (fun b hb => q1 _ (i3 b hb)) (fun a b hab hb ha hpb => by
        have ha' := low a (by omega) ha
        have hb' := low b (by omega) hpb
        by_cases e : b = x
        · subst e; exact q3 a (by omega) hab hb' ha'
        · exact q1 _ (i4 a b hab (by omega) ha' hb'))
    refine ⟨p2, ?_, r2⟩
    refine Ev.step (fun k => by rw [impl_family_closed.l0]) ?_
    simp only [show ((x : Int) < 128) from by omega, ↓reduceIte]
    have := q4 (famN p2) (by rw [wnext (n := 128) hx (by omega)]; exact r1)
    simpa using this
/-- The program's closing. -/
theorem closed_ev {L : List Nat} (hL : ∀ x ∈ L, x < 128) : ∃ p : Nat → Bool, Ev (fun k => impl_family_closed.f k (famN fun y => decide (y ∈ L))) (famN p) ∧ ∀ z, z < 128 → (p z = true ↔ UC (· ∈ L) z) := by
  obtain ⟨p, h1, h2⟩ := closed_loop (B := (· ∈ L)) hL 128 0 (fun y => decide (y ∈ L) || y == 0) rfl (fun z hz => by
    simp only [Bool.or_eq_true, decide_eq_true_eq, beq_iff_eq] at hz
    rcases hz with hz | rfl
    · exact .base hz
    · exact .zero) (by simp) (fun b hb => by simp [hb]) (fun a b _ hb => by omega)
  refine ⟨p, ?_, h2⟩
  unfold impl_family_closed.f
  have e0 : (0 : Int).toNat = 0 := rfl
  simp only [famN_length, show (0 : Int) < ((128 : Nat) : Int) from by omega, ↓reduceIte, e0, famN_set]
  simpa using h1

/-! ### the reference -/
/-- All that is put in one round. -/
def putL (x : Nat) : List Nat → List Nat → List Nat
  | [], R => R
  | y :: r, R => putL x r (insN (x ||| y) R)
theorem putL_inc {x : Nat} : ∀ {l R : List Nat}, Inc R → Inc (putL x l R)
  | [], _, h => h
  | y :: r, R, h => putL_inc (l := r) (inc_insN h)
theorem mem_putL {x z : Nat} : ∀ {l R : List Nat}, z ∈ putL x l R ↔ z ∈ R ∨ ∃ y ∈ l, z = x ||| y
  | [], R => by simp [putL]
  | y :: r, R => by
    simp only [putL, mem_putL (l := r), mem_insN, List.mem_cons]
    constructor
    · rintro ((h | h) | ⟨u, hu, e⟩)
      · exact .inr ⟨y, .inl rfl, h⟩
      · exact .inl h
      · exact .inr ⟨u, .inr hu, e⟩
    · rintro (h | ⟨u, rfl | hu, e⟩)
      · exact .inl (.inr h)
      · exact .inl (.inl e)
      · exact .inr ⟨u, hu, e⟩
theorem inc_len {R : List Nat} (hi : Inc R) (hR : ∀ x ∈ R, x < 128) : R.length ≤ 128 := by
  have e : listN (fun y => decide (y ∈ R)) = R := by
    refine inc_ext (inc_listN _) hi (fun x => ?_)
    rw [mem_listN, decide_eq_true_eq]
    exact ⟨fun h => h.2, fun h => ⟨hR x h, h⟩⟩
  rw [← e]
  exact Nat.le_trans (List.length_filter_le _ _) (by simp)
end Go.Proofs.Ytekllaaohagefaa.Q
