/- A word that goes on to a set: both; conditions: as each theorem states. -/
import Derived.Test.YthpbmecinoninaaCFnExactSortWordQOutI
import Derived.Test.YthpbmecinoninaaCFnExactSortWordQOwn
import Derived.Test.YthpbmecinoninaaCFnExactSortWordQAccI
import Derived.Test.YthpbmecinoninaaCFnExactSortWordP3
namespace Go.Proofs.Ythpbmecinoninaa.Q
open Go.RowKit Go.Proofs.YthpbmecinoninaaW.PrintWords Go.Proofs.YthpbmecinoninaaW.PrintLast Go.Proofs.YthpbmecinoninaaW.PrintMore Go.Proofs.Ythpbmecinoninaa.P
set_option linter.unusedVariables false
set_option linter.unusedSimpArgs false

theorem first_item : ∀ q : Fin 128, ∀ i : Fin 7, (itemsN q.val).head? = some i.val → q.val.testBit i.val = true ∧ ∀ j : Fin 7, j.val < i.val → q.val.testBit j.val = false := by decide +kernel
/-- What a set of the space has more than another one: one item of it can be learnt. -/
theorem SpN.grow {m : Nat} {T : List Nat} (h : SpN m T) {s : Nat} (hs : s ∈ T) : ∀ (n A : Nat), A ≤ n → A ∈ T → ¬ (∀ j, A.testBit j = true → s.testBit j = true) →
    ∃ j, A.testBit j = true ∧ s.testBit j = false ∧ s ||| 2 ^ j ∈ T := by
  intro n
  induction n with
  | zero =>
    intro A hA _ hn
    obtain rfl : A = 0 := by omega
    exact absurd (fun j hj => by rw [Nat.zero_testBit] at hj; cases hj) hn
  | succ n ih =>
    intro A hA hT hn
    have hA0 : A ≠ 0 := by
      rintro rfl
      exact hn (fun j hj => by rw [Nat.zero_testBit] at hj; cases hj)
    obtain ⟨i, hi7, hb, hp⟩ := innN_some (h.acc A hT hA0)
    have hp' : andn A (2 ^ i) ∈ T := by simpa using hp
    have hlt := andn_lt_self hb
    have hpi : ∀ j, (2 ^ i).testBit j = decide (i = j) := fun j => by rw [Nat.testBit_two_pow]
    by_cases hsub : ∀ j, (andn A (2 ^ i)).testBit j = true → s.testBit j = true
    · have hsi : s.testBit i = false := by
        rw [Bool.eq_false_iff]
        intro hsi
        refine hn (fun j hj => ?_)
        by_cases e : i = j
        · subst e; exact hsi
        · refine hsub j ?_
          rw [testBit_andn, hj, hpi]
          simp [e]
      refine ⟨i, hb, hsi, ?_⟩
      have e : s ||| 2 ^ i = s ||| A := by
        apply Nat.eq_of_testBit_eq
        intro j
        rw [Nat.testBit_or, Nat.testBit_or, hpi]
        by_cases e : i = j
        · subst e; simp [hb]
        · cases ha : A.testBit j with
          | false => simp [e]
          | true =>
            have := hsub j (by rw [testBit_andn, ha, hpi]; simp [e])
            simp [this]
      rw [e]
      exact h.union s hs A hT
    · obtain ⟨j, hj, h2, h3⟩ := ih _ (by omega) hp' hsub
      rw [testBit_andn, Bool.and_eq_true] at hj
      exact ⟨j, hj.1, h2, h3⟩
theorem bit_lt {x m i : Nat} (hx : x < 2 ^ m) (hb : x.testBit i = true) : i < m := by
  rcases Nat.lt_or_ge i m with h | h
  · exact h
  · rw [Nat.testBit_lt_two_pow (Nat.lt_of_lt_of_le hx (Nat.pow_le_pow_right (by omega) h))] at hb; cases hb
theorem or_gt {s i : Nat} (h : s.testBit i = false) : s < s ||| 2 ^ i := by
  have h1 : s ≤ s ||| 2 ^ i := Nat.left_le_or
  have h2 : s ≠ s ||| 2 ^ i := by
    intro e
    have := congrArg (fun x => Nat.testBit x i) e
    simp only [Nat.testBit_or, h, Nat.testBit_two_pow, decide_true, Bool.or_true] at this
    cases this
  omega
theorem finish_ev {m : Nat} {T : List Nat} (h : SpN m T) {g : Nat} (hg : g ∈ T) : ∀ (d s : Nat) (W : List Int), 2 ^ m - s ≤ d → s ∈ T → (∀ j, s.testBit j = true → g.testBit j = true) → W.length + d ≤ 17592186044416 →
    ∃ L : List Int, L.length ≤ W.length + d ∧ Ev (fun k => spec_woFinish.l0 k (s : Int) (g : Int) W (m : Int) (castL T)) L ∧ Ev (fun k => impl_Space_toward.l0 k W (s : Int) (g : Int) (famN fun y => decide (y ∈ T))) L := by
  have hm7 := h.m7
  have hp2 := pow_le_128 hm7
  have hgl := h.lt g hg
  intro d
  induction d with
  | zero =>
    intro s W hd hs
    have := h.lt s hs
    omega
  | succ d ih =>
    intro s W hd hs hsub hW
    have hsl := h.lt s hs
    by_cases e : s = g
    · subst e
      refine ⟨W, by omega, ?_, ?_⟩
      · refine Ev.step (fun k => by rw [spec_woFinish.l0]) ?_
        simp only [↓reduceIte]; exact Ev.some _
      · refine Ev.step (fun k => by rw [impl_Space_toward.l0]) ?_
        simp only [↓reduceIte]; exact Ev.some _
    · obtain ⟨j, hgj, hsj, hTj⟩ := h.grow hs g g (Nat.le_refl _) hg (fun hall => e (Nat.eq_of_testBit_eq fun j => by
        rw [Bool.eq_iff_iff]; exact ⟨hsub j, hall j⟩))
      obtain ⟨q, hq⟩ : ∃ q, q = outN (fun y => decide (y ∈ T)) s 7 &&& g := ⟨_, rfl⟩
      have ho : outN (fun y => decide (y ∈ T)) s 7 < 128 := sumN_lt _ 7
      have hq128 : q < 128 := by rw [hq]; exact Nat.lt_of_le_of_lt Nat.and_le_left ho
      have hqb : ∀ i, q.testBit i = true ↔ (i < 7 ∧ s.testBit i = false ∧ s ||| 2 ^ i ∈ T) ∧ g.testBit i = true := by
        intro i
        rw [hq, Nat.testBit_and, outN, sumN_testBit]
        simp only [outP, Bool.and_eq_true, decide_eq_true_eq, Bool.not_eq_true']
      have hjm := bit_lt hgl hgj
      cases hI : itemsN q with
      | nil =>
        have : j ∈ itemsN q := mem_itemsN.2 ⟨by omega, (hqb j).2 ⟨⟨by omega, hsj, hTj⟩, hgj⟩⟩
        rw [hI] at this; cases this
      | cons i rest =>
        have him : i ∈ itemsN q := by rw [hI]; simp
        have hi7 := (mem_itemsN.1 him).1
        obtain ⟨hb, hleast⟩ := first_item ⟨q, hq128⟩ ⟨i, hi7⟩ (by simp [hI])
        obtain ⟨⟨_, hsi, hTi⟩, hgi⟩ := (hqb i).1 hb
        have hm : i < m := bit_lt hgl hgi
        have h2i := pow_lt_128 hi7
        have hgt := or_gt hsi
        have hol := h.lt _ hTi
        obtain ⟨L, hL, h1, h2⟩ := ih (s ||| 2 ^ i) (W ++ [(i : Int)]) (by omega) hTi (fun j hj => by
          rw [Nat.testBit_or, Bool.or_eq_true, Nat.testBit_two_pow, decide_eq_true_eq] at hj
          rcases hj with hj | hj
          · exact hsub j hj
          · subst hj; exact hgi) (by simp; omega)
        have ne : ¬ (s : Int) = (g : Int) := by omega
        refine ⟨L, by simp at hL; omega, ?_, ?_⟩
        · refine Ev.step (fun k => by rw [spec_woFinish.l0]) ?_
          simp only [ne, ↓reduceIte]
          have loop : ∀ (d c : Nat), c + d = i → Ev (fun k => spec_woFinish.l1 k (s : Int) (g : Int) W (c : Int) (m : Int) (castL T)) L := by
            intro d
            induction d with
            | zero =>
              intro c hc
              obtain rfl : c = i := by omega
              have hbit : (andn g s).testBit c = true := by rw [testBit_andn, hgi, hsi]; rfl
              refine Ev.step (fun k => by rw [spec_woFinish.l1]) ?_
              simp only [show ((c : Int) < (m : Int)) from by omega, bAndn (show g < 2 ^ 62 from by omega) (show s < 2 ^ 62 from by omega), spIn_eq _ c (by omega), hbit, Option.bind_some, show (0 : Int) ≤ (c : Int) from by omega, shl1 (show c ≤ 61 from by omega), bOr (show s < 2 ^ 62 from by omega) (show 2 ^ c < 2 ^ 62 from by omega), ↓reduceIte]
              refine Ev.bind ((spHas_ev h.inc h.small _).eq (decide_eq_true hTi)) ?_
              simp only [show W.length < 17592186044416 from by omega, ↓reduceIte]
              exact h1
            | succ d ihl =>
              intro c hc
              have hc7 : c < 7 := by omega
              have h2c := pow_lt_128 hc7
              have hn := ihl (c + 1) (by omega)
              rw [← wnext (n := m) (by omega) (by omega)] at hn
              refine Ev.step (fun k => by rw [spec_woFinish.l1]) ?_
              simp only [show ((c : Int) < (m : Int)) from by omega, bAndn (show g < 2 ^ 62 from by omega) (show s < 2 ^ 62 from by omega), spIn_eq _ c (by omega), Option.bind_some, show (0 : Int) ≤ (c : Int) from by omega, shl1 (show c ≤ 61 from by omega), bOr (show s < 2 ^ 62 from by omega) (show 2 ^ c < 2 ^ 62 from by omega), ↓reduceIte]
              by_cases hbit : (andn g s).testBit c = true
              · simp only [hbit, ↓reduceIte]
                have hno : s ||| 2 ^ c ∉ T := by
                  intro hin
                  rw [testBit_andn, Bool.and_eq_true, Bool.not_eq_true'] at hbit
                  have hl : q.testBit c = false := hleast ⟨c, hc7⟩ (by show c < i; omega)
                  rw [(hqb c).2 ⟨⟨hc7, hbit.2, hin⟩, hbit.1⟩] at hl
                  cases hl
                refine Ev.bind ((spHas_ev h.inc h.small _).eq (decide_eq_false hno)) ?_
                simp only [↓reduceIte, Bool.false_eq_true]
                exact hn
              · simp only [hbit, ↓reduceIte]
                exact hn
          exact loop i 0 (by omega)
        · refine Ev.step (fun k => by rw [impl_Space_toward.l0]) ?_
          simp only [ne, ↓reduceIte]
          refine Ev.bind (outer_ev _ (show s < 128 by omega)) ?_
          simp only [bAnd (show outN (fun y => decide (y ∈ T)) s 7 < 2 ^ 62 from by omega) (show g < 2 ^ 62 from by omega), ← hq]
          refine Ev.bind (items_ev hq128) ?_
          have er : rd (castL (i :: rest)) 0 = (i : Int) := rd_castL_mid [] i rest
          rw [hI]
          simp only [er, castL_length, List.length_cons, show ¬ (((rest.length + 1 : Nat) : Int) = 0) from by omega, show ((0 : Int) < ((rest.length + 1 : Nat) : Int)) from by omega, show W.length < 17592186044416 from by omega, show (0 : Int) ≤ (i : Int) from by omega, shl1 (show i ≤ 61 from by omega), bOr (show s < 2 ^ 62 from by omega) (show 2 ^ i < 2 ^ 62 from by omega), ↓reduceIte]
          exact h2
/-- From a set of the space to a greater one: both words are the same. -/
theorem toward_both {m : Nat} {T : List Nat} (h : SpN m T) {s g : Nat} (hs : s ∈ T) (hg : g ∈ T) (hsub : ∀ j, s.testBit j = true → g.testBit j = true) (W : List Int) (hW : W.length ≤ 1048576) :
    ∃ L : List Int, L.length ≤ 1048704 ∧ Ev (fun k => spec_woFinish.f k (m : Int) (castL T) W (s : Int) (g : Int)) L ∧ Ev (fun k => impl_Space_toward.f k (m : Int) (castL T) W (s : Int) (g : Int)) L := by
  have hp2 := pow_le_128 h.m7
  obtain ⟨L, hL, h1, h2⟩ := finish_ev h hg (2 ^ m - s) s W (Nat.le_refl _) hs hsub (by omega)
  refine ⟨L, by omega, ?_, ?_⟩
  · unfold spec_woFinish.f
    rw [own_eq W (by omega)]
    exact h1
  · unfold impl_Space_toward.f
    exact Ev.bind (family_ev _ T h.lt128 h.small) h2
end Go.Proofs.Ythpbmecinoninaa.Q
