/- The least set of a space above a set: the program's and the reference's; conditions: as each theorem states. -/
import Derived.Test.YthpbmecinoninaaCFnExactLeastAboveQKnown
import Derived.Test.YthpbmecinoninaaCFnExactLeastAboveQCount
import Derived.Test.YthpbmecinoninaaCFnExactLeastAboveP3
namespace Go.Proofs.Ythpbmecinoninaa.Q
open Go.RowKit Go.Proofs.YthpbmecinoninaaW.PrintWords Go.Proofs.YthpbmecinoninaaW.PrintLast Go.Proofs.YthpbmecinoninaaW.PrintMore Go.Proofs.Ythpbmecinoninaa.P
set_option linter.unusedVariables false
set_option linter.unusedSimpArgs false

theorem partL_eq {a b : Nat} (ha : a < 2 ^ 62) (hb : b < 2 ^ 62) : impl_part.f (a : Int) (b : Int) = some (decide (andn a b = 0)) := by
  unfold impl_part.f
  rw [bAndn ha hb, natBeq0]
  rfl
/-- Fewer items, or as many and a smaller number. -/
def lt2 (a b : Nat) : Prop := cntN a < cntN b ∨ (cntN a = cntN b ∧ a < b)
/-- Best so far. -/
structure Best (T : List Nat) (x : Nat) (L : List Nat) (b : Nat) : Prop where
  mem : b ∈ T
  above : andn x b = 0
  least : ∀ y ∈ L, andn x y = 0 → ¬ lt2 y b
theorem Best.unique {T : List Nat} {x b c : Nat} (hb : Best T x T b) (hc : Best T x T c) : b = c := by
  have h1 := hb.least c hc.mem hc.above
  have h2 := hc.least b hb.mem hb.above
  unfold lt2 at h1 h2
  omega
theorem impl_least_loop {T : List Nat} (hT : ∀ y ∈ T, y < 128) (hl : T.length ≤ 1099511627776) {x : Nat} (hx : x < 128) : ∀ (rest pre : List Nat) (b : Nat), pre ++ rest = T → Best T x pre b →
    ∃ r : Nat, Ev (fun k => impl_LeastAbove.l0 k (x : Int) (b : Int) (castL T) (T.length : Int) (pre.length : Int)) ((r : Int), true) ∧ Best T x T r := by
  intro rest
  induction rest with
  | nil =>
    intro pre b h hb
    obtain rfl : pre = T := by simpa using h
    refine ⟨b, ?_, hb⟩
    refine Ev.step (fun k => by rw [impl_LeastAbove.l0]) ?_
    simp only [show ¬ ((pre.length : Int) < (pre.length : Int)) from by omega, ↓reduceIte]
    exact Ev.some _
  | cons y rest ih =>
    intro pre b h hb
    have hy : y < 128 := hT y (by rw [← h]; simp)
    have hb2 := hT b hb.mem
    have hlen : T.length = pre.length + (rest.length + 1) := by rw [← h]; simp
    have e : rd (castL T) (pre.length : Int) = (y : Int) := by rw [← h]; exact rd_castL_mid _ _ _
    have hstep : ∀ c, (c = y ∧ andn x y = 0 ∧ lt2 y b) ∨ (c = b ∧ ¬ (andn x y = 0 ∧ lt2 y b)) → Best T x (pre ++ [y]) c := by
      rintro c (⟨rfl, h1, h2⟩ | ⟨rfl, h1⟩)
      · refine ⟨by rw [← h]; simp, h1, ?_⟩
        intro z hz hxz
        rcases List.mem_append.1 hz with hz | hz
        · have := hb.least z hz hxz
          unfold lt2 at *; omega
        · rw [List.mem_singleton] at hz; subst hz; unfold lt2; omega
      · refine ⟨hb.mem, hb.above, ?_⟩
        intro z hz hxz
        rcases List.mem_append.1 hz with hz | hz
        · exact hb.least z hz hxz
        · rw [List.mem_singleton] at hz; subst hz; exact fun h2 => h1 ⟨hxz, h2⟩
    have hn := fun c hc => ih (pre ++ [y]) c (by simp [h]) (hstep c hc)
    simp only [List.length_append, List.length_singleton] at hn
    have key : ∀ c, (c = y ∧ andn x y = 0 ∧ lt2 y b) ∨ (c = b ∧ ¬ (andn x y = 0 ∧ lt2 y b)) →
        ∃ r : Nat, Ev (fun k => impl_LeastAbove.l0 k (x : Int) (c : Int) (castL T) (T.length : Int) (wrap64 ((pre.length : Int) + 1))) ((r : Int), true) ∧ Best T x T r := by
      intro c hc; rw [wnext (n := T.length) (by omega) hl]; exact hn c hc
    have unf : ∀ r, Ev (fun k => if andn x y = 0 then (if ((cntN y : Nat) : Int) < ((cntN b : Nat) : Int) then impl_LeastAbove.l0 k (x : Int) (y : Int) (castL T) (T.length : Int) (wrap64 ((pre.length : Int) + 1)) else if ((cntN y : Nat) : Int) = ((cntN b : Nat) : Int) then (if (y : Int) < (b : Int) then impl_LeastAbove.l0 k (x : Int) (y : Int) (castL T) (T.length : Int) (wrap64 ((pre.length : Int) + 1)) else impl_LeastAbove.l0 k (x : Int) (b : Int) (castL T) (T.length : Int) (wrap64 ((pre.length : Int) + 1))) else impl_LeastAbove.l0 k (x : Int) (b : Int) (castL T) (T.length : Int) (wrap64 ((pre.length : Int) + 1))) else impl_LeastAbove.l0 k (x : Int) (b : Int) (castL T) (T.length : Int) (wrap64 ((pre.length : Int) + 1))) r →
        Ev (fun k => impl_LeastAbove.l0 k (x : Int) (b : Int) (castL T) (T.length : Int) (pre.length : Int)) r := by
      intro r hr
      refine Ev.step (fun k => by rw [impl_LeastAbove.l0]) ?_
      simp only [show ((pre.length : Int) < (T.length : Int)) from by omega, show (0 : Int) ≤ (pre.length : Int) from by omega, castL_length, e, partL_eq (show x < 2 ^ 62 from by omega) (show y < 2 ^ 62 from by omega), count_eq hy, count_eq hb2, Option.bind_some, decide_eq_true_eq, ↓reduceIte]
      exact hr
    by_cases h1 : andn x y = 0
    · by_cases h2 : cntN y < cntN b
      · obtain ⟨r, hr, hB⟩ := key y (.inl ⟨rfl, h1, .inl h2⟩)
        refine ⟨r, unf _ ?_, hB⟩
        simp only [h1, show ((cntN y : Nat) : Int) < ((cntN b : Nat) : Int) from by omega, ↓reduceIte]; exact hr
      · by_cases h3 : cntN y = cntN b
        · by_cases h4 : y < b
          · obtain ⟨r, hr, hB⟩ := key y (.inl ⟨rfl, h1, .inr ⟨h3, h4⟩⟩)
            refine ⟨r, unf _ ?_, hB⟩
            simp only [h1, show ¬ ((cntN y : Nat) : Int) < ((cntN b : Nat) : Int) from by omega, show ((cntN y : Nat) : Int) = ((cntN b : Nat) : Int) from by omega, show (y : Int) < (b : Int) from by omega, ↓reduceIte]
            simp only [show ¬ ((cntN b : Nat) : Int) < ((cntN b : Nat) : Int) from by omega, ↓reduceIte]; exact hr
          · obtain ⟨r, hr, hB⟩ := key b (.inr ⟨rfl, fun hh => by have := hh.2; unfold lt2 at this; omega⟩)
            refine ⟨r, unf _ ?_, hB⟩
            simp only [h1, show ((cntN y : Nat) : Int) = ((cntN b : Nat) : Int) from by omega, show ¬ (y : Int) < (b : Int) from by omega, ↓reduceIte]
            simp only [show ¬ ((cntN b : Nat) : Int) < ((cntN b : Nat) : Int) from by omega, ↓reduceIte]; exact hr
        · obtain ⟨r, hr, hB⟩ := key b (.inr ⟨rfl, fun hh => by have := hh.2; unfold lt2 at this; omega⟩)
          refine ⟨r, unf _ ?_, hB⟩
          simp only [h1, show ¬ ((cntN y : Nat) : Int) < ((cntN b : Nat) : Int) from by omega, show ¬ ((cntN y : Nat) : Int) = ((cntN b : Nat) : Int) from by omega, ↓reduceIte]; exact hr
    · obtain ⟨r, hr, hB⟩ := key b (.inr ⟨rfl, fun hh => h1 hh.1⟩)
      refine ⟨r, unf _ ?_, hB⟩
      simp only [h1, ↓reduceIte]; exact hr
theorem spec_least_loop {T : List Nat} (hI : Inc T) (hT : ∀ y ∈ T, y < 128) (hl : T.length ≤ 1099511627776) {x : Nat} (hx : x < 128) (m : Int) : ∀ (n b : Nat), n ≤ T.length → Best T x (T.drop n) b →
    ∃ r : Nat, Ev (fun k => spec_LeastAbove.l0 k (x : Int) (b : Int) ((n : Int) - 1) m (castL T)) ((r : Int), true) ∧ Best T x T r := by
  intro n
  induction n with
  | zero =>
    intro b hn hb
    refine ⟨b, ?_, by simpa using hb⟩
    refine Ev.step (fun k => by rw [spec_LeastAbove.l0]) ?_
    simp only [show ¬ ((((0 : Nat) : Int) - 1) ≥ 0) from by omega, ↓reduceIte]
    exact Ev.some _
  | succ n ih =>
    intro b hn hb
    have hn' : n < T.length := by omega
    have hb2 := hT b hb.mem
    have hy : T[n] < 128 := hT _ (List.getElem_mem hn')
    have e : rd (castL T) (n : Int) = ((T[n] : Nat) : Int) := by rw [rd_nat _ _ (by simpa using hn')]; simp [castL]
    have hd : T.drop n = T[n] :: T.drop (n + 1) := List.drop_eq_getElem_cons hn'
    have hgt : ∀ z ∈ T.drop (n + 1), T[n] < z := by
      have := hI.sublist (List.drop_sublist n T)
      rw [hd] at this
      exact fun z hz => List.rel_of_pairwise_cons this hz
    have ew : wrap64 ((n : Int) - 1) = (n : Int) - 1 := w64 (by omega) (by omega)
    have unf : ∀ r, Ev (fun k => if andn x T[n] = 0 then (if ((cntN T[n] : Nat) : Int) ≤ ((cntN b : Nat) : Int) then spec_LeastAbove.l0 k (x : Int) ((T[n] : Nat) : Int) ((n : Int) - 1) m (castL T) else spec_LeastAbove.l0 k (x : Int) (b : Int) ((n : Int) - 1) m (castL T)) else spec_LeastAbove.l0 k (x : Int) (b : Int) ((n : Int) - 1) m (castL T)) r →
        Ev (fun k => spec_LeastAbove.l0 k (x : Int) (b : Int) (((n + 1 : Nat) : Int) - 1) m (castL T)) r := by
      intro r hr
      refine Ev.step (fun k => by rw [spec_LeastAbove.l0]) ?_
      simp only [show (((n + 1 : Nat) : Int) - 1) = (n : Int) from by omega, show ((n : Int) ≥ 0) from by omega, show (0 : Int) ≤ (n : Int) from by omega, castL_length, show (n : Int) < (T.length : Int) from by omega, e, bAndn (show x < 2 ^ 62 from by omega) (show T[n] < 2 ^ 62 from by omega), Int.natCast_eq_zero, ew, ↓reduceIte]
      by_cases h1 : andn x T[n] = 0
      · simp only [h1, ↓reduceIte] at hr ⊢
        refine Ev.bind (spCount_ev hy) (Ev.bind (spCount_ev hb2) hr)
      · simp only [h1, ↓reduceIte] at hr ⊢
        exact hr
    by_cases h1 : andn x T[n] = 0
    · by_cases h2 : cntN T[n] ≤ cntN b
      · obtain ⟨r, hr, hB⟩ := ih T[n] (by omega) ⟨List.getElem_mem hn', h1, fun z hz hxz => by
          rw [hd] at hz
          rcases List.mem_cons.1 hz with rfl | hz
          · unfold lt2; omega
          · have h3 := hb.least z hz hxz
            have h4 := hgt z hz
            unfold lt2 at *; omega⟩
        refine ⟨r, unf _ ?_, hB⟩
        simp only [h1, show ((cntN T[n] : Nat) : Int) ≤ ((cntN b : Nat) : Int) from by omega, ↓reduceIte]; exact hr
      · obtain ⟨r, hr, hB⟩ := ih b (by omega) ⟨hb.mem, hb.above, fun z hz hxz => by
          rw [hd] at hz
          rcases List.mem_cons.1 hz with rfl | hz
          · unfold lt2; omega
          · exact hb.least z hz hxz⟩
        refine ⟨r, unf _ ?_, hB⟩
        simp only [h1, show ¬ ((cntN T[n] : Nat) : Int) ≤ ((cntN b : Nat) : Int) from by omega, ↓reduceIte]; exact hr
    · obtain ⟨r, hr, hB⟩ := ih b (by omega) ⟨hb.mem, hb.above, fun z hz hxz => by
          rw [hd] at hz
          rcases List.mem_cons.1 hz with rfl | hz
          · exact absurd hxz h1
          · exact hb.least z hz hxz⟩
      refine ⟨r, unf _ ?_, hB⟩
      simp only [h1, ↓reduceIte]; exact hr
theorem andn_full {m x : Nat} (hx : x < 2 ^ m) : andn x (2 ^ m - 1) = 0 := by
  apply Nat.eq_of_testBit_eq
  intro i
  rw [testBit_andn, Nat.testBit_two_pow_sub_one, Nat.zero_testBit]
  by_cases hi : i < m
  · simp [hi]
  · have : x.testBit i = false := Nat.testBit_lt_two_pow (Nat.lt_of_lt_of_le hx (Nat.pow_le_pow_right (by omega) (by omega)))
    simp [this]
/-- Both find the same set. -/
theorem least_both {m : Nat} {T : List Nat} (h : SpN m T) {x : Nat} (hx : x < 2 ^ m) : ∃ r : Nat,
    Ev (fun k => impl_LeastAbove.l0 k (x : Int) ((2 ^ m - 1 : Nat) : Int) (castL T) (T.length : Int) 0) ((r : Int), true) ∧
    Ev (fun k => spec_LeastAbove.l0 k (x : Int) ((2 ^ m - 1 : Nat) : Int) ((T.length : Int) - 1) (m : Int) (castL T)) ((r : Int), true) := by
  have hx2 : x < 128 := Nat.lt_of_lt_of_le hx (pow_le_128 h.m7)
  have hfull : ∀ L, (∀ y ∈ L, False) → Best T x L (2 ^ m - 1) := fun L hL => ⟨h.full, andn_full hx, fun y hy => (hL y hy).elim⟩
  obtain ⟨r, hr, hB⟩ := impl_least_loop h.lt128 h.small hx2 T [] (2 ^ m - 1) rfl (hfull _ (by simp))
  obtain ⟨r', hr', hB'⟩ := spec_least_loop h.inc h.lt128 h.small hx2 (m : Int) T.length (2 ^ m - 1) (Nat.le_refl _) (hfull _ (by simp))
  obtain rfl := hB.unique hB'
  exact ⟨r, hr, hr'⟩
end Go.Proofs.Ythpbmecinoninaa.Q
