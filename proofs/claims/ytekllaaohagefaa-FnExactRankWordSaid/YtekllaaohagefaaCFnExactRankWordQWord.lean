/- Words of a space and their sets: the program's and the reference's; conditions: as each theorem states. -/
import Derived.Test.YtekllaaohagefaaCFnExactRankWordQSp
import Derived.Test.YtekllaaohagefaaCFnExactRankWordP4
namespace Go.Proofs.Ytekllaaohagefaa.Q
open Go.RowKit Go.Proofs.YtekllaaohagefaaW.PrintWords Go.Proofs.YtekllaaohagefaaW.PrintLast Go.Proofs.YtekllaaohagefaaW.PrintMore Go.Proofs.Ytekllaaohagefaa.P
set_option linter.unusedVariables false
set_option linter.unusedSimpArgs false

/-- The set that a word adds up to, if each set on the way is one of the space's. -/
def wordR (m : Nat) (T : List Nat) : List Int → Nat → Int × Bool
  | [], s => ((s : Int), true)
  | a :: r, s => if 0 ≤ a ∧ a ≤ (m : Int) - 1 then (if s.testBit a.toNat = true then (0, false) else if s ||| 2 ^ a.toNat ∈ T then wordR m T r (s ||| 2 ^ a.toNat) else (0, false)) else (0, false)
theorem setOf_loop {m : Nat} {T : List Nat} (h : SpN m T) (w : List Int) (hl : w.length ≤ 1099511627776) : ∀ (rest pre : List Int) (s : Nat), pre ++ rest = w → s < 128 →
    Ev (fun k => impl_Space_setOf.l0 k (famN fun y => decide (y ∈ T)) (s : Int) w (w.length : Int) (pre.length : Int) (m : Int) (castL T)) (wordR m T rest s) := by
  intro rest
  have hm7 := h.m7
  have hm1 := h.m1
  induction rest with
  | nil =>
    intro pre s e hs
    obtain rfl : pre = w := by simpa using e
    refine Ev.step (fun k => by rw [impl_Space_setOf.l0]) ?_
    simp only [show ¬ ((pre.length : Int) < (pre.length : Int)) from by omega, ↓reduceIte]
    exact Ev.some _
  | cons a rest ih =>
    intro pre s e hs
    have hlen : w.length = pre.length + (rest.length + 1) := by rw [← e]; simp
    have er : rd w (pre.length : Int) = a := by rw [← e]; exact rd_mid _ _ _
    have ew : wrap64 ((m : Int) - 1) = (m : Int) - 1 := w64 (by omega) (by omega)
    have hn := fun s' hs' => ih (pre ++ [a]) s' (by simp [e]) hs'
    simp only [List.length_append, List.length_singleton] at hn
    refine Ev.step (fun k => by rw [impl_Space_setOf.l0]) ?_
    simp only [show ((pre.length : Int) < (w.length : Int)) from by omega, show (0 : Int) ≤ (pre.length : Int) from by omega, er, ew, within_eq, Option.bind_some, decide_eq_true_eq, ↓reduceIte]
    unfold wordR
    by_cases h1 : 0 ≤ a ∧ a ≤ (m : Int) - 1
    · obtain ⟨i, rfl⟩ := Int.eq_ofNat_of_zero_le h1.1
      have hi : i < 7 := by omega
      have hp2 : 2 ^ i < 128 := pow_lt_128 hi
      have hsi : s ||| 2 ^ i < 128 := Nat.or_lt_two_pow (n := 7) hs hp2
      simp only [h1, and_self, ↓reduceIte, Int.toNat_natCast, bitAnd (show s < 2 ^ 62 from by omega) (show i ≤ 64 from by omega), shl1 (show i ≤ 61 from by omega), bOr (show s < 2 ^ 62 from by omega) (show 2 ^ i < 2 ^ 62 from by omega), famN_length,
        show (0 : Int) ≤ ((s ||| 2 ^ i : Nat) : Int) from by omega, show (((s ||| 2 ^ i : Nat) : Int) < ((128 : Nat) : Int)) from by omega, show (((s ||| 2 ^ i : Nat) : Int) < 128) from by omega, famN_get _ hsi]
      rw [wnext (n := w.length) (by omega) hl]
      cases hb : s.testBit i with
      | true => simp only [↓reduceIte]; exact Ev.some _
      | false =>
        simp only [↓reduceIte, Bool.false_eq_true, show ¬ ((0 : Int) = 1) from by omega]
        by_cases hq : s ||| 2 ^ i ∈ T
        · simp only [hq, decide_true, ↓reduceIte]; exact hn _ hsi
        · simp only [hq, decide_false, ↓reduceIte, Bool.false_eq_true]; exact Ev.some _
    · simp only [h1, ↓reduceIte]; exact Ev.some _
theorem setOf_ev {m : Nat} {T : List Nat} (h : SpN m T) (w : List Int) (hl : w.length ≤ 1099511627776) : Ev (fun k => impl_Space_setOf.f k (m : Int) (castL T) w) (wordR m T w 0) := by
  unfold impl_Space_setOf.f
  refine Ev.bind (family_ev _ T h.lt128 h.small) ?_
  simpa using setOf_loop h w hl w [] 0 rfl (by omega)
theorem isWord_ev {m : Nat} {T : List Nat} (h : SpN m T) (w : List Int) (hl : w.length ≤ 1099511627776) : Ev (fun k => impl_isWord.f k (m : Int) (castL T) w) (wordR m T w 0).2 := by
  unfold impl_isWord.f
  refine Ev.bind h.impl ?_
  simp only [↓reduceIte]
  exact Ev.bind (setOf_ev h w hl) (Ev.some _)
theorem isWord_no {n : Int} {S : List Int} (hS : S.length ≤ 1099511627776) (hg : goodB n S = false) (w : List Int) : Ev (fun k => impl_isWord.f k n S w) false := by
  unfold impl_isWord.f
  refine Ev.bind ((impl_IsSpace_ev n S hS).eq hg) ?_
  simp only [↓reduceIte, Bool.false_eq_true]
  exact Ev.some _
theorem woSet_loop {m : Nat} {T : List Nat} (h : SpN m T) (w : List Int) (hl : w.length ≤ 1099511627776) : ∀ (rest pre : List Int) (s : Nat), pre ++ rest = w → s < 128 →
    Ev (fun k => spec_woSet.l0 k (s : Int) w (w.length : Int) (pre.length : Int) (m : Int) (castL T)) (wordR m T rest s) := by
  intro rest
  have hm7 := h.m7
  have hm1 := h.m1
  induction rest with
  | nil =>
    intro pre s e hs
    obtain rfl : pre = w := by simpa using e
    refine Ev.step (fun k => by rw [spec_woSet.l0]) ?_
    simp only [show ¬ ((pre.length : Int) < (pre.length : Int)) from by omega, ↓reduceIte]
    exact Ev.some _
  | cons a rest ih =>
    intro pre s e hs
    have hlen : w.length = pre.length + (rest.length + 1) := by rw [← e]; simp
    have er : rd w (pre.length : Int) = a := by rw [← e]; exact rd_mid _ _ _
    have ew : wrap64 ((m : Int) - 1) = (m : Int) - 1 := w64 (by omega) (by omega)
    have hn := fun s' hs' => ih (pre ++ [a]) s' (by simp [e]) hs'
    simp only [List.length_append, List.length_singleton] at hn
    refine Ev.step (fun k => by rw [spec_woSet.l0]) ?_
    simp only [show ((pre.length : Int) < (w.length : Int)) from by omega, show (0 : Int) ≤ (pre.length : Int) from by omega, er, ew, l1In_eq, Option.bind_some, decide_eq_true_eq, ↓reduceIte]
    unfold wordR
    by_cases h1 : 0 ≤ a ∧ a ≤ (m : Int) - 1
    · obtain ⟨i, rfl⟩ := Int.eq_ofNat_of_zero_le h1.1
      have hi : i < 7 := by omega
      have hp2 : 2 ^ i < 128 := pow_lt_128 hi
      have hsi : s ||| 2 ^ i < 128 := Nat.or_lt_two_pow (n := 7) hs hp2
      simp only [h1, and_self, ↓reduceIte, Int.toNat_natCast, spIn_eq s i (show i ≤ 64 from by omega), Option.bind_some, shl1 (show i ≤ 61 from by omega), bOr (show s < 2 ^ 62 from by omega) (show 2 ^ i < 2 ^ 62 from by omega)]
      rw [wnext (n := w.length) (by omega) hl]
      cases hb : s.testBit i with
      | true => simp only [↓reduceIte]; exact Ev.some _
      | false =>
        simp only [↓reduceIte, Bool.false_eq_true]
        refine Ev.bind (spHas_ev h.inc h.small _) ?_
        by_cases hq : s ||| 2 ^ i ∈ T
        · simp only [hq, decide_true, ↓reduceIte]; exact hn _ hsi
        · simp only [hq, decide_false, ↓reduceIte, Bool.false_eq_true]; exact Ev.some _
    · simp only [h1, ↓reduceIte]; exact Ev.some _
theorem woSet_ev {m : Nat} {T : List Nat} (h : SpN m T) (w : List Int) (hl : w.length ≤ 1099511627776) : Ev (fun k => spec_woSet.f k (m : Int) (castL T) w) (wordR m T w 0) := by
  unfold spec_woSet.f
  simpa using woSet_loop h w hl w [] 0 rfl (by omega)
end Go.Proofs.Ytekllaaohagefaa.Q
