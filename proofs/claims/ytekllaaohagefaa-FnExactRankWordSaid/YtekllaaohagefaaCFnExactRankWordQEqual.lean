/- Are two lists the same; conditions: as each theorem states. -/
import Derived.Test.YtekllaaohagefaaCFnExactRankWordQSet
import Derived.Test.YtekllaaohagefaaCFnExactRankWordP4
namespace Go.Proofs.Ytekllaaohagefaa.Q
open Go.RowKit Go.Proofs.YtekllaaohagefaaW.PrintWords Go.Proofs.YtekllaaohagefaaW.PrintLast Go.Proofs.YtekllaaohagefaaW.PrintMore Go.Proofs.Ytekllaaohagefaa.P
set_option linter.unusedVariables false
set_option linter.unusedSimpArgs false

theorem equal_loop (a b : List Int) (ha : a.length ≤ 1099511627776) (hab : a.length = b.length) : ∀ (ra pre rb : List Int), pre ++ ra = a → pre ++ rb = b → ra.length = rb.length →
    Ev (fun k => slices_Equal_int_int.l0 k a b (a.length : Int) (pre.length : Int)) (decide (ra = rb)) := by
  intro ra
  induction ra with
  | nil =>
    intro pre rb h h2 hl
    obtain rfl : pre = a := by simpa using h
    refine Ev.step (fun k => by rw [slices_Equal_int_int.l0]) ?_
    simp only [show ¬ ((pre.length : Int) < (pre.length : Int)) from by omega, ↓reduceIte]
    exact (Ev.some _).eq (by have : rb = [] := by simpa using hl.symm
                             simp [this])
  | cons x ra ih =>
    intro pre rb h h2 hl
    obtain ⟨y, rb, rfl⟩ : ∃ y r, rb = y :: r := by
      cases rb with
      | nil => simp at hl
      | cons y r => exact ⟨y, r, rfl⟩
    have hlen : a.length = pre.length + (ra.length + 1) := by rw [← h]; simp
    have e1 : rd a (pre.length : Int) = x := by rw [← h]; exact rd_mid _ _ _
    have e2 : rd b (pre.length : Int) = y := by rw [← h2]; exact rd_mid _ _ _
    refine Ev.step (fun k => by rw [slices_Equal_int_int.l0]) ?_
    simp only [show ((pre.length : Int) < (a.length : Int)) from by omega, show ((pre.length : Int) < (b.length : Int)) from by omega, show (0 : Int) ≤ (pre.length : Int) from by omega, e1, e2, ↓reduceIte]
    rw [wnext (n := a.length) (by omega) ha]
    by_cases hx : x = y
    · subst hx
      have hn := ih (pre ++ [x]) rb (by simp [h]) (by simp [h2]) (by simpa using hl)
      rw [List.length_append, List.length_singleton] at hn
      simp only [↓reduceIte]
      exact hn.eq (by simp)
    · simp only [hx, ↓reduceIte]
      exact (Ev.some _).eq (by simp [hx])
theorem equal_ev (a b : List Int) (ha : a.length ≤ 1099511627776) : Ev (fun k => slices_Equal_int_int.f k a b) (decide (a = b)) := by
  unfold slices_Equal_int_int.f
  by_cases hl : a.length = b.length
  · simp only [show ((a.length : Int) = (b.length : Int)) from by omega, ↓reduceIte]
    rw [← hl]
    exact equal_loop a b ha hl a [] b rfl rfl hl
  · simp only [show ¬ ((a.length : Int) = (b.length : Int)) from by omega, ↓reduceIte]
    exact (Ev.some _).eq (by simp only [Bool.false_eq, decide_eq_false_iff_not]; rintro rfl; exact hl rfl)
end Go.Proofs.Ytekllaaohagefaa.Q
