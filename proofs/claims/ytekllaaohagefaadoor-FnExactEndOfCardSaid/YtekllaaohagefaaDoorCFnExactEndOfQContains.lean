/- Is a number in a list; conditions: as each theorem states. -/
import Derived.Test.YtekllaaohagefaaDoorCFnExactEndOfQSet
import Derived.Test.YtekllaaohagefaaDoorCFnExactEndOfP3
namespace Go.Proofs.YtekllaaohagefaaDoor.Q
open Go.RowKit Go.Proofs.YtekllaaohagefaaDoorW.PrintWords Go.Proofs.YtekllaaohagefaaDoorW.PrintLast Go.Proofs.YtekllaaohagefaaDoorW.PrintMore Go.Proofs.YtekllaaohagefaaDoor.P
set_option linter.unusedVariables false
set_option linter.unusedSimpArgs false

theorem index_loop (l : List Int) (hl : l.length ≤ 1099511627776) (x : Int) : ∀ rest pre : List Int, pre ++ rest = l →
    ∃ r : Int, Ev (fun k => slices_Index_int_int.l0 k l x (l.length : Int) (pre.length : Int)) r ∧ decide (r ≥ 0) = decide (x ∈ rest) := by
  intro rest
  induction rest with
  | nil =>
    intro pre e
    obtain rfl : pre = l := by simpa using e
    refine ⟨-1, ?_, by simp⟩
    refine Ev.step (fun k => by rw [slices_Index_int_int.l0]) ?_
    simp only [show ¬ ((pre.length : Int) < (pre.length : Int)) from by omega, ↓reduceIte]
    exact Ev.some _
  | cons y rest ih =>
    intro pre e
    have hlen : l.length = pre.length + (rest.length + 1) := by rw [← e]; simp
    have er : rd l (pre.length : Int) = y := by rw [← e]; exact rd_mid _ _ _
    obtain ⟨r, hn, hr⟩ := ih (pre ++ [y]) (by simp [e])
    simp only [List.length_append, List.length_singleton] at hn
    rw [← wnext (n := l.length) (by omega) hl] at hn
    by_cases hx : x = y
    · refine ⟨(pre.length : Int), ?_, by simp [hx]⟩
      refine Ev.step (fun k => by rw [slices_Index_int_int.l0]) ?_
      simp only [show ((pre.length : Int) < (l.length : Int)) from by omega, show (0 : Int) ≤ (pre.length : Int) from by omega, er, hx, ↓reduceIte]
      exact Ev.some _
    · refine ⟨r, ?_, by rw [hr]; simp [hx]⟩
      refine Ev.step (fun k => by rw [slices_Index_int_int.l0]) ?_
      simp only [show ((pre.length : Int) < (l.length : Int)) from by omega, show (0 : Int) ≤ (pre.length : Int) from by omega, er, hx, ↓reduceIte]
      exact hn
theorem contains_ev (l : List Int) (hl : l.length ≤ 1099511627776) (x : Int) : Ev (fun k => slices_Contains_int_int.f k l x) (decide (x ∈ l)) := by
  unfold slices_Contains_int_int.f
  obtain ⟨r, hn, hr⟩ := index_loop l hl x l [] rfl
  have hI : Ev (fun k => slices_Index_int_int.f k l x) r := by
    unfold slices_Index_int_int.f
    simpa using hn
  exact Ev.bind hI ((Ev.some _).eq hr)
end Go.Proofs.YtekllaaohagefaaDoor.Q
