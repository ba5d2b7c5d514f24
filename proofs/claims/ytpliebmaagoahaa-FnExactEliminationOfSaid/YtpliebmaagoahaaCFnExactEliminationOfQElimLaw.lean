/- The first elimination of a net: both; conditions: as each theorem states. -/
import Derived.Test.YtpliebmaagoahaaCFnExactEliminationOfQElimOf
import Derived.Test.YtpliebmaagoahaaCFnExactEliminationOfP3
namespace Go.Proofs.Ytpliebmaagoahaa.Q
open Go.RowKit Go.Proofs.YtpliebmaagoahaaW.PrintWords Go.Proofs.YtpliebmaagoahaaW.PrintLast Go.Proofs.YtpliebmaagoahaaW.PrintMore Go.Proofs.Ytpliebmaagoahaa.P
set_option linter.unusedVariables false
set_option linter.unusedSimpArgs false

theorem EliminationOf_both (S : List Int) (hS : S.length ≤ 1048576) : ∃ (L : List Int) (b : Bool), L.length ≤ 1048576 ∧ Ev (fun k => spec_EliminationOf.f k S) (L, b) ∧ Ev (fun k => impl_EliminationOf.f k S) (L, b) := by
  rcases net_cases (S := S) (by omega) with ⟨h1, h2⟩ | ⟨T, rfl, h, h1, h2⟩
  · refine ⟨[], false, by simp, ?_, ?_⟩
    · unfold spec_EliminationOf.f
      refine Ev.bind h2 ?_
      simp only [↓reduceIte, Bool.false_eq_true]; exact Ev.some _
    · unfold impl_EliminationOf.f
      refine Ev.bind h1 ?_
      simp only [↓reduceIte, Bool.false_eq_true]; exact Ev.some _
  · obtain ⟨L, b, hL, e1, e2⟩ := elim_both h
    refine ⟨L, b, hL, ?_, ?_⟩
    · unfold spec_EliminationOf.f
      refine Ev.bind h2 ?_
      simp only [↓reduceIte]
      exact Ev.bind e1 (Ev.some _)
    · unfold impl_EliminationOf.f
      refine Ev.bind h1 ?_
      simp only [↓reduceIte]
      exact Ev.bind e2 (Ev.some _)
end Go.Proofs.Ytpliebmaagoahaa.Q
