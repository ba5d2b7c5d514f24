/- What the laws' helpers on spaces come to; conditions: as each theorem states. -/
import Derived.Test.YtekllaaohagefaaCFnExactUnionSpacesQLaw
import Derived.Test.YtekllaaohagefaaCFnExactUnionSpacesP5
namespace Go.Proofs.Ytekllaaohagefaa.Q
open Go.RowKit Go.Proofs.YtekllaaohagefaaW.PrintWords Go.Proofs.YtekllaaohagefaaW.PrintLast Go.Proofs.YtekllaaohagefaaW.PrintMore Go.Proofs.Ytekllaaohagefaa.P
set_option linter.unusedVariables false
set_option linter.unusedSimpArgs false

theorem toSpace_ev (n : Int) (S : List Int) (hS : S.length ≤ 1048576) : Ev (fun k => laws_toSpace.f k n S) (n, S) := by
  unfold laws_toSpace.f
  exact Ev.bind (toIntS_ev S (by omega)) (Ev.some _)
theorem eqSpace_ev (a b : Int) (S T : List Int) (hS : S.length ≤ 1048576) : Ev (fun k => laws_eqSpace.f k a S b T) (decide (a = b ∧ S = T)) := by
  unfold laws_eqSpace.f
  by_cases h : a = b
  · simp only [h, ↓reduceIte]
    refine Ev.bind (eqIntS_ev S T (by omega)) ?_
    by_cases h2 : S = T
    · simp only [h2, decide_true, ↓reduceIte]; exact (Ev.some _).eq (by simp)
    · simp only [h2, decide_false, ↓reduceIte, Bool.false_eq_true]; exact (Ev.some _).eq (by simp)
  · simp only [h, ↓reduceIte]; exact (Ev.some _).eq (by simp [h])
theorem eqSpace_self (a : Int) (S : List Int) (hS : S.length ≤ 1048576) : Ev (fun k => laws_eqSpace.f k a S a S) true := (eqSpace_ev a a S S hS).eq (by simp)
end Go.Proofs.Ytekllaaohagefaa.Q
