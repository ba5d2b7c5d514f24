/- What the laws' helpers on spaces come to; conditions: as each theorem states. -/
import Derived.Test.YtekllaaohagefaaCFnExactRankWordQLaw
import Derived.Test.YtekllaaohagefaaCFnExactRankWordP4
namespace Go.Proofs.Ytekllaaohagefaa.Q
open Go.RowKit Go.Proofs.YtekllaaohagefaaW.PrintWords Go.Proofs.YtekllaaohagefaaW.PrintLast Go.Proofs.YtekllaaohagefaaW.PrintMore Go.Proofs.Ytekllaaohagefaa.P
set_option linter.unusedVariables false
set_option linter.unusedSimpArgs false

theorem szSpace_no (n : Int) (S : List Int) (hm : S.length ≤ maxLen) (h : ¬ S.length ≤ 1048576) : laws_szSpace.f n S 1048576 = some (-1) := by
  unfold laws_szSpace.f
  rw [szIntS_eq S hm 1048576 (by omega) (by omega), if_neg (by omega)]; rfl
theorem szSpace_yes (n : Int) (S : List Int) (h : S.length ≤ 1048576) : ∃ r, laws_szSpace.f n S 1048576 = some r ∧ ¬ r < 0 := by
  refine ⟨1048576 - (S.length : Int), ?_, by omega⟩
  unfold laws_szSpace.f
  rw [szIntS_eq S (by unfold maxLen; omega) 1048576 (by omega) (by omega), if_pos (by omega)]
  simp only [Option.bind_some]
  rw [if_neg (by omega)]
theorem toSpace_ev (n : Int) (S : List Int) (hS : S.length ≤ 1048576) : Ev (fun k => laws_toSpace.f k n S) (n, S) := by
  unfold laws_toSpace.f
  exact Ev.bind (toIntS_ev S (by omega)) (Ev.some _)
theorem eqSpace_ev (a b : Int) (S T : List Int) (hS : S.length ≤ 1048576) : Ev (fun k => laws_eqSpace.f k a S b T) (decide (a = b ∧ S = T)) := by
  unfold laws_eqSpace.f
  by_cases h : a = b
  · simp only [h, ↓reduceIte]
    refine Ev.bind (eqIntS_ev S T (by omega)) ?_
    by_cases h2 : S = T
    · simp only [h2, decide_true, ↓reduceIte]; exact (Ev.some _).eq (by simp)
    · simp only [h2, decide_false, ↓reduceIte, Bool.false_eq_true]; exact (Ev.some _).eq (by simp)
  · simp only [h, ↓reduceIte]; exact (Ev.some _).eq (by simp [h])
theorem eqSpace_self (a : Int) (S : List Int) (hS : S.length ≤ 1048576) : Ev (fun k => laws_eqSpace.f k a S a S) true := (eqSpace_ev a a S S hS).eq (by simp)
end Go.Proofs.Ytekllaaohagefaa.Q
