/- The laws' own helpers for a net; conditions: as each theorem states. -/
import Derived.Test.YtnpfkbfmipnofaaCFnExactChordalSpaceQLaw
import Derived.Test.YtnpfkbfmipnofaaCFnExactChordalSpaceP5
namespace Go.Proofs.Ytnpfkbfmipnofaa.Q
open Go.RowKit Go.Proofs.YtnpfkbfmipnofaaW.PrintWords Go.Proofs.YtnpfkbfmipnofaaW.PrintLast Go.Proofs.YtnpfkbfmipnofaaW.PrintMore Go.Proofs.Ytnpfkbfmipnofaa.P
set_option linter.unusedVariables false
set_option linter.unusedSimpArgs false

theorem szNet_no (S : List Int) (hm : S.length ≤ maxLen) (h : ¬ S.length ≤ 1048576) : laws_szNet.f S 1048576 = some (-1) := by
  unfold laws_szNet.f
  rw [szIntS_eq S hm _ (by omega) (by omega), if_neg (by omega)]; rfl
theorem szNet_yes (S : List Int) (h : S.length ≤ 1048576) : ∃ r, laws_szNet.f S 1048576 = some r ∧ ¬ r < 0 := by
  refine ⟨1048576 - S.length, ?_, by omega⟩
  unfold laws_szNet.f
  rw [szIntS_eq S (by unfold maxLen; omega) _ (by omega) (by omega), if_pos (by omega)]
  simp only [Option.bind_some, show ¬ ((1048576 : Int) - S.length < 0) from by omega, ↓reduceIte]
theorem toNet_ev (S : List Int) (hS : S.length ≤ 1048576) : Ev (fun k => laws_toNet.f k S) S := by
  unfold laws_toNet.f
  exact Ev.bind (toIntS_ev S (by omega)) (Ev.some _)
theorem eqNet_self (S : List Int) (hS : S.length ≤ 1048576) : Ev (fun k => laws_eqNet.f k S S) true := by
  unfold laws_eqNet.f
  refine Ev.bind (eqIntS_self S hS) ?_
  simp only [↓reduceIte]
  exact Ev.some _
end Go.Proofs.Ytnpfkbfmipnofaa.Q
