/- A space, or none; conditions: as each theorem states. -/
import Derived.Test.YthpbmecinoninaaCFnExactSpaceOfClausesQClosed
import Derived.Test.YthpbmecinoninaaCFnExactSpaceOfClausesQSp
import Derived.Test.YthpbmecinoninaaCFnExactSpaceOfClausesP6
namespace Go.Proofs.Ythpbmecinoninaa.Q
open Go.RowKit Go.Proofs.YthpbmecinoninaaW.PrintWords Go.Proofs.YthpbmecinoninaaW.PrintLast Go.Proofs.YthpbmecinoninaaW.PrintMore Go.Proofs.Ythpbmecinoninaa.P
set_option linter.unusedVariables false
set_option linter.unusedSimpArgs false

theorem spIf_yes {m : Nat} {R : List Nat} (h : SpN m R) : Ev (fun k => spec_spIf.f k (m : Int) (castL R)) ((m : Int), castL R, true) := by
  unfold spec_spIf.f
  refine Ev.bind h.spec ?_
  simp only [↓reduceIte]
  exact Ev.some _
theorem spIf_no {m : Nat} {R : List Nat} (hl : R.length ≤ 1099511627776) (h : 2 ^ m - 1 ∉ R) : Ev (fun k => spec_spIf.f k (m : Int) (castL R)) (0, [], false) := by
  have hg : goodB (m : Int) (castL R) = false := by
    rw [Bool.eq_false_iff]
    intro hg
    obtain ⟨m', T, e1, e2, hS⟩ := good_space hg
    have em : m = m' := by omega
    subst em
    rw [castL_inj e2] at h
    exact h hS.full
  unfold spec_spIf.f
  refine Ev.bind ((spec_spGood_ev _ _ (by rw [castL_length]; exact hl)).eq hg) ?_
  simp only [↓reduceIte, Bool.false_eq_true]
  exact Ev.some _
end Go.Proofs.Ythpbmecinoninaa.Q
