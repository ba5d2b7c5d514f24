/- A space, or none; conditions: as each theorem states. -/
import Derived.Test.YtnpfkbfmipnofaaCFnExactSpaceOfPathsQClosed
import Derived.Test.YtnpfkbfmipnofaaCFnExactSpaceOfPathsQSp
import Derived.Test.YtnpfkbfmipnofaaCFnExactSpaceOfPathsP4
namespace Go.Proofs.Ytnpfkbfmipnofaa.Q
open Go.RowKit Go.Proofs.YtnpfkbfmipnofaaW.PrintWords Go.Proofs.YtnpfkbfmipnofaaW.PrintLast Go.Proofs.YtnpfkbfmipnofaaW.PrintMore Go.Proofs.Ytnpfkbfmipnofaa.P
set_option linter.unusedVariables false
set_option linter.unusedSimpArgs false

theorem UC.tr {B C : Nat → Prop} (h : ∀ x, B x → UC C x) {z : Nat} (hz : UC B z) : UC C z := by
  induction hz with
  | zero => exact .zero
  | base hx => exact h _ hx
  | or _ _ ha hb => exact .or ha hb
theorem spIf_yes {m : Nat} {R : List Nat} (h : SpN m R) : Ev (fun k => spec_spIf.f k (m : Int) (castL R)) ((m : Int), castL R, true) := by
  unfold spec_spIf.f
  refine Ev.bind h.spec ?_
  simp only [↓reduceIte]
  exact Ev.some _
theorem spIf_no {m : Nat} {R : List Nat} (hl : R.length ≤ 1099511627776) (h : 2 ^ m - 1 ∉ R) : Ev (fun k => spec_spIf.f k (m : Int) (castL R)) (0, [], false) := by
  have hg : goodB (m : Int) (castL R) = false := by
    rw [Bool.eq_false_iff]
    intro hg
    obtain ⟨m', T, e1, e2, hS⟩ := good_space hg
    have em : m = m' := by omega
    subst em
    rw [castL_inj e2] at h
    exact h hS.full
  unfold spec_spIf.f
  refine Ev.bind ((spec_spGood_ev _ _ (by rw [castL_length]; exact hl)).eq hg) ?_
  simp only [↓reduceIte, Bool.false_eq_true]
  exact Ev.some _
end Go.Proofs.Ytnpfkbfmipnofaa.Q
