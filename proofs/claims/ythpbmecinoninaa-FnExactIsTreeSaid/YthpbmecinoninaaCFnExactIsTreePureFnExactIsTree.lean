/- The pure statement of the law FnExactIsTree: the printed law function answers true, for all arguments; no conditions. -/
import Derived.Test.YthpbmecinoninaaCFnExactIsTreeQTree
import Derived.Test.YthpbmecinoninaaCFnExactIsTreeQLawNet
import Derived.Test.YthpbmecinoninaaCFnExactIsTreeQMark
import Derived.Test.YthpbmecinoninaaCFnExactIsTreeP2
namespace Go.Proofs.Ythpbmecinoninaa.Pure
open Go.RowKit Go.Proofs.YthpbmecinoninaaW.PrintWords Go.Proofs.YthpbmecinoninaaW.PrintLast Go.Proofs.YthpbmecinoninaaW.PrintMore Go.Proofs.Ythpbmecinoninaa.P Go.Proofs.Ythpbmecinoninaa.Q
set_option linter.unusedVariables false
set_option linter.unusedSimpArgs false

theorem IsTree_both (S : List Int) (hS : S.length ≤ 1048576) : ∃ v : Bool × Bool, Ev (fun k => spec_IsTree.f k S) v ∧ Ev (fun k => impl_IsTree.f k S) v := by
  rcases net_cases (S := S) (by omega) with ⟨h1, h2⟩ | ⟨T, rfl, h, h1, h2⟩
  · refine ⟨(false, false), ?_, ?_⟩
    · unfold spec_IsTree.f
      refine Ev.bind h2 ?_
      simp only [↓reduceIte, Bool.false_eq_true]; exact Ev.some _
    · unfold impl_IsTree.f
      refine Ev.bind h1 ?_
      simp only [↓reduceIte, Bool.false_eq_true]; exact Ev.some _
  · obtain ⟨b, hi, hs⟩ := tree_both h h2
    refine ⟨(b, true), ?_, ?_⟩
    · unfold spec_IsTree.f
      refine Ev.bind h2 ?_
      simp only [↓reduceIte]
      exact Ev.bind hs (Ev.some _)
    · unfold impl_IsTree.f
      refine Ev.bind h1 ?_
      simp only [↓reduceIte]
      exact Ev.bind hi (Ev.some _)
theorem FnExactIsTree : laws_FnExactIsTree.Pure := by
  intro S hm _
  refine Ev.rounds ?_
  unfold laws_FnExactIsTree.f
  by_cases hS : S.length ≤ 1048576
  rotate_left
  · simp only [szNet_no S hm hS, Option.bind_some, show ((-1 : Int) < 0) from by omega, ↓reduceIte]
    exact Ev.some _
  obtain ⟨r, hr, h0⟩ := szNet_yes S hS
  simp only [hr, Option.bind_some, h0, ↓reduceIte]
  obtain ⟨v, hs, hi⟩ := IsTree_both S hS
  repeat (first
    | exact Ev.some _
    | with_reducible refine Ev.bind (toNet_ev _ hS) ?_
    | with_reducible refine Ev.bind hs ?_
    | with_reducible refine Ev.bind hi ?_
    | with_reducible refine Ev.bind (eqNet_self _ hS) ?_
    | (show Ev (fun k => laws_FnExactIsTree.j0 k _ _ _) _; refine Ev.step (fun k => by rw [laws_FnExactIsTree.j0]) ?_)
    | simp only [bne_self_eq_false, bne_self_eq_false', bneB, Bool.false_eq_true, Option.bind_some, ↓reduceIte, nneg])
end Go.Proofs.Ythpbmecinoninaa.Pure
