/- The pure statement of the law FnExactLeastAbove: the printed law function answers true, for all arguments; no conditions. -/
import Derived.Test.YthpbmecinoninaaCFnExactLeastAboveQLeast
import Derived.Test.YthpbmecinoninaaCFnExactLeastAboveQLawSpace
import Derived.Test.YthpbmecinoninaaCFnExactLeastAboveQMarkSpace
import Derived.Test.YthpbmecinoninaaCFnExactLeastAboveP3
namespace Go.Proofs.Ythpbmecinoninaa.Pure
open Go.RowKit Go.Proofs.YthpbmecinoninaaW.PrintWords Go.Proofs.YthpbmecinoninaaW.PrintLast Go.Proofs.YthpbmecinoninaaW.PrintMore Go.Proofs.Ythpbmecinoninaa.P Go.Proofs.Ythpbmecinoninaa.Q
set_option linter.unusedVariables false
set_option linter.unusedSimpArgs false

theorem LeastAbove_both (n : Int) (S : List Int) (hS : S.length ≤ 1048576) (a : Int) : ∃ v : Int × Bool, Ev (fun k => spec_LeastAbove.f k n S a) v ∧ Ev (fun k => impl_LeastAbove.f k n S a) v := by
  rcases hasSet_cases (n := n) (by omega : S.length ≤ 1099511627776) a with ⟨h1, h2⟩ | ⟨m, T, x, rfl, rfl, rfl, h, hx, h1, h2⟩
  · refine ⟨(0, false), ?_, ?_⟩
    · unfold spec_LeastAbove.f
      refine Ev.bind h2 ?_
      simp only [↓reduceIte, Bool.false_eq_true]
      exact Ev.some _
    · unfold impl_LeastAbove.f
      refine Ev.bind h1 ?_
      simp only [↓reduceIte, Bool.false_eq_true]
      exact Ev.some _
  · obtain ⟨r, hr, hr'⟩ := least_both h hx
    have hsm := h.small
    refine ⟨((r : Int), true), ?_, ?_⟩
    · unfold spec_LeastAbove.f
      refine Ev.bind h2 ?_
      simp only [↓reduceIte, show (0 : Int) ≤ (m : Int) from by omega, pow1 h.m61, castL_length, w64 (x := (T.length : Int) - 1) (by omega) (by omega)]
      exact hr'
    · unfold impl_LeastAbove.f
      refine Ev.bind h1 ?_
      simp only [↓reduceIte, all_eq h.m61, Option.bind_some, castL_length]
      exact hr
theorem FnExactLeastAbove : laws_FnExactLeastAbove.Pure := by
  intro n S a _ hm _ _
  refine Ev.rounds ?_
  unfold laws_FnExactLeastAbove.f
  by_cases hS : S.length ≤ 1048576
  rotate_left
  · simp only [szSpace_no n S hm hS, Option.bind_some, show ((-1 : Int) < 0) from by omega, ↓reduceIte]
    exact Ev.some _
  obtain ⟨r, hr, h0⟩ := szSpace_yes n S hS
  simp only [hr, Option.bind_some, h0, ↓reduceIte]
  obtain ⟨v, hs, hi⟩ := LeastAbove_both n S hS a
  repeat (first
    | exact Ev.some _
    | with_reducible refine Ev.bind (toSpace_ev _ _ hS) ?_
    | with_reducible refine Ev.bind hs ?_
    | with_reducible refine Ev.bind hi ?_
    | with_reducible refine Ev.bind (eqSpace_self _ _ hS) ?_
    | (show Ev (fun k => laws_FnExactLeastAbove.j0 k _ _ _ _ _) _; refine Ev.step (fun k => by rw [laws_FnExactLeastAbove.j0]) ?_)
    | simp only [bne_self_eq_false, bne_self_eq_false', bneB, Bool.false_eq_true, Option.bind_some, ↓reduceIte, nneg])
end Go.Proofs.Ythpbmecinoninaa.Pure
