/- The pure statement of the law FnExactPathsOf: the printed law function answers true, for all arguments; no conditions. -/
import Derived.Test.YtnpfkbfmipnofaaCFnExactPathsOfQPath
import Derived.Test.YtnpfkbfmipnofaaCFnExactPathsOfQLawSpace
import Derived.Test.YtnpfkbfmipnofaaCFnExactPathsOfQMarkSpace
import Derived.Test.YtnpfkbfmipnofaaCFnExactPathsOfP3
namespace Go.Proofs.Ytnpfkbfmipnofaa.Pure
open Go.RowKit Go.Proofs.YtnpfkbfmipnofaaW.PrintWords Go.Proofs.YtnpfkbfmipnofaaW.PrintLast Go.Proofs.YtnpfkbfmipnofaaW.PrintMore Go.Proofs.Ytnpfkbfmipnofaa.P Go.Proofs.Ytnpfkbfmipnofaa.Q
set_option linter.unusedVariables false
set_option linter.unusedSimpArgs false

theorem PathsOf_both (n : Int) (S : List Int) (hS : S.length ≤ 1048576) : ∃ (L : List Int) (b : Bool), L.length ≤ 1048576 ∧ Ev (fun k => spec_PathsOf.f k n S) (L, b) ∧ Ev (fun k => impl_PathsOf.f k n S) (L, b) := by
  have hS2 : S.length ≤ 1099511627776 := by omega
  cases hg : goodB n S with
  | false =>
    refine ⟨[], false, by simp, ?_, ?_⟩
    · unfold spec_PathsOf.f
      refine Ev.bind ((spec_spGood_ev n S hS2).eq hg) ?_
      simp only [↓reduceIte, Bool.false_eq_true]
      exact Ev.some _
    · unfold impl_PathsOf.f
      refine Ev.bind ((impl_IsSpace_ev n S hS2).eq hg) ?_
      simp only [↓reduceIte, Bool.false_eq_true]
      exact Ev.some _
  | true =>
    obtain ⟨m, T, rfl, rfl, h⟩ := good_space hg
    have hsh := h.short
    have hfl : (T.filter (pathB T)).length ≤ T.length := List.length_filter_le _ _
    refine ⟨castL (T.filter (pathB T)), true, by rw [castL_length]; omega, ?_, ?_⟩
    · unfold spec_PathsOf.f
      refine Ev.bind h.spec ?_
      simp only [↓reduceIte]
      exact Ev.bind (paAll_ev h) (Ev.some _)
    · unfold impl_PathsOf.f
      refine Ev.bind h.impl ?_
      simp only [↓reduceIte]
      exact Ev.bind (paths_ev h) (Ev.some _)
theorem FnExactPathsOf : laws_FnExactPathsOf.Pure := by
  intro n S _ hm _
  refine Ev.rounds ?_
  unfold laws_FnExactPathsOf.f
  by_cases hS : S.length ≤ 1048576
  rotate_left
  · simp only [szSpace_no n S hm hS, Option.bind_some, show ((-1 : Int) < 0) from by omega, ↓reduceIte]
    exact Ev.some _
  obtain ⟨r, hr, h0⟩ := szSpace_yes n S hS
  simp only [hr, Option.bind_some, h0, ↓reduceIte]
  obtain ⟨L, b, hL, hs, hi⟩ := PathsOf_both n S hS
  repeat (first
    | exact Ev.some _
    | with_reducible refine Ev.bind (toSpace_ev _ _ hS) ?_
    | with_reducible refine Ev.bind hs ?_
    | with_reducible refine Ev.bind hi ?_
    | with_reducible refine Ev.bind (eqSpace_self _ _ hS) ?_
    | with_reducible refine Ev.bind (eqIntS_self _ hL) ?_
    | with_reducible refine Ev.bind (mark1_ev _ hL) ?_
    | with_reducible refine Ev.bind (held1_ev _ hL) ?_
    | with_reducible refine Ev.bind (markSpace1_ev _ _ hS) ?_
    | (show Ev (fun k => laws_FnExactPathsOf.j0 k _ _ _ _ _ _ _ _ _) _; refine Ev.step (fun k => by rw [laws_FnExactPathsOf.j0]) ?_)
    | (show Ev (fun k => laws_FnExactPathsOf.j1 k _ _ _ _ _ _) _; refine Ev.step (fun k => by rw [laws_FnExactPathsOf.j1]) ?_)
    | (show Ev (fun k => laws_FnExactPathsOf.j2 k _ _ _) _; refine Ev.step (fun k => by rw [laws_FnExactPathsOf.j2]) ?_)
    | simp only [bne_self_eq_false, bne_self_eq_false', bneB, Bool.false_eq_true, Option.bind_some, ↓reduceIte, nneg])
end Go.Proofs.Ytnpfkbfmipnofaa.Pure
