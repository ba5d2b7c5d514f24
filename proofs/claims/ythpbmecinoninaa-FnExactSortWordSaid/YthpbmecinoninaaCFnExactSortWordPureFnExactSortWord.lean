/- The pure statement of the law FnExactSortWord: the printed law function answers true, for all arguments; no conditions. -/
import Derived.Test.YthpbmecinoninaaCFnExactSortWordQSortW
import Derived.Test.YthpbmecinoninaaCFnExactSortWordQMarkSpace
import Derived.Test.YthpbmecinoninaaCFnExactSortWordP3
namespace Go.Proofs.Ythpbmecinoninaa.Pure
open Go.RowKit Go.Proofs.YthpbmecinoninaaW.PrintWords Go.Proofs.YthpbmecinoninaaW.PrintLast Go.Proofs.YthpbmecinoninaaW.PrintMore Go.Proofs.Ythpbmecinoninaa.P Go.Proofs.Ythpbmecinoninaa.Q
set_option linter.unusedVariables false
set_option linter.unusedSimpArgs false


theorem FnExactSortWord : laws_FnExactSortWord.Pure := by
  intro n S a _ hm _ _
  refine Ev.rounds ?_
  unfold laws_FnExactSortWord.f
  by_cases hS : S.length ≤ 1048576
  rotate_left
  · simp only [szSpace_no n S hm hS, Option.bind_some, show ((-1 : Int) < 0) from by omega, ↓reduceIte]
    exact Ev.some _
  obtain ⟨r, hr, h0⟩ := szSpace_yes n S hS
  simp only [hr, Option.bind_some, h0, ↓reduceIte]
  obtain ⟨L, b, hL, hs, hi⟩ := SortWord_both n S hS a
  repeat (first
    | exact Ev.some _
    | with_reducible refine Ev.bind (toSpace_ev _ _ hS) ?_
    | with_reducible refine Ev.bind hs ?_
    | with_reducible refine Ev.bind hi ?_
    | with_reducible refine Ev.bind (eqSpace_self _ _ hS) ?_
    | with_reducible refine Ev.bind (eqIntS_self _ hL) ?_
    | with_reducible refine Ev.bind (mark1_ev _ hL) ?_
    | with_reducible refine Ev.bind (held1_ev _ hL) ?_
    | with_reducible refine Ev.bind (markSpace1_ev _ _ hS) ?_
    | (show Ev (fun k => laws_FnExactSortWord.j0 k _ _ _ _ _ _ _ _ _ _) _; refine Ev.step (fun k => by rw [laws_FnExactSortWord.j0]) ?_)
    | (show Ev (fun k => laws_FnExactSortWord.j1 k _ _ _ _ _ _ _) _; refine Ev.step (fun k => by rw [laws_FnExactSortWord.j1]) ?_)
    | (show Ev (fun k => laws_FnExactSortWord.j2 k _ _ _) _; refine Ev.step (fun k => by rw [laws_FnExactSortWord.j2]) ?_)
    | simp only [bne_self_eq_false, bne_self_eq_false', bneB, Bool.false_eq_true, Option.bind_some, ↓reduceIte, nneg])
end Go.Proofs.Ythpbmecinoninaa.Pure
