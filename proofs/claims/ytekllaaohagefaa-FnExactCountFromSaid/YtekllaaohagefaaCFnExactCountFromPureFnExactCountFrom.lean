/- The pure statement of the law FnExactCountFrom: the printed law function answers true, for all arguments; no conditions. -/
import Derived.Test.YtekllaaohagefaaCFnExactCountFromQWays
import Derived.Test.YtekllaaohagefaaCFnExactCountFromQLawSpace
import Derived.Test.YtekllaaohagefaaCFnExactCountFromQMark
import Derived.Test.YtekllaaohagefaaCFnExactCountFromP3
namespace Go.Proofs.Ytekllaaohagefaa.Pure
open Go.RowKit Go.Proofs.YtekllaaohagefaaW.PrintWords Go.Proofs.YtekllaaohagefaaW.PrintLast Go.Proofs.YtekllaaohagefaaW.PrintMore Go.Proofs.Ytekllaaohagefaa.P Go.Proofs.Ytekllaaohagefaa.Q
set_option linter.unusedVariables false
set_option linter.unusedSimpArgs false


theorem FnExactCountFrom : laws_FnExactCountFrom.Pure := by
  intro n S a _ hm _ _
  refine Ev.rounds ?_
  unfold laws_FnExactCountFrom.f
  by_cases hS : S.length ≤ 1048576
  rotate_left
  · simp only [szSpace_no n S hm hS, Option.bind_some, show ((-1 : Int) < 0) from by omega, ↓reduceIte]
    exact Ev.some _
  obtain ⟨r, hr, h0⟩ := szSpace_yes n S hS
  simp only [hr, Option.bind_some, h0, ↓reduceIte]
  obtain ⟨v, hs, hi⟩ := CountFrom_both n S hS a
  repeat (first
    | exact Ev.some _
    | with_reducible refine Ev.bind (toSpace_ev _ _ hS) ?_
    | with_reducible refine Ev.bind hs ?_
    | with_reducible refine Ev.bind hi ?_
    | with_reducible refine Ev.bind (eqSpace_self _ _ hS) ?_
    | (show Ev (fun k => laws_FnExactCountFrom.j0 k _ _ _ _ _) _; refine Ev.step (fun k => by rw [laws_FnExactCountFrom.j0]) ?_)
    | (show Ev (fun k => laws_FnExactCountFrom.j0 k _ _ _ _ _) _; refine Ev.step (fun k => by rw [laws_FnExactCountFrom.j0]) ?_)
    | simp only [bne_self_eq_false, bne_self_eq_false', bneB, Bool.false_eq_true, Option.bind_some, ↓reduceIte, nneg])
end Go.Proofs.Ytekllaaohagefaa.Pure
