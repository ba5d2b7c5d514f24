/- The pure statement of the law FnExactChordalSpace: the printed law function answers true, for all arguments; no conditions. -/
import Derived.Test.YtnpfkbfmipnofaaCFnExactChordalSpaceQChordal
import Derived.Test.YtnpfkbfmipnofaaCFnExactChordalSpaceQLawNet
import Derived.Test.YtnpfkbfmipnofaaCFnExactChordalSpaceQMarkSpace
import Derived.Test.YtnpfkbfmipnofaaCFnExactChordalSpaceQMarkNet
import Derived.Test.YtnpfkbfmipnofaaCFnExactChordalSpaceP5
namespace Go.Proofs.Ytnpfkbfmipnofaa.Pure
open Go.RowKit Go.Proofs.YtnpfkbfmipnofaaW.PrintWords Go.Proofs.YtnpfkbfmipnofaaW.PrintLast Go.Proofs.YtnpfkbfmipnofaaW.PrintMore Go.Proofs.Ytnpfkbfmipnofaa.P Go.Proofs.Ytnpfkbfmipnofaa.Q
set_option linter.unusedVariables false
set_option linter.unusedSimpArgs false


theorem FnExactChordalSpace : laws_FnExactChordalSpace.Pure := by
  intro S hm _
  refine Ev.rounds ?_
  unfold laws_FnExactChordalSpace.f
  by_cases hS : S.length ≤ 1048576
  rotate_left
  · simp only [szNet_no S hm hS, Option.bind_some, show ((-1 : Int) < 0) from by omega, ↓reduceIte]
    exact Ev.some _
  obtain ⟨r, hr, h0⟩ := szNet_yes S hS
  simp only [hr, Option.bind_some, h0, ↓reduceIte]
  obtain ⟨n', L, b, hL, hs, hi⟩ := ChordalSpace_both S hS
  repeat (first
    | exact Ev.some _
    | with_reducible refine Ev.bind (toNet_ev _ hS) ?_
    | with_reducible refine Ev.bind hs ?_
    | with_reducible refine Ev.bind hi ?_
    | with_reducible refine Ev.bind (eqNet_self _ hS) ?_
    | with_reducible refine Ev.bind (eqSpace_self _ _ hL) ?_
    | with_reducible refine Ev.bind (markSpace1_ev _ _ hL) ?_
    | with_reducible refine Ev.bind (heldSpace1_ev _ _ hL) ?_
    | with_reducible refine Ev.bind (markNet1_ev _ hS) ?_
    | (show Ev (fun k => laws_FnExactChordalSpace.j0 k _ _ _ _ _ _ _ _ _) _; refine Ev.step (fun k => by rw [laws_FnExactChordalSpace.j0]) ?_)
    | (show Ev (fun k => laws_FnExactChordalSpace.j1 k _ _ _ _ _ _ _) _; refine Ev.step (fun k => by rw [laws_FnExactChordalSpace.j1]) ?_)
    | (show Ev (fun k => laws_FnExactChordalSpace.j2 k _ _ _ _) _; refine Ev.step (fun k => by rw [laws_FnExactChordalSpace.j2]) ?_)
    | simp only [bne_self_eq_false, bne_self_eq_false', bneB, Bool.false_eq_true, Option.bind_some, ↓reduceIte, nneg])
end Go.Proofs.Ytnpfkbfmipnofaa.Pure
