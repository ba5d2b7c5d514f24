/- The pure statement of the law FnExactSwapWay: the printed law function answers true, for all arguments; no conditions. -/
import Derived.Test.YtnpfkbfmipnofaaCFnExactSwapWayQSwapWay
import Derived.Test.YtnpfkbfmipnofaaCFnExactSwapWayQMarkSpace
import Derived.Test.YtnpfkbfmipnofaaCFnExactSwapWayP5
namespace Go.Proofs.Ytnpfkbfmipnofaa.Pure
open Go.RowKit Go.Proofs.YtnpfkbfmipnofaaW.PrintWords Go.Proofs.YtnpfkbfmipnofaaW.PrintLast Go.Proofs.YtnpfkbfmipnofaaW.PrintMore Go.Proofs.Ytnpfkbfmipnofaa.P Go.Proofs.Ytnpfkbfmipnofaa.Q
set_option linter.unusedVariables false
set_option linter.unusedSimpArgs false


theorem FnExactSwapWay : laws_FnExactSwapWay.Pure := by
  intro n S u w _ hm _ hm0 _ hm1 _
  refine Ev.rounds ?_
  unfold laws_FnExactSwapWay.f
  by_cases hwu : u.length ≤ 1048576
  rotate_left
  · simp only [show ((u.length : Int) > 1048576) from by omega, ↓reduceIte]
    exact Ev.some _
  simp only [show ¬ ((u.length : Int) > 1048576) from by omega, ↓reduceIte]
  by_cases hww : w.length ≤ 1048576
  rotate_left
  · simp only [show ((w.length : Int) > 1048576) from by omega, ↓reduceIte]
    exact Ev.some _
  simp only [show ¬ ((w.length : Int) > 1048576) from by omega, ↓reduceIte]
  by_cases hS : S.length ≤ 1048576
  rotate_left
  · simp only [szSpace_no n S hm hS, Option.bind_some, show ((-1 : Int) < 0) from by omega, ↓reduceIte]
    exact Ev.some _
  obtain ⟨r, hr, h0⟩ := szSpace_yes n S hS
  simp only [hr, Option.bind_some, h0, ↓reduceIte]
  obtain ⟨L, b, hL, hs, hi⟩ := SwapWay_both n S hS u hwu w hww
  repeat (first
    | exact Ev.some _
    | with_reducible refine Ev.bind (toSpace_ev _ _ hS) ?_
    | with_reducible refine Ev.bind hs ?_
    | with_reducible refine Ev.bind hi ?_
    | with_reducible refine Ev.bind (eqSpace_self _ _ hS) ?_
    | with_reducible refine Ev.bind (toIntS_ev' u hwu) ?_
    | with_reducible refine Ev.bind (eqIntS_self u hwu) ?_
    | with_reducible refine Ev.bind (toIntS_ev' w hww) ?_
    | with_reducible refine Ev.bind (eqIntS_self w hww) ?_
    | with_reducible refine Ev.bind (eqIntS_self _ hL) ?_
    | with_reducible refine Ev.bind (mark1_ev _ hL) ?_
    | with_reducible refine Ev.bind (held1_ev _ hL) ?_
    | with_reducible refine Ev.bind (markSpace1_ev _ _ hS) ?_
    | with_reducible refine Ev.bind (mark1_ev u hwu) ?_
    | with_reducible refine Ev.bind (mark1_ev w hww) ?_
    | with_reducible refine Ev.bind (mark_ev (1 + S.length) (by omega) u (by omega)) ?_
    | with_reducible refine Ev.bind (mark_ev (1 + S.length + u.length) (by omega) w (by omega)) ?_
    | (show Ev (fun k => laws_FnExactSwapWay.j0 k _ _ _ _ _ _ _ _ _ _ _ _ _) _; refine Ev.step (fun k => by rw [laws_FnExactSwapWay.j0]) ?_)
    | (show Ev (fun k => laws_FnExactSwapWay.j1 k _ _ _ _ _ _ _ _) _; refine Ev.step (fun k => by rw [laws_FnExactSwapWay.j1]) ?_)
    | (show Ev (fun k => laws_FnExactSwapWay.j2 k _ _ _) _; refine Ev.step (fun k => by rw [laws_FnExactSwapWay.j2]) ?_)
    | simp only [bne_self_eq_false, bne_self_eq_false', bneB, Bool.false_eq_true, Option.bind_some, ↓reduceIte, nneg])
end Go.Proofs.Ytnpfkbfmipnofaa.Pure
