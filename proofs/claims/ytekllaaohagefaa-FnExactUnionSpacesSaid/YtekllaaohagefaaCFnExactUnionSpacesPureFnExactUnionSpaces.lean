/- The pure statement of the law FnExactUnionSpaces: the printed law function answers true, for all arguments; no conditions. -/
import Derived.Test.YtekllaaohagefaaCFnExactUnionSpacesQUnion
import Derived.Test.YtekllaaohagefaaCFnExactUnionSpacesQMarkSpace
import Derived.Test.YtekllaaohagefaaCFnExactUnionSpacesP5
namespace Go.Proofs.Ytekllaaohagefaa.Pure
open Go.RowKit Go.Proofs.YtekllaaohagefaaW.PrintWords Go.Proofs.YtekllaaohagefaaW.PrintLast Go.Proofs.YtekllaaohagefaaW.PrintMore Go.Proofs.Ytekllaaohagefaa.P Go.Proofs.Ytekllaaohagefaa.Q
set_option linter.unusedVariables false
set_option linter.unusedSimpArgs false

theorem markSpaceC_ev (n : Int) (m : Nat) (hm : m ≤ 1073741824) (l : List Int) (h : l.length ≤ 1073741824) : Ev (fun k => laws_markSpace.f k n l (m : Int)) (((m + l.length : Nat) : Int), upL m l.length) := by
  unfold laws_markSpace.f
  exact Ev.bind (mark_ev m hm l h) (Ev.some _)
theorem szSpace_at (n : Int) (S : List Int) (hm : S.length ≤ maxLen) (c : Int) (h0 : 0 ≤ c) (h1 : c ≤ 1048576) : laws_szSpace.f n S c = some (if (S.length : Int) ≤ c then c - S.length else -1) := by
  unfold laws_szSpace.f
  rw [szIntS_eq S hm c h0 h1, Option.bind_some]
  by_cases h : (S.length : Int) ≤ c
  · simp only [h, ↓reduceIte, show ¬ (c - (S.length : Int) < 0) from by omega]
  · simp only [h, ↓reduceIte, show ((-1 : Int) < 0) from by omega]
theorem FnExactUnionSpaces : laws_FnExactUnionSpaces.Pure := by
  intro n S n2 S2 _ hm _ _ hm2 _
  refine Ev.rounds ?_
  unfold laws_FnExactUnionSpaces.f
  simp only [szSpace_at n S hm 1048576 (by omega) (by omega), Option.bind_some]
  by_cases h1 : (S.length : Int) ≤ 1048576
  rotate_left
  · simp only [h1, ↓reduceIte, show ((-1 : Int) < 0) from by omega]
    exact Ev.some _
  simp only [h1, ↓reduceIte, show ¬ ((1048576 : Int) - (S.length : Int) < 0) from by omega]
  simp only [szSpace_at n2 S2 hm2 (1048576 - (S.length : Int)) (by omega) (by omega), Option.bind_some]
  by_cases h2 : (S2.length : Int) ≤ 1048576 - (S.length : Int)
  rotate_left
  · simp only [h2, ↓reduceIte, show ((-1 : Int) < 0) from by omega]
    exact Ev.some _
  simp only [h2, ↓reduceIte, show ¬ ((1048576 : Int) - (S.length : Int) - (S2.length : Int) < 0) from by omega]
  have hS : S.length ≤ 1048576 := by omega
  have hS2 : S2.length ≤ 1048576 := by omega
  obtain ⟨n', L, b, hL, hs, hi⟩ := UnionSpaces_both n S hS n2 S2 hS2
  repeat (first
    | exact Ev.some _
    | with_reducible refine Ev.bind (toSpace_ev _ _ hS) ?_
    | with_reducible refine Ev.bind (toSpace_ev _ _ hS2) ?_
    | with_reducible refine Ev.bind hs ?_
    | with_reducible refine Ev.bind hi ?_
    | with_reducible refine Ev.bind (eqSpace_self _ _ hS) ?_
    | with_reducible refine Ev.bind (eqSpace_self _ _ hS2) ?_
    | with_reducible refine Ev.bind (eqSpace_self _ _ hL) ?_
    | with_reducible refine Ev.bind (markSpace1_ev _ _ hL) ?_
    | with_reducible refine Ev.bind (markSpace1_ev _ _ hS) ?_
    | with_reducible refine Ev.bind (markSpaceC_ev _ (1 + S.length) (by omega) S2 (by omega)) ?_
    | with_reducible refine Ev.bind (heldSpace1_ev _ _ hL) ?_
    | (show Ev (fun k => laws_FnExactUnionSpaces.j0 k _ _ _ _ _ _ _ _ _ _ _ _ _ _ _) _; refine Ev.step (fun k => by rw [laws_FnExactUnionSpaces.j0]) ?_)
    | (show Ev (fun k => laws_FnExactUnionSpaces.j1 k _ _ _ _ _ _ _ _ _ _) _; refine Ev.step (fun k => by rw [laws_FnExactUnionSpaces.j1]) ?_)
    | (show Ev (fun k => laws_FnExactUnionSpaces.j2 k _ _ _ _) _; refine Ev.step (fun k => by rw [laws_FnExactUnionSpaces.j2]) ?_)
    | (show Ev (fun k => laws_FnExactUnionSpaces.j0 k _ _ _ _ _ _ _ _ _ _ _ _ _ _ _) _; refine Ev.step (fun k => by rw [laws_FnExactUnionSpaces.j0]) ?_)
    | (show Ev (fun k => laws_FnExactUnionSpaces.j1 k _ _ _ _ _ _ _ _ _ _) _; refine Ev.step (fun k => by rw [laws_FnExactUnionSpaces.j1]) ?_)
    | (show Ev (fun k => laws_FnExactUnionSpaces.j2 k _ _ _ _) _; refine Ev.step (fun k => by rw [laws_FnExactUnionSpaces.j2]) ?_)
    | simp only [bne_self_eq_false, bne_self_eq_false', bneB, Bool.false_eq_true, Option.bind_some, ↓reduceIte, nneg])
end Go.Proofs.Ytekllaaohagefaa.Pure
