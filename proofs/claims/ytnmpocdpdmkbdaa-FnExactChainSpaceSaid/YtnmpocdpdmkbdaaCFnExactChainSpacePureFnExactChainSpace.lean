/- The pure statement of the law FnExactChainSpace: the printed law function answers true, for all arguments; no conditions. -/
import Derived.Test.YtnmpocdpdmkbdaaCFnExactChainSpaceQChain
import Derived.Test.YtnmpocdpdmkbdaaCFnExactChainSpaceQMarkSpace
import Derived.Test.YtnmpocdpdmkbdaaCFnExactChainSpaceP2
namespace Go.Proofs.Ytnmpocdpdmkbdaa.Pure
open Go.RowKit Go.Proofs.YtnmpocdpdmkbdaaW.PrintWords Go.Proofs.YtnmpocdpdmkbdaaW.PrintLast Go.Proofs.YtnmpocdpdmkbdaaW.PrintMore Go.Proofs.Ytnmpocdpdmkbdaa.P Go.Proofs.Ytnmpocdpdmkbdaa.Q
set_option linter.unusedVariables false
set_option linter.unusedSimpArgs false

theorem ChainSpace_both (w : List Int) (hw : w.length ≤ 1048576) : ∃ (n' : Int) (L : List Int) (b : Bool), L.length ≤ 1048576 ∧ Ev (fun k => spec_ChainSpace.f k w) (n', L, b) ∧ Ev (fun k => impl_ChainSpace.f k w) (n', L, b) := by
  rcases order_cases (w := w) (by omega) with ⟨h1, h2⟩ | ⟨W, e, h, h1, h2⟩
  · refine ⟨0, [], false, by simp, ?_, ?_⟩
    · unfold spec_ChainSpace.f
      refine Ev.bind h2 ?_
      simp only [↓reduceIte, Bool.false_eq_true]
      exact Ev.some _
    · unfold impl_ChainSpace.f
      refine Ev.bind h1 ?_
      simp only [↓reduceIte, Bool.false_eq_true]
      exact Ev.some _
  · have hl := h.len
    have hl7 := h.l7
    have hW : ∀ i ∈ W, i < 7 := fun i hi => by have := h.lt i hi; omega
    have hc := chainL_length (W := W) (T := [0]) (s := 0)
    subst e
    simp only [castL_length] at *
    refine ⟨(W.length : Int), castL (chainL W [0] 0), true, by simp at hc ⊢; omega, ?_, ?_⟩
    · unfold spec_ChainSpace.f
      refine Ev.bind h2 ?_
      simp only [↓reduceIte]
      refine Ev.bind (spChain_ev W hW hl7) ?_
      rw [castL_length]
      exact Ev.some _
    · unfold impl_ChainSpace.f
      rw [castL_length]
      refine Ev.bind h1 ?_
      simp only [↓reduceIte, Option.bind_some, List.length_replicate, show (0 : Int) < ((128 : Nat) : Int) from by omega, fam_zero]
      exact implChain_ev W hW hl7
theorem FnExactChainSpace : laws_FnExactChainSpace.Pure := by
  intro  w hm0 _
  refine Ev.rounds ?_
  unfold laws_FnExactChainSpace.f
  by_cases hww : w.length ≤ 1048576
  rotate_left
  · simp only [show ((w.length : Int) > 1048576) from by omega, ↓reduceIte]
    exact Ev.some _
  simp only [show ¬ ((w.length : Int) > 1048576) from by omega, ↓reduceIte]
  obtain ⟨n', L, b, hL, hs, hi⟩ := ChainSpace_both w hww
  repeat (first
    | exact Ev.some _
    | with_reducible refine Ev.bind hs ?_
    | with_reducible refine Ev.bind hi ?_
    | with_reducible refine Ev.bind (toIntS_ev' w hww) ?_
    | with_reducible refine Ev.bind (eqIntS_self w hww) ?_
    | with_reducible refine Ev.bind (eqSpace_self _ _ hL) ?_
    | with_reducible refine Ev.bind (markSpace1_ev _ _ hL) ?_
    | with_reducible refine Ev.bind (heldSpace1_ev _ _ hL) ?_
    | with_reducible refine Ev.bind (mark1_ev w hww) ?_
    | (show Ev (fun k => laws_FnExactChainSpace.j0 k _ _ _ _ _ _ _ _ _) _; refine Ev.step (fun k => by rw [laws_FnExactChainSpace.j0]) ?_)
    | (show Ev (fun k => laws_FnExactChainSpace.j1 k _ _ _ _ _ _ _) _; refine Ev.step (fun k => by rw [laws_FnExactChainSpace.j1]) ?_)
    | (show Ev (fun k => laws_FnExactChainSpace.j2 k _ _ _ _) _; refine Ev.step (fun k => by rw [laws_FnExactChainSpace.j2]) ?_)
    | simp only [bne_self_eq_false, bne_self_eq_false', bneB, Bool.false_eq_true, Option.bind_some, ↓reduceIte, nneg])
end Go.Proofs.Ytnmpocdpdmkbdaa.Pure
