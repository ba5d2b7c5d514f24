/- The pure statement of the law FnExactIsWord: the printed law function answers true, for all arguments; no conditions. -/
import Derived.Test.YtniehinnbdcafaaCFnExactIsWordQWord
import Derived.Test.YtniehinnbdcafaaCFnExactIsWordQLawSpace
import Derived.Test.YtniehinnbdcafaaCFnExactIsWordQMarkSpace
import Derived.Test.YtniehinnbdcafaaCFnExactIsWordP3
namespace Go.Proofs.Ytniehinnbdcafaa.Pure
open Go.RowKit Go.Proofs.YtniehinnbdcafaaW.PrintWords Go.Proofs.YtniehinnbdcafaaW.PrintLast Go.Proofs.YtniehinnbdcafaaW.PrintMore Go.Proofs.Ytniehinnbdcafaa.P Go.Proofs.Ytniehinnbdcafaa.Q
set_option linter.unusedVariables false
set_option linter.unusedSimpArgs false

theorem IsWord_both (n : Int) (S : List Int) (hS : S.length ≤ 1048576) (w : List Int) (hw : w.length ≤ 1048576) : ∃ v : Bool × Bool, Ev (fun k => spec_IsWord.f k n S w) v ∧ Ev (fun k => impl_IsWord.f k n S w) v := by
  have hS2 : S.length ≤ 1099511627776 := by omega
  have hw2 : w.length ≤ 1099511627776 := by omega
  cases hg : goodB n S with
  | false =>
    refine ⟨(false, false), ?_, ?_⟩
    · unfold spec_IsWord.f
      refine Ev.bind ((spec_spGood_ev n S hS2).eq hg) ?_
      simp only [↓reduceIte, Bool.false_eq_true]
      exact Ev.some _
    · unfold impl_IsWord.f
      refine Ev.bind ((impl_IsSpace_ev n S hS2).eq hg) ?_
      simp only [↓reduceIte, Bool.false_eq_true]
      exact Ev.some _
  | true =>
    obtain ⟨m, T, rfl, rfl, h⟩ := good_space hg
    by_cases h7 : (w.length : Int) > 7
    · refine ⟨(false, false), ?_, ?_⟩
      · unfold spec_IsWord.f
        refine Ev.bind h.spec ?_
        simp only [h7, ↓reduceIte]
        exact Ev.some _
      · unfold impl_IsWord.f
        refine Ev.bind h.impl ?_
        simp only [h7, ↓reduceIte]
        exact Ev.some _
    · refine ⟨((wordR m T w 0).2, true), ?_, ?_⟩
      · unfold spec_IsWord.f
        refine Ev.bind h.spec ?_
        simp only [h7, ↓reduceIte]
        exact Ev.bind (woSet_ev h w hw2) (Ev.some _)
      · unfold impl_IsWord.f
        refine Ev.bind h.impl ?_
        simp only [h7, ↓reduceIte]
        exact Ev.bind (isWord_ev h w hw2) (Ev.some _)
theorem FnExactIsWord : laws_FnExactIsWord.Pure := by
  intro n S w _ hm _ hm0 _
  refine Ev.rounds ?_
  unfold laws_FnExactIsWord.f
  by_cases hww : w.length ≤ 1048576
  rotate_left
  · simp only [show ((w.length : Int) > 1048576) from by omega, ↓reduceIte]
    exact Ev.some _
  simp only [show ¬ ((w.length : Int) > 1048576) from by omega, ↓reduceIte]
  by_cases hS : S.length ≤ 1048576
  · obtain ⟨r, hr, h0⟩ := szSpace_yes n S hS
    obtain ⟨v, hs, hi⟩ := IsWord_both n S hS w hww 
    simp only [hr, Option.bind_some, h0, ↓reduceIte]
    repeat (first
      | exact Ev.some _
      | with_reducible refine Ev.bind (toSpace_ev _ _ hS) ?_
      | with_reducible refine Ev.bind hs ?_
      | with_reducible refine Ev.bind hi ?_
      | with_reducible refine Ev.bind (eqSpace_self _ _ hS) ?_
      | with_reducible refine Ev.bind (toIntS_ev' w hww) ?_
      | with_reducible refine Ev.bind (eqIntS_self w hww) ?_
      | (show Ev (fun k => laws_FnExactIsWord.j0 k _ _ _ _ _ _ _) _; refine Ev.step (fun k => by rw [laws_FnExactIsWord.j0]) ?_)
      | simp only [bne_self_eq_false, bne_self_eq_false', bneB, Bool.false_eq_true, Option.bind_some, ↓reduceIte, nneg])
  · simp only [szSpace_no n S hm hS, Option.bind_some, show ((-1 : Int) < 0) from by omega, ↓reduceIte]
    exact Ev.some _
end Go.Proofs.Ytniehinnbdcafaa.Pure
