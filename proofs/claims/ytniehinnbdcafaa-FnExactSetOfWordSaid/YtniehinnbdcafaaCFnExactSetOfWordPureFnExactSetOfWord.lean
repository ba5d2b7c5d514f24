/- The pure statement of the law FnExactSetOfWord: the printed law function answers true, for all arguments; no conditions. -/
import Derived.Test.YtniehinnbdcafaaCFnExactSetOfWordQWord
import Derived.Test.YtniehinnbdcafaaCFnExactSetOfWordQLawSpace
import Derived.Test.YtniehinnbdcafaaCFnExactSetOfWordQMarkSpace
import Derived.Test.YtniehinnbdcafaaCFnExactSetOfWordP3
namespace Go.Proofs.Ytniehinnbdcafaa.Pure
open Go.RowKit Go.Proofs.YtniehinnbdcafaaW.PrintWords Go.Proofs.YtniehinnbdcafaaW.PrintLast Go.Proofs.YtniehinnbdcafaaW.PrintMore Go.Proofs.Ytniehinnbdcafaa.P Go.Proofs.Ytniehinnbdcafaa.Q
set_option linter.unusedVariables false
set_option linter.unusedSimpArgs false

theorem SetOfWord_both (n : Int) (S : List Int) (hS : S.length ≤ 1048576) (w : List Int) (hw : w.length ≤ 1048576) : ∃ v : Int × Bool, Ev (fun k => spec_SetOfWord.f k n S w) v ∧ Ev (fun k => impl_SetOfWord.f k n S w) v := by
  have hS2 : S.length ≤ 1099511627776 := by omega
  have hw2 : w.length ≤ 1099511627776 := by omega
  cases hg : goodB n S with
  | false =>
    refine ⟨(0, false), ?_, ?_⟩
    · unfold spec_SetOfWord.f
      refine Ev.bind ((spec_spGood_ev n S hS2).eq hg) ?_
      simp only [↓reduceIte, Bool.false_eq_true]
      exact Ev.some _
    · unfold impl_SetOfWord.f
      refine Ev.bind (isWord_no hS2 hg w) ?_
      simp only [↓reduceIte, Bool.false_eq_true]
      exact Ev.some _
  | true =>
    obtain ⟨m, T, rfl, rfl, h⟩ := good_space hg
    refine ⟨wordR m T w 0, ?_, ?_⟩
    · unfold spec_SetOfWord.f
      refine Ev.bind h.spec ?_
      simp only [↓reduceIte]
      exact Ev.bind (woSet_ev h w hw2) (Ev.some _)
    · unfold impl_SetOfWord.f
      refine Ev.bind (isWord_ev h w hw2) ?_
      cases hb : (wordR m T w 0).2 with
      | true =>
        simp only [↓reduceIte]
        exact Ev.bind (setOf_ev h w hw2) (Ev.some _)
      | false =>
        simp only [↓reduceIte, Bool.false_eq_true]
        exact (Ev.some _).eq (wordR_no hb).symm
theorem FnExactSetOfWord : laws_FnExactSetOfWord.Pure := by
  intro n S w _ hm _ hm0 _
  refine Ev.rounds ?_
  unfold laws_FnExactSetOfWord.f
  by_cases hww : w.length ≤ 1048576
  rotate_left
  · simp only [show ((w.length : Int) > 1048576) from by omega, ↓reduceIte]
    exact Ev.some _
  simp only [show ¬ ((w.length : Int) > 1048576) from by omega, ↓reduceIte]
  by_cases hS : S.length ≤ 1048576
  · obtain ⟨r, hr, h0⟩ := szSpace_yes n S hS
    obtain ⟨v, hs, hi⟩ := SetOfWord_both n S hS w hww 
    simp only [hr, Option.bind_some, h0, ↓reduceIte]
    repeat (first
      | exact Ev.some _
      | with_reducible refine Ev.bind (toSpace_ev _ _ hS) ?_
      | with_reducible refine Ev.bind hs ?_
      | with_reducible refine Ev.bind hi ?_
      | with_reducible refine Ev.bind (eqSpace_self _ _ hS) ?_
      | with_reducible refine Ev.bind (toIntS_ev' w hww) ?_
      | with_reducible refine Ev.bind (eqIntS_self w hww) ?_
      | (show Ev (fun k => laws_FnExactSetOfWord.j0 k _ _ _ _ _ _ _) _; refine Ev.step (fun k => by rw [laws_FnExactSetOfWord.j0]) ?_)
      | simp only [bne_self_eq_false, bne_self_eq_false', bneB, Bool.false_eq_true, Option.bind_some, ↓reduceIte, nneg])
  · simp only [szSpace_no n S hm hS, Option.bind_some, show ((-1 : Int) < 0) from by omega, ↓reduceIte]
    exact Ev.some _
end Go.Proofs.Ytniehinnbdcafaa.Pure
