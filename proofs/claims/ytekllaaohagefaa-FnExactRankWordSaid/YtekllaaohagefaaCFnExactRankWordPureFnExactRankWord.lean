/- The pure statement of the law FnExactRankWord: the printed law function answers true, for all arguments; no conditions. -/
import Derived.Test.YtekllaaohagefaaCFnExactRankWordQRank
import Derived.Test.YtekllaaohagefaaCFnExactRankWordQLawSpace
import Derived.Test.YtekllaaohagefaaCFnExactRankWordP4
namespace Go.Proofs.Ytekllaaohagefaa.Pure
open Go.RowKit Go.Proofs.YtekllaaohagefaaW.PrintWords Go.Proofs.YtekllaaohagefaaW.PrintLast Go.Proofs.YtekllaaohagefaaW.PrintMore Go.Proofs.Ytekllaaohagefaa.P Go.Proofs.Ytekllaaohagefaa.Q
set_option linter.unusedVariables false
set_option linter.unusedSimpArgs false

theorem FnExactRankWord : laws_FnExactRankWord.Pure := by
  intro n S w _ hm _ hm0 _
  refine Ev.rounds ?_
  unfold laws_FnExactRankWord.f
  by_cases hww : w.length ≤ 1048576
  rotate_left
  · simp only [show ((w.length : Int) > 1048576) from by omega, ↓reduceIte]
    exact Ev.some _
  simp only [show ¬ ((w.length : Int) > 1048576) from by omega, ↓reduceIte]
  by_cases hS : S.length ≤ 1048576
  rotate_left
  · simp only [szSpace_no n S hm hS, Option.bind_some, show ((-1 : Int) < 0) from by omega, ↓reduceIte]
    exact Ev.some _
  obtain ⟨r, hr, h0⟩ := szSpace_yes n S hS
  simp only [hr, Option.bind_some, h0, ↓reduceIte]
  obtain ⟨v, hs, hi⟩ := RankWord_both n S hS w hww
  refine Ev.bind (toSpace_ev _ _ hS) ?_
  refine Ev.bind (toIntS_ev' w hww) ?_
  refine Ev.bind hs ?_
  refine Ev.bind (toSpace_ev _ _ hS) ?_
  refine Ev.bind (toIntS_ev' w hww) ?_
  refine Ev.bind hi ?_
  simp only [if_true, bne_self_eq_false]
  refine Ev.step (fun k => by rw [laws_FnExactRankWord.j0]) ?_
  simp only [Bool.false_eq_true, if_false]
  refine Ev.bind (toSpace_ev _ _ hS) ?_
  refine Ev.bind (eqSpace_self _ _ hS) ?_
  simp only [if_true]
  refine Ev.bind (toIntS_ev' w hww) ?_
  refine Ev.bind (eqIntS_self w hww) ?_
  simp only [if_true]
  exact Ev.some _
end Go.Proofs.Ytekllaaohagefaa.Pure
