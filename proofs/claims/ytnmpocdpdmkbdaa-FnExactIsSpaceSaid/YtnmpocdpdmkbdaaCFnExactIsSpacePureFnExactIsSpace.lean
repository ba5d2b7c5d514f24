/- The pure statement of the law FnExactIsSpace: the printed law function answers true, for all arguments; no conditions. -/
import Derived.Test.YtnmpocdpdmkbdaaCFnExactIsSpaceQLawSpace
import Derived.Test.YtnmpocdpdmkbdaaCFnExactIsSpaceQGood
import Derived.Test.YtnmpocdpdmkbdaaCFnExactIsSpaceP2
namespace Go.Proofs.Ytnmpocdpdmkbdaa.Pure
open Go.RowKit Go.Proofs.YtnmpocdpdmkbdaaW.PrintWords Go.Proofs.YtnmpocdpdmkbdaaW.PrintLast Go.Proofs.YtnmpocdpdmkbdaaW.PrintMore Go.Proofs.Ytnmpocdpdmkbdaa.P Go.Proofs.Ytnmpocdpdmkbdaa.Q

theorem FnExactIsSpace : laws_FnExactIsSpace.Pure := by
  intro n S _ hm _
  refine Ev.rounds ?_
  unfold laws_FnExactIsSpace.f
  by_cases hS : S.length ≤ 1048576
  · obtain ⟨r, hr, h0⟩ := szSpace_yes n S hS
    simp only [hr, Option.bind_some, h0, ↓reduceIte]
    refine Ev.bind (toSpace_ev n S hS) ?_
    refine Ev.bind (show Ev (fun k => spec_IsSpace.f k n S) (goodB n S) from ?_) ?_
    · unfold spec_IsSpace.f
      exact Ev.bind (spec_spGood_ev n S (by omega)) (Ev.some _)
    refine Ev.bind (toSpace_ev n S hS) ?_
    refine Ev.bind (impl_IsSpace_ev n S (by omega)) ?_
    simp only [bne_self_eq_false, Bool.false_eq_true, ↓reduceIte]
    refine Ev.bind (toSpace_ev n S hS) ?_
    refine Ev.bind (eqSpace_self n S hS) ?_
    exact Ev.some _
  · simp only [szSpace_no n S hm hS, Option.bind_some, show ((-1 : Int) < 0) from by omega, ↓reduceIte]
    exact Ev.some _
end Go.Proofs.Ytnmpocdpdmkbdaa.Pure
