/- The pure statement of the law FnExactIsNet: the printed law function answers true, for all arguments; no conditions. -/
import Derived.Test.YtnmpocdpdmkbdaaCFnExactIsNetQNet
import Derived.Test.YtnmpocdpdmkbdaaCFnExactIsNetQLawNet
import Derived.Test.YtnmpocdpdmkbdaaCFnExactIsNetQMark
import Derived.Test.YtnmpocdpdmkbdaaCFnExactIsNetP1
namespace Go.Proofs.Ytnmpocdpdmkbdaa.Pure
open Go.RowKit Go.Proofs.YtnmpocdpdmkbdaaW.PrintWords Go.Proofs.YtnmpocdpdmkbdaaW.PrintLast Go.Proofs.YtnmpocdpdmkbdaaW.PrintMore Go.Proofs.Ytnmpocdpdmkbdaa.P Go.Proofs.Ytnmpocdpdmkbdaa.Q
set_option linter.unusedVariables false
set_option linter.unusedSimpArgs false

theorem IsNet_both (S : List Int) (hS : S.length ≤ 1048576) : ∃ v : Bool, Ev (fun k => spec_IsNet.f k S) v ∧ Ev (fun k => impl_IsNet.f k S) v := by
  rcases net_cases (S := S) (by omega) with ⟨h1, h2⟩ | ⟨T, rfl, h, h1, h2⟩
  · exact ⟨false, by unfold spec_IsNet.f; exact Ev.bind h2 (Ev.some _), h1⟩
  · exact ⟨true, by unfold spec_IsNet.f; exact Ev.bind h2 (Ev.some _), h1⟩
theorem FnExactIsNet : laws_FnExactIsNet.Pure := by
  intro S hm _
  refine Ev.rounds ?_
  unfold laws_FnExactIsNet.f
  by_cases hS : S.length ≤ 1048576
  rotate_left
  · simp only [szNet_no S hm hS, Option.bind_some, show ((-1 : Int) < 0) from by omega, ↓reduceIte]
    exact Ev.some _
  obtain ⟨r, hr, h0⟩ := szNet_yes S hS
  simp only [hr, Option.bind_some, h0, ↓reduceIte]
  obtain ⟨v, hs, hi⟩ := IsNet_both S hS
  repeat (first
    | exact Ev.some _
    | with_reducible refine Ev.bind (toNet_ev _ hS) ?_
    | with_reducible refine Ev.bind hs ?_
    | with_reducible refine Ev.bind hi ?_
    | with_reducible refine Ev.bind (eqNet_self _ hS) ?_
    | simp only [bne_self_eq_false, bne_self_eq_false', bneB, Bool.false_eq_true, Option.bind_some, ↓reduceIte, nneg])
end Go.Proofs.Ytnmpocdpdmkbdaa.Pure
