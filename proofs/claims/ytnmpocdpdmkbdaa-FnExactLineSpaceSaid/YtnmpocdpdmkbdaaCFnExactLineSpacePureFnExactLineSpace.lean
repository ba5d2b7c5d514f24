/- The pure statement of the law FnExactLineSpace: the printed law function answers true, for all arguments; no conditions. -/
import Derived.Test.YtnmpocdpdmkbdaaCFnExactLineSpaceQSet
import Derived.Test.YtnmpocdpdmkbdaaCFnExactLineSpaceQMarkSpace
import Derived.Test.YtnmpocdpdmkbdaaCFnExactLineSpaceP2
namespace Go.Proofs.Ytnmpocdpdmkbdaa.Pure
open Go.RowKit Go.Proofs.YtnmpocdpdmkbdaaW.PrintWords Go.Proofs.YtnmpocdpdmkbdaaW.PrintLast Go.Proofs.YtnmpocdpdmkbdaaW.PrintMore Go.Proofs.Ytnmpocdpdmkbdaa.P Go.Proofs.Ytnmpocdpdmkbdaa.Q

theorem line_few : ∀ i : Fin 7, laws_FnExactLineSpace.f 300 ((i.val + 1 : Nat) : Int) = some true := by decide +kernel
theorem line_spec (a : Int) (h : ¬ (1 ≤ a ∧ a ≤ 7)) : Ev (fun k => spec_LineSpace.f k a) (0, [], false) := by
  unfold spec_LineSpace.f
  simp only [spItems_eq, Option.bind_some, h, decide_false, Bool.false_eq_true, ↓reduceIte]
  exact Ev.some _
theorem line_impl (a : Int) (h : ¬ (1 ≤ a ∧ a ≤ 7)) : Ev (fun k => impl_LineSpace.f k a) (0, [], false) := by
  unfold impl_LineSpace.f
  simp only [isSize_eq, Option.bind_some, h, decide_false, Bool.false_eq_true, ↓reduceIte]
  exact Ev.some _
theorem FnExactLineSpace : laws_FnExactLineSpace.Pure := by
  intro a _
  by_cases h : 1 ≤ a ∧ a ≤ 7
  · refine ⟨300, ?_⟩
    have := line_few ⟨a.toNat - 1, by omega⟩
    simpa [show ((a.toNat - 1 + 1 : Nat) : Int) = a from by omega] using this
  · refine Ev.rounds ?_
    have hs := line_spec a h
    have hi := line_impl a h
    unfold laws_FnExactLineSpace.f
    have hL : ([] : List Int).length ≤ 1048576 := by simp
    repeat (first
      | exact Ev.some _
      | with_reducible refine Ev.bind hs ?_
      | with_reducible refine Ev.bind hi ?_
      | with_reducible refine Ev.bind (eqSpace_self _ _ hL) ?_
      | with_reducible refine Ev.bind (markSpace1_ev _ _ hL) ?_
      | with_reducible refine Ev.bind (heldSpace1_ev _ _ hL) ?_
      | (show Ev (fun k => laws_FnExactLineSpace.j0 k _ _ _ _ _ _ _) _; refine Ev.step (fun k => by rw [laws_FnExactLineSpace.j0]) ?_)
      | (show Ev (fun k => laws_FnExactLineSpace.j1 k _ _ _ _) _; refine Ev.step (fun k => by rw [laws_FnExactLineSpace.j1]) ?_)
      | simp only [bne_self_eq_false, Bool.false_eq_true, ↓reduceIte, nneg])
end Go.Proofs.Ytnmpocdpdmkbdaa.Pure
