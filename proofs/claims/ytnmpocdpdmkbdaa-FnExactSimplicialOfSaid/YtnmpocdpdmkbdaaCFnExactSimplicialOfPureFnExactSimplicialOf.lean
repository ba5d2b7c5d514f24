/- The pure statement of the law FnExactSimplicialOf: the printed law function answers true, for all arguments; no conditions. -/
import Derived.Test.YtnmpocdpdmkbdaaCFnExactSimplicialOfQSimpOf
import Derived.Test.YtnmpocdpdmkbdaaCFnExactSimplicialOfQLawNet
import Derived.Test.YtnmpocdpdmkbdaaCFnExactSimplicialOfQMark
import Derived.Test.YtnmpocdpdmkbdaaCFnExactSimplicialOfP2
namespace Go.Proofs.Ytnmpocdpdmkbdaa.Pure
open Go.RowKit Go.Proofs.YtnmpocdpdmkbdaaW.PrintWords Go.Proofs.YtnmpocdpdmkbdaaW.PrintLast Go.Proofs.YtnmpocdpdmkbdaaW.PrintMore Go.Proofs.Ytnmpocdpdmkbdaa.P Go.Proofs.Ytnmpocdpdmkbdaa.Q
set_option linter.unusedVariables false
set_option linter.unusedSimpArgs false

theorem SimplicialOf_both (S : List Int) (hS : S.length ≤ 1048576) (a : Int) : ∃ v : Int × Bool, Ev (fun k => spec_SimplicialOf.f k S a) v ∧ Ev (fun k => impl_SimplicialOf.f k S a) v := by
  rcases net_cases (S := S) (by omega) with ⟨h1, h2⟩ | ⟨T, rfl, h, h1, h2⟩
  · refine ⟨(0, false), ?_, ?_⟩
    · unfold spec_SimplicialOf.f
      refine Ev.bind (shSet_no h2 a) ?_
      simp only [↓reduceIte, Bool.false_eq_true]
      exact Ev.some _
    · unfold impl_SimplicialOf.f
      refine Ev.bind h1 ?_
      simp only [↓reduceIte, Bool.false_eq_true]
      exact Ev.some _
  · have hl7 := h.l7
    have h3 : 2 ^ T.length ≤ 2 ^ 7 := Nat.pow_le_pow_right (by omega) hl7
    have hp : 0 < 2 ^ T.length := Nat.two_pow_pos _
    by_cases ha : 0 ≤ a ∧ a ≤ ((2 ^ T.length - 1 : Nat) : Int)
    · obtain ⟨c, rfl⟩ := Int.eq_ofNat_of_zero_le ha.1
      have hc : c < 2 ^ T.length := by omega
      refine ⟨(((simpOf T c T.length : Nat) : Int), true), ?_, ?_⟩
      · unfold spec_SimplicialOf.f
        refine Ev.bind ((shSet_ev h h2 _).eq (decide_eq_true ha)) ?_
        simp only [↓reduceIte, castL_length]
        exact spec_simp_ev h (by omega)
      · unfold impl_SimplicialOf.f
        refine Ev.bind h1 ?_
        simp only [castL_length, isSet_eq (show T.length ≤ 61 from by omega), Option.bind_some, decide_eq_true ha, ↓reduceIte]
        exact Ev.bind (simplicial_ev h hc) (Ev.some _)
    · refine ⟨(0, false), ?_, ?_⟩
      · unfold spec_SimplicialOf.f
        refine Ev.bind ((shSet_ev h h2 _).eq (decide_eq_false ha)) ?_
        simp only [↓reduceIte, Bool.false_eq_true]
        exact Ev.some _
      · unfold impl_SimplicialOf.f
        refine Ev.bind h1 ?_
        simp only [castL_length, isSet_eq (show T.length ≤ 61 from by omega), Option.bind_some, decide_eq_false ha, ↓reduceIte, Bool.false_eq_true]
        exact Ev.some _
theorem FnExactSimplicialOf : laws_FnExactSimplicialOf.Pure := by
  intro S a hm _ _
  refine Ev.rounds ?_
  unfold laws_FnExactSimplicialOf.f
  by_cases hS : S.length ≤ 1048576
  rotate_left
  · simp only [szNet_no S hm hS, Option.bind_some, show ((-1 : Int) < 0) from by omega, ↓reduceIte]
    exact Ev.some _
  obtain ⟨r, hr, h0⟩ := szNet_yes S hS
  simp only [hr, Option.bind_some, h0, ↓reduceIte]
  obtain ⟨v, hs, hi⟩ := SimplicialOf_both S hS a
  repeat (first
    | exact Ev.some _
    | with_reducible refine Ev.bind (toNet_ev _ hS) ?_
    | with_reducible refine Ev.bind hs ?_
    | with_reducible refine Ev.bind hi ?_
    | with_reducible refine Ev.bind (eqNet_self _ hS) ?_
    | (show Ev (fun k => laws_FnExactSimplicialOf.j0 k _ _ _) _; refine Ev.step (fun k => by rw [laws_FnExactSimplicialOf.j0]) ?_)
    | simp only [bne_self_eq_false, bne_self_eq_false', bneB, Bool.false_eq_true, Option.bind_some, ↓reduceIte, nneg])
end Go.Proofs.Ytnmpocdpdmkbdaa.Pure
