/- The pure statement of the law FnExactExtremeOf: the printed law function answers true, for all arguments; no conditions. -/
import Derived.Test.YtniehinnbdcafaaCFnExactExtremeOfQExtreme
import Derived.Test.YtniehinnbdcafaaCFnExactExtremeOfQLawSpace
import Derived.Test.YtniehinnbdcafaaCFnExactExtremeOfQMarkSpace
import Derived.Test.YtniehinnbdcafaaCFnExactExtremeOfP3
namespace Go.Proofs.Ytniehinnbdcafaa.Pure
open Go.RowKit Go.Proofs.YtniehinnbdcafaaW.PrintWords Go.Proofs.YtniehinnbdcafaaW.PrintLast Go.Proofs.YtniehinnbdcafaaW.PrintMore Go.Proofs.Ytniehinnbdcafaa.P Go.Proofs.Ytniehinnbdcafaa.Q
set_option linter.unusedVariables false
set_option linter.unusedSimpArgs false

theorem ExtremeOf_both (n : Int) (S : List Int) (hS : S.length ≤ 1048576) (a : Int) : ∃ v : Int × Bool, Ev (fun k => spec_ExtremeOf.f k n S a) v ∧ Ev (fun k => impl_ExtremeOf.f k n S a) v := by
  rcases hasSet_cases (n := n) (by omega : S.length ≤ 1099511627776) a with ⟨h1, h2⟩ | ⟨m, T, x, rfl, rfl, rfl, h, hx, h1, h2⟩
  · refine ⟨(0, false), ?_, ?_⟩
    · unfold spec_ExtremeOf.f
      refine Ev.bind h2 ?_
      simp only [↓reduceIte, Bool.false_eq_true]
      exact Ev.some _
    · unfold impl_ExtremeOf.f
      refine Ev.bind h1 ?_
      simp only [↓reduceIte, Bool.false_eq_true]
      exact Ev.some _
  · have hx2 : x < 128 := Nat.lt_of_lt_of_le hx (pow_le_128 h.m7)
    refine ⟨(((extN m T x m : Nat) : Int), true), ?_, ?_⟩
    · unfold spec_ExtremeOf.f
      refine Ev.bind h2 ?_
      simp only [↓reduceIte]
      simpa [extN, sumN] using spec_extreme_loop h hx2 m 0 (by omega)
    · unfold impl_ExtremeOf.f
      refine Ev.bind h1 ?_
      simp only [↓reduceIte]
      exact Ev.bind ((extreme_ev h hx2).eq (by rw [extN_same h.m7 hx])) (Ev.some _)
theorem FnExactExtremeOf : laws_FnExactExtremeOf.Pure := by
  intro n S a _ hm _ _
  refine Ev.rounds ?_
  unfold laws_FnExactExtremeOf.f
  by_cases hS : S.length ≤ 1048576
  · obtain ⟨r, hr, h0⟩ := szSpace_yes n S hS
    obtain ⟨v, hs, hi⟩ := ExtremeOf_both n S hS a
    simp only [hr, Option.bind_some, h0, ↓reduceIte]
    repeat (first
      | exact Ev.some _
      | with_reducible refine Ev.bind (toSpace_ev _ _ hS) ?_
      | with_reducible refine Ev.bind hs ?_
      | with_reducible refine Ev.bind hi ?_
      | with_reducible refine Ev.bind (eqSpace_self _ _ hS) ?_
      | (show Ev (fun k => laws_FnExactExtremeOf.j0 k _ _ _ _ _) _; refine Ev.step (fun k => by rw [laws_FnExactExtremeOf.j0]) ?_)
      | simp only [bne_self_eq_false, bne_self_eq_false', bneB, Bool.false_eq_true, Option.bind_some, ↓reduceIte, nneg])
  · simp only [szSpace_no n S hm hS, Option.bind_some, show ((-1 : Int) < 0) from by omega, ↓reduceIte]
    exact Ev.some _
end Go.Proofs.Ytniehinnbdcafaa.Pure
