/- The pure statement of the law FnExactIsPath: the printed law function answers true, for all arguments; no conditions. -/
import Derived.Test.YtnpfkbfmipnofaaCFnExactIsPathQPath
import Derived.Test.YtnpfkbfmipnofaaCFnExactIsPathQLawSpace
import Derived.Test.YtnpfkbfmipnofaaCFnExactIsPathQMarkSpace
import Derived.Test.YtnpfkbfmipnofaaCFnExactIsPathP3
namespace Go.Proofs.Ytnpfkbfmipnofaa.Pure
open Go.RowKit Go.Proofs.YtnpfkbfmipnofaaW.PrintWords Go.Proofs.YtnpfkbfmipnofaaW.PrintLast Go.Proofs.YtnpfkbfmipnofaaW.PrintMore Go.Proofs.Ytnpfkbfmipnofaa.P Go.Proofs.Ytnpfkbfmipnofaa.Q
set_option linter.unusedVariables false
set_option linter.unusedSimpArgs false

theorem IsPath_both (n : Int) (S : List Int) (hS : S.length ≤ 1048576) (a : Int) : ∃ v : Bool × Bool, Ev (fun k => spec_IsPath.f k n S a) v ∧ Ev (fun k => impl_IsPath.f k n S a) v := by
  rcases hasSet_cases (n := n) (by omega : S.length ≤ 1099511627776) a with ⟨h1, h2⟩ | ⟨m, T, x, rfl, rfl, rfl, h, hx, h1, h2⟩
  · refine ⟨(false, false), ?_, ?_⟩
    · unfold spec_IsPath.f
      refine Ev.bind h2 ?_
      simp only [↓reduceIte, Bool.false_eq_true]
      exact Ev.some _
    · unfold impl_IsPath.f
      refine Ev.bind h1 ?_
      simp only [↓reduceIte, Bool.false_eq_true]
      exact Ev.some _
  · have hx2 : x < 128 := Nat.lt_of_lt_of_le hx (pow_le_128 h.m7)
    have hsh := h.short
    have hfl : (T.filter (pathB T)).length ≤ T.length := List.length_filter_le _ _
    refine ⟨(decide (x ∈ T) && pathB T x, true), ?_, ?_⟩
    · unfold spec_IsPath.f
      refine Ev.bind h2 ?_
      simp only [↓reduceIte]
      exact Ev.bind (paPath_ev h hx2) (Ev.some _)
    · unfold impl_IsPath.f
      refine Ev.bind h1 ?_
      simp only [↓reduceIte]
      refine Ev.bind (paths_ev h) ?_
      refine Ev.bind (contains_ev _ (by rw [castL_length]; omega) _) ((Ev.some _).eq ?_)
      congr 1
      rw [Bool.eq_iff_iff, decide_eq_true_eq, mem_castL, List.mem_filter, Bool.and_eq_true, decide_eq_true_eq]
theorem FnExactIsPath : laws_FnExactIsPath.Pure := by
  intro n S a _ hm _ _
  refine Ev.rounds ?_
  unfold laws_FnExactIsPath.f
  by_cases hS : S.length ≤ 1048576
  rotate_left
  · simp only [szSpace_no n S hm hS, Option.bind_some, show ((-1 : Int) < 0) from by omega, ↓reduceIte]
    exact Ev.some _
  obtain ⟨r, hr, h0⟩ := szSpace_yes n S hS
  simp only [hr, Option.bind_some, h0, ↓reduceIte]
  obtain ⟨v, hs, hi⟩ := IsPath_both n S hS a
  repeat (first
    | exact Ev.some _
    | with_reducible refine Ev.bind (toSpace_ev _ _ hS) ?_
    | with_reducible refine Ev.bind hs ?_
    | with_reducible refine Ev.bind hi ?_
    | with_reducible refine Ev.bind (eqSpace_self _ _ hS) ?_
    | (show Ev (fun k => laws_FnExactIsPath.j0 k _ _ _ _ _) _; refine Ev.step (fun k => by rw [laws_FnExactIsPath.j0]) ?_)
    | simp only [bne_self_eq_false, bne_self_eq_false', bneB, Bool.false_eq_true, Option.bind_some, ↓reduceIte, nneg])
end Go.Proofs.Ytnpfkbfmipnofaa.Pure
