/- The pure statement of the law FnExactEndOf: the printed law function answers true, for all arguments; no conditions. -/
import Derived.Test.YtekllaaohagefaaDoorCFnExactEndOfQEndOf
import Derived.Test.YtekllaaohagefaaDoorCFnExactEndOfQContains
import Derived.Test.YtekllaaohagefaaDoorCFnExactEndOfQHasSet
import Derived.Test.YtekllaaohagefaaDoorCFnExactEndOfQLawSpace
import Derived.Test.YtekllaaohagefaaDoorCFnExactEndOfP3
namespace Go.Proofs.YtekllaaohagefaaDoor.Pure
open Go.RowKit Go.Proofs.YtekllaaohagefaaDoorW.PrintWords Go.Proofs.YtekllaaohagefaaDoorW.PrintLast Go.Proofs.YtekllaaohagefaaDoorW.PrintMore Go.Proofs.YtekllaaohagefaaDoor.P Go.Proofs.YtekllaaohagefaaDoor.Q
set_option linter.unusedVariables false
set_option linter.unusedSimpArgs false

theorem EndOf_both (n : Int) (S : List Int) (hS : S.length ≤ 1048576) (a : Int) : ∃ v : Int × Bool, Ev (fun k => spec_EndOf.f k n S a) v ∧ Ev (fun k => impl_EndOf.f k n S a) v := by
  rcases hasSet_cases (n := n) (by omega : S.length ≤ 1099511627776) a with ⟨h1, h2⟩ | ⟨m, T, x, rfl, rfl, rfl, h, hx, h1, h2⟩
  · refine ⟨(0, false), ?_, ?_⟩
    · unfold spec_EndOf.f
      refine Ev.bind h2 ?_
      simp only [↓reduceIte, Bool.false_eq_true]
      exact Ev.some _
    · have hI : Ev (fun k => impl_IsPath.f k n S a) (false, false) := by
        unfold impl_IsPath.f
        refine Ev.bind h1 ?_
        simp only [↓reduceIte, Bool.false_eq_true]
        exact Ev.some _
      unfold impl_EndOf.f
      refine Ev.bind hI ?_
      simp only [↓reduceIte, Bool.false_eq_true]
      exact Ev.some _
  · have hx2 : x < 128 := Nat.lt_of_lt_of_le hx (pow_le_128 h.m7)
    have hsh := h.short
    have hfl : (T.filter (pathB T)).length ≤ T.length := List.length_filter_le _ _
    have hI : Ev (fun k => impl_IsPath.f k (m : Int) (castL T) (x : Int)) (decide (x ∈ T) && pathB T x, true) := by
      unfold impl_IsPath.f
      refine Ev.bind h1 ?_
      simp only [↓reduceIte]
      refine Ev.bind (paths_ev h) ?_
      refine Ev.bind (contains_ev _ (by rw [castL_length]; omega) _) ((Ev.some _).eq ?_)
      congr 1
      rw [Bool.eq_iff_iff, decide_eq_true_eq, mem_castL, List.mem_filter, Bool.and_eq_true, decide_eq_true_eq]
    by_cases hd : (decide (x ∈ T) && pathB T x) = true
    · obtain ⟨v, hs, hi⟩ := end_both h hx2 (Bool.and_eq_true_iff.mp hd).2
      refine ⟨(v, true), ?_, ?_⟩
      · unfold spec_EndOf.f
        refine Ev.bind h2 ?_
        simp only [↓reduceIte]
        refine Ev.bind (paPath_ev h hx2) ?_
        simp only [hd, ↓reduceIte]
        exact Ev.bind hs (Ev.some _)
      · unfold impl_EndOf.f
        refine Ev.bind hI ?_
        simp only [hd, ↓reduceIte]
        exact Ev.bind hi (Ev.some _)
    · refine ⟨(0, false), ?_, ?_⟩
      · unfold spec_EndOf.f
        refine Ev.bind h2 ?_
        simp only [↓reduceIte]
        refine Ev.bind (paPath_ev h hx2) ?_
        simp only [hd, ↓reduceIte, Bool.false_eq_true]
        exact Ev.some _
      · unfold impl_EndOf.f
        refine Ev.bind hI ?_
        simp only [hd, ↓reduceIte, Bool.false_eq_true]
        exact Ev.some _
theorem FnExactEndOf : laws_FnExactEndOf.Pure := by
  intro n S a _ hm _ _
  refine Ev.rounds ?_
  unfold laws_FnExactEndOf.f
  by_cases hS : S.length ≤ 1048576
  rotate_left
  · simp only [szSpace_no n S hm hS, Option.bind_some, show ((-1 : Int) < 0) from by omega, ↓reduceIte]
    exact Ev.some _
  obtain ⟨r, hr, h0⟩ := szSpace_yes n S hS
  simp only [hr, Option.bind_some, h0, ↓reduceIte]
  obtain ⟨v, hs, hi⟩ := EndOf_both n S hS a
  refine Ev.bind (toSpace_ev _ _ hS) ?_
  refine Ev.bind hs ?_
  refine Ev.bind (toSpace_ev _ _ hS) ?_
  refine Ev.bind hi ?_
  simp only [if_true, bne_self_eq_false]
  refine Ev.step (fun k => by rw [laws_FnExactEndOf.j0]) ?_
  simp only [Bool.false_eq_true, if_false]
  refine Ev.bind (toSpace_ev _ _ hS) ?_
  refine Ev.bind (eqSpace_self _ _ hS) ?_
  simp only [if_true]
  exact Ev.some _
end Go.Proofs.YtekllaaohagefaaDoor.Pure
