/- The first word with the items of a set: both; conditions: as each theorem states. -/
import Derived.Test.YthpbmecinoninaaCFnExactSortWordQToward
import Derived.Test.YthpbmecinoninaaCFnExactSortWordQKnown
import Derived.Test.YthpbmecinoninaaCFnExactSortWordP3
namespace Go.Proofs.Ythpbmecinoninaa.Q
open Go.RowKit Go.Proofs.YthpbmecinoninaaW.PrintWords Go.Proofs.YthpbmecinoninaaW.PrintLast Go.Proofs.YthpbmecinoninaaW.PrintMore Go.Proofs.Ythpbmecinoninaa.P
set_option linter.unusedVariables false
set_option linter.unusedSimpArgs false

theorem SortWord_both (n : Int) (S : List Int) (hS : S.length ≤ 1048576) (a : Int) : ∃ (L : List Int) (b : Bool), L.length ≤ 1048576 ∧ Ev (fun k => spec_SortWord.f k n S a) (L, b) ∧ Ev (fun k => impl_SortWord.f k n S a) (L, b) := by
  rcases known_cases (n := n) (by omega : S.length ≤ 1099511627776) a with ⟨h1, h2⟩ | ⟨m, T, x, rfl, rfl, rfl, h, hx, h1, h2⟩
  · refine ⟨[], false, by simp, ?_, ?_⟩
    · unfold spec_SortWord.f
      refine Ev.bind h2 ?_
      simp only [↓reduceIte, Bool.false_eq_true]; exact Ev.some _
    · unfold impl_SortWord.f
      refine Ev.bind h1 ?_
      simp only [↓reduceIte, Bool.false_eq_true]; exact Ev.some _
  · have hp2 := pow_le_128 h.m7
    obtain ⟨L, hL, i1, i2⟩ := finish_ev h hx (2 ^ m - 0) 0 [] (Nat.le_refl _) h.zero (fun j hj => by rw [Nat.zero_testBit] at hj; cases hj) (by simp; omega)
    refine ⟨L, true, by simp at hL; omega, ?_, ?_⟩
    · unfold spec_SortWord.f
      refine Ev.bind h2 ?_
      simp only [↓reduceIte]
      have : Ev (fun k => spec_woFinish.f k (m : Int) (castL T) [] 0 (x : Int)) L := by
        unfold spec_woFinish.f
        rw [own_eq [] (by simp)]
        exact i1
      exact Ev.bind this (Ev.some _)
    · unfold impl_SortWord.f
      refine Ev.bind h1 ?_
      simp only [↓reduceIte]
      have : Ev (fun k => impl_Space_toward.f k (m : Int) (castL T) [] 0 (x : Int)) L := by
        unfold impl_Space_toward.f
        exact Ev.bind (family_ev _ T h.lt128 h.small) i2
      exact Ev.bind this (Ev.some _)
end Go.Proofs.Ythpbmecinoninaa.Q
