/- Is a number a set of a valid space's items: the program and the reference; conditions: as each theorem states. -/
import Derived.Test.YtekllaaohagefaaDoorCFnExactEndOfQHasSetI
import Derived.Test.YtekllaaohagefaaDoorCFnExactEndOfP3
namespace Go.Proofs.YtekllaaohagefaaDoor.Q
open Go.RowKit Go.Proofs.YtekllaaohagefaaDoorW.PrintWords Go.Proofs.YtekllaaohagefaaDoorW.PrintLast Go.Proofs.YtekllaaohagefaaDoorW.PrintMore Go.Proofs.YtekllaaohagefaaDoor.P
set_option linter.unusedVariables false
set_option linter.unusedSimpArgs false

theorem spSet_sp {m : Nat} {T : List Nat} (h : SpN m T) (a : Int) : Ev (fun k => spec_spSet.f k (m : Int) (castL T) a) (decide (0 ≤ a ∧ a ≤ ((2 ^ m - 1 : Nat) : Int))) := by
  unfold spec_spSet.f
  refine Ev.bind h.spec ?_
  simp only [↓reduceIte, show (0 : Int) ≤ (m : Int) from by omega, pow1 h.m61, l1In_eq, Option.bind_some]
  exact Ev.some _
theorem spSet_no {n : Int} {S : List Int} (hS : S.length ≤ 1099511627776) (h : goodB n S = false) (a : Int) : Ev (fun k => spec_spSet.f k n S a) false := by
  unfold spec_spSet.f
  refine Ev.bind ((spec_spGood_ev n S hS).eq h) ?_
  simp only [↓reduceIte, Bool.false_eq_true]
  exact Ev.some _
/-- Both ways in: no valid space, no set, or a set of a valid space. -/
theorem hasSet_cases {n : Int} {S : List Int} (hS : S.length ≤ 1099511627776) (a : Int) :
    (Ev (fun k => impl_hasSet.f k n S a) false ∧ Ev (fun k => spec_spSet.f k n S a) false) ∨
    ∃ (m : Nat) (T : List Nat) (x : Nat), n = (m : Int) ∧ S = castL T ∧ a = (x : Int) ∧ SpN m T ∧ x < 2 ^ m ∧ Ev (fun k => impl_hasSet.f k (m : Int) (castL T) (x : Int)) true ∧ Ev (fun k => spec_spSet.f k (m : Int) (castL T) (x : Int)) true := by
  cases hg : goodB n S with
  | false => exact .inl ⟨hasSet_no hS hg a, spSet_no hS hg a⟩
  | true =>
    obtain ⟨m, T, rfl, rfl, h⟩ := good_space hg
    have hp : 0 < 2 ^ m := Nat.two_pow_pos _
    by_cases ha : 0 ≤ a ∧ a ≤ ((2 ^ m - 1 : Nat) : Int)
    · refine .inr ⟨m, T, a.toNat, rfl, rfl, by omega, h, by omega, ?_, ?_⟩
      · exact (hasSet_sp h _).eq (by simp; omega)
      · exact (spSet_sp h _).eq (by simp; omega)
    · exact .inl ⟨(hasSet_sp h a).eq (by simpa using ha), (spSet_sp h a).eq (by simpa using ha)⟩
end Go.Proofs.YtekllaaohagefaaDoor.Q
