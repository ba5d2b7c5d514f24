/- Is a number a set of a valid space's items: the program; conditions: as each theorem states. -/
import Derived.Test.YtekllaaohagefaaDoorCFnExactEndOfQSp
import Derived.Test.YtekllaaohagefaaDoorCFnExactEndOfP3
namespace Go.Proofs.YtekllaaohagefaaDoor.Q
open Go.RowKit Go.Proofs.YtekllaaohagefaaDoorW.PrintWords Go.Proofs.YtekllaaohagefaaDoorW.PrintLast Go.Proofs.YtekllaaohagefaaDoorW.PrintMore Go.Proofs.YtekllaaohagefaaDoor.P
set_option linter.unusedVariables false
set_option linter.unusedSimpArgs false

theorem hasSet_sp {m : Nat} {T : List Nat} (h : SpN m T) (a : Int) : Ev (fun k => impl_hasSet.f k (m : Int) (castL T) a) (decide (0 ≤ a ∧ a ≤ ((2 ^ m - 1 : Nat) : Int))) := by
  unfold impl_hasSet.f
  refine Ev.bind h.impl ?_
  simp only [↓reduceIte, isSet_eq h.m61, Option.bind_some]
  exact Ev.some _
theorem hasSet_no {n : Int} {S : List Int} (hS : S.length ≤ 1099511627776) (h : goodB n S = false) (a : Int) : Ev (fun k => impl_hasSet.f k n S a) false := by
  unfold impl_hasSet.f
  refine Ev.bind ((impl_IsSpace_ev n S hS).eq h) ?_
  simp only [↓reduceIte, Bool.false_eq_true]
  exact Ev.some _
end Go.Proofs.YtekllaaohagefaaDoor.Q
