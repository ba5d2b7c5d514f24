/- All unions of the sets of a list: the program's closing of a family and the reference's list; conditions: as each theorem states. -/
import Derived.Test.YthpbmecinoninaaCFnExactSpaceOfClausesQIns
import Derived.Test.YthpbmecinoninaaCFnExactSpaceOfClausesQOwn
import Derived.Test.YthpbmecinoninaaCFnExactSpaceOfClausesP6
namespace Go.Proofs.Ythpbmecinoninaa.Q
open Go.RowKit Go.Proofs.YthpbmecinoninaaW.PrintWords Go.Proofs.YthpbmecinoninaaW.PrintLast Go.Proofs.YthpbmecinoninaaW.PrintMore Go.Proofs.Ythpbmecinoninaa.P
set_option linter.unusedVariables false
set_option linter.unusedSimpArgs false

/-- The unions of sets of B. -/
inductive UC (B : Nat → Prop) : Nat → Prop
  | zero : UC B 0
  | base {x : Nat} : B x → UC B x
  | or {a b : Nat} : UC B a → UC B b → UC B (a ||| b)
theorem UC.mono {B C : Nat → Prop} (h : ∀ x, B x → C x) {z : Nat} (hz : UC B z) : UC C z := by
  induction hz with
  | zero => exact .zero
  | base hx => exact .base (h _ hx)
  | or _ _ ha hb => exact .or ha hb
theorem UC.lt {B : Nat → Prop} {n : Nat} (h : ∀ x, B x → x < 2 ^ n) {z : Nat} (hz : UC B z) : z < 2 ^ n := by
  induction hz with
  | zero => exact Nat.two_pow_pos _
  | base hx => exact h _ hx
  | or _ _ ha hb => exact Nat.or_lt_two_pow ha hb

theorem inc_len {R : List Nat} (hi : Inc R) (hR : ∀ x ∈ R, x < 128) : R.length ≤ 128 := by
  have e : listN (fun y => decide (y ∈ R)) = R := by
    refine inc_ext (inc_listN _) hi (fun x => ?_)
    rw [mem_listN, decide_eq_true_eq]
    exact ⟨fun h => h.2, fun h => ⟨hR x h, h⟩⟩
  rw [← e]
  exact Nat.le_trans (List.length_filter_le _ _) (by simp)
end Go.Proofs.Ythpbmecinoninaa.Q
