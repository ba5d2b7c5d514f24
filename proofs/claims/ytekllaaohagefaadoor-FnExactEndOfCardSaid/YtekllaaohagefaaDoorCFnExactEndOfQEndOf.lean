/- The end of a path: the program's and the reference's; conditions: as each theorem states. -/
import Derived.Test.YtekllaaohagefaaDoorCFnExactEndOfQPath0
import Derived.Test.YtekllaaohagefaaDoorCFnExactEndOfP3
namespace Go.Proofs.YtekllaaohagefaaDoor.Q
open Go.RowKit Go.Proofs.YtekllaaohagefaaDoorW.PrintWords Go.Proofs.YtekllaaohagefaaDoorW.PrintLast Go.Proofs.YtekllaaohagefaaDoorW.PrintMore Go.Proofs.YtekllaaohagefaaDoor.P
set_option linter.unusedVariables false
set_option linter.unusedSimpArgs false

theorem cntN_one : ∀ v < 128, cntN v = 1 → ∃ i < 7, v = 2 ^ i := by decide +kernel
theorem zeros_eq : ∀ i : Nat, i < 7 → bits_TrailingZeros.f (IntKind.u64.wrap (((2 ^ i : Nat) : Int))) = some (i : Int) := by decide +kernel
theorem paEnd_loop {i : Nat} (hi : i < 7) : ∀ d j : Nat, j + d = i → Ev (fun k => spec_paEnd.l0 k (j : Int) ((2 ^ i : Nat) : Int)) (i : Int) := by
  intro d
  induction d with
  | zero =>
    intro j e
    obtain rfl : j = i := by omega
    refine Ev.step (fun k => by rw [spec_paEnd.l0]) ?_
    simp only [spIn_eq _ j (by omega), Nat.testBit_two_pow_self, Option.bind_some, ↓reduceIte]
    exact Ev.some _
  | succ d ih =>
    intro j e
    refine Ev.step (fun k => by rw [spec_paEnd.l0]) ?_
    simp only [spIn_eq _ j (by omega), Nat.testBit_two_pow_of_ne (show i ≠ j by omega), Option.bind_some, Bool.false_eq_true, ↓reduceIte]
    rw [wnext (n := 7) (by omega) (by omega)]
    exact ih (j + 1) (by omega)
theorem end_both {m : Nat} {T : List Nat} (h : SpN m T) {x : Nat} (hx : x < 128) (hp : pathB T x = true) :
    ∃ v : Int, Ev (fun k => spec_paEnd.f k (m : Int) (castL T) (x : Int)) v ∧ Ev (fun k => impl_Space_end.f k (m : Int) (castL T) (x : Int)) v := by
  obtain ⟨i, hi, e⟩ := cntN_one _ (innN_lt (fun y => decide (y ∈ T)) x) (of_decide_eq_true hp)
  refine ⟨(i : Int), ?_, ?_⟩
  · unfold spec_paEnd.f
    refine Ev.bind (spInner_ev h.inc h.small hx) ?_
    rw [e]
    exact paEnd_loop hi i 0 (by omega)
  · unfold impl_Space_end.f
    refine Ev.bind (family_ev _ T h.lt128 h.small) ?_
    refine Ev.bind (inner_ev _ hx) ?_
    rw [e]
    simp only [zeros_eq i hi, Option.bind_some]
    exact Ev.some _
end Go.Proofs.YtekllaaohagefaaDoor.Q
