/- The outer fringe: the program; conditions: as each theorem states. -/
import Derived.Test.YtekllaaohagefaaCFnExactRankWordQSp
import Derived.Test.YtekllaaohagefaaCFnExactRankWordP4
namespace Go.Proofs.Ytekllaaohagefaa.Q
open Go.RowKit Go.Proofs.YtekllaaohagefaaW.PrintWords Go.Proofs.YtekllaaohagefaaW.PrintLast Go.Proofs.YtekllaaohagefaaW.PrintMore Go.Proofs.Ytekllaaohagefaa.P
set_option linter.unusedVariables false
set_option linter.unusedSimpArgs false

/-- Does an item lie in the outer fringe? -/
def outP (p : Nat → Bool) (x i : Nat) : Bool := !x.testBit i && p (x ||| 2 ^ i)
/-- The outer fringe. -/
def outN (p : Nat → Bool) (x m : Nat) : Nat := sumN (outP p x) m
theorem impl_outer_loop (p : Nat → Bool) {x : Nat} (hx : x < 128) : ∀ d i : Nat, i + d = 7 →
    Ev (fun k => impl_family_outer.l0 k (famN p) (x : Int) ((sumN (outP p x) i : Nat) : Int) (i : Int)) ((outN p x 7 : Nat) : Int) := by
  intro d
  induction d with
  | zero =>
    intro i h
    obtain rfl : i = 7 := by omega
    refine Ev.step (fun k => by rw [impl_family_outer.l0]) ?_
    simp only [show ¬ (((7 : Nat) : Int) < 7) from by omega, ↓reduceIte]
    exact Ev.some _
  | succ d ih =>
    intro i h
    have hi : i < 7 := by omega
    have hp2 : 2 ^ i < 128 := pow_lt_128 hi
    have hs : sumN (outP p x) i < 128 := Nat.lt_trans (sumN_lt _ _) hp2
    have hxi : x ||| 2 ^ i < 128 := Nat.or_lt_two_pow (n := 7) hx hp2
    have b1 : Go.bits .or .i64 (x : Int) ((2 ^ i : Nat) : Int) = ((x ||| 2 ^ i : Nat) : Int) := bOr (by omega) (by omega)
    have b2 : Go.bits .or .i64 ((sumN (outP p x) i : Nat) : Int) ((2 ^ i : Nat) : Int) = ((sumN (outP p x) i ||| 2 ^ i : Nat) : Int) := bOr (by omega) (by omega)
    have hn := ih (i + 1) (by omega)
    rw [sumN_succ] at hn
    refine Ev.step (fun k => by rw [impl_family_outer.l0]) ?_
    simp only [show ((i : Int) < 7) from by omega, show (0 : Int) ≤ (i : Int) from by omega, bitAnd (show x < 2 ^ 62 from by omega) (show i ≤ 64 from by omega), shl1 (show i ≤ 61 from by omega), b1, b2, famN_length,
      show (0 : Int) ≤ ((x ||| 2 ^ i : Nat) : Int) from by omega, show (((x ||| 2 ^ i : Nat) : Int) < ((128 : Nat) : Int)) from by omega, show (((x ||| 2 ^ i : Nat) : Int) < 128) from by omega, ↓reduceIte, famN_get _ hxi]
    rw [wnext (n := 7) hi (by omega)]
    by_cases hb : x.testBit i = true
    · simp only [hb, ↓reduceIte, show ¬ ((1 : Int) = 0) from by omega]
      simpa [outP, hb] using hn
    · have hb' : x.testBit i = false := by simpa using hb
      by_cases hq : p (x ||| 2 ^ i) = true
      · simp only [hb', hq, ↓reduceIte, Bool.false_eq_true]
        simpa [outP, hb', hq] using hn
      · have hq' : p (x ||| 2 ^ i) = false := by simpa using hq
        simp only [hb', hq', ↓reduceIte, Bool.false_eq_true]
        simpa [outP, hb', hq'] using hn
theorem outer_ev (p : Nat → Bool) {x : Nat} (hx : x < 128) : Ev (fun k => impl_family_outer.f k (famN p) (x : Int)) ((outN p x 7 : Nat) : Int) := by
  unfold impl_family_outer.f
  simpa [sumN] using impl_outer_loop p hx 7 0 rfl
end Go.Proofs.Ytekllaaohagefaa.Q
