/- The outer fringe: the program's and the reference's; conditions: as each theorem states. -/
import Derived.Test.YtekllaaohagefaaCFnExactCriticalOfQHas
import Derived.Test.YtekllaaohagefaaCFnExactCriticalOfQOutI
import Derived.Test.YtekllaaohagefaaCFnExactCriticalOfP4
namespace Go.Proofs.Ytekllaaohagefaa.Q
open Go.RowKit Go.Proofs.YtekllaaohagefaaW.PrintWords Go.Proofs.YtekllaaohagefaaW.PrintLast Go.Proofs.YtekllaaohagefaaW.PrintMore Go.Proofs.Ytekllaaohagefaa.P
set_option linter.unusedVariables false
set_option linter.unusedSimpArgs false

theorem spec_outer_loop {m : Nat} {T : List Nat} (h : SpN m T) {x : Nat} (hx : x < 128) : ∀ d i : Nat, i + d = m →
    Ev (fun k => spec_spOuter.l0 k (x : Int) ((sumN (outP (fun y => decide (y ∈ T)) x) i : Nat) : Int) (i : Int) (m : Int) (castL T)) ((outN (fun y => decide (y ∈ T)) x m : Nat) : Int) := by
  intro d
  have hm7 := h.m7
  induction d with
  | zero =>
    intro i e
    obtain rfl : i = m := by omega
    refine Ev.step (fun k => by rw [spec_spOuter.l0]) ?_
    simp only [show ¬ ((i : Int) < (i : Int)) from by omega, ↓reduceIte]
    exact Ev.some _
  | succ d ih =>
    intro i e
    have hi : i < 7 := by omega
    have hp2 : 2 ^ i < 128 := pow_lt_128 hi
    have hs : sumN (outP (fun y => decide (y ∈ T)) x) i < 128 := Nat.lt_trans (sumN_lt _ _) hp2
    have b1 : Go.bits .or .i64 (x : Int) ((2 ^ i : Nat) : Int) = ((x ||| 2 ^ i : Nat) : Int) := bOr (by omega) (by omega)
    have b2 : Go.bits .or .i64 ((sumN (outP (fun y => decide (y ∈ T)) x) i : Nat) : Int) ((2 ^ i : Nat) : Int) = ((sumN (outP (fun y => decide (y ∈ T)) x) i ||| 2 ^ i : Nat) : Int) := bOr (by omega) (by omega)
    have hn := ih (i + 1) (by omega)
    rw [sumN_succ] at hn
    refine Ev.step (fun k => by rw [spec_spOuter.l0]) ?_
    simp only [show ((i : Int) < (m : Int)) from by omega, show (0 : Int) ≤ (i : Int) from by omega, spIn_eq x i (by omega), Option.bind_some, shl1 (show i ≤ 61 from by omega), b1, b2, ↓reduceIte]
    rw [wnext (n := 7) hi (by omega)]
    by_cases hb : x.testBit i = true
    · simp only [hb, ↓reduceIte]
      simpa [outP, hb] using hn
    · have hb' : x.testBit i = false := by simpa using hb
      simp only [hb', ↓reduceIte, Bool.false_eq_true]
      refine Ev.bind (spHas_ev h.inc h.small _) ?_
      by_cases hq : x ||| 2 ^ i ∈ T
      · simp only [hq, decide_true, ↓reduceIte]
        simpa [outP, hb', hq] using hn
      · simp only [hq, decide_false, ↓reduceIte, Bool.false_eq_true]
        simpa [outP, hb', hq] using hn
theorem spOuter_ev {m : Nat} {T : List Nat} (h : SpN m T) {x : Nat} (hx : x < 128) : Ev (fun k => spec_spOuter.f k (m : Int) (castL T) (x : Int)) ((outN (fun y => decide (y ∈ T)) x m : Nat) : Int) := by
  unfold spec_spOuter.f
  simpa [sumN] using spec_outer_loop h hx m 0 (by omega)
end Go.Proofs.Ytekllaaohagefaa.Q
