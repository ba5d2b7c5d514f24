/- The pure statement of the law FnExactIsConvex: the printed law function answers true, for all arguments; no conditions. -/
import Derived.Test.YtpliebmaagoahaaCFnExactIsConvexQHasSet
import Derived.Test.YtpliebmaagoahaaCFnExactIsConvexQLawSpace
import Derived.Test.YtpliebmaagoahaaCFnExactIsConvexQMarkSpace
import Derived.Test.YtpliebmaagoahaaCFnExactIsConvexP2
namespace Go.Proofs.Ytpliebmaagoahaa.Pure
open Go.RowKit Go.Proofs.YtpliebmaagoahaaW.PrintWords Go.Proofs.YtpliebmaagoahaaW.PrintLast Go.Proofs.YtpliebmaagoahaaW.PrintMore Go.Proofs.Ytpliebmaagoahaa.P Go.Proofs.Ytpliebmaagoahaa.Q
set_option linter.unusedVariables false
set_option linter.unusedSimpArgs false

theorem IsConvex_both (n : Int) (S : List Int) (hS : S.length ≤ 1048576) (a : Int) : ∃ v : Bool × Bool, Ev (fun k => spec_IsConvex.f k n S a) v ∧ Ev (fun k => impl_IsConvex.f k n S a) v := by
  rcases hasSet_cases (n := n) (by omega : S.length ≤ 1099511627776) a with ⟨h1, h2⟩ | ⟨m, T, x, rfl, rfl, rfl, h, hx, h1, h2⟩
  · refine ⟨(false, false), ?_, ?_⟩
    · unfold spec_IsConvex.f
      refine Ev.bind h2 ?_
      simp only [↓reduceIte, Bool.false_eq_true]
      exact Ev.some _
    · unfold impl_IsConvex.f
      refine Ev.bind h1 ?_
      simp only [↓reduceIte, Bool.false_eq_true]
      exact Ev.some _
  · have hx2 : x < 128 := Nat.lt_of_lt_of_le hx (pow_le_128 h.m7)
    have hp : 0 < 2 ^ m := Nat.two_pow_pos _
    have hp2 := pow_le_128 h.m7
    have hq : andn (2 ^ m - 1) x < 128 := andn_lt (by omega)
    have ba : Go.bits .andNot .i64 ((2 ^ m - 1 : Nat) : Int) (x : Int) = ((andn (2 ^ m - 1) x : Nat) : Int) := bAndn (by omega) (by omega)
    refine ⟨(decide (andn (2 ^ m - 1) x ∈ T), true), ?_, ?_⟩
    · unfold spec_IsConvex.f
      refine Ev.bind h2 ?_
      simp only [↓reduceIte, show (0 : Int) ≤ (m : Int) from by omega, pow1 h.m61, ba]
      exact Ev.bind (spHas_ev h.inc h.small _) (Ev.some _)
    · unfold impl_IsConvex.f
      refine Ev.bind h1 ?_
      simp only [↓reduceIte]
      refine Ev.bind (family_ev _ T h.lt128 h.small) ?_
      simp only [all_eq h.m61, Option.bind_some, ba, famN_length, show (0 : Int) ≤ ((andn (2 ^ m - 1) x : Nat) : Int) from by omega, show (((andn (2 ^ m - 1) x : Nat) : Int) < ((128 : Nat) : Int)) from by omega, show (((andn (2 ^ m - 1) x : Nat) : Int) < 128) from by omega, famN_get _ hq, ↓reduceIte]
      exact Ev.some _
theorem FnExactIsConvex : laws_FnExactIsConvex.Pure := by
  intro n S a _ hm _ _
  refine Ev.rounds ?_
  unfold laws_FnExactIsConvex.f
  by_cases hS : S.length ≤ 1048576
  · obtain ⟨r, hr, h0⟩ := szSpace_yes n S hS
    obtain ⟨v, hs, hi⟩ := IsConvex_both n S hS a
    simp only [hr, Option.bind_some, h0, ↓reduceIte]
    repeat (first
      | exact Ev.some _
      | with_reducible refine Ev.bind (toSpace_ev _ _ hS) ?_
      | with_reducible refine Ev.bind hs ?_
      | with_reducible refine Ev.bind hi ?_
      | with_reducible refine Ev.bind (eqSpace_self _ _ hS) ?_
      | (show Ev (fun k => laws_FnExactIsConvex.j0 k _ _ _ _ _) _; refine Ev.step (fun k => by rw [laws_FnExactIsConvex.j0]) ?_)
      | (show Ev (fun k => laws_FnExactIsConvex.j0 k _ _ _ _ _) _; refine Ev.step (fun k => by rw [laws_FnExactIsConvex.j0]) ?_)
      | simp only [bne_self_eq_false, bne_self_eq_false', bneB, Bool.false_eq_true, Option.bind_some, ↓reduceIte, nneg])
  · simp only [szSpace_no n S hm hS, Option.bind_some, show ((-1 : Int) < 0) from by omega, ↓reduceIte]
    exact Ev.some _
end Go.Proofs.Ytpliebmaagoahaa.Pure
