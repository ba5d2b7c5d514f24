/- The hull of a set and its extreme items: the program's and the reference's; conditions: as each theorem states. -/
import Derived.Test.YtniehinnbdcafaaCFnExactExtremeOfQWithin
import Derived.Test.YtniehinnbdcafaaCFnExactExtremeOfP3
namespace Go.Proofs.Ytniehinnbdcafaa.Q
open Go.RowKit Go.Proofs.YtniehinnbdcafaaW.PrintWords Go.Proofs.YtniehinnbdcafaaW.PrintLast Go.Proofs.YtniehinnbdcafaaW.PrintMore Go.Proofs.Ytniehinnbdcafaa.P
set_option linter.unusedVariables false
set_option linter.unusedSimpArgs false

theorem withL_lt {x : Nat} : ∀ {l : List Nat} {s : Nat}, (∀ y ∈ l, y < 128) → s < 128 → withL x l s < 128
  | [], s, _, hs => hs
  | y :: l, s, hl, hs => by
    have hy := hl y (by simp)
    have hl' : ∀ z ∈ l, z < 128 := fun z hz => hl z (by simp [hz])
    show withL x l (if andn y x = 0 then s ||| y else s) < 128
    by_cases hb : andn y x = 0
    · rw [if_pos hb]; exact withL_lt hl' (Nat.or_lt_two_pow (n := 7) hs hy)
    · rw [if_neg hb]; exact withL_lt hl' hs
/-- The hull. -/
def hullN (m : Nat) (T : List Nat) (x : Nat) : Nat := andn (2 ^ m - 1) (withL (andn (2 ^ m - 1) x) T 0)
theorem hullN_lt {m : Nat} (hm : m ≤ 7) (T : List Nat) (x : Nat) : hullN m T x < 128 := by
  have := pow_le_128 hm
  have hp : 0 < 2 ^ m := Nat.two_pow_pos _
  exact andn_lt (by omega)
theorem hull_ev {m : Nat} {T : List Nat} (h : SpN m T) {x : Nat} (hx : x < 128) : Ev (fun k => impl_Space_hull.f k (m : Int) (castL T) (x : Int)) ((hullN m T x : Nat) : Int) := by
  have hp : 0 < 2 ^ m := Nat.two_pow_pos _
  have hp2 := pow_le_128 h.m7
  have hx2 : andn (2 ^ m - 1) x < 128 := andn_lt (by omega)
  have hw : withL (andn (2 ^ m - 1) x) T 0 < 128 := withL_lt h.lt128 (by omega)
  unfold impl_Space_hull.f
  simp only [all_eq h.m61, Option.bind_some, bAndn (show 2 ^ m - 1 < 2 ^ 62 from by omega) (show x < 2 ^ 62 from by omega)]
  refine Ev.bind (greatest_ev h.lt128 h.small hx2 _) ?_
  rw [bAndn (by omega) (by omega)]
  exact Ev.some _
theorem spHull_ev {m : Nat} {T : List Nat} (h : SpN m T) {x : Nat} (hx : x < 128) : Ev (fun k => spec_spHull.f k (m : Int) (castL T) (x : Int)) ((hullN m T x : Nat) : Int) := by
  have hp : 0 < 2 ^ m := Nat.two_pow_pos _
  have hp2 := pow_le_128 h.m7
  have hx2 : andn (2 ^ m - 1) x < 128 := andn_lt (by omega)
  have hw : withL (andn (2 ^ m - 1) x) T 0 < 128 := withL_lt h.lt128 (by omega)
  unfold spec_spHull.f
  simp only [show (0 : Int) ≤ (m : Int) from by omega, pow1 h.m61, ↓reduceIte, bAndn (show 2 ^ m - 1 < 2 ^ 62 from by omega) (show x < 2 ^ 62 from by omega)]
  refine Ev.bind (spWithin_ev h.lt128 h.small hx2 _) ?_
  rw [bAndn (by omega) (by omega)]
  exact Ev.some _
end Go.Proofs.Ytniehinnbdcafaa.Q
