/- The greatest set of a space within a set: the program's and the reference's; conditions: as each theorem states. -/
import Derived.Test.YtniehinnbdcafaaCFnExactBehindSetQKnown
import Derived.Test.YtniehinnbdcafaaCFnExactBehindSetP4
namespace Go.Proofs.Ytniehinnbdcafaa.Q
open Go.RowKit Go.Proofs.YtniehinnbdcafaaW.PrintWords Go.Proofs.YtniehinnbdcafaaW.PrintLast Go.Proofs.YtniehinnbdcafaaW.PrintMore Go.Proofs.Ytniehinnbdcafaa.P
set_option linter.unusedVariables false
set_option linter.unusedSimpArgs false

theorem part_eq {a b : Nat} (ha : a < 2 ^ 62) (hb : b < 2 ^ 62) : impl_part.f (a : Int) (b : Int) = some (decide (andn a b = 0)) := by
  unfold impl_part.f
  rw [bAndn ha hb, natBeq0]
  rfl
/-- The union of the sets of a list that lie within a set. -/
def withL (x : Nat) (l : List Nat) (s : Nat) : Nat := l.foldl (fun s y => if andn y x = 0 then s ||| y else s) s
theorem greatest_loop {T : List Nat} (hT : ∀ x ∈ T, x < 128) (hl : T.length ≤ 1099511627776) {x : Nat} (hx : x < 128) : ∀ (rest pre : List Nat) (s : Nat), pre ++ rest = T → s < 128 →
    Ev (fun k => impl_Space_greatest.l0 k (x : Int) (s : Int) (castL T) (T.length : Int) (pre.length : Int)) ((withL x rest s : Nat) : Int) := by
  intro rest
  induction rest with
  | nil =>
    intro pre s h hs
    obtain rfl : pre = T := by simpa using h
    refine Ev.step (fun k => by rw [impl_Space_greatest.l0]) ?_
    simp only [show ¬ ((pre.length : Int) < (pre.length : Int)) from by omega, ↓reduceIte]
    exact Ev.some _
  | cons y rest ih =>
    intro pre s h hs
    have hy : y < 128 := hT y (by rw [← h]; simp)
    have hlen : T.length = pre.length + (rest.length + 1) := by rw [← h]; simp
    have e : rd (castL T) (pre.length : Int) = (y : Int) := by rw [← h]; exact rd_castL_mid _ _ _
    have hn := fun s' hs' => ih (pre ++ [y]) s' (by simp [h]) hs'
    simp only [List.length_append, List.length_singleton] at hn
    refine Ev.step (fun k => by rw [impl_Space_greatest.l0]) ?_
    simp only [show ((pre.length : Int) < (T.length : Int)) from by omega, show (0 : Int) ≤ (pre.length : Int) from by omega, castL_length, e, part_eq (show y < 2 ^ 62 from by omega) (show x < 2 ^ 62 from by omega), Option.bind_some, decide_eq_true_eq, bOr (show s < 2 ^ 62 from by omega) (show y < 2 ^ 62 from by omega), ↓reduceIte]
    rw [wnext (n := T.length) (by omega) hl]
    by_cases hb : andn y x = 0
    · simp only [hb, ↓reduceIte]
      exact (hn _ (Nat.or_lt_two_pow (n := 7) hs hy)).eq (by simp [withL, hb])
    · simp only [hb, ↓reduceIte]
      exact (hn _ hs).eq (by simp [withL, hb])
theorem greatest_ev {T : List Nat} (hT : ∀ x ∈ T, x < 128) (hl : T.length ≤ 1099511627776) {x : Nat} (hx : x < 128) (n : Int) : Ev (fun k => impl_Space_greatest.f k n (castL T) (x : Int)) ((withL x T 0 : Nat) : Int) := by
  unfold impl_Space_greatest.f
  simpa using greatest_loop hT hl hx T [] 0 rfl (by omega)
theorem within_loop {T : List Nat} (hT : ∀ x ∈ T, x < 128) (hl : T.length ≤ 1099511627776) {x : Nat} (hx : x < 128) : ∀ (rest pre : List Nat) (s : Nat), pre ++ rest = T → s < 128 →
    Ev (fun k => spec_spWithin.l0 k (x : Int) (s : Int) (castL T) (T.length : Int) (pre.length : Int)) ((withL x rest s : Nat) : Int) := by
  intro rest
  induction rest with
  | nil =>
    intro pre s h hs
    obtain rfl : pre = T := by simpa using h
    refine Ev.step (fun k => by rw [spec_spWithin.l0]) ?_
    simp only [show ¬ ((pre.length : Int) < (pre.length : Int)) from by omega, ↓reduceIte]
    exact Ev.some _
  | cons y rest ih =>
    intro pre s h hs
    have hy : y < 128 := hT y (by rw [← h]; simp)
    have hlen : T.length = pre.length + (rest.length + 1) := by rw [← h]; simp
    have e : rd (castL T) (pre.length : Int) = (y : Int) := by rw [← h]; exact rd_castL_mid _ _ _
    have hn := fun s' hs' => ih (pre ++ [y]) s' (by simp [h]) hs'
    simp only [List.length_append, List.length_singleton] at hn
    refine Ev.step (fun k => by rw [spec_spWithin.l0]) ?_
    simp only [show ((pre.length : Int) < (T.length : Int)) from by omega, show (0 : Int) ≤ (pre.length : Int) from by omega, castL_length, e, bAndn (show y < 2 ^ 62 from by omega) (show x < 2 ^ 62 from by omega), Int.natCast_eq_zero, bOr (show s < 2 ^ 62 from by omega) (show y < 2 ^ 62 from by omega), ↓reduceIte]
    rw [wnext (n := T.length) (by omega) hl]
    by_cases hb : andn y x = 0
    · simp only [hb, ↓reduceIte]
      exact (hn _ (Nat.or_lt_two_pow (n := 7) hs hy)).eq (by simp [withL, hb])
    · simp only [hb, ↓reduceIte]
      exact (hn _ hs).eq (by simp [withL, hb])
theorem spWithin_ev {T : List Nat} (hT : ∀ x ∈ T, x < 128) (hl : T.length ≤ 1099511627776) {x : Nat} (hx : x < 128) (n : Int) : Ev (fun k => spec_spWithin.f k n (castL T) (x : Int)) ((withL x T 0 : Nat) : Int) := by
  unfold spec_spWithin.f
  simpa using within_loop hT hl hx T [] 0 rfl (by omega)
end Go.Proofs.Ytniehinnbdcafaa.Q
