/- The paths of a space: the program's and the reference's; conditions: as each theorem states. -/
import Derived.Test.YtekllaaohagefaaDoorCFnExactEndOfQSp
import Derived.Test.YtekllaaohagefaaDoorCFnExactEndOfQCount
import Derived.Test.YtekllaaohagefaaDoorCFnExactEndOfP3
namespace Go.Proofs.YtekllaaohagefaaDoor.Q
open Go.RowKit Go.Proofs.YtekllaaohagefaaDoorW.PrintWords Go.Proofs.YtekllaaohagefaaDoorW.PrintLast Go.Proofs.YtekllaaohagefaaDoorW.PrintMore Go.Proofs.YtekllaaohagefaaDoor.P
set_option linter.unusedVariables false
set_option linter.unusedSimpArgs false

/-- One way in. -/
def pathB (T : List Nat) (x : Nat) : Bool := decide (cntN (innN (fun y => decide (y ∈ T)) x) = 1)
theorem innN_lt (p : Nat → Bool) (x : Nat) : innN p x < 128 := sumN_lt _ 7
theorem paths_loop {m : Nat} {T : List Nat} (h : SpN m T) : ∀ (rest pre R : List Nat), pre ++ rest = T → R.length ≤ pre.length →
    Ev (fun k => impl_Space_paths.l0 k (famN fun y => decide (y ∈ T)) (castL R) (castL T) (T.length : Int) (pre.length : Int)) (castL (R ++ rest.filter (pathB T))) := by
  intro rest
  have hsh := h.short
  induction rest with
  | nil =>
    intro pre R e hR
    obtain rfl : pre = T := by simpa using e
    refine Ev.step (fun k => by rw [impl_Space_paths.l0]) ?_
    simp only [show ¬ ((pre.length : Int) < (pre.length : Int)) from by omega, ↓reduceIte]
    exact (Ev.some _).eq (by simp)
  | cons y rest ih =>
    intro pre R e hR
    have hy : y < 128 := h.lt128 y (by rw [← e]; simp)
    have hlen : T.length = pre.length + (rest.length + 1) := by rw [← e]; simp
    have er : rd (castL T) (pre.length : Int) = (y : Int) := by rw [← e]; exact rd_castL_mid _ _ _
    refine Ev.step (fun k => by rw [impl_Space_paths.l0]) ?_
    simp only [show ((pre.length : Int) < (T.length : Int)) from by omega, show (0 : Int) ≤ (pre.length : Int) from by omega, castL_length, er, ↓reduceIte]
    refine Ev.bind (inner_ev _ hy) ?_
    simp only [count_eq (innN_lt _ y), Option.bind_some]
    rw [wnext (n := T.length) (by omega) (by omega)]
    by_cases hb : cntN (innN (fun y => decide (y ∈ T)) y) = 1
    · simp only [show ((cntN (innN (fun y => decide (y ∈ T)) y) : Nat) : Int) = 1 from by omega, show R.length < 17592186044416 from by omega, ↓reduceIte]
      have hn := ih (pre ++ [y]) (R ++ [y]) (by simp [e]) (by simp; omega)
      simp only [List.length_append, List.length_singleton, castL_append] at hn
      have hp : pathB T y = true := decide_eq_true hb
      exact hn.eq (by rw [List.filter_cons_of_pos hp]; simp [castL])
    · simp only [show ¬ ((cntN (innN (fun y => decide (y ∈ T)) y) : Nat) : Int) = 1 from by omega, ↓reduceIte]
      have hn := ih (pre ++ [y]) R (by simp [e]) (by simp; omega)
      simp only [List.length_append, List.length_singleton] at hn
      have hp : ¬ pathB T y = true := by unfold pathB; rw [decide_eq_true_eq]; exact hb
      exact hn.eq (by rw [List.filter_cons_of_neg hp])
theorem paths_ev {m : Nat} {T : List Nat} (h : SpN m T) : Ev (fun k => impl_Space_paths.f k (m : Int) (castL T)) (castL (T.filter (pathB T))) := by
  unfold impl_Space_paths.f
  refine Ev.bind (family_ev _ T h.lt128 h.small) ?_
  simpa [castL] using paths_loop h T [] [] rfl (by simp)
theorem paPath_ev {m : Nat} {T : List Nat} (h : SpN m T) {x : Nat} (hx : x < 128) : Ev (fun k => spec_paPath.f k (m : Int) (castL T) (x : Int)) (decide (x ∈ T) && pathB T x) := by
  unfold spec_paPath.f
  refine Ev.bind (spHas_ev h.inc h.small x) ?_
  by_cases hm : x ∈ T
  · simp only [decide_eq_true hm, ↓reduceIte, Bool.true_and]
    refine Ev.bind (spInner_ev h.inc h.small hx) ?_
    refine Ev.bind (spCount_ev (innN_lt _ x)) ((Ev.some _).eq ?_)
    unfold pathB
    rw [Bool.eq_iff_iff, beq_iff_eq, decide_eq_true_eq]; omega
  · simp only [decide_eq_false hm, ↓reduceIte, Bool.false_eq_true, Bool.false_and]
    exact Ev.some _
end Go.Proofs.YtekllaaohagefaaDoor.Q
