/- When the program and the reference call a net valid; conditions: as each theorem states. -/
import Derived.Test.YtpliebmaagoahaaCFnExactPointSpaceQSet
import Derived.Test.YtpliebmaagoahaaCFnExactPointSpaceP6
namespace Go.Proofs.Ytpliebmaagoahaa.Q
open Go.RowKit Go.Proofs.YtpliebmaagoahaaW.PrintWords Go.Proofs.YtpliebmaagoahaaW.PrintLast Go.Proofs.YtpliebmaagoahaaW.PrintMore Go.Proofs.Ytpliebmaagoahaa.P
set_option linter.unusedVariables false
set_option linter.unusedSimpArgs false

theorem getD_mem {T : List Nat} {v : Nat} (h : v < T.length) : T.getD v 0 ∈ T := by
  rw [List.getD_eq_getElem?_getD, List.getElem?_eq_getElem h]; exact List.getElem_mem h

/-! ### the reference -/
theorem l1All_loop (S : List Int) (hS : S.length ≤ 1099511627776) (lo hi : Int) : ∀ rest pre : List Int, pre ++ rest = S →
    Ev (fun k => spec_l1All.l0 k lo hi S (S.length : Int) (pre.length : Int)) (rest.all fun x => decide (lo ≤ x ∧ x ≤ hi)) := by
  intro rest
  induction rest with
  | nil =>
    intro pre h
    obtain rfl : pre = S := by simpa using h
    refine Ev.step (fun k => by rw [spec_l1All.l0]) ?_
    simp only [show ¬ ((pre.length : Int) < (pre.length : Int)) from by omega, ↓reduceIte]
    exact Ev.some _
  | cons x rest ih =>
    intro pre h
    have hlen : S.length = pre.length + (rest.length + 1) := by rw [← h]; simp
    have e : rd S (pre.length : Int) = x := by rw [← h]; exact rd_mid _ _ _
    have hn := ih (pre ++ [x]) (by simp [h])
    simp only [List.length_append, List.length_singleton] at hn
    refine Ev.step (fun k => by rw [spec_l1All.l0]) ?_
    simp only [show ((pre.length : Int) < (S.length : Int)) from by omega, show (0 : Int) ≤ (pre.length : Int) from by omega, e, l1In_eq, Option.bind_some, decide_eq_true_eq, ↓reduceIte]
    rw [wnext (n := S.length) (by omega) hS]
    by_cases hb : lo ≤ x ∧ x ≤ hi
    · simp only [hb, and_self, ↓reduceIte]; exact hn.eq (by simp [hb])
    · simp only [hb, ↓reduceIte]; exact (Ev.some _).eq (by simp [hb])
theorem l1All_ev (S : List Int) (hS : S.length ≤ 1099511627776) (lo hi : Int) : Ev (fun k => spec_l1All.f k S lo hi) (S.all fun x => decide (lo ≤ x ∧ x ≤ hi)) := by
  unfold spec_l1All.f
  simpa using l1All_loop S hS lo hi S [] rfl
/-- A valid net. -/
structure NetN (T : List Nat) : Prop where
  l1 : 1 ≤ T.length
  l7 : T.length ≤ 7
  lt : ∀ x ∈ T, x < 2 ^ T.length
  irr : ∀ v, v < T.length → (T.getD v 0).testBit v = false
  sym : ∀ v w, v < T.length → w < T.length → (T.getD v 0).testBit w = (T.getD w 0).testBit v
theorem NetN.lt128 {T : List Nat} (h : NetN T) : ∀ x ∈ T, x < 128 := fun x hx => Nat.lt_of_lt_of_le (h.lt x hx) (Nat.le_trans (Nat.pow_le_pow_right (by omega) h.l7) (by omega))
theorem NetN.get {T : List Nat} (h : NetN T) {v : Nat} (hv : v < T.length) : T.getD v 0 < 128 := h.lt128 _ (getD_mem hv)
end Go.Proofs.Ytpliebmaagoahaa.Q
