/- Pairs of items, and lists whose elements lie in a stretch; conditions: as each theorem states. -/
import Derived.Test.YtekllaaohagefaaCFnExactEndsSpaceQSet
import Derived.Test.YtekllaaohagefaaCFnExactEndsSpaceQLawPts
import Derived.Test.YtekllaaohagefaaCFnExactEndsSpaceP6
namespace Go.Proofs.Ytekllaaohagefaa.Q
open Go.RowKit Go.Proofs.YtekllaaohagefaaW.PrintWords Go.Proofs.YtekllaaohagefaaW.PrintLast Go.Proofs.YtekllaaohagefaaW.PrintMore Go.Proofs.Ytekllaaohagefaa.P
set_option linter.unusedVariables false
set_option linter.unusedSimpArgs false

theorem rd_castL (T : List Nat) {v : Nat} (h : v < T.length) : rd (castL T) (v : Int) = ((T.getD v 0 : Nat) : Int) := by
  rw [rd_nat _ _ (by simpa using h)]; simp [castL, h]
theorem l1All_loop (S : List Int) (hS : S.length ≤ 1099511627776) (lo hi : Int) : ∀ rest pre : List Int, pre ++ rest = S →
    Ev (fun k => spec_l1All.l0 k lo hi S (S.length : Int) (pre.length : Int)) (rest.all fun x => decide (lo ≤ x ∧ x ≤ hi)) := by
  intro rest
  induction rest with
  | nil =>
    intro pre h
    obtain rfl : pre = S := by simpa using h
    refine Ev.step (fun k => by rw [spec_l1All.l0]) ?_
    simp only [show ¬ ((pre.length : Int) < (pre.length : Int)) from by omega, ↓reduceIte]
    exact Ev.some _
  | cons x rest ih =>
    intro pre h
    have hlen : S.length = pre.length + (rest.length + 1) := by rw [← h]; simp
    have e : rd S (pre.length : Int) = x := by rw [← h]; exact rd_mid _ _ _
    have hn := ih (pre ++ [x]) (by simp [h])
    simp only [List.length_append, List.length_singleton] at hn
    refine Ev.step (fun k => by rw [spec_l1All.l0]) ?_
    simp only [show ((pre.length : Int) < (S.length : Int)) from by omega, show (0 : Int) ≤ (pre.length : Int) from by omega, e, l1In_eq, Option.bind_some, decide_eq_true_eq, ↓reduceIte]
    rw [wnext (n := S.length) (by omega) hS]
    by_cases hb : lo ≤ x ∧ x ≤ hi
    · simp only [hb, and_self, ↓reduceIte]; exact hn.eq (by simp [hb])
    · simp only [hb, ↓reduceIte]; exact (Ev.some _).eq (by simp [hb])
theorem l1All_ev (S : List Int) (hS : S.length ≤ 1099511627776) (lo hi : Int) : Ev (fun k => spec_l1All.f k S lo hi) (S.all fun x => decide (lo ≤ x ∧ x ≤ hi)) := by
  unfold spec_l1All.f
  simpa using l1All_loop S hS lo hi S [] rfl
/-- A pair of two items. -/
def pairB (n : Int) : List Int → Bool
  | [a, b] => decide ((0 ≤ a ∧ a ≤ n - 1) ∧ (0 ≤ b ∧ b ≤ n - 1) ∧ a ≠ b)
  | _ => false
theorem pairB_of {m : Nat} {r : List Int} (h : pairB (m : Int) r = true) : ∃ a b : Nat, r = [(a : Int), (b : Int)] ∧ a < m ∧ b < m ∧ a ≠ b := by
  match r, h with
  | [x, y], h =>
    simp only [pairB, decide_eq_true_eq] at h
    obtain ⟨a, rfl⟩ := Int.eq_ofNat_of_zero_le h.1.1
    obtain ⟨b, rfl⟩ := Int.eq_ofNat_of_zero_le h.2.1.1
    exact ⟨a, b, rfl, by omega, by omega, fun e => h.2.2 (by rw [e])⟩
theorem arePairs1_eq {n : Int} (h1 : 1 ≤ n) (h7 : n ≤ 7) (r : List Int) : impl_arePairs_1.f r [n] = some (!pairB n r) := by
  have hw : wrap64 (n - 1) = n - 1 := w64 (by omega) (by omega)
  unfold impl_arePairs_1.f
  have e0 : rd [n] 0 = n := rfl
  by_cases hl : r.length = 2
  · match r, hl with
    | [a, b], _ =>
      have ea : rd [a, b] 0 = a := rfl
      have eb : rd [a, b] 1 = b := rfl
      simp only [List.length_cons, List.length_nil, within_eq, ea, eb, e0, hw, Option.bind_some, pairB]
      by_cases ha : 0 ≤ a ∧ a ≤ n - 1
      · by_cases hb : 0 ≤ b ∧ b ≤ n - 1
        · by_cases hab : a = b
          · subst hab; simp [ha, hb]
          · simp [ha, hb, hab]
        · simp [ha, hb]
      · simp [ha]
  · have hp : pairB n r = false := by
      match r, hl with
      | [], _ => rfl
      | [_], _ => rfl
      | [_, _], hl => exact absurd rfl hl
      | _ :: _ :: _ :: _, _ => rfl
    rw [if_neg (by omega), hp]; rfl
theorem idx_pairs {n : Int} (h1 : 1 ≤ n) (h7 : n ≤ 7) (P : List (List Int)) (hl : P.length ≤ 1048576) : ∀ rest pre : List (List Int), pre ++ rest = P →
    ∃ v, Ev (fun k => slices_IndexFunc_int_int__arePairs_1.l0 k P (P.length : Int) (pre.length : Int) [n]) v ∧ (decide (v ≥ 0) = rest.any fun r => !pairB n r) := by
  intro rest
  induction rest with
  | nil =>
    intro pre h
    obtain rfl : pre = P := by simpa using h
    refine ⟨-1, Ev.step (fun k => by rw [slices_IndexFunc_int_int__arePairs_1.l0]) ?_, rfl⟩
    simp only [show ¬ ((pre.length : Int) < (pre.length : Int)) from by omega, ↓reduceIte]
    exact Ev.some _
  | cons r rest ih =>
    intro pre h
    have hlen : P.length = pre.length + (rest.length + 1) := by rw [← h]; simp
    have e : rd_L2 P (pre.length : Int) = r := by rw [← h]; exact rdL_mid _ _ _
    obtain ⟨v, hv, hd⟩ := ih (pre ++ [r]) (by simp [h])
    rw [List.length_append, List.length_singleton] at hv
    cases hp : pairB n r with
    | false =>
      refine ⟨(pre.length : Int), Ev.step (fun k => by rw [slices_IndexFunc_int_int__arePairs_1.l0]) ?_, by simp [hp]⟩
      simp only [show ((pre.length : Int) < (P.length : Int)) from by omega, show (0 : Int) ≤ (pre.length : Int) from by omega, e, arePairs1_eq h1 h7, Option.bind_some, hp, Bool.not_false, ↓reduceIte]
      exact Ev.some _
    | true =>
      refine ⟨v, Ev.step (fun k => by rw [slices_IndexFunc_int_int__arePairs_1.l0]) ?_, by simp [hp, hd]⟩
      simp only [show ((pre.length : Int) < (P.length : Int)) from by omega, show (0 : Int) ≤ (pre.length : Int) from by omega, e, arePairs1_eq h1 h7, Option.bind_some, hp, Bool.not_true, Bool.false_eq_true, ↓reduceIte]
      rw [wnext (n := P.length) (by omega) (by omega)]
      exact hv
theorem arePairs_ev {n : Int} (h1 : 1 ≤ n) (h7 : n ≤ 7) (P : List (List Int)) (hl : P.length ≤ 1048576) : Ev (fun k => impl_arePairs.f k n P) (decide (P.length ≤ 40) && P.all (pairB n)) := by
  unfold impl_arePairs.f
  by_cases h : P.length ≤ 40
  · obtain ⟨v, hv, hd⟩ := idx_pairs h1 h7 P hl P [] rfl
    simp only [show ((P.length : Int) ≤ 40) from by omega, ↓reduceIte]
    have : Ev (fun k => slices_ContainsFunc_int_int__arePairs_1.f k P [n]) (decide (v ≥ 0)) := by
      unfold slices_ContainsFunc_int_int__arePairs_1.f slices_IndexFunc_int_int__arePairs_1.f
      exact Ev.bind hv (Ev.some _)
    refine Ev.bind this ((Ev.some _).eq ?_)
    rw [hd, decide_eq_true h, Bool.true_and, List.not_any_eq_all_not]
    simp
  · simp only [show ¬ ((P.length : Int) ≤ 40) from by omega, ↓reduceIte]
    exact (Ev.some _).eq (by simp [h])
end Go.Proofs.Ytekllaaohagefaa.Q
