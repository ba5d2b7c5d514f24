/- A list of sets taken as a family: the program's check and the reference's; conditions: as each theorem states. -/
import Derived.Test.YtnpfkbfmipnofaaCFnExactSpaceOfPathsQAcc
import Derived.Test.YtnpfkbfmipnofaaCFnExactSpaceOfPathsQNet
import Derived.Test.YtnpfkbfmipnofaaCFnExactSpaceOfPathsP4
namespace Go.Proofs.Ytnpfkbfmipnofaa.Q
open Go.RowKit Go.Proofs.YtnpfkbfmipnofaaW.PrintWords Go.Proofs.YtnpfkbfmipnofaaW.PrintLast Go.Proofs.YtnpfkbfmipnofaaW.PrintMore Go.Proofs.Ytnpfkbfmipnofaa.P
set_option linter.unusedVariables false
set_option linter.unusedSimpArgs false

/-- In range? -/
def setB (m : Nat) (w : List Int) : Bool := w.all fun x => decide (0 ≤ x ∧ x ≤ ((2 ^ m - 1 : Nat) : Int))
theorem famOf_loop {m : Nat} (hm : m ≤ 7) (w : List Int) (hl : w.length ≤ 1048576) : ∀ (rest pre : List Int), pre ++ rest = w →
    Ev (fun k => impl_familyOf.l0 k (m : Int) (famN fun y => decide (y ∈ pre.map Int.toNat)) w (w.length : Int) (pre.length : Int)) (if setB m rest = true then (famN fun y => decide (y ∈ w.map Int.toNat), true) else ([], false)) := by
  intro rest
  have hp2 := pow_le_128 hm
  have hpos : 0 < 2 ^ m := Nat.two_pow_pos _
  induction rest with
  | nil =>
    intro pre e
    obtain rfl : pre = w := by simpa using e
    refine Ev.step (fun k => by rw [impl_familyOf.l0]) ?_
    simp only [show ¬ ((pre.length : Int) < (pre.length : Int)) from by omega, ↓reduceIte]
    exact (Ev.some _).eq (by simp [setB])
  | cons x rest ih =>
    intro pre e
    have hlen : w.length = pre.length + (rest.length + 1) := by rw [← e]; simp
    have er : rd w (pre.length : Int) = x := by rw [← e]; exact rd_mid _ _ _
    refine Ev.step (fun k => by rw [impl_familyOf.l0]) ?_
    simp only [show ((pre.length : Int) < (w.length : Int)) from by omega, show (0 : Int) ≤ (pre.length : Int) from by omega, er, isSet_eq (show m ≤ 61 from by omega), Option.bind_some, decide_eq_true_eq, ↓reduceIte]
    by_cases hx : 0 ≤ x ∧ x ≤ ((2 ^ m - 1 : Nat) : Int)
    · obtain ⟨i, rfl⟩ := Int.eq_ofNat_of_zero_le hx.1
      have hi : i < 128 := by omega
      have hn := ih (pre ++ [(i : Int)]) (by simp [e])
      simp only [List.length_append, List.length_singleton] at hn
      simp only [hx, and_self, ↓reduceIte, famN_length, show ((i : Int) < ((128 : Nat) : Int)) from by omega, show ((i : Int) < 128) from by omega, Int.toNat_natCast, famN_set]
      rw [wnext (n := w.length) (by omega) (by omega)]
      have hset : setB m ((i : Int) :: rest) = setB m rest := by simp only [setB, List.all_cons, decide_eq_true hx, Bool.true_and]
      refine Ev.congr (fun k => ?_) (hn.eq (by rw [hset]))
      congr 1
      apply famN_congr
      intro z _
      rw [Bool.eq_iff_iff]
      simp
    · simp only [hx, ↓reduceIte]
      have hset : setB m (x :: rest) = false := by simp only [setB, List.all_cons, decide_eq_false hx, Bool.false_and]
      exact (Ev.some _).eq (by rw [hset]; simp)
/-- A family of sets of m items, or none. -/
theorem famOf_cases (a0 : Int) (w : List Int) (hw : w.length ≤ 1048576) (N : Nat) (hN : N ≤ 1000) :
    (Ev (fun k => impl_familyOf.f k a0 w (N : Int)) ([], false) ∧ ¬ ((1 ≤ a0 ∧ a0 ≤ 7) ∧ w.length ≤ N ∧ setB a0.toNat w = true)) ∨
    ∃ (m : Nat) (L : List Nat), a0 = (m : Int) ∧ w = castL L ∧ 1 ≤ m ∧ m ≤ 7 ∧ L.length ≤ N ∧ (∀ x ∈ L, x < 2 ^ m) ∧ setB m (castL L) = true ∧ Ev (fun k => impl_familyOf.f k (m : Int) (castL L) (N : Int)) (famN fun y => decide (y ∈ L), true) := by
  have hj : ∀ a0, Ev (fun k => impl_familyOf.j0 k a0 w true) ([], false) := by
    intro a0
    refine Ev.step (fun k => by rw [impl_familyOf.j0]) ?_
    simp only [↓reduceIte]; exact Ev.some _
  by_cases h1 : 1 ≤ a0 ∧ a0 ≤ 7
  · obtain ⟨m, rfl⟩ := Int.eq_ofNat_of_zero_le (show 0 ≤ a0 by omega)
    have hpos : 0 < 2 ^ m := Nat.two_pow_pos _
    by_cases h2 : w.length ≤ N
    · have hf : ∀ v, Ev (fun k => impl_familyOf.l0 k (m : Int) (List.replicate 128 false) w (w.length : Int) 0) v → Ev (fun k => impl_familyOf.f k (m : Int) w (N : Int)) v := by
        intro v hv
        unfold impl_familyOf.f
        simp only [isSize_eq, Option.bind_some, decide_eq_true h1, ↓reduceIte, decide_eq_false (show ¬ ((w.length : Int) > (N : Int)) by omega)]
        refine Ev.step (fun k => by rw [impl_familyOf.j0]) ?_
        simp only [↓reduceIte, Bool.false_eq_true]
        exact hv
      have hlp := famOf_loop (m := m) (by omega) w hw w [] rfl
      have e0 : famN (fun y => decide (y ∈ ([] : List Int).map Int.toNat)) = List.replicate 128 false := by decide
      rw [e0] at hlp
      cases h3 : setB m w with
      | false =>
        refine .inl ⟨hf _ ?_, ?_⟩
        · rw [h3] at hlp
          simpa using hlp
        · rw [Int.toNat_natCast, h3]; simp
      | true =>
        have hall := List.all_eq_true.1 h3
        simp only [decide_eq_true_eq] at hall
        obtain ⟨L, hL⟩ : ∃ L, w = castL L := ⟨w.map Int.toNat, (castL_of fun x hx => (hall x hx).1).symm⟩
        have hm : w.map Int.toNat = L := by rw [hL]; simp [castL, List.map_map, Function.comp_def]
        rw [h3, hm] at hlp
        refine .inr ⟨m, L, rfl, hL, by omega, by omega, by rw [hL] at h2; simpa using h2, ?_, by rw [← hL]; exact h3, ?_⟩
        · intro x hx
          have := hall (x : Int) (by rw [hL]; exact mem_castL.2 hx)
          omega
        · rw [← hL]
          exact hf _ (by simpa using hlp)
    · refine .inl ⟨?_, fun h => h2 h.2.1⟩
      unfold impl_familyOf.f
      simp only [isSize_eq, Option.bind_some, decide_eq_true h1, ↓reduceIte, decide_eq_true (show (w.length : Int) > (N : Int) by omega)]
      exact hj _
  · refine .inl ⟨?_, fun h => h1 h.1⟩
    unfold impl_familyOf.f
    simp only [isSize_eq, Option.bind_some, decide_eq_false h1, ↓reduceIte, Bool.false_eq_true]
    exact hj _
end Go.Proofs.Ytnpfkbfmipnofaa.Q
