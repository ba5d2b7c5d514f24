/- What is left behind a set of a space: the program's and the reference's; conditions: as each theorem states. -/
import Derived.Test.YtniehinnbdcafaaCFnExactBehindSetQSqueeze
import Derived.Test.YtniehinnbdcafaaCFnExactBehindSetQIns
import Derived.Test.YtniehinnbdcafaaCFnExactBehindSetQKnown
import Derived.Test.YtniehinnbdcafaaCFnExactBehindSetQCount
import Derived.Test.YtniehinnbdcafaaCFnExactBehindSetQWithin
import Derived.Test.YtniehinnbdcafaaCFnExactBehindSetP4
namespace Go.Proofs.Ytniehinnbdcafaa.Q
open Go.RowKit Go.Proofs.YtniehinnbdcafaaW.PrintWords Go.Proofs.YtniehinnbdcafaaW.PrintLast Go.Proofs.YtniehinnbdcafaaW.PrintMore Go.Proofs.Ytniehinnbdcafaa.P
set_option linter.unusedVariables false
set_option linter.unusedSimpArgs false

/-- The sets above a set, renumbered, put in order. -/
def behL (x q : Nat) : List Nat → List Nat → List Nat
  | [], R => R
  | y :: r, R => behL x q r (if andn x y = 0 then insN (sqN y q) R else R)
theorem behL_length {x q : Nat} : ∀ {l R : List Nat}, (behL x q l R).length ≤ R.length + l.length
  | [], R => by simp [behL]
  | y :: r, R => by
    have h1 := behL_length (x := x) (q := q) (l := r) (R := if andn x y = 0 then insN (sqN y q) R else R)
    have h2 : (if andn x y = 0 then insN (sqN y q) R else R).length ≤ R.length + 1 := by
      by_cases h : andn x y = 0
      · rw [if_pos h]; exact insN_length
      · rw [if_neg h]; omega
    simp only [behL, List.length_cons]; omega
theorem listN_of' {T : List Nat} (hi : Inc T) (hT : ∀ x ∈ T, x < 128) : listN (fun y => decide (y ∈ T)) = T := by
  refine inc_ext (inc_listN _) hi (fun x => ?_)
  rw [mem_listN, decide_eq_true_eq]
  exact ⟨fun h => h.2, fun h => ⟨hT x h, h⟩⟩
theorem impl_beh_loop {T : List Nat} (hT : ∀ y ∈ T, y < 128) (hl : T.length ≤ 128) {x q : Nat} (hx : x < 128) (hq : q < 128) : ∀ (rest pre R : List Nat), pre ++ rest = T → Inc R → (∀ y ∈ R, y < 128) →
    Ev (fun k => impl_BehindSet.l0 k (x : Int) (famN fun y => decide (y ∈ R)) (q : Int) (castL T) (T.length : Int) (pre.length : Int)) (((cntN q : Nat) : Int), castL (behL x q rest R), true) := by
  intro rest
  induction rest with
  | nil =>
    intro pre R e hI hR
    obtain rfl : pre = T := by simpa using e
    refine Ev.step (fun k => by rw [impl_BehindSet.l0]) ?_
    simp only [show ¬ ((pre.length : Int) < (pre.length : Int)) from by omega, ↓reduceIte, count_eq hq, Option.bind_some]
    refine Ev.bind (fam_space_ev _ _) ?_
    rw [listN_of' hI hR]
    exact Ev.some _
  | cons y rest ih =>
    intro pre R e hI hR
    have hy : y < 128 := hT y (by rw [← e]; simp)
    have hlen : T.length = pre.length + (rest.length + 1) := by rw [← e]; simp
    have er : rd (castL T) (pre.length : Int) = (y : Int) := by rw [← e]; exact rd_castL_mid _ _ _
    have hs := sqN_lt y q
    refine Ev.step (fun k => by rw [impl_BehindSet.l0]) ?_
    simp only [show ((pre.length : Int) < (T.length : Int)) from by omega, show (0 : Int) ≤ (pre.length : Int) from by omega, castL_length, er, part_eq (show x < 2 ^ 62 from by omega) (show y < 2 ^ 62 from by omega), Option.bind_some, decide_eq_true_eq, ↓reduceIte]
    by_cases hb : andn x y = 0
    · simp only [hb, ↓reduceIte]
      refine Ev.bind (squeezed_ev hy hq) ?_
      have hn := ih (pre ++ [y]) (insN (sqN y q) R) (by simp [e]) (inc_insN hI) (fun z hz => by
        rcases mem_insN.1 hz with rfl | hz
        · exact hs
        · exact hR z hz)
      simp only [List.length_append, List.length_singleton] at hn
      simp only [famN_length, show (0 : Int) < ((128 : Nat) : Int) from by omega, show (0 : Int) ≤ ((sqN y q : Nat) : Int) from by omega, show (((sqN y q : Nat) : Int) < ((128 : Nat) : Int)) from by omega, show (((sqN y q : Nat) : Int) < 128) from by omega, Int.toNat_natCast, famN_set, ↓reduceIte]
      rw [wnext (n := T.length) (by omega) (by omega)]
      refine Ev.congr (fun k => ?_) (hn.eq (by simp only [behL, hb, ↓reduceIte]))
      congr 1
      apply famN_congr
      intro z _
      rw [Bool.eq_iff_iff]
      simp only [Bool.or_eq_true, decide_eq_true_eq, beq_iff_eq, mem_insN]
      exact or_comm
    · simp only [hb, ↓reduceIte]
      have hn := ih (pre ++ [y]) R (by simp [e]) hI hR
      simp only [List.length_append, List.length_singleton] at hn
      rw [wnext (n := T.length) (by omega) (by omega)]
      exact hn.eq (by simp only [behL, hb, ↓reduceIte])
theorem spec_beh_loop {T : List Nat} (hT : ∀ y ∈ T, y < 128) (hl : T.length ≤ 128) {x q : Nat} (hx : x < 128) (hq : q < 128) (c : Int) : ∀ (rest pre R : List Nat), pre ++ rest = T → R.length ≤ pre.length →
    Ev (fun k => spec_BehindSet.l0 k (x : Int) (q : Int) (castL T) (T.length : Int) (pre.length : Int) c (castL R)) (c, castL (behL x q rest R), true) := by
  intro rest
  induction rest with
  | nil =>
    intro pre R e hR
    obtain rfl : pre = T := by simpa using e
    refine Ev.step (fun k => by rw [spec_BehindSet.l0]) ?_
    simp only [show ¬ ((pre.length : Int) < (pre.length : Int)) from by omega, ↓reduceIte]
    exact Ev.some _
  | cons y rest ih =>
    intro pre R e hR
    have hy : y < 128 := hT y (by rw [← e]; simp)
    have hlen : T.length = pre.length + (rest.length + 1) := by rw [← e]; simp
    have er : rd (castL T) (pre.length : Int) = (y : Int) := by rw [← e]; exact rd_castL_mid _ _ _
    have hyq : y &&& q < 128 := Nat.lt_of_le_of_lt Nat.and_le_left hy
    refine Ev.step (fun k => by rw [spec_BehindSet.l0]) ?_
    simp only [show ((pre.length : Int) < (T.length : Int)) from by omega, show (0 : Int) ≤ (pre.length : Int) from by omega, castL_length, er, bAndn (show x < 2 ^ 62 from by omega) (show y < 2 ^ 62 from by omega), bAnd (show y < 2 ^ 62 from by omega) (show q < 2 ^ 62 from by omega), Int.natCast_eq_zero, ↓reduceIte]
    rw [wnext (n := T.length) (by omega) (by omega)]
    by_cases hb : andn x y = 0
    · simp only [hb, ↓reduceIte]
      refine Ev.bind (numbered_ev hyq hq) ?_
      rw [sqN_and]
      refine Ev.bind (spPut_ev R (by omega) _) ?_
      have hil := insN_length (x := sqN y q) (l := R)
      have hn := ih (pre ++ [y]) (insN (sqN y q) R) (by simp [e]) (by simp; omega)
      simp only [List.length_append, List.length_singleton] at hn
      exact hn.eq (by simp only [behL, hb, ↓reduceIte])
    · simp only [hb, ↓reduceIte]
      have hn := ih (pre ++ [y]) R (by simp [e]) (by simp; omega)
      simp only [List.length_append, List.length_singleton] at hn
      exact hn.eq (by simp only [behL, hb, ↓reduceIte])
theorem fam_none' : (List.replicate 128 false) = famN fun y => decide (y ∈ ([] : List Nat)) := by decide
theorem BehindSet_both (n : Int) (S : List Int) (hS : S.length ≤ 1048576) (a : Int) : ∃ (n' : Int) (L : List Int) (b : Bool), L.length ≤ 1048576 ∧ Ev (fun k => spec_BehindSet.f k n S a) (n', L, b) ∧ Ev (fun k => impl_BehindSet.f k n S a) (n', L, b) := by
  have hj1 : ∀ n S, Ev (fun k => spec_BehindSet.j0 k a true n S) (0, [], false) := by
    intro n S
    refine Ev.step (fun k => by rw [spec_BehindSet.j0]) ?_
    simp only [↓reduceIte]
    exact Ev.some _
  have hj2 : ∀ n S, Ev (fun k => impl_BehindSet.j0 k a true n S) (0, [], false) := by
    intro n S
    refine Ev.step (fun k => by rw [impl_BehindSet.j0]) ?_
    simp only [↓reduceIte]
    exact Ev.some _
  rcases known_cases (n := n) (by omega : S.length ≤ 1099511627776) a with ⟨h1, h2⟩ | ⟨m, T, x, rfl, rfl, rfl, h, hx, h1, h2⟩
  · refine ⟨0, [], false, by simp, ?_, ?_⟩
    · unfold spec_BehindSet.f
      refine Ev.bind h2 ?_
      simp only [↓reduceIte, Bool.false_eq_true]
      exact hj1 _ _
    · unfold impl_BehindSet.f
      refine Ev.bind h1 ?_
      simp only [↓reduceIte, Bool.false_eq_true]
      exact hj2 _ _
  · have hx2 := h.lt128 x hx
    have hp : 0 < 2 ^ m := Nat.two_pow_pos _
    have hp2 := pow_le_128 h.m7
    have hq : andn (2 ^ m - 1) x < 128 := andn_lt (by omega)
    have hlen := h.short
    have eb : ((x : Int) == ((2 ^ m - 1 : Nat) : Int)) = decide (x = 2 ^ m - 1) := by
      rw [Bool.eq_iff_iff, beq_iff_eq, decide_eq_true_eq]; omega
    by_cases hf : x = 2 ^ m - 1
    · refine ⟨0, [], false, by simp, ?_, ?_⟩
      · unfold spec_BehindSet.f
        refine Ev.bind h2 ?_
        simp only [↓reduceIte, show (0 : Int) ≤ (m : Int) from by omega, pow1 h.m61, eb, decide_eq_true hf]
        exact hj1 _ _
      · unfold impl_BehindSet.f
        refine Ev.bind h1 ?_
        simp only [↓reduceIte, all_eq h.m61, Option.bind_some, eb, decide_eq_true hf]
        exact hj2 _ _
    · refine ⟨((cntN (andn (2 ^ m - 1) x) : Nat) : Int), castL (behL x (andn (2 ^ m - 1) x) T []), true, ?_, ?_, ?_⟩
      · have := behL_length (x := x) (q := andn (2 ^ m - 1) x) (l := T) (R := [])
        simp at this ⊢; omega
      · unfold spec_BehindSet.f
        refine Ev.bind h2 ?_
        simp only [↓reduceIte, show (0 : Int) ≤ (m : Int) from by omega, pow1 h.m61, eb, decide_eq_false hf]
        refine Ev.step (fun k => by rw [spec_BehindSet.j0]) ?_
        simp only [↓reduceIte, Bool.false_eq_true, show (0 : Int) ≤ (m : Int) from by omega, pow1 h.m61, bAndn (show 2 ^ m - 1 < 2 ^ 62 from by omega) (show x < 2 ^ 62 from by omega), castL_length]
        refine Ev.bind (spCount_ev hq) ?_
        exact spec_beh_loop h.lt128 hlen hx2 hq _ T [] [] rfl (by simp)
      · unfold impl_BehindSet.f
        refine Ev.bind h1 ?_
        simp only [↓reduceIte, all_eq h.m61, Option.bind_some, eb, decide_eq_false hf]
        refine Ev.step (fun k => by rw [impl_BehindSet.j0]) ?_
        simp only [↓reduceIte, Bool.false_eq_true, all_eq h.m61, Option.bind_some, bAndn (show 2 ^ m - 1 < 2 ^ 62 from by omega) (show x < 2 ^ 62 from by omega), castL_length, fam_none']
        exact impl_beh_loop h.lt128 hlen hx2 hq T [] [] rfl (by simp [Inc]) (by simp)
end Go.Proofs.Ytniehinnbdcafaa.Q
