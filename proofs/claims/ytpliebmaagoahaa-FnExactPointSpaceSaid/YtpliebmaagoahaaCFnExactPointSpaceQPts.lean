/- When the program and the reference take a list of rows for points; conditions: as each theorem states. -/
import Derived.Test.YtpliebmaagoahaaCFnExactPointSpaceQNet
import Derived.Test.YtpliebmaagoahaaCFnExactPointSpaceQLawPts
import Derived.Test.YtpliebmaagoahaaCFnExactPointSpaceP6
namespace Go.Proofs.Ytpliebmaagoahaa.Q
open Go.RowKit Go.Proofs.YtpliebmaagoahaaW.PrintWords Go.Proofs.YtpliebmaagoahaaW.PrintLast Go.Proofs.YtpliebmaagoahaaW.PrintMore Go.Proofs.Ytpliebmaagoahaa.P
set_option linter.unusedVariables false
set_option linter.unusedSimpArgs false

theorem same_loop (a b : List Int) (ha : a.length ≤ 1099511627776) (hab : a.length = b.length) : ∀ (ra pre rb : List Int), pre ++ ra = a → pre ++ rb = b → ra.length = rb.length →
    Ev (fun k => spec_l1Same.l0 k a b (a.length : Int) (pre.length : Int)) (decide (ra = rb)) := by
  intro ra
  induction ra with
  | nil =>
    intro pre rb h h2 hl
    obtain rfl : pre = a := by simpa using h
    refine Ev.step (fun k => by rw [spec_l1Same.l0]) ?_
    simp only [show ¬ ((pre.length : Int) < (pre.length : Int)) from by omega, ↓reduceIte]
    exact (Ev.some _).eq (by have : rb = [] := by simpa using hl.symm
                             simp [this])
  | cons x ra ih =>
    intro pre rb h h2 hl
    obtain ⟨y, rb, rfl⟩ : ∃ y r, rb = y :: r := by
      cases rb with
      | nil => simp at hl
      | cons y r => exact ⟨y, r, rfl⟩
    have hlen : a.length = pre.length + (ra.length + 1) := by rw [← h]; simp
    have e1 : rd a (pre.length : Int) = x := by rw [← h]; exact rd_mid _ _ _
    have e2 : rd b (pre.length : Int) = y := by rw [← h2]; exact rd_mid _ _ _
    refine Ev.step (fun k => by rw [spec_l1Same.l0]) ?_
    simp only [show ((pre.length : Int) < (a.length : Int)) from by omega, show ((pre.length : Int) < (b.length : Int)) from by omega, show (0 : Int) ≤ (pre.length : Int) from by omega, e1, e2, ↓reduceIte]
    rw [wnext (n := a.length) (by omega) ha]
    by_cases hx : x = y
    · subst hx
      have hn := ih (pre ++ [x]) rb (by simp [h]) (by simp [h2]) (by simpa using hl)
      rw [List.length_append, List.length_singleton] at hn
      simp only [↓reduceIte]
      exact hn.eq (by simp)
    · simp only [hx, ↓reduceIte]
      exact (Ev.some _).eq (by simp [hx])
theorem same_ev (a b : List Int) (ha : a.length ≤ 1099511627776) : Ev (fun k => spec_l1Same.f k a b) (decide (a = b)) := by
  unfold spec_l1Same.f
  by_cases hl : a.length = b.length
  · simp only [show ((a.length : Int) = (b.length : Int)) from by omega, ↓reduceIte]
    rw [← hl]
    exact same_loop a b ha hl a [] b rfl rfl hl
  · simp only [show ¬ ((a.length : Int) = (b.length : Int)) from by omega, ↓reduceIte]
    exact (Ev.some _).eq (by simp only [Bool.false_eq, decide_eq_false_iff_not]; rintro rfl; exact hl rfl)
theorem equal_loop (a b : List Int) (ha : a.length ≤ 1099511627776) (hab : a.length = b.length) : ∀ (ra pre rb : List Int), pre ++ ra = a → pre ++ rb = b → ra.length = rb.length →
    Ev (fun k => slices_Equal_int_int.l0 k a b (a.length : Int) (pre.length : Int)) (decide (ra = rb)) := by
  intro ra
  induction ra with
  | nil =>
    intro pre rb h h2 hl
    obtain rfl : pre = a := by simpa using h
    refine Ev.step (fun k => by rw [slices_Equal_int_int.l0]) ?_
    simp only [show ¬ ((pre.length : Int) < (pre.length : Int)) from by omega, ↓reduceIte]
    exact (Ev.some _).eq (by have : rb = [] := by simpa using hl.symm
                             simp [this])
  | cons x ra ih =>
    intro pre rb h h2 hl
    obtain ⟨y, rb, rfl⟩ : ∃ y r, rb = y :: r := by
      cases rb with
      | nil => simp at hl
      | cons y r => exact ⟨y, r, rfl⟩
    have hlen : a.length = pre.length + (ra.length + 1) := by rw [← h]; simp
    have e1 : rd a (pre.length : Int) = x := by rw [← h]; exact rd_mid _ _ _
    have e2 : rd b (pre.length : Int) = y := by rw [← h2]; exact rd_mid _ _ _
    refine Ev.step (fun k => by rw [slices_Equal_int_int.l0]) ?_
    simp only [show ((pre.length : Int) < (a.length : Int)) from by omega, show ((pre.length : Int) < (b.length : Int)) from by omega, show (0 : Int) ≤ (pre.length : Int) from by omega, e1, e2, ↓reduceIte]
    rw [wnext (n := a.length) (by omega) ha]
    by_cases hx : x = y
    · subst hx
      have hn := ih (pre ++ [x]) rb (by simp [h]) (by simp [h2]) (by simpa using hl)
      rw [List.length_append, List.length_singleton] at hn
      simp only [↓reduceIte]
      exact hn.eq (by simp)
    · simp only [hx, ↓reduceIte]
      exact (Ev.some _).eq (by simp [hx])
theorem equal_ev (a b : List Int) (ha : a.length ≤ 1099511627776) : Ev (fun k => slices_Equal_int_int.f k a b) (decide (a = b)) := by
  unfold slices_Equal_int_int.f
  by_cases hl : a.length = b.length
  · simp only [show ((a.length : Int) = (b.length : Int)) from by omega, ↓reduceIte]
    rw [← hl]
    exact equal_loop a b ha hl a [] b rfl rfl hl
  · simp only [show ¬ ((a.length : Int) = (b.length : Int)) from by omega, ↓reduceIte]
    exact (Ev.some _).eq (by simp only [Bool.false_eq, decide_eq_false_iff_not]; rintro rfl; exact hl rfl)

/-- Two numbers of the square? -/
def ptB (p : List Int) : Bool := decide (p.length = 2) && p.all fun x => decide (-20 ≤ x ∧ x ≤ 20)
/-- The rest are points, none of which came up before. -/
def chkP : List (List Int) → List (List Int) → Bool
  | _, [] => true
  | pre, p :: r => ptB p && (!decide (p ∈ pre) && chkP (pre ++ [p]) r)
theorem impl_pts_in (P : List (List Int)) (hP : P.length ≤ 7) (p : List Int) (hp : p.length = 2) (i : Nat) (r : Bool) (Q : List (List Int)) (hQ : Q.length ≤ 7)
    (hr : Ev (fun k => impl_ArePoints.l0 k P P (P.length : Int) (wrap64 ((i : Int) + 1))) r) : ∀ rest pre : List (List Int), pre ++ rest = Q →
    Ev (fun k => impl_ArePoints.l1 k P p P (P.length : Int) (i : Int) Q (Q.length : Int) (pre.length : Int)) (!decide (p ∈ rest) && r) := by
  intro rest
  induction rest with
  | nil =>
    intro pre h
    obtain rfl : pre = Q := by simpa using h
    refine Ev.step (fun k => by rw [impl_ArePoints.l1]) ?_
    simp only [show ¬ ((pre.length : Int) < (pre.length : Int)) from by omega, ↓reduceIte]
    exact hr.eq (by simp)
  | cons q rest ih =>
    intro pre h
    have hlen : Q.length = pre.length + (rest.length + 1) := by rw [← h]; simp
    have e : rd_L3 Q (pre.length : Int) = q := by rw [← h]; exact rdL_mid _ _ _
    have hn := ih (pre ++ [q]) (by simp [h])
    rw [List.length_append, List.length_singleton] at hn
    refine Ev.step (fun k => by rw [impl_ArePoints.l1]) ?_
    simp only [show ((pre.length : Int) < (Q.length : Int)) from by omega, show (0 : Int) ≤ (pre.length : Int) from by omega, e, ↓reduceIte]
    refine Ev.bind (equal_ev p q (by omega)) ?_
    rw [wnext (n := Q.length) (by omega) (by omega)]
    by_cases hq : p = q
    · simp only [decide_eq_true hq, ↓reduceIte]
      exact (Ev.some _).eq (by simp [hq])
    · simp only [decide_eq_false hq, ↓reduceIte, Bool.false_eq_true]
      exact hn.eq (by simp [hq])
theorem impl_pts_loop (P : List (List Int)) (hP : P.length ≤ 7) : ∀ rest pre : List (List Int), pre ++ rest = P →
    Ev (fun k => impl_ArePoints.l0 k P P (P.length : Int) (pre.length : Int)) (chkP pre rest) := by
  intro rest
  induction rest with
  | nil =>
    intro pre h
    obtain rfl : pre = P := by simpa using h
    refine Ev.step (fun k => by rw [impl_ArePoints.l0]) ?_
    simp only [show ¬ ((pre.length : Int) < (pre.length : Int)) from by omega, ↓reduceIte]
    exact Ev.some _
  | cons p rest ih =>
    intro pre h
    have hlen : P.length = pre.length + (rest.length + 1) := by rw [← h]; simp
    have e : rd_L3 P (pre.length : Int) = p := by rw [← h]; exact rdL_mid _ _ _
    have et : P.take pre.length = pre := by rw [← h]; exact List.take_left' rfl
    have hn := ih (pre ++ [p]) (by simp [h])
    rw [List.length_append, List.length_singleton, ← wnext (n := P.length) (by omega) (by omega)] at hn
    have hj : ∀ b : Bool, (b = false → p.length = 2) → Ev (fun k => impl_ArePoints.j1 k P (pre.length : Int) p P (P.length : Int) (pre.length : Int) b) (!b && (!decide (p ∈ pre) && chkP (pre ++ [p]) rest)) := by
      intro b hb
      refine Ev.step (fun k => by rw [impl_ArePoints.j1]) ?_
      cases b with
      | true => simp only [↓reduceIte]; exact Ev.some _
      | false =>
        simp only [↓reduceIte, Bool.false_eq_true, show (0 : Int) ≤ (pre.length : Int) from by omega, show (pre.length : Int) ≤ (P.length : Int) from by omega, Option.bind_some, Int.toNat_natCast, et]
        exact impl_pts_in P hP p (hb rfl) pre.length _ pre (by omega) hn pre [] rfl
    refine Ev.step (fun k => by rw [impl_ArePoints.l0]) ?_
    simp only [show ((pre.length : Int) < (P.length : Int)) from by omega, show (0 : Int) ≤ (pre.length : Int) from by omega, e, ↓reduceIte]
    unfold chkP
    by_cases h2 : p.length = 2
    · match p, h2 with
      | [x, y], _ =>
        have r0 : rd [x, y] 0 = x := rfl
        have r1 : rd [x, y] 1 = y := rfl
        simp only [List.length_cons, List.length_nil, Nat.zero_add, Nat.reduceAdd, show ((2 : Nat) : Int) = 2 from rfl, show (0 : Int) < 2 from by omega, show (1 : Int) < 2 from by omega, r0, r1, within_eq, Option.bind_some, decide_eq_true_eq, ↓reduceIte]
        by_cases hx : -20 ≤ x ∧ x ≤ 20
        · simp only [hx, and_self, ↓reduceIte]
          exact (hj _ (fun _ => rfl)).eq (by simp only [ptB, List.length_cons, List.length_nil, List.all_cons, List.all_nil, hx, and_self, decide_true, Bool.true_and, Bool.and_true, Bool.not_not])
        · simp only [hx, ↓reduceIte]
          exact (hj true (by simp)).eq (by simp only [ptB, List.all_cons, decide_eq_false hx, Bool.not_true, Bool.false_and, Bool.and_false])
    · simp only [show ¬ ((p.length : Int) = 2) from by omega, ↓reduceIte]
      exact (hj true (by simp)).eq (by simp only [ptB, decide_eq_false h2, Bool.not_true, Bool.false_and])
def ptsB (P : List (List Int)) : Bool := decide (1 ≤ P.length ∧ P.length ≤ 7) && chkP [] P
theorem impl_pts_ev (P : List (List Int)) : Ev (fun k => impl_ArePoints.f k P) (ptsB P) := by
  unfold impl_ArePoints.f ptsB
  by_cases h : 1 ≤ P.length ∧ P.length ≤ 7
  · have h' : (1 : Int) ≤ (P.length : Int) ∧ (P.length : Int) ≤ 7 := by omega
    simp only [isSize_eq, Option.bind_some, decide_eq_true h', ↓reduceIte]
    exact (impl_pts_loop P h.2 P [] rfl).eq (by simp [h])
  · have h' : ¬ ((1 : Int) ≤ (P.length : Int) ∧ (P.length : Int) ≤ 7) := by omega
    simp only [isSize_eq, Option.bind_some, decide_eq_false h', ↓reduceIte, Bool.false_eq_true]
    exact (Ev.some _).eq (by rw [decide_eq_false h, Bool.false_and])
theorem spec_pts_in (P : List (List Int)) (hP : P.length ≤ 7) (p : List Int) (hp : p.length = 2) (i : Nat) (r : Bool) (Q : List (List Int)) (hQ : Q.length ≤ 7)
    (hr : Ev (fun k => spec_shPoints.l0 k P P (P.length : Int) (wrap64 ((i : Int) + 1))) r) : ∀ rest pre : List (List Int), pre ++ rest = Q →
    Ev (fun k => spec_shPoints.l1 k P p P (P.length : Int) (i : Int) Q (Q.length : Int) (pre.length : Int)) (!decide (p ∈ rest) && r) := by
  intro rest
  induction rest with
  | nil =>
    intro pre h
    obtain rfl : pre = Q := by simpa using h
    refine Ev.step (fun k => by rw [spec_shPoints.l1]) ?_
    simp only [show ¬ ((pre.length : Int) < (pre.length : Int)) from by omega, ↓reduceIte]
    exact hr.eq (by simp)
  | cons q rest ih =>
    intro pre h
    have hlen : Q.length = pre.length + (rest.length + 1) := by rw [← h]; simp
    have e : rd_L3 Q (pre.length : Int) = q := by rw [← h]; exact rdL_mid _ _ _
    have hn := ih (pre ++ [q]) (by simp [h])
    rw [List.length_append, List.length_singleton] at hn
    refine Ev.step (fun k => by rw [spec_shPoints.l1]) ?_
    simp only [show ((pre.length : Int) < (Q.length : Int)) from by omega, show (0 : Int) ≤ (pre.length : Int) from by omega, e, ↓reduceIte]
    refine Ev.bind (same_ev p q (by omega)) ?_
    rw [wnext (n := Q.length) (by omega) (by omega)]
    by_cases hq : p = q
    · simp only [decide_eq_true hq, ↓reduceIte]
      exact (Ev.some _).eq (by simp [hq])
    · simp only [decide_eq_false hq, ↓reduceIte, Bool.false_eq_true]
      exact hn.eq (by simp [hq])
theorem spec_pts_loop (P : List (List Int)) (hP : P.length ≤ 7) : ∀ rest pre : List (List Int), pre ++ rest = P →
    Ev (fun k => spec_shPoints.l0 k P P (P.length : Int) (pre.length : Int)) (chkP pre rest) := by
  intro rest
  induction rest with
  | nil =>
    intro pre h
    obtain rfl : pre = P := by simpa using h
    refine Ev.step (fun k => by rw [spec_shPoints.l0]) ?_
    simp only [show ¬ ((pre.length : Int) < (pre.length : Int)) from by omega, ↓reduceIte]
    exact Ev.some _
  | cons p rest ih =>
    intro pre h
    have hlen : P.length = pre.length + (rest.length + 1) := by rw [← h]; simp
    have e : rd_L3 P (pre.length : Int) = p := by rw [← h]; exact rdL_mid _ _ _
    have et : P.take pre.length = pre := by rw [← h]; exact List.take_left' rfl
    have hn := ih (pre ++ [p]) (by simp [h])
    rw [List.length_append, List.length_singleton, ← wnext (n := P.length) (by omega) (by omega)] at hn
    have hj : ∀ b : Bool, (b = false → p.length = 2) → Ev (fun k => spec_shPoints.j1 k P (pre.length : Int) p P (P.length : Int) (pre.length : Int) b) (!b && (!decide (p ∈ pre) && chkP (pre ++ [p]) rest)) := by
      intro b hb
      refine Ev.step (fun k => by rw [spec_shPoints.j1]) ?_
      cases b with
      | true => simp only [↓reduceIte]; exact Ev.some _
      | false =>
        simp only [↓reduceIte, Bool.false_eq_true, show (0 : Int) ≤ (pre.length : Int) from by omega, show (pre.length : Int) ≤ (P.length : Int) from by omega, Option.bind_some, Int.toNat_natCast, et]
        exact spec_pts_in P hP p (hb rfl) pre.length _ pre (by omega) hn pre [] rfl
    refine Ev.step (fun k => by rw [spec_shPoints.l0]) ?_
    simp only [show ((pre.length : Int) < (P.length : Int)) from by omega, show (0 : Int) ≤ (pre.length : Int) from by omega, e, ↓reduceIte]
    unfold chkP
    by_cases h2 : p.length = 2
    · simp only [show ((p.length : Int) = 2) from by omega, ↓reduceIte]
      refine Ev.bind (l1All_ev p (by omega) _ _) ?_
      exact (hj _ (fun _ => h2)).eq (by simp only [ptB, decide_eq_true h2, Bool.true_and, Bool.not_not])
    · simp only [show ¬ ((p.length : Int) = 2) from by omega, ↓reduceIte]
      exact (hj true (by simp)).eq (by simp only [ptB, decide_eq_false h2, Bool.not_true, Bool.false_and])
theorem spec_pts_ev (P : List (List Int)) : Ev (fun k => spec_shPoints.f k P) (ptsB P) := by
  unfold spec_shPoints.f ptsB
  by_cases h : 1 ≤ P.length ∧ P.length ≤ 7
  · have h' : (1 : Int) ≤ (P.length : Int) ∧ (P.length : Int) ≤ 7 := by omega
    simp only [spItems_eq, Option.bind_some, decide_eq_true h', ↓reduceIte]
    exact (spec_pts_loop P h.2 P [] rfl).eq (by simp [h])
  · have h' : ¬ ((1 : Int) ≤ (P.length : Int) ∧ (P.length : Int) ≤ 7) := by omega
    simp only [spItems_eq, Option.bind_some, decide_eq_false h', ↓reduceIte, Bool.false_eq_true]
    exact (Ev.some _).eq (by rw [decide_eq_false h, Bool.false_and])
end Go.Proofs.Ytpliebmaagoahaa.Q
