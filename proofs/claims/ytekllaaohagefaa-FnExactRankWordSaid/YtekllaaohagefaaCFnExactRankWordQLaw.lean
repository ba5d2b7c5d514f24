/- What the laws' own helpers come to: copies, sizes, equality; conditions: as each theorem states. -/
import Derived.Test.YtekllaaohagefaaCFnExactRankWordQ0
import Derived.Test.YtekllaaohagefaaCFnExactRankWordP4
namespace Go.Proofs.Ytekllaaohagefaa.Q
open Go.RowKit Go.Proofs.YtekllaaohagefaaW.PrintWords Go.Proofs.YtekllaaohagefaaW.PrintLast Go.Proofs.YtekllaaohagefaaW.PrintMore Go.Proofs.Ytekllaaohagefaa.P
set_option linter.unusedVariables false
set_option linter.unusedSimpArgs false

theorem toIntS_loop (l : List Int) (hl : l.length ≤ 1099511627776) : ∀ rest pre : List Int, pre ++ rest = l →
    Ev (fun k => laws_toIntS.l0 k l (pre ++ List.replicate rest.length 0) (pre.length : Int)) l := by
  intro rest
  induction rest with
  | nil =>
    intro pre h
    obtain rfl : pre = l := by simpa using h
    refine Ev.step (fun k => by rw [laws_toIntS.l0]) ?_
    simp only [show ¬ ((pre.length : Int) < (pre.length : Int)) from by omega, ↓reduceIte]
    exact (Ev.some _).eq (by simp)
  | cons x rest ih =>
    intro pre h
    have hlen : l.length = pre.length + (rest.length + 1) := by rw [← h]; simp
    have e : rd l (pre.length : Int) = x := by rw [← h]; exact rd_mid _ _ _
    refine Ev.step (fun k => by rw [laws_toIntS.l0]) ?_
    simp only [show ((pre.length : Int) < (l.length : Int)) from by omega, show (0 : Int) ≤ (pre.length : Int) from by omega, e,
      show ((pre.length : Int) < ((pre ++ List.replicate (x :: rest).length 0).length : Int)) from by simp; omega, ↓reduceIte, Int.toNat_natCast]
    rw [wnext (n := l.length) (by omega) hl]
    have := ih (pre ++ [x]) (by simp [h])
    rw [List.length_append, List.length_singleton] at this
    refine Ev.congr (fun k => ?_) this
    congr 1
    rw [List.length_cons, List.replicate_succ, List.set_append_right _ _ (Nat.le_refl _), Nat.sub_self, List.set_cons_zero, List.append_assoc]
    rfl
theorem toIntS_ev (l : List Int) (hl : l.length ≤ 1099511627776) : Ev (fun k => laws_toIntS.f k l) l := by
  unfold laws_toIntS.f
  simp only [show (0 : Int) ≤ (l.length : Int) from by omega, Int.toNat_natCast, show l.length ≤ 35184372088832 from by omega, ↓reduceIte]
  simpa using toIntS_loop l hl l [] rfl
theorem eqIntS_loop (a b : List Int) (ha : a.length ≤ 1099511627776) : ∀ (ra rb pre : List Int), pre ++ ra = a → pre ++ rb = b → ra.length = rb.length →
    Ev (fun k => laws_eqIntS.l0 k a b (pre.length : Int)) (decide (ra = rb)) := by
  intro ra
  induction ra with
  | nil =>
    intro rb pre h1 h2 h3
    obtain rfl : rb = [] := by cases rb with
      | nil => rfl
      | cons => simp at h3
    obtain rfl : pre = a := by simpa using h1
    refine Ev.step (fun k => by rw [laws_eqIntS.l0]) ?_
    simp only [show ¬ ((pre.length : Int) < (pre.length : Int)) from by omega, ↓reduceIte]
    exact Ev.some _
  | cons x ra ih =>
    intro rb pre h1 h2 h3
    cases rb with
    | nil => simp at h3
    | cons y rb =>
      have hlen : a.length = pre.length + (ra.length + 1) := by rw [← h1]; simp
      have hlen2 : b.length = pre.length + (rb.length + 1) := by rw [← h2]; simp
      have e1 : rd a (pre.length : Int) = x := by rw [← h1]; exact rd_mid _ _ _
      have e2 : rd b (pre.length : Int) = y := by rw [← h2]; exact rd_mid _ _ _
      refine Ev.step (fun k => by rw [laws_eqIntS.l0]) ?_
      simp only [show ((pre.length : Int) < (a.length : Int)) from by omega, show ((pre.length : Int) < (b.length : Int)) from by omega, show (0 : Int) ≤ (pre.length : Int) from by omega, e1, e2, ↓reduceIte]
      by_cases hxy : x = y
      · subst hxy
        simp only [↓reduceIte]
        rw [wnext (n := a.length) (by omega) ha]
        have := ih rb (pre ++ [x]) (by simp [h1]) (by simp [h2]) (by simpa using h3)
        rw [List.length_append, List.length_singleton] at this
        exact this.eq (by simp)
      · simp only [hxy, ↓reduceIte]
        exact (Ev.some _).eq (by simp [hxy])
theorem eqIntS_ev (a b : List Int) (ha : a.length ≤ 1099511627776) : Ev (fun k => laws_eqIntS.f k a b) (decide (a = b)) := by
  unfold laws_eqIntS.f
  by_cases h : a.length = b.length
  · simp only [show ((a.length : Int) = (b.length : Int)) from by omega, ↓reduceIte]
    simpa using eqIntS_loop a b ha a b [] rfl rfl h
  · simp only [show ¬ ((a.length : Int) = (b.length : Int)) from by omega, ↓reduceIte]
    refine (Ev.some _).eq ?_
    have : a ≠ b := fun e => h (by rw [e])
    simp [this]
theorem eqIntS_self (l : List Int) (h : l.length ≤ 1048576) : Ev (fun k => laws_eqIntS.f k l l) true := (eqIntS_ev l l (by omega)).eq (by simp)
theorem toIntS_ev' (l : List Int) (h : l.length ≤ 1048576) : Ev (fun k => laws_toIntS.f k l) l := toIntS_ev l (by omega)
theorem szIntS_eq (l : List Int) (hl : l.length ≤ maxLen) (n : Int) (h0 : 0 ≤ n) (h1 : n ≤ 1048576) : laws_szIntS.f l n = some (if (l.length : Int) ≤ n then n - l.length else -1) := by
  unfold maxLen at hl
  unfold laws_szIntS.f
  rw [w64 (by omega) (by omega)]
  by_cases h : (l.length : Int) ≤ n
  · rw [if_neg (by omega), if_pos h]
  · rw [if_pos (by omega), if_neg h]
end Go.Proofs.Ytekllaaohagefaa.Q
