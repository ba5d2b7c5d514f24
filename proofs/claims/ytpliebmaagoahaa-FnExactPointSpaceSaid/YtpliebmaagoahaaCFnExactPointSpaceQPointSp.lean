/- The space of points that are learnt from outside: both; conditions: as each theorem states. -/
import Derived.Test.YtpliebmaagoahaaCFnExactPointSpaceQUp
import Derived.Test.YtpliebmaagoahaaCFnExactPointSpaceQCovd
import Derived.Test.YtpliebmaagoahaaCFnExactPointSpaceQGood
import Derived.Test.YtpliebmaagoahaaCFnExactPointSpaceP6
namespace Go.Proofs.Ytpliebmaagoahaa.Q
open Go.RowKit Go.Proofs.YtpliebmaagoahaaW.PrintWords Go.Proofs.YtpliebmaagoahaaW.PrintLast Go.Proofs.YtpliebmaagoahaaW.PrintMore Go.Proofs.Ytpliebmaagoahaa.P
set_option linter.unusedVariables false
set_option linter.unusedSimpArgs false

theorem impl_those__PointSpace_1_loop {m : Nat} (m7 : m ≤ 7) (p : Nat → Bool) (u : List Int) (q : List (List (List Int))) (hp : ∀ x : Nat, x < 2 ^ m → Ev (fun k => impl_PointSpace_1.f k (x : Int) u q) (p x)) : ∀ d c : Nat, c + d = 2 ^ m →
    Ev (fun k => impl_those__PointSpace_1.l0 k ((2 ^ m : Nat) : Int) (c : Int) u q (m : Int) (castL (upN p c))) ((m : Int), castL (upN p (2 ^ m))) := by
  have hp2 := pow_le_128 m7
  intro d
  induction d with
  | zero =>
    intro c h
    obtain rfl : c = 2 ^ m := by omega
    refine Ev.step (fun k => by rw [impl_those__PointSpace_1.l0]) ?_
    simp only [show ¬ (((2 ^ m : Nat) : Int) < ((2 ^ m : Nat) : Int)) from by omega, ↓reduceIte]
    exact Ev.some _
  | succ d ih =>
    intro c h
    have hc : c < 2 ^ m := by omega
    have hn := ih (c + 1) (by omega)
    rw [upN_succ] at hn
    have hl := upN_le p c
    refine Ev.step (fun k => by rw [impl_those__PointSpace_1.l0]) ?_
    simp only [show ((c : Int) < ((2 ^ m : Nat) : Int)) from by omega, ↓reduceIte]
    refine Ev.bind (hp c hc) ?_
    rw [wnext (n := 2 ^ m) hc (by omega)]
    by_cases hpc : p c = true
    · simp only [hpc, ↓reduceIte, castL_length, show (upN p c).length < 17592186044416 from by omega, castL_snoc] at hn ⊢
      exact hn
    · simp only [hpc, ↓reduceIte] at hn ⊢
      exact hn
theorem impl_those__PointSpace_1_ev {m : Nat} (m7 : m ≤ 7) (p : Nat → Bool) (u : List Int) (q : List (List (List Int))) (hp : ∀ x : Nat, x < 2 ^ m → Ev (fun k => impl_PointSpace_1.f k (x : Int) u q) (p x)) :
    Ev (fun k => impl_those__PointSpace_1.f k (m : Int) u q) ((m : Int), castL (upN p (2 ^ m))) := by
  unfold impl_those__PointSpace_1.f
  simp only [show (0 : Int) ≤ (m : Int) from by omega, shl1 (show m ≤ 61 from by omega), ↓reduceIte]
  simpa [upN, castL_nil] using impl_those__PointSpace_1_loop m7 p u q hp (2 ^ m) 0 (by omega)
theorem PointSpace_loop {P : List (List Int)} {n : Nat} (n7 : n ≤ 7) (p : Nat → Bool) (v : Nat → Int) (hv : ∀ x : Nat, x < 2 ^ n → (p x = true ↔ v x = ((andn (2 ^ n - 1) x : Nat) : Int))) (hp : ∀ x : Nat, x < 2 ^ n → Ev (fun k => spec_shCover.f k P ((andn (2 ^ n - 1) x : Nat) : Int)) (v x)) : ∀ d c : Nat, c + d = 2 ^ n →
    Ev (fun k => spec_PointSpace.l0 k P ((2 ^ n - 1 : Nat) : Int) (c : Int) (n : Int) (castL (upN p c))) ((n : Int), castL (upN p (2 ^ n)), true) := by
  have hp2 := pow_le_128 n7
  intro d
  induction d with
  | zero =>
    intro c h
    obtain rfl : c = 2 ^ n := by omega
    have hpos : 0 < 2 ^ n := Nat.two_pow_pos _
    refine Ev.step (fun k => by rw [spec_PointSpace.l0]) ?_
    simp only [show ¬ (((2 ^ n : Nat) : Int) ≤ ((2 ^ n - 1 : Nat) : Int)) from by omega, ↓reduceIte]
    exact Ev.some _
  | succ d ih =>
    intro c h
    have hc : c < 2 ^ n := by omega
    have hn := ih (c + 1) (by omega)
    rw [upN_succ] at hn
    have hl := upN_le p c
    refine Ev.step (fun k => by rw [spec_PointSpace.l0]) ?_
    simp only [show ((c : Int) ≤ ((2 ^ n - 1 : Nat) : Int)) from by omega, bAndn (show 2 ^ n - 1 < 2 ^ 62 from by omega) (show c < 2 ^ 62 from by omega), ↓reduceIte]
    refine Ev.bind (hp c hc) ?_
    rw [wnext (n := 2 ^ n) hc (by omega)]
    by_cases hpc : p c = true
    · have e := (hv c hc).1 hpc
      simp only [hpc, e, ↓reduceIte, castL_length, show (upN p c).length < 17592186044416 from by omega, castL_snoc] at hn ⊢
      exact hn
    · have e : ¬ v c = ((andn (2 ^ n - 1) c : Nat) : Int) := fun e => hpc ((hv c hc).2 e)
      simp only [hpc, e, ↓reduceIte, Bool.false_eq_true] at hn ⊢
      exact hn
theorem PointSpace_both (P : List (List Int)) (hl : P.length ≤ 1048576) (hrow : ∀ x ∈ P, x.length ≤ 1048576) : ∃ (n' : Int) (L : List Int) (b : Bool), L.length ≤ 1048576 ∧ Ev (fun k => spec_PointSpace.f k P) (n', L, b) ∧ Ev (fun k => impl_PointSpace.f k P) (n', L, b) := by
  have himp : ∀ v, Ev (fun k => (impl_ArePoints.f k P).bind fun t => (if t = true then ((impl_those__PointSpace_1.f k (P.length : Int) [(P.length : Int)] [P]).bind fun bt => (some (bt.1, bt.2, true))) else (some (0, ([] : List Int), false)))) v → Ev (fun k => impl_PointSpace.f k P) v := by
    intro v hv
    unfold impl_PointSpace.f
    simpa [rd_L4, rd] using hv
  cases hp : ptsB P with
  | false =>
    refine ⟨0, [], false, by simp, ?_, himp _ ?_⟩
    · unfold spec_PointSpace.f
      refine Ev.bind ((spec_pts_ev P).eq hp) ?_
      simp only [↓reduceIte, Bool.false_eq_true]; exact Ev.some _
    · refine Ev.bind ((impl_pts_ev P).eq hp) ?_
      simp only [↓reduceIte, Bool.false_eq_true]; exact Ev.some _
  | true =>
    have h := ptsN_of hp
    have hl7 := h.l7
    have hp2 := pow_le_128 hl7
    have hpos : 0 < 2 ^ P.length := Nat.two_pow_pos _
    obtain ⟨p, hpd⟩ : ∃ p : Nat → Bool, p = fun x => decide (covN P (andn (2 ^ P.length - 1) x) P.length = andn (2 ^ P.length - 1) x) := ⟨_, rfl⟩
    have hal : ∀ x, andn (2 ^ P.length - 1) x < 2 ^ P.length := fun x => andn_lt (by omega)
    have hlu := upN_le p (2 ^ P.length)
    refine ⟨(P.length : Int), castL (upN p (2 ^ P.length)), true, by rw [castL_length]; omega, ?_, himp _ ?_⟩
    · unfold spec_PointSpace.f
      refine Ev.bind ((spec_pts_ev P).eq hp) ?_
      simp only [↓reduceIte, pow1 (show P.length ≤ 61 from by omega)]
      simpa [upN, castL_nil] using PointSpace_loop (P := P) hl7 p (fun x => ((covN P (andn (2 ^ P.length - 1) x) P.length : Nat) : Int)) (fun x hx => by rw [hpd]; simp only [decide_eq_true_eq]; omega) (fun x hx => shCover_ev h (hal x)) (2 ^ P.length) 0 (by omega)
    · refine Ev.bind ((impl_pts_ev P).eq hp) ?_
      simp only [↓reduceIte]
      refine Ev.bind (impl_those__PointSpace_1_ev hl7 p [(P.length : Int)] [P] (fun x hx => ?_)) (Ev.some _)
      have e := covered_ev h (hal x)
      unfold impl_PointSpace_1.f
      have er : rd [(P.length : Int)] 0 = (P.length : Int) := rfl
      have er2 : rd_L4 [P] 0 = P := rfl
      simp only [List.length_singleton, show ((0 : Int) < ((1 : Nat) : Int)) from by omega, ↓reduceIte, er, er2, show (0 : Int) ≤ (P.length : Int) from by omega, pow1 (show P.length ≤ 61 from by omega), bAndn (show 2 ^ P.length - 1 < 2 ^ 62 from by omega) (show x < 2 ^ 62 from by omega)]
      exact Ev.bind e ((Ev.some _).eq (by rw [hpd, Bool.eq_iff_iff, beq_iff_eq, decide_eq_true_eq]; omega))
end Go.Proofs.Ytpliebmaagoahaa.Q
