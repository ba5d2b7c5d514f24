/- The laws' marks of rows of rows that the law itself has made; conditions: as each theorem states. -/
import Derived.Test.YtekllaaohagefaaCFnExactEndsSpaceQLawPts
import Derived.Test.YtekllaaohagefaaCFnExactEndsSpaceQSSRes
import Derived.Test.YtekllaaohagefaaCFnExactEndsSpaceP6
namespace Go.Proofs.Ytekllaaohagefaa.Q
open Go.RowKit Go.Proofs.YtekllaaohagefaaW.PrintWords Go.Proofs.YtekllaaohagefaaW.PrintLast Go.Proofs.YtekllaaohagefaaW.PrintMore Go.Proofs.Ytekllaaohagefaa.P
set_option linter.unusedVariables false
set_option linter.unusedSimpArgs false

def sumLen : List (List Int) → Nat
  | [] => 0
  | x :: r => x.length + sumLen r
theorem szSS_sum (P : List (List Int)) (hl : P.length ≤ 1048576) (hm : ∀ r ∈ P, r.length ≤ maxLen) : ∀ (rest pre : List (List Int)) (n : Int), pre ++ rest = P → 0 ≤ n → n ≤ 1048576 →
    ∃ r, Ev (fun k => laws_szIntSS.l0 k P n (pre.length : Int)) r ∧ (0 ≤ r → (sumLen rest : Int) ≤ n) := by
  intro rest
  induction rest with
  | nil =>
    intro pre n h h0 h1
    obtain rfl : pre = P := by simpa using h
    refine ⟨n, ?_, fun _ => by simpa [sumLen] using h0⟩
    refine Ev.step (fun k => by rw [laws_szIntSS.l0]) ?_
    simp only [show ¬ ((pre.length : Int) < (pre.length : Int)) from by omega, ↓reduceIte]
    exact Ev.some _
  | cons x rest ih =>
    intro pre n h h0 h1
    have hlen : P.length = pre.length + (rest.length + 1) := by rw [← h]; simp
    have e : rd_L2 P (pre.length : Int) = x := by rw [← h]; exact rdL_mid _ _ _
    have hx := hm x (by rw [← h]; simp)
    by_cases hb : (x.length : Int) ≤ n
    · obtain ⟨r, hr, hrr⟩ := ih (pre ++ [x]) (n - x.length) (by simp [h]) (by omega) (by omega)
      rw [List.length_append, List.length_singleton] at hr
      refine ⟨r, ?_, fun h0 => by have := hrr h0; simp only [sumLen]; omega⟩
      refine Ev.step (fun k => by rw [laws_szIntSS.l0]) ?_
      simp only [show ((pre.length : Int) < (P.length : Int)) from by omega, show (0 : Int) ≤ (pre.length : Int) from by omega, e, szIntS_eq x hx n h0 h1, hb, Option.bind_some, show ¬ (n - (x.length : Int) < 0) from by omega, ↓reduceIte]
      rw [wnext (n := P.length) (by omega) (by omega)]
      exact hr
    · refine ⟨-1, ?_, fun h => by omega⟩
      refine Ev.step (fun k => by rw [laws_szIntSS.l0]) ?_
      simp only [show ((pre.length : Int) < (P.length : Int)) from by omega, show (0 : Int) ≤ (pre.length : Int) from by omega, e, szIntS_eq x hx n h0 h1, hb, Option.bind_some, show ((-1 : Int) < 0) from by omega, ↓reduceIte]
      exact Ev.some _
theorem szSS_cases2 (P : List (List Int)) (hm0 : P.length ≤ maxLen) (hm : ∀ r ∈ P, r.length ≤ maxLen) :
    ∃ r, Ev (fun k => laws_szIntSS.f k P 1048576) r ∧ (r < 0 ∨ ¬ r < 0 ∧ P.length ≤ 1048576 ∧ (∀ x ∈ P, x.length ≤ 1048576) ∧ sumLen P ≤ 1048576) := by
  obtain ⟨r, hr, hc⟩ := szSS_cases P hm0 hm
  refine ⟨r, hr, ?_⟩
  rcases hc with h0 | ⟨h0, hl, hrow⟩
  · exact .inl h0
  · refine .inr ⟨h0, hl, hrow, ?_⟩
    obtain ⟨r2, hr2, hrr⟩ := szSS_sum P hl hm P [] (1048576 - P.length) rfl (by omega) (by omega)
    have hr3 : Ev (fun k => laws_szIntSS.f k P 1048576) r2 := by
      unfold laws_szIntSS.f
      rw [w64 (by omega) (by omega)]
      simp only [show ¬ ((1048576 : Int) - P.length < 0) from by omega, ↓reduceIte]
      simpa using hr2
    have e := Ev.unique hr hr3
    have := hrr (by omega)
    omega
theorem totLen_sum : ∀ P : List (List Int), totLen P = sumLen P
  | [] => rfl
  | x :: r => by simp [totLen, sumLen, totLen_sum r]
theorem markSS1_ev (P : List (List Int)) (hl : P.length ≤ 1048576) (hs : sumLen P ≤ 1048576) : Ev (fun k => laws_markIntSS.f k P 1) (((1 + totLen P : Nat) : Int), upSS 1 P) :=
  markSSR_ev P hl (by rw [totLen_sum]; exact hs)
end Go.Proofs.Ytekllaaohagefaa.Q
