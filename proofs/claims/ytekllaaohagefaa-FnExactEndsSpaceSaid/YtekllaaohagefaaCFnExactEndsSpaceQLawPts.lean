/- The laws' own helpers for points; conditions: as each theorem states. -/
import Derived.Test.YtekllaaohagefaaCFnExactEndsSpaceQLaw
import Derived.Test.YtekllaaohagefaaCFnExactEndsSpaceP6
namespace Go.Proofs.Ytekllaaohagefaa.Q
open Go.RowKit Go.Proofs.YtekllaaohagefaaW.PrintWords Go.Proofs.YtekllaaohagefaaW.PrintLast Go.Proofs.YtekllaaohagefaaW.PrintMore Go.Proofs.Ytekllaaohagefaa.P
set_option linter.unusedVariables false
set_option linter.unusedSimpArgs false

theorem rdL_nat (S : List (List Int)) (i : Nat) : rd_L2 S (i : Int) = S.getD i [] := rfl
theorem rdL_mid (pre : List (List Int)) (x : List Int) (rest : List (List Int)) : rd_L2 (pre ++ x :: rest) (pre.length : Int) = x := by
  rw [rdL_nat]; simp
theorem szSS_loop (P : List (List Int)) (hl : P.length ≤ 1048576) (hm : ∀ r ∈ P, r.length ≤ maxLen) : ∀ (rest pre : List (List Int)) (n : Int), pre ++ rest = P → 0 ≤ n → n ≤ 1048576 →
    ∃ r, Ev (fun k => laws_szIntSS.l0 k P n (pre.length : Int)) r ∧ (0 ≤ r → ∀ x ∈ rest, x.length ≤ 1048576) := by
  intro rest
  induction rest with
  | nil =>
    intro pre n h h0 h1
    obtain rfl : pre = P := by simpa using h
    refine ⟨n, ?_, by simp⟩
    refine Ev.step (fun k => by rw [laws_szIntSS.l0]) ?_
    simp only [show ¬ ((pre.length : Int) < (pre.length : Int)) from by omega, ↓reduceIte]
    exact Ev.some _
  | cons x rest ih =>
    intro pre n h h0 h1
    have hlen : P.length = pre.length + (rest.length + 1) := by rw [← h]; simp
    have e : rd_L2 P (pre.length : Int) = x := by rw [← h]; exact rdL_mid _ _ _
    have hx := hm x (by rw [← h]; simp)
    by_cases hb : (x.length : Int) ≤ n
    · obtain ⟨r, hr, hrr⟩ := ih (pre ++ [x]) (n - x.length) (by simp [h]) (by omega) (by omega)
      rw [List.length_append, List.length_singleton] at hr
      refine ⟨r, ?_, fun h0 y hy => ?_⟩
      · refine Ev.step (fun k => by rw [laws_szIntSS.l0]) ?_
        simp only [show ((pre.length : Int) < (P.length : Int)) from by omega, show (0 : Int) ≤ (pre.length : Int) from by omega, e, szIntS_eq x hx n h0 h1, hb, Option.bind_some, show ¬ (n - (x.length : Int) < 0) from by omega, ↓reduceIte]
        rw [wnext (n := P.length) (by omega) (by omega)]
        exact hr
      · rcases List.mem_cons.1 hy with rfl | hy
        · omega
        · exact hrr h0 y hy
    · refine ⟨-1, ?_, fun h => by omega⟩
      refine Ev.step (fun k => by rw [laws_szIntSS.l0]) ?_
      simp only [show ((pre.length : Int) < (P.length : Int)) from by omega, show (0 : Int) ≤ (pre.length : Int) from by omega, e, szIntS_eq x hx n h0 h1, hb, Option.bind_some, show ((-1 : Int) < 0) from by omega, ↓reduceIte]
      exact Ev.some _
/-- The size of a list of rows. -/
theorem szSS_cases (P : List (List Int)) (hm0 : P.length ≤ maxLen) (hm : ∀ r ∈ P, r.length ≤ maxLen) :
    ∃ r, Ev (fun k => laws_szIntSS.f k P 1048576) r ∧ (r < 0 ∨ ¬ r < 0 ∧ P.length ≤ 1048576 ∧ ∀ x ∈ P, x.length ≤ 1048576) := by
  have hmx : maxLen < 2 ^ 63 := by decide
  by_cases hl : P.length ≤ 1048576
  · obtain ⟨r, hr, hrr⟩ := szSS_loop P hl hm P [] (1048576 - P.length) rfl (by omega) (by omega)
    refine ⟨r, ?_, ?_⟩
    · unfold laws_szIntSS.f
      rw [w64 (by omega) (by omega)]
      simp only [show ¬ ((1048576 : Int) - P.length < 0) from by omega, ↓reduceIte]
      simpa using hr
    · by_cases h0 : r < 0
      · exact .inl h0
      · exact .inr ⟨h0, hl, hrr (by omega)⟩
  · refine ⟨-1, ?_, .inl (by omega)⟩
    unfold laws_szIntSS.f
    have h63 : (2 : Nat) ^ 63 = 9223372036854775808 := by decide
    rw [w64 (by omega) (by omega)]
    simp only [show ((1048576 : Int) - P.length < 0) from by omega, ↓reduceIte]
    exact Ev.some _
theorem toSS_loop (P : List (List Int)) (hl : P.length ≤ 1048576) (hm : ∀ r ∈ P, r.length ≤ 1048576) : ∀ (rest pre : List (List Int)), pre ++ rest = P →
    Ev (fun k => laws_toIntSS.l0 k P (pre ++ List.replicate rest.length []) (pre.length : Int)) P := by
  intro rest
  induction rest with
  | nil =>
    intro pre h
    obtain rfl : pre = P := by simpa using h
    refine Ev.step (fun k => by rw [laws_toIntSS.l0]) ?_
    simp only [show ¬ ((pre.length : Int) < (pre.length : Int)) from by omega, ↓reduceIte]
    exact (Ev.some _).eq (by simp)
  | cons x rest ih =>
    intro pre h
    have hlen : P.length = pre.length + (rest.length + 1) := by rw [← h]; simp
    have e : rd_L2 P (pre.length : Int) = x := by rw [← h]; exact rdL_mid _ _ _
    have hx := hm x (by rw [← h]; simp)
    have hn := ih (pre ++ [x]) (by simp [h])
    rw [List.length_append, List.length_singleton] at hn
    refine Ev.step (fun k => by rw [laws_toIntSS.l0]) ?_
    simp only [show ((pre.length : Int) < (P.length : Int)) from by omega, show (0 : Int) ≤ (pre.length : Int) from by omega, e, ↓reduceIte]
    refine Ev.bind (toIntS_ev' x hx) ?_
    simp only [List.length_append, List.length_replicate, List.length_cons, show ((pre.length : Int) < ((pre.length + (rest.length + 1) : Nat) : Int)) from by omega, ↓reduceIte, Int.toNat_natCast]
    rw [wnext (n := P.length) (by omega) (by omega)]
    have es : (pre ++ List.replicate (rest.length + 1) []).set pre.length x = pre ++ [x] ++ List.replicate rest.length [] := by
      rw [List.replicate_succ, List.set_append_right _ _ (Nat.le_refl _), Nat.sub_self, List.set_cons_zero]; simp
    rw [es]
    exact hn
theorem toSS_ev (P : List (List Int)) (hl : P.length ≤ 1048576) (hm : ∀ r ∈ P, r.length ≤ 1048576) : Ev (fun k => laws_toIntSS.f k P) P := by
  unfold laws_toIntSS.f
  simp only [show (0 : Int) ≤ (P.length : Int) from by omega, Int.toNat_natCast, show P.length ≤ 11728124029610 from by omega, ↓reduceIte]
  simpa using toSS_loop P hl hm P [] rfl
theorem eqSS_loop (P : List (List Int)) (hl : P.length ≤ 1048576) (hm : ∀ r ∈ P, r.length ≤ 1048576) : ∀ (rest pre : List (List Int)), pre ++ rest = P →
    Ev (fun k => laws_eqIntSS.l0 k P P (pre.length : Int)) true := by
  intro rest
  induction rest with
  | nil =>
    intro pre h
    obtain rfl : pre = P := by simpa using h
    refine Ev.step (fun k => by rw [laws_eqIntSS.l0]) ?_
    simp only [show ¬ ((pre.length : Int) < (pre.length : Int)) from by omega, ↓reduceIte]
    exact Ev.some _
  | cons x rest ih =>
    intro pre h
    have hlen : P.length = pre.length + (rest.length + 1) := by rw [← h]; simp
    have e : rd_L2 P (pre.length : Int) = x := by rw [← h]; exact rdL_mid _ _ _
    have hx := hm x (by rw [← h]; simp)
    have hn := ih (pre ++ [x]) (by simp [h])
    rw [List.length_append, List.length_singleton] at hn
    refine Ev.step (fun k => by rw [laws_eqIntSS.l0]) ?_
    simp only [show ((pre.length : Int) < (P.length : Int)) from by omega, show (0 : Int) ≤ (pre.length : Int) from by omega, e, ↓reduceIte]
    refine Ev.bind (eqIntS_self x hx) ?_
    simp only [↓reduceIte]
    rw [wnext (n := P.length) (by omega) (by omega)]
    exact hn
theorem eqSS_self (P : List (List Int)) (hl : P.length ≤ 1048576) (hm : ∀ r ∈ P, r.length ≤ 1048576) : Ev (fun k => laws_eqIntSS.f k P P) true := by
  unfold laws_eqIntSS.f
  simp only [↓reduceIte]
  exact eqSS_loop P hl hm P [] rfl
end Go.Proofs.Ytekllaaohagefaa.Q
