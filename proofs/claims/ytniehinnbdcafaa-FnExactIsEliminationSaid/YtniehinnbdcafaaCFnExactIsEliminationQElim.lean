/- Is an order an elimination of a net: the program's walk and the reference's; conditions: as each theorem states. -/
import Derived.Test.YtniehinnbdcafaaCFnExactIsEliminationQSimp
import Derived.Test.YtniehinnbdcafaaCFnExactIsEliminationQOrder
import Derived.Test.YtniehinnbdcafaaCFnExactIsEliminationP2
namespace Go.Proofs.Ytniehinnbdcafaa.Q
open Go.RowKit Go.Proofs.YtniehinnbdcafaaW.PrintWords Go.Proofs.YtniehinnbdcafaaW.PrintLast Go.Proofs.YtniehinnbdcafaaW.PrintMore Go.Proofs.Ytniehinnbdcafaa.P
set_option linter.unusedVariables false
set_option linter.unusedSimpArgs false

theorem netAll_eq {T : List Nat} (h : T.length ≤ 61) : impl_Net_all.f (castL T) = some ((2 ^ T.length - 1 : Nat) : Int) := by
  unfold impl_Net_all.f
  simp only [castL_length, show (0 : Int) ≤ (T.length : Int) from by omega, pow1 h, ↓reduceIte]
/-- Each member is simplicial in what is left. -/
def elimB (T : List Nat) : List Nat → Nat → Bool
  | [], _ => true
  | v :: r, c => simpN T v c && elimB T r (andn c (2 ^ v))
theorem impl_elim_loop {T : List Nat} (h : NetN T) (W : List Nat) (hW : ∀ i ∈ W, i < T.length) (hl : W.length ≤ 7) : ∀ (rest pre : List Nat) (c : Nat), pre ++ rest = W → c < 128 →
    Ev (fun k => impl_IsElimination.l0 k (c : Int) (castL W) (W.length : Int) (pre.length : Int) (castL T)) (elimB T rest c, true) := by
  intro rest
  have hl7 := h.l7
  induction rest with
  | nil =>
    intro pre c e hc
    obtain rfl : pre = W := by simpa using e
    refine Ev.step (fun k => by rw [impl_IsElimination.l0]) ?_
    simp only [show ¬ ((pre.length : Int) < (pre.length : Int)) from by omega, ↓reduceIte]
    exact Ev.some _
  | cons v rest ih =>
    intro pre c e hc
    have hv : v < T.length := hW v (by rw [← e]; simp)
    have hp2 : 2 ^ v < 128 := pow_lt_128 (by omega)
    have hlen : W.length = pre.length + (rest.length + 1) := by rw [← e]; simp
    have er : rd (castL W) (pre.length : Int) = (v : Int) := by rw [← e]; exact rd_castL_mid _ _ _
    have hn := ih (pre ++ [v]) (andn c (2 ^ v)) (by simp [e]) (andn_lt hc)
    simp only [List.length_append, List.length_singleton] at hn
    refine Ev.step (fun k => by rw [impl_IsElimination.l0]) ?_
    simp only [show ((pre.length : Int) < (W.length : Int)) from by omega, show (0 : Int) ≤ (pre.length : Int) from by omega, castL_length, er, show (0 : Int) ≤ (v : Int) from by omega, shl1 (show v ≤ 61 from by omega), bAndn (show c < 2 ^ 62 from by omega) (show 2 ^ v < 2 ^ 62 from by omega), ↓reduceIte]
    refine Ev.bind (isSimp_ev h hv hc) ?_
    rw [wnext (n := W.length) (by omega) (by omega)]
    cases hb : simpN T v c with
    | true => simp only [↓reduceIte]; exact hn.eq (by simp [elimB, hb])
    | false => simp only [↓reduceIte, Bool.false_eq_true]; exact (Ev.some _).eq (by simp [elimB, hb])
theorem spec_elim_loop {T : List Nat} (h : NetN T) (W : List Nat) (hW : ∀ i ∈ W, i < T.length) (hl : W.length ≤ 7) : ∀ (rest pre : List Nat) (c : Nat), pre ++ rest = W → c < 128 →
    Ev (fun k => spec_IsElimination.l0 k (c : Int) (castL W) (W.length : Int) (pre.length : Int) (castL T)) (elimB T rest c, true) := by
  intro rest
  have hl7 := h.l7
  induction rest with
  | nil =>
    intro pre c e hc
    obtain rfl : pre = W := by simpa using e
    refine Ev.step (fun k => by rw [spec_IsElimination.l0]) ?_
    simp only [show ¬ ((pre.length : Int) < (pre.length : Int)) from by omega, ↓reduceIte]
    exact Ev.some _
  | cons v rest ih =>
    intro pre c e hc
    have hv : v < T.length := hW v (by rw [← e]; simp)
    have hp2 : 2 ^ v < 128 := pow_lt_128 (by omega)
    have hlen : W.length = pre.length + (rest.length + 1) := by rw [← e]; simp
    have er : rd (castL W) (pre.length : Int) = (v : Int) := by rw [← e]; exact rd_castL_mid _ _ _
    have hn := ih (pre ++ [v]) (andn c (2 ^ v)) (by simp [e]) (andn_lt hc)
    simp only [List.length_append, List.length_singleton] at hn
    refine Ev.step (fun k => by rw [spec_IsElimination.l0]) ?_
    simp only [show ((pre.length : Int) < (W.length : Int)) from by omega, show (0 : Int) ≤ (pre.length : Int) from by omega, castL_length, er, show (0 : Int) ≤ (v : Int) from by omega, shl1 (show v ≤ 61 from by omega), bAndn (show c < 2 ^ 62 from by omega) (show 2 ^ v < 2 ^ 62 from by omega), ↓reduceIte]
    refine Ev.bind (shSimp_ev h hv hc) ?_
    rw [wnext (n := W.length) (by omega) (by omega)]
    cases hb : simpN T v c with
    | true => simp only [↓reduceIte]; exact hn.eq (by simp [elimB, hb])
    | false => simp only [↓reduceIte, Bool.false_eq_true]; exact (Ev.some _).eq (by simp [elimB, hb])
theorem IsElimination_both (S : List Int) (hS : S.length ≤ 1048576) (w : List Int) (hw : w.length ≤ 1048576) : ∃ v : Bool × Bool, Ev (fun k => spec_IsElimination.f k S w) v ∧ Ev (fun k => impl_IsElimination.f k S w) v := by
  rcases net_cases (S := S) (by omega) with ⟨h1, h2⟩ | ⟨T, rfl, h, h1, h2⟩
  · refine ⟨(false, false), ?_, ?_⟩
    · unfold spec_IsElimination.f
      refine Ev.bind h2 ?_
      simp only [↓reduceIte, Bool.false_eq_true]
      exact Ev.some _
    · unfold impl_IsElimination.f
      refine Ev.bind h1 ?_
      simp only [↓reduceIte, Bool.false_eq_true]
      exact Ev.some _
  · have hl7 := h.l7
    have h3 : 2 ^ T.length ≤ 2 ^ 7 := Nat.pow_le_pow_right (by omega) hl7
    have hp : 0 < 2 ^ T.length := Nat.two_pow_pos _
    have hj : Ev (fun k => spec_IsElimination.j0 k w true (castL T)) (false, true) := by
      refine Ev.step (fun k => by rw [spec_IsElimination.j0]) ?_
      simp only [↓reduceIte]
      exact Ev.some _
    by_cases hlw : w.length = T.length
    · rcases order_cases (w := w) (by omega) with ⟨g1, g2⟩ | ⟨W, e, hO, g1, g2⟩
      · refine ⟨(false, true), ?_, ?_⟩
        · unfold spec_IsElimination.f
          refine Ev.bind h2 ?_
          simp only [↓reduceIte, castL_length, show (w.length : Int) = (T.length : Int) from by omega]
          refine Ev.bind g2 ?_
          exact hj
        · unfold impl_IsElimination.f
          refine Ev.bind h1 ?_
          rw [hlw] at g1
          simp only [↓reduceIte, castL_length]
          refine Ev.bind g1 ?_
          simp only [↓reduceIte, Bool.false_eq_true]
          exact Ev.some _
      · subst e
        simp only [castL_length] at hlw hO g1 g2
        have hW : ∀ i ∈ W, i < T.length := fun i hi => by have := hO.lt i hi; omega
        refine ⟨(elimB T W (2 ^ T.length - 1), true), ?_, ?_⟩
        · unfold spec_IsElimination.f
          refine Ev.bind h2 ?_
          simp only [↓reduceIte, castL_length, show (W.length : Int) = (T.length : Int) from by omega]
          refine Ev.bind g2 ?_
          refine Ev.step (fun k => by rw [spec_IsElimination.j0]) ?_
          simp only [↓reduceIte, Bool.not_true, Bool.false_eq_true, castL_length, pow1 (show W.length ≤ 61 from by omega)]
          have h3w : 2 ^ W.length ≤ 2 ^ 7 := by rw [hlw]; exact h3
          rw [← hlw]
          exact spec_elim_loop h W hW (by omega) W [] _ rfl (by omega)
        · unfold impl_IsElimination.f
          refine Ev.bind h1 ?_
          rw [hlw] at g1
          simp only [↓reduceIte, castL_length]
          refine Ev.bind g1 ?_
          simp only [↓reduceIte, netAll_eq (show T.length ≤ 61 from by omega), Option.bind_some]
          exact impl_elim_loop h W hW (by omega) W [] _ rfl (by omega)
    · refine ⟨(false, true), ?_, ?_⟩
      · unfold spec_IsElimination.f
        refine Ev.bind h2 ?_
        simp only [↓reduceIte, castL_length, show ¬ (w.length : Int) = (T.length : Int) from by omega]
        exact hj
      · unfold impl_IsElimination.f
        refine Ev.bind h1 ?_
        simp only [↓reduceIte, castL_length]
        refine Ev.bind ((isOrder_val w (by omega) T.length).eq (by rw [decide_eq_false hlw, Bool.false_and, Bool.false_and])) ?_
        simp only [↓reduceIte, Bool.false_eq_true]
        exact Ev.some _
end Go.Proofs.Ytniehinnbdcafaa.Q
