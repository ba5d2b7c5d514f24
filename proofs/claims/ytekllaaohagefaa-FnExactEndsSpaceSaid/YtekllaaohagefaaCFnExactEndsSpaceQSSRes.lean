/- The laws' own helpers for rows of rows that are a result: compared, marked, held; conditions: as each theorem states. -/
import Derived.Test.YtekllaaohagefaaCFnExactEndsSpaceQLaw
import Derived.Test.YtekllaaohagefaaCFnExactEndsSpaceQMark
import Derived.Test.YtekllaaohagefaaCFnExactEndsSpaceP6
namespace Go.Proofs.Ytekllaaohagefaa.Q
open Go.RowKit Go.Proofs.YtekllaaohagefaaW.PrintWords Go.Proofs.YtekllaaohagefaaW.PrintLast Go.Proofs.YtekllaaohagefaaW.PrintMore Go.Proofs.Ytekllaaohagefaa.P
set_option linter.unusedVariables false
set_option linter.unusedSimpArgs false

theorem rdR_nat (S : List (List Int)) (i : Nat) : rd_L2 S (i : Int) = S.getD i [] := rfl
theorem rdR_mid (pre : List (List Int)) (x : List Int) (rest : List (List Int)) : rd_L2 (pre ++ x :: rest) (pre.length : Int) = x := by
  rw [rdR_nat]; simp
/-- The numbers of all rows, one row after the other. -/
def totLen : List (List Int) → Nat
  | [] => 0
  | x :: r => x.length + totLen r
def upSS : Nat → List (List Int) → List (List Int)
  | _, [] => []
  | c, x :: r => upL c x.length :: upSS (c + x.length) r
theorem set_mid (pre : List (List Int)) (x y : List Int) (rest : List (List Int)) : (pre ++ x :: rest).set pre.length y = pre ++ y :: rest := by simp
theorem markSSR_loop (n : Nat) (hn1 : n ≤ 1048576) : ∀ (rest pre : List (List Int)) (c : Nat), pre.length + rest.length = n → c + totLen rest ≤ 1073741824 →
    Ev (fun k => laws_markIntSS.l0 k (pre ++ rest) (c : Int) (pre.length : Int)) (((c + totLen rest : Nat) : Int), pre ++ upSS c rest) := by
  intro rest
  induction rest with
  | nil =>
    intro pre c h hc
    refine Ev.step (fun k => by rw [laws_markIntSS.l0]) ?_
    simp only [List.append_nil, show ¬ ((pre.length : Int) < (pre.length : Int)) from by omega, ↓reduceIte]
    exact (Ev.some _).eq (by simp [totLen, upSS])
  | cons x rest ih =>
    intro pre c h hc
    simp only [totLen, List.length_cons] at hc h ⊢
    have hlen : (pre ++ x :: rest).length = pre.length + (rest.length + 1) := by simp
    have e : rd_L2 (pre ++ x :: rest) (pre.length : Int) = x := rdR_mid _ _ _
    have hn := ih (pre ++ [upL c x.length]) (c + x.length) (by simp; omega) (by omega)
    rw [List.length_append, List.length_singleton, ← wnext (n := n) (by omega) (by omega), List.append_assoc, List.append_assoc] at hn
    refine Ev.step (fun k => by rw [laws_markIntSS.l0]) ?_
    simp only [hlen, show ((pre.length : Int) < ((pre.length + (rest.length + 1) : Nat) : Int)) from by omega, show (0 : Int) ≤ (pre.length : Int) from by omega, e, ↓reduceIte]
    refine Ev.bind (mark_ev c (by omega) x (by omega)) ?_
    simp only [Int.toNat_natCast, set_mid]
    exact hn.eq (by rw [Nat.add_assoc]; rfl)
theorem markSSR_ev (P : List (List Int)) (hl : P.length ≤ 1048576) (hs : totLen P ≤ 1048576) : Ev (fun k => laws_markIntSS.f k P 1) (((1 + totLen P : Nat) : Int), upSS 1 P) := by
  unfold laws_markIntSS.f
  exact markSSR_loop P.length hl P [] 1 (by simp) (by omega)
end Go.Proofs.Ytekllaaohagefaa.Q
