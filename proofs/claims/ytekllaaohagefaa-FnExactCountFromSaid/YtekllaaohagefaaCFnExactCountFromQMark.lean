/- What the laws' marks come to: a result is written over with 1, 2, .. and found so again; conditions: as each theorem states. -/
import Derived.Test.YtekllaaohagefaaCFnExactCountFromQLaw
import Derived.Test.YtekllaaohagefaaCFnExactCountFromP3
namespace Go.Proofs.Ytekllaaohagefaa.Q
open Go.RowKit Go.Proofs.YtekllaaohagefaaW.PrintWords Go.Proofs.YtekllaaohagefaaW.PrintLast Go.Proofs.YtekllaaohagefaaW.PrintMore Go.Proofs.Ytekllaaohagefaa.P
set_option linter.unusedVariables false
set_option linter.unusedSimpArgs false

/-- m, m + 1, .. -/
def upL : Nat → Nat → List Int
  | _, 0 => []
  | m, n + 1 => ((m : Nat) : Int) :: upL (m + 1) n
theorem upL_length (m n : Nat) : (upL m n).length = n := by
  induction n generalizing m with
  | zero => rfl
  | succ n ih => simp [upL, ih]
theorem mark_loop (m0 : Nat) (hm0 : m0 ≤ 1073741824) : ∀ (rest pre : List Int) (m : Nat), (pre ++ rest).length ≤ 1073741824 → m = m0 + pre.length →
    Ev (fun k => laws_markIntS.l0 k (pre ++ rest) (m : Int) (pre.length : Int)) (((m0 + (pre ++ rest).length : Nat) : Int), pre ++ upL m rest.length) := by
  intro rest
  induction rest with
  | nil =>
    intro pre m h hm
    refine Ev.step (fun k => by rw [laws_markIntS.l0]) ?_
    simp only [List.append_nil, show ¬ ((pre.length : Int) < (pre.length : Int)) from by omega, ↓reduceIte]
    exact (Ev.some _).eq (by simp [upL, hm])
  | cons x rest ih =>
    intro pre m h hm
    have hlen : (pre ++ x :: rest).length = pre.length + (rest.length + 1) := by simp
    refine Ev.step (fun k => by rw [laws_markIntS.l0]) ?_
    simp only [show ((pre.length : Int) < ((pre ++ x :: rest).length : Int)) from by omega, show (0 : Int) ≤ (pre.length : Int) from by omega, ↓reduceIte, Int.toNat_natCast]
    rw [wnext (i := pre.length) (n := (pre ++ x :: rest).length) (by omega) (by omega), wnext (i := m) (n := m + 1) (by omega) (by omega)]
    have := ih (pre ++ [(m : Int)]) (m + 1) (by simp at h ⊢; omega) (by simp; omega)
    rw [List.length_append, List.length_singleton] at this
    refine Ev.eq (Ev.congr (fun k => ?_) this) ?_
    · congr 1
      rw [List.set_append_right _ _ (Nat.le_refl _), Nat.sub_self, List.set_cons_zero, List.append_assoc]; rfl
    · simp [upL]
theorem mark_ev (m : Nat) (hm : m ≤ 1073741824) (l : List Int) (h : l.length ≤ 1073741824) : Ev (fun k => laws_markIntS.f k l (m : Int)) (((m + l.length : Nat) : Int), upL m l.length) := by
  unfold laws_markIntS.f
  simpa using mark_loop m hm l [] m (by simpa using h) (by simp)
theorem upL_split (m a b : Nat) : upL m (a + b) = upL m a ++ upL (m + a) b := by
  induction a generalizing m with
  | zero => simp [upL]
  | succ a ih => rw [Nat.add_right_comm, upL, ih, upL, List.cons_append, show m + (a + 1) = m + 1 + a from by omega]
theorem held_loop (m0 n : Nat) (h : m0 + n ≤ 1073741824) : ∀ (d i : Nat), i + d = n →
    Ev (fun k => laws_heldIntS.l0 k (upL m0 n) ((m0 + i : Nat) : Int) (i : Int)) ((m0 + n : Nat) : Int) := by
  intro d
  induction d with
  | zero =>
    intro i hi
    refine Ev.step (fun k => by rw [laws_heldIntS.l0]) ?_
    simp only [upL_length, show ¬ ((i : Int) < (n : Int)) from by omega, ↓reduceIte]
    exact (Ev.some _).eq (by rw [show i = n from by omega])
  | succ d ih =>
    intro i hi
    have e : rd (upL m0 n) (i : Int) = ((m0 + i : Nat) : Int) := by
      rw [← hi, upL_split, upL]
      have := rd_mid (upL m0 i) ((m0 + i : Nat) : Int) (upL (m0 + i + 1) d)
      rwa [upL_length] at this
    refine Ev.step (fun k => by rw [laws_heldIntS.l0]) ?_
    simp only [upL_length, show ((i : Int) < (n : Int)) from by omega, show (0 : Int) ≤ (i : Int) from by omega, e, ↓reduceIte]
    rw [wnext (i := i) (n := n) (by omega) (by omega), wnext (i := m0 + i) (n := m0 + n) (by omega) (by omega)]
    exact ih (i + 1) (by omega)
theorem held_ev (m n : Nat) (h : m + n ≤ 1073741824) : Ev (fun k => laws_heldIntS.f k (upL m n) (m : Int)) ((m + n : Nat) : Int) := by
  unfold laws_heldIntS.f
  simpa using held_loop m n h n 0 (by omega)
theorem mark1_ev (l : List Int) (h : l.length ≤ 1048576) : Ev (fun k => laws_markIntS.f k l 1) (((1 + l.length : Nat) : Int), upL 1 l.length) := mark_ev 1 (by omega) l (by omega)
theorem held1_ev (n : Nat) (h : n ≤ 1048576) : Ev (fun k => laws_heldIntS.f k (upL 1 n) 1) ((1 + n : Nat) : Int) := held_ev 1 n (by omega)
theorem bneB (b : Bool) : (b != b) = false := by cases b <;> rfl
theorem nneg (n : Nat) : ¬ ((n : Int) < 0) := by omega
end Go.Proofs.Ytekllaaohagefaa.Q
