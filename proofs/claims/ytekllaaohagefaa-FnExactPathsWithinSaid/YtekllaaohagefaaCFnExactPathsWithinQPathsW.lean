/- The paths within a set: both; conditions: as each theorem states. -/
import Derived.Test.YtekllaaohagefaaCFnExactPathsWithinQPath
import Derived.Test.YtekllaaohagefaaCFnExactPathsWithinQPart
import Derived.Test.YtekllaaohagefaaCFnExactPathsWithinQKnown
import Derived.Test.YtekllaaohagefaaCFnExactPathsWithinP3
namespace Go.Proofs.Ytekllaaohagefaa.Q
open Go.RowKit Go.Proofs.YtekllaaohagefaaW.PrintWords Go.Proofs.YtekllaaohagefaaW.PrintLast Go.Proofs.YtekllaaohagefaaW.PrintMore Go.Proofs.Ytekllaaohagefaa.P
set_option linter.unusedVariables false
set_option linter.unusedSimpArgs false

def inB (s x : Nat) : Bool := decide (andn x s = 0)
theorem pw1_eq {s x : Nat} (hs : s < 2 ^ 62) (hx : x < 2 ^ 62) : impl_PathsWithin_1.f (x : Int) [(s : Int)] = some (!inB s x) := by
  have e : rd [(s : Int)] 0 = (s : Int) := rfl
  unfold impl_PathsWithin_1.f
  simp only [List.length_singleton, show ((0 : Int) < ((1 : Nat) : Int)) from by omega, ↓reduceIte, e, part_eq hx hs, Option.bind_some]
  rfl
theorem pw_idx {s : Nat} (hs : s < 2 ^ 62) (L : List Nat) (hL : ∀ x ∈ L, x < 2 ^ 62) (hl : L.length ≤ 1099511627776) : ∀ rest pre : List Nat, pre ++ rest = L → (∀ x ∈ pre, inB s x = true) →
    (Ev (fun k => slices_IndexFunc_int_int__PathsWithin_1.l0 k (castL L) (L.length : Int) (pre.length : Int) [(s : Int)]) (-1) ∧ ∀ x ∈ L, inB s x = true) ∨
    ∃ (K : List Nat) (x : Nat) (R : List Nat), L = K ++ x :: R ∧ (∀ y ∈ K, inB s y = true) ∧ inB s x = false ∧ Ev (fun k => slices_IndexFunc_int_int__PathsWithin_1.l0 k (castL L) (L.length : Int) (pre.length : Int) [(s : Int)]) (K.length : Int) := by
  intro rest
  induction rest with
  | nil =>
    intro pre e hp
    obtain rfl : pre = L := by simpa using e
    refine .inl ⟨Ev.step (fun k => by rw [slices_IndexFunc_int_int__PathsWithin_1.l0]) ?_, hp⟩
    simp only [show ¬ ((pre.length : Int) < (pre.length : Int)) from by omega, ↓reduceIte]
    exact Ev.some _
  | cons x rest ih =>
    intro pre e hp
    have hlen : L.length = pre.length + (rest.length + 1) := by rw [← e]; simp
    have er : rd (castL L) (pre.length : Int) = (x : Int) := by rw [← e]; exact rd_castL_mid _ _ _
    have hx := hL x (by rw [← e]; simp)
    have unf : ∀ v, Ev (fun k => if (!inB s x) = true then some (pre.length : Int) else slices_IndexFunc_int_int__PathsWithin_1.l0 k (castL L) (L.length : Int) (wrap64 ((pre.length : Int) + 1)) [(s : Int)]) v → Ev (fun k => slices_IndexFunc_int_int__PathsWithin_1.l0 k (castL L) (L.length : Int) (pre.length : Int) [(s : Int)]) v := by
      intro v hv
      refine Ev.step (fun k => by rw [slices_IndexFunc_int_int__PathsWithin_1.l0]) ?_
      simp only [show ((pre.length : Int) < (L.length : Int)) from by omega, show (0 : Int) ≤ (pre.length : Int) from by omega, castL_length, er, pw1_eq hs hx, Option.bind_some, ↓reduceIte]
      exact hv
    cases hb : inB s x with
    | false =>
      refine .inr ⟨pre, x, rest, e.symm, hp, hb, unf _ ?_⟩
      simp only [hb, Bool.not_false, ↓reduceIte]
      exact Ev.some _
    | true =>
      have hn := ih (pre ++ [x]) (by simp [e]) (fun y hy => by
        rcases List.mem_append.1 hy with hy | hy
        · exact hp y hy
        · rw [List.mem_singleton] at hy; subst hy; exact hb)
      rw [List.length_append, List.length_singleton, ← wnext (n := L.length) (by omega) hl] at hn
      rcases hn with ⟨h1, h2⟩ | ⟨K, z, R, h1, h2, h3, h4⟩
      · refine .inl ⟨unf _ ?_, h2⟩
        simp only [hb, Bool.not_true, Bool.false_eq_true, ↓reduceIte]
        exact h1
      · refine .inr ⟨K, z, R, h1, h2, h3, unf _ ?_⟩
        simp only [hb, Bool.not_true, Bool.false_eq_true, ↓reduceIte]
        exact h4
theorem pw_loop {s : Nat} (hs : s < 2 ^ 62) (N : Nat) (hN : N ≤ 1099511627776) : ∀ rest K J : List Nat, K.length + J.length + rest.length = N → (∀ x ∈ rest, x < 2 ^ 62) →
    Ev (fun k => slices_DeleteFunc_int_int__PathsWithin_1.l0 k (castL (K ++ J ++ rest)) (K.length : Int) ((K.length + J.length : Nat) : Int) [(s : Int)]) (castL (K ++ rest.filter (inB s))) := by
  intro rest
  induction rest with
  | nil =>
    intro K J e hR
    refine Ev.step (fun k => by rw [slices_DeleteFunc_int_int__PathsWithin_1.l0]) ?_
    simp only [List.append_nil, castL_length, List.length_append, show ¬ (((K.length + J.length : Nat) : Int) < ((K.length + J.length : Nat) : Int)) from by omega, show (0 : Int) ≤ (K.length : Int) from by omega, show (K.length : Int) ≤ ((K.length + J.length : Nat) : Int) from by omega, ↓reduceIte, Int.toNat_natCast]
    refine (Ev.some _).eq ?_
    rw [castL_append, List.take_left' (by simp)]
    simp
  | cons x rest ih =>
    intro K J e hR
    simp only [List.length_cons] at e
    have hx := hR x (by simp)
    have er : rd (castL (K ++ J ++ x :: rest)) ((K.length + J.length : Nat) : Int) = (x : Int) := by
      have := rd_castL_mid (K ++ J) x rest
      rw [List.length_append] at this
      exact this
    have hw1 : wrap64 (((K.length + J.length : Nat) : Int) + 1) = ((K.length + J.length + 1 : Nat) : Int) := wnext (n := N) (by omega) hN
    have hw2 : wrap64 ((K.length : Int) + 1) = ((K.length + 1 : Nat) : Int) := wnext (n := N) (by omega) hN
    refine Ev.step (fun k => by rw [slices_DeleteFunc_int_int__PathsWithin_1.l0]) ?_
    simp only [castL_length, List.length_append, List.length_cons, show ((K.length + J.length : Nat) : Int) < ((K.length + J.length + (rest.length + 1) : Nat) : Int) from by omega, show (0 : Int) ≤ ((K.length + J.length : Nat) : Int) from by omega, show (0 : Int) ≤ (K.length : Int) from by omega, show (K.length : Int) < ((K.length + J.length + (rest.length + 1) : Nat) : Int) from by omega, er, pw1_eq hs hx, Option.bind_some, hw1, hw2, Int.toNat_natCast, ↓reduceIte]
    cases hb : inB s x with
    | false =>
      have hn := ih K (J ++ [x]) (by simp; omega) (fun y hy => hR y (by simp [hy]))
      simp only [Bool.not_false, ↓reduceIte]
      rw [List.filter_cons_of_neg (by simp [hb])]
      rw [List.length_append, List.length_singleton, ← Nat.add_assoc] at hn
      simpa [List.append_assoc] using hn
    | true =>
      simp only [Bool.not_true, Bool.false_eq_true, ↓reduceIte]
      rw [List.filter_cons_of_pos hb]
      have hset : (castL (K ++ J ++ x :: rest)).set K.length (x : Int) = castL (K ++ [x] ++ (J ++ [x]).tail ++ rest) := by
        cases J with
        | nil =>
          simp [castL]
        | cons j J' =>
          simp [castL]
      rw [hset]
      have hn := ih (K ++ [x]) (J ++ [x]).tail (by simp; omega) (fun y hy => hR y (by simp [hy]))
      have hl : (K ++ [x]).length + (J ++ [x]).tail.length = K.length + J.length + 1 := by simp; omega
      rw [hl] at hn
      simpa [List.append_assoc] using hn
theorem pw_del {s : Nat} (hs : s < 2 ^ 62) (L : List Nat) (hL : ∀ x ∈ L, x < 2 ^ 62) (hl : L.length ≤ 1099511627775) : Ev (fun k => slices_DeleteFunc_int_int__PathsWithin_1.f k (castL L) [(s : Int)]) (castL (L.filter (inB s))) := by
  unfold slices_DeleteFunc_int_int__PathsWithin_1.f
  rcases pw_idx hs L hL (by omega) L [] rfl (by simp) with ⟨h1, h2⟩ | ⟨K, x, R, h1, h2, h3, h4⟩
  · have h1' : Ev (fun k => slices_IndexFunc_int_int__PathsWithin_1.f k (castL L) [(s : Int)]) (-1) := by
      unfold slices_IndexFunc_int_int__PathsWithin_1.f
      rw [castL_length]
      exact h1
    refine Ev.bind h1' ?_
    simp only [↓reduceIte]
    exact (Ev.some _).eq (by rw [List.filter_eq_self.2 h2])
  · have h4' : Ev (fun k => slices_IndexFunc_int_int__PathsWithin_1.f k (castL L) [(s : Int)]) (K.length : Int) := by
      unfold slices_IndexFunc_int_int__PathsWithin_1.f
      rw [castL_length]
      exact h4
    refine Ev.bind h4' ?_
    simp only [show ¬ ((K.length : Int) = -1) from by omega, ↓reduceIte]
    have hlen : L.length = K.length + (R.length + 1) := by rw [h1]; simp
    rw [wnext (n := L.length) (by omega) (by omega)]
    have hn := pw_loop hs L.length (by omega) R K [x] (by simp; omega) (fun y hy => hL y (by rw [h1]; simp [hy]))
    have hf : L.filter (inB s) = K ++ R.filter (inB s) := by
      rw [h1, List.filter_append, List.filter_eq_self.2 h2, List.filter_cons_of_neg (by simp [h3])]
    rw [hf]
    simpa [h1, List.append_assoc] using hn
theorem spw_loop {s : Nat} (hs : s < 2 ^ 62) (L : List Nat) (hL : ∀ x ∈ L, x < 2 ^ 62) (hl : L.length ≤ 1048576) : ∀ rest pre R : List Nat, pre ++ rest = L → R.length ≤ pre.length →
    Ev (fun k => spec_PathsWithin.l0 k (s : Int) (castL R) (castL L) (L.length : Int) (pre.length : Int)) (castL (R ++ rest.filter (inB s)), true) := by
  intro rest
  induction rest with
  | nil =>
    intro pre R e hR
    obtain rfl : pre = L := by simpa using e
    refine Ev.step (fun k => by rw [spec_PathsWithin.l0]) ?_
    simp only [show ¬ ((pre.length : Int) < (pre.length : Int)) from by omega, ↓reduceIte]
    exact (Ev.some _).eq (by simp)
  | cons x rest ih =>
    intro pre R e hR
    have hlen : L.length = pre.length + (rest.length + 1) := by rw [← e]; simp
    have er : rd (castL L) (pre.length : Int) = (x : Int) := by rw [← e]; exact rd_castL_mid _ _ _
    have hx := hL x (by rw [← e]; simp)
    refine Ev.step (fun k => by rw [spec_PathsWithin.l0]) ?_
    simp only [show ((pre.length : Int) < (L.length : Int)) from by omega, show (0 : Int) ≤ (pre.length : Int) from by omega, castL_length, er, bAndn hx hs, show R.length < 17592186044416 from by omega, ↓reduceIte]
    rw [wnext (n := L.length) (by omega) (by omega)]
    by_cases hb : andn x s = 0
    · have hi : inB s x = true := decide_eq_true hb
      have hn := ih (pre ++ [x]) (R ++ [x]) (by simp [e]) (by simp; omega)
      rw [List.length_append, List.length_singleton] at hn
      simp only [show (((andn x s : Nat) : Int) = 0) from by omega, ↓reduceIte]
      rw [List.filter_cons_of_pos hi]
      simpa [castL] using hn
    · have hi : ¬ inB s x = true := by unfold inB; rw [decide_eq_true_eq]; exact hb
      have hn := ih (pre ++ [x]) R (by simp [e]) (by simp; omega)
      rw [List.length_append, List.length_singleton] at hn
      simp only [show ¬ (((andn x s : Nat) : Int) = 0) from by omega, ↓reduceIte]
      rw [List.filter_cons_of_neg hi]
      exact hn
theorem PathsWithin_both (n : Int) (S : List Int) (hS : S.length ≤ 1048576) (a : Int) : ∃ (L : List Int) (b : Bool), L.length ≤ 1048576 ∧ Ev (fun k => spec_PathsWithin.f k n S a) (L, b) ∧ Ev (fun k => impl_PathsWithin.f k n S a) (L, b) := by
  have e0 : rd [a] 0 = a := rfl
  rcases known_cases (n := n) (S := S) (by omega) a with ⟨h1, h2⟩ | ⟨m, T, x, rfl, rfl, rfl, h, hx, h1, h2⟩
  · refine ⟨[], false, by simp, ?_, ?_⟩
    · unfold spec_PathsWithin.f
      refine Ev.bind h2 ?_
      simp only [↓reduceIte, Bool.false_eq_true]; exact Ev.some _
    · unfold impl_PathsWithin.f
      simp only [Option.bind_some, List.length_singleton, show ((0 : Int) < ((1 : Nat) : Int)) from by omega, ↓reduceIte, e0]
      refine Ev.bind h1 ?_
      simp only [↓reduceIte, Bool.false_eq_true]; exact Ev.some _
  · have hT := h.short
    have hx7 : x < 128 := h.lt128 x hx
    have hL : ∀ y ∈ T.filter (pathB T), y < 2 ^ 62 := fun y hy => by
      have := h.lt128 y (List.mem_filter.1 hy).1; omega
    have hl1 : (T.filter (pathB T)).length ≤ T.length := List.length_filter_le _ _
    have hl2 : ((T.filter (pathB T)).filter (inB x)).length ≤ (T.filter (pathB T)).length := List.length_filter_le _ _
    refine ⟨castL ((T.filter (pathB T)).filter (inB x)), true, by rw [castL_length]; omega, ?_, ?_⟩
    · unfold spec_PathsWithin.f
      refine Ev.bind h2 ?_
      simp only [↓reduceIte]
      refine Ev.bind (paAll_ev h) ?_
      rw [castL_length]
      simpa [castL_nil] using spw_loop (show x < 2 ^ 62 by omega) (T.filter (pathB T)) hL (by omega) (T.filter (pathB T)) [] [] rfl (by simp)
    · unfold impl_PathsWithin.f
      have e0' : rd [(x : Int)] 0 = (x : Int) := rfl
      simp only [Option.bind_some, List.length_singleton, show ((0 : Int) < ((1 : Nat) : Int)) from by omega, ↓reduceIte, e0']
      refine Ev.bind h1 ?_
      simp only [↓reduceIte]
      refine Ev.bind (paths_ev h) ?_
      exact Ev.bind (pw_del (show x < 2 ^ 62 by omega) _ hL (by omega)) (Ev.some _)
end Go.Proofs.Ytekllaaohagefaa.Q
