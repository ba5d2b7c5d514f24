/- The swaps from one full word to another one: both; conditions: as each theorem states. -/
import Derived.Test.YtnpfkbfmipnofaaCFnExactSwapWayQWord
import Derived.Test.YtnpfkbfmipnofaaCFnExactSwapWayQClone
import Derived.Test.YtnpfkbfmipnofaaCFnExactSwapWayQOwn
import Derived.Test.YtnpfkbfmipnofaaCFnExactSwapWayQOrder
import Derived.Test.YtnpfkbfmipnofaaCFnExactSwapWayP5
namespace Go.Proofs.Ytnpfkbfmipnofaa.Q
open Go.RowKit Go.Proofs.YtnpfkbfmipnofaaW.PrintWords Go.Proofs.YtnpfkbfmipnofaaW.PrintLast Go.Proofs.YtnpfkbfmipnofaaW.PrintMore Go.Proofs.Ytnpfkbfmipnofaa.P
set_option linter.unusedVariables false
set_option linter.unusedSimpArgs false

theorem wordR_ord {m : Nat} {T : List Nat} : ∀ {w : List Int} {s : Nat}, (wordR m T w s).2 = true → ∃ W : List Nat, w = castL W ∧ (∀ i ∈ W, i < m ∧ s.testBit i = false) ∧ W.Nodup
  | [], s, h => ⟨[], rfl, by simp, List.nodup_nil⟩
  | a :: r, s, h => by
    unfold wordR at h
    by_cases h1 : 0 ≤ a ∧ a ≤ (m : Int) - 1
    · rw [if_pos h1] at h
      by_cases h2 : s.testBit a.toNat = true
      · rw [if_pos h2] at h; cases h
      · rw [if_neg h2] at h
        by_cases h3 : s ||| 2 ^ a.toNat ∈ T
        · rw [if_pos h3] at h
          obtain ⟨W, e, hW, hN⟩ := wordR_ord h
          obtain ⟨i, rfl⟩ := Int.eq_ofNat_of_zero_le h1.1
          rw [Int.toNat_natCast] at hW h2
          have hb : ∀ j, (s ||| 2 ^ i).testBit j = false → s.testBit j = false ∧ j ≠ i := by
            intro j hj
            rw [Nat.testBit_or, Nat.testBit_two_pow, Bool.or_eq_false_iff, decide_eq_false_iff_not] at hj
            exact ⟨hj.1, fun e => hj.2 e.symm⟩
          refine ⟨i :: W, by rw [e]; rfl, fun j hj => ?_, List.nodup_cons.2 ⟨fun hi => (hb i (hW i hi).2).2 rfl, hN⟩⟩
          rcases List.mem_cons.1 hj with rfl | hj
          · exact ⟨by omega, by simpa using h2⟩
          · exact ⟨(hW j hj).1, (hb j (hW j hj).2).1⟩
        · rw [if_neg h3] at h; cases h
    · rw [if_neg h1] at h; cases h
theorem mem_split1 {c : Int} : ∀ {X : List Int}, c ∈ X → ∃ C D, X = C ++ c :: D ∧ c ∉ C
  | [], h => by simp at h
  | x :: X, h => by
    by_cases e : c = x
    · subst e; exact ⟨[], X, rfl, by simp⟩
    · obtain ⟨C, D, e2, h2⟩ := mem_split1 (X := X) (by simpa [e] using h)
      exact ⟨x :: C, D, by rw [e2]; rfl, by simp [e, h2]⟩
theorem swap_down {y c : Int} {D : List Int} : ∀ Q : List Int, ((Q ++ y :: c :: D).set (Q.length + 1) y).set Q.length c = Q ++ c :: y :: D
  | [] => rfl
  | q :: Q => by simp
theorem swap_up {y c : Int} {D : List Int} : ∀ Q : List Int, ((Q ++ y :: c :: D).set Q.length c).set (Q.length + 1) y = Q ++ c :: y :: D
  | [] => rfl
  | q :: Q => by simp
theorem rd_next (Q : List Int) (y c : Int) (D : List Int) : rd (Q ++ y :: c :: D) ((Q.length + 1 : Nat) : Int) = c := by
  have := rd_mid (Q ++ [y]) c D
  simpa using this
/-- The places of the swaps that bring an item down. -/
def dnL (k : Nat) : Nat → List Int
  | 0 => []
  | d + 1 => ((k + d : Nat) : Int) :: dnL k d
theorem dnL_length (k : Nat) : ∀ d, (dnL k d).length = d
  | 0 => rfl
  | d + 1 => by simp [dnL, dnL_length k d]
theorem index_at (l A D : List Int) (x : Int) (hl : l.length ≤ 1048576) (e : l = A ++ x :: D) (hx : x ∉ A) : Ev (fun k => slices_Index_int_int.f k l x) ((A.length : Nat) : Int) := by
  have hA : l.length = A.length + (D.length + 1) := by rw [e]; simp
  have go : ∀ rest pre : List Int, pre ++ rest = A → Ev (fun k => slices_Index_int_int.l0 k l x (l.length : Int) (pre.length : Int)) ((A.length : Nat) : Int) := by
    intro rest
    induction rest with
    | nil =>
      intro pre e2
      obtain rfl : pre = A := by simpa using e2
      have er : rd l (pre.length : Int) = x := by rw [e]; exact rd_mid _ _ _
      refine Ev.step (fun k => by rw [slices_Index_int_int.l0]) ?_
      simp only [show ((pre.length : Int) < (l.length : Int)) from by omega, show (0 : Int) ≤ (pre.length : Int) from by omega, er, ↓reduceIte]
      exact Ev.some _
    | cons y rest ih =>
      intro pre e2
      have hlen : A.length = pre.length + (rest.length + 1) := by rw [← e2]; simp
      have er : rd l (pre.length : Int) = y := by rw [e, ← e2, List.append_assoc]; exact rd_mid _ _ _
      have hxy : ¬ x = y := fun h => hx (by rw [← e2, h]; simp)
      have hn := ih (pre ++ [y]) (by simp [e2])
      rw [List.length_append, List.length_singleton] at hn
      refine Ev.step (fun k => by rw [slices_Index_int_int.l0]) ?_
      simp only [show ((pre.length : Int) < (l.length : Int)) from by omega, show (0 : Int) ≤ (pre.length : Int) from by omega, er, hxy, ↓reduceIte]
      rw [wnext (n := l.length) (by omega) (by omega)]
      exact hn
  unfold slices_Index_int_int.f
  exact go A [] rfl
theorem spec_search (n : Int) (S : List Int) (l : List Int) (R : List Int) (kk : Int) (c : Int) (b : List Int) (nb ib : Int) (hl : l.length ≤ 1048576) (v : List Int × Bool) (P C D : List Int) (e : l = P ++ (C ++ c :: D)) (hc : c ∉ C)
    (hv : Ev (fun k => spec_SwapWay.l2 k l R kk ((P.length + C.length : Nat) : Int) b nb ib n S) v) : ∀ rest pre : List Int, pre ++ rest = C →
    Ev (fun k => spec_SwapWay.l1 k l R kk c ((P.length + pre.length : Nat) : Int) b nb ib n S) v := by
  have hA : l.length = P.length + (C.length + (D.length + 1)) := by rw [e]; simp
  intro rest
  induction rest with
  | nil =>
    intro pre e2
    obtain rfl : pre = C := by simpa using e2
    have er : rd l ((P.length + pre.length : Nat) : Int) = c := by
      rw [e, ← List.append_assoc, ← List.length_append]; exact rd_mid _ _ _
    refine Ev.step (fun k => by rw [spec_SwapWay.l1]) ?_
    simp only [show (((P.length + pre.length : Nat) : Int) < (l.length : Int)) from by omega, show (0 : Int) ≤ ((P.length + pre.length : Nat) : Int) from by omega, er, ↓reduceIte]
    exact hv
  | cons y rest ih =>
    intro pre e2
    have hlen : C.length = pre.length + (rest.length + 1) := by rw [← e2]; simp
    have er : rd l ((P.length + pre.length : Nat) : Int) = y := by
      rw [e, ← e2, List.append_assoc, ← List.append_assoc, ← List.length_append]; exact rd_mid _ _ _
    have hxy : ¬ y = c := fun h => hc (by rw [← e2, h]; simp)
    have hn := ih (pre ++ [y]) (by simp [e2])
    rw [List.length_append, List.length_singleton] at hn
    refine Ev.step (fun k => by rw [spec_SwapWay.l1]) ?_
    simp only [show (((P.length + pre.length : Nat) : Int) < (l.length : Int)) from by omega, show (0 : Int) ≤ ((P.length + pre.length : Nat) : Int) from by omega, er, hxy, ↓reduceIte]
    rw [wnext (n := l.length) (by omega) (by omega)]
    exact hn
theorem impl_down (P : List Int) (c : Int) (b : List Int) (nb ib : Int) (v : List Int × Bool) : ∀ (d : Nat) (C D R : List Int), C.length = d → P.length + d ≤ 1000 → R.length + d ≤ 100000 →
    Ev (fun k => impl_SwapWay.l0 k (P ++ c :: (C ++ D)) (R ++ dnL P.length d) b nb (wrap64 (ib + 1))) v →
    Ev (fun k => impl_SwapWay.l1 k (P ++ (C ++ c :: D)) R ((P.length : Nat) : Int) ((P.length + d : Nat) : Int) b nb ib) v := by
  intro d
  induction d with
  | zero =>
    intro C D R hC hP hR hv
    obtain rfl := List.length_eq_zero_iff.1 hC
    refine Ev.step (fun k => by rw [impl_SwapWay.l1]) ?_
    simp only [show ¬ (((P.length + 0 : Nat) : Int) > ((P.length : Nat) : Int)) from by omega, ↓reduceIte]
    simpa [dnL] using hv
  | succ d ih =>
    intro C D R hC hP hR hv
    obtain ⟨C', y, rfl⟩ : ∃ C' y, C = C' ++ [y] := by
      rcases List.eq_nil_or_concat C with h | ⟨C', y, h⟩
      · rw [h] at hC; simp at hC
      · exact ⟨C', y, by rw [h, List.concat_eq_append]⟩
    have hC' : C'.length = d := by simpa using hC
    have hq : (P ++ C').length = P.length + d := by rw [List.length_append, hC']
    have ex : P ++ ((C' ++ [y]) ++ c :: D) = (P ++ C') ++ y :: c :: D := by simp
    have hn := ih C' (y :: D) (R ++ [((P.length + d : Nat) : Int)]) hC' (by omega) (by simp; omega) (by
      have e1 : R ++ [((P.length + d : Nat) : Int)] ++ dnL P.length d = R ++ dnL P.length (d + 1) := by simp [dnL]
      have e2 : P ++ c :: (C' ++ (y :: D)) = P ++ c :: ((C' ++ [y]) ++ D) := by simp
      rw [e1, e2]; exact hv)
    have r1 : rd ((P ++ C') ++ y :: c :: D) ((P.length + d : Nat) : Int) = y := by rw [← hq]; exact rd_mid _ _ _
    have r2 : rd ((P ++ C') ++ y :: c :: D) ((P.length + (d + 1) : Nat) : Int) = c := by
      have := rd_next (P ++ C') y c D
      rw [hq] at this; exact this
    have w1 : wrap64 (((P.length + (d + 1) : Nat) : Int) - 1) = ((P.length + d : Nat) : Int) := by rw [w64 (by omega) (by omega)]; omega
    have hlen : ((P ++ C') ++ y :: c :: D).length = P.length + d + (D.length + 2) := by rw [List.length_append, hq]; simp
    have hsw := swap_down (y := y) (c := c) (D := D) (P ++ C')
    rw [hq] at hsw
    rw [ex]
    refine Ev.step (fun k => by rw [impl_SwapWay.l1]) ?_
    simp only [show (((P.length + (d + 1) : Nat) : Int) > ((P.length : Nat) : Int)) from by omega, w1, r1, r2, hlen, show (0 : Int) ≤ ((P.length + d : Nat) : Int) from by omega, show (((P.length + d : Nat) : Int) < ((P.length + d + (D.length + 2) : Nat) : Int)) from by omega, show (0 : Int) ≤ ((P.length + (d + 1) : Nat) : Int) from by omega, show (((P.length + (d + 1) : Nat) : Int) < ((P.length + d + (D.length + 2) : Nat) : Int)) from by omega, show R.length < 17592186044416 from by omega, Int.toNat_natCast, ↓reduceIte]
    rw [show P.length + (d + 1) = P.length + d + 1 from rfl, hsw, List.append_assoc]
    exact hn
theorem woSwap_ev {m : Nat} {T : List Nat} (h : SpN m T) (Q : List Int) (y c : Int) (D : List Int) (hl : Q.length + D.length ≤ 1000) : ∃ z, Ev (fun k => spec_woSwap.f k (m : Int) (castL T) (Q ++ y :: c :: D) ((Q.length : Nat) : Int)) (Q ++ c :: y :: D, z) := by
  have w2 : wrap64 (((Q.length : Nat) : Int) + 1) = ((Q.length + 1 : Nat) : Int) := wnext (n := Q.length + 1) (by omega) (by omega)
  have r1 : rd (Q ++ y :: c :: D) ((Q.length : Nat) : Int) = y := rd_mid _ _ _
  have r2 := rd_next Q y c D
  have hlen : (Q ++ y :: c :: D).length = Q.length + (D.length + 2) := by simp
  have hlen2 : (Q ++ c :: y :: D).length = Q.length + (D.length + 2) := by simp
  have i1 : (((Q.length : Nat) : Int) < ((Q.length + (D.length + 2) : Nat) : Int)) := by clear r1 r2 w2; omega
  have i2 : (((Q.length + 1 : Nat) : Int) < ((Q.length + (D.length + 2) : Nat) : Int)) := by clear r1 r2 w2; omega
  refine ⟨(wordR m T (Q ++ c :: y :: D) 0).2, ?_⟩
  unfold spec_woSwap.f
  rw [own_eq (Q ++ y :: c :: D) (by clear r1 r2 w2; omega)]
  simp only [Option.bind_some, w2, r1, r2, hlen, Int.natCast_nonneg, i1, i2, Int.toNat_natCast, ↓reduceIte, swap_up Q]
  exact Ev.bind (woSet_ev h (Q ++ c :: y :: D) (by clear r1 r2 w2; omega)) (Ev.some _)
theorem spec_down {m : Nat} {T : List Nat} (h : SpN m T) (P : List Int) (c : Int) (b : List Int) (nb ib : Int) (v : List Int × Bool) : ∀ (d : Nat) (C D R : List Int), C.length = d → P.length + d + D.length ≤ 1000 → R.length + d ≤ 100000 →
    Ev (fun k => spec_SwapWay.l0 k (P ++ c :: (C ++ D)) (R ++ dnL P.length d) b nb (wrap64 (ib + 1)) (m : Int) (castL T)) v →
    Ev (fun k => spec_SwapWay.l2 k (P ++ (C ++ c :: D)) R ((P.length : Nat) : Int) ((P.length + d : Nat) : Int) b nb ib (m : Int) (castL T)) v := by
  intro d
  induction d with
  | zero =>
    intro C D R hC hP hR hv
    obtain rfl := List.length_eq_zero_iff.1 hC
    refine Ev.step (fun k => by rw [spec_SwapWay.l2]) ?_
    simp only [show ¬ (((P.length + 0 : Nat) : Int) > ((P.length : Nat) : Int)) from by omega, ↓reduceIte]
    simpa [dnL] using hv
  | succ d ih =>
    intro C D R hC hP hR hv
    obtain ⟨C', y, rfl⟩ : ∃ C' y, C = C' ++ [y] := by
      rcases List.eq_nil_or_concat C with h | ⟨C', y, h⟩
      · rw [h] at hC; simp at hC
      · exact ⟨C', y, by rw [h, List.concat_eq_append]⟩
    have hC' : C'.length = d := by simpa using hC
    have hq : (P ++ C').length = P.length + d := by rw [List.length_append, hC']
    have ex : P ++ ((C' ++ [y]) ++ c :: D) = (P ++ C') ++ y :: c :: D := by simp
    have hn := ih C' (y :: D) (R ++ [((P.length + d : Nat) : Int)]) hC' (by simp; omega) (by simp; omega) (by
      have e1 : R ++ [((P.length + d : Nat) : Int)] ++ dnL P.length d = R ++ dnL P.length (d + 1) := by simp [dnL]
      have e2 : P ++ c :: (C' ++ (y :: D)) = P ++ c :: ((C' ++ [y]) ++ D) := by simp
      rw [e1, e2]; exact hv)
    have w1 : wrap64 (((P.length + (d + 1) : Nat) : Int) - 1) = ((P.length + d : Nat) : Int) := by rw [w64 (by omega) (by omega)]; omega
    rw [ex]
    have hws := woSwap_ev h (P ++ C') y c D (by omega)
    rw [hq] at hws
    obtain ⟨z, hws⟩ := hws
    refine Ev.step (fun k => by rw [spec_SwapWay.l2]) ?_
    simp only [show (((P.length + (d + 1) : Nat) : Int) > ((P.length : Nat) : Int)) from by omega, w1, ↓reduceIte]
    refine Ev.bind hws ?_
    simp only [show R.length < 17592186044416 from by omega, ↓reduceIte, List.append_assoc]
    exact hn
theorem way_loop {m : Nat} {T : List Nat} (h : SpN m T) (b : List Int) (hbl : b.length ≤ 7) (hb : b.Nodup) : ∀ (rest pre X R : List Int), pre ++ rest = b → (∀ i ∈ rest, i ∈ X) → X.length = rest.length → R.length ≤ 8 * pre.length →
    ∃ L : List Int, L.length ≤ 1048576 ∧ Ev (fun k => spec_SwapWay.l0 k (pre ++ X) R b (b.length : Int) (pre.length : Int) (m : Int) (castL T)) (L, true) ∧ Ev (fun k => impl_SwapWay.l0 k (pre ++ X) R b (b.length : Int) (pre.length : Int)) (L, true) := by
  intro rest
  induction rest with
  | nil =>
    intro pre X R e hX hXl hR
    obtain rfl : pre = b := by simpa using e
    refine ⟨R, by omega, ?_, ?_⟩
    · refine Ev.step (fun k => by rw [spec_SwapWay.l0]) ?_
      simp only [show ¬ ((pre.length : Int) < (pre.length : Int)) from by omega, ↓reduceIte]
      exact Ev.some _
    · refine Ev.step (fun k => by rw [impl_SwapWay.l0]) ?_
      simp only [show ¬ ((pre.length : Int) < (pre.length : Int)) from by omega, ↓reduceIte]
      exact Ev.some _
  | cons c rest ih =>
    intro pre X R e hX hXl hR
    have hlen : b.length = pre.length + (rest.length + 1) := by rw [← e]; simp
    have er : rd b (pre.length : Int) = c := by rw [← e]; exact rd_mid _ _ _
    rw [← e, List.nodup_append] at hb
    obtain ⟨_, hcr, hpc⟩ := hb
    have hcp : c ∉ pre := fun hc => hpc c hc c (by simp) rfl
    have hcn := (List.nodup_cons.1 hcr).1
    obtain ⟨C, D, rfl, hcC⟩ := mem_split1 (hX c (by simp))
    have hXl2 : C.length + D.length = rest.length := by simp at hXl; omega
    obtain ⟨L, hL, hs, hi⟩ := ih (pre ++ [c]) (C ++ D) (R ++ dnL pre.length C.length) (by simp [e]) (fun i hi => by
      have := hX i (by simp [hi])
      have hne : i ≠ c := fun e2 => hcn (by rw [← e2]; exact hi)
      simpa [hne] using this) (by simp; omega) (by rw [List.length_append, dnL_length, List.length_append, List.length_singleton]; omega)
    have ep : pre ++ [c] ++ (C ++ D) = pre ++ c :: (C ++ D) := by simp
    rw [ep, List.length_append, List.length_singleton, ← wnext (n := b.length) (by omega) (by omega)] at hs hi
    have hll : (pre ++ (C ++ c :: D)).length ≤ 1048576 := by simp; omega
    refine ⟨L, hL, ?_, ?_⟩
    · refine Ev.step (fun k => by rw [spec_SwapWay.l0]) ?_
      simp only [show ((pre.length : Int) < (b.length : Int)) from by omega, show (0 : Int) ≤ (pre.length : Int) from by omega, er, ↓reduceIte]
      refine spec_search (m : Int) (castL T) _ R _ c b _ _ hll _ pre C D rfl hcC ?_ C [] rfl
      exact spec_down h pre c b _ _ _ C.length C D R rfl (by omega) (by omega) hs
    · refine Ev.step (fun k => by rw [impl_SwapWay.l0]) ?_
      simp only [show ((pre.length : Int) < (b.length : Int)) from by omega, show (0 : Int) ≤ (pre.length : Int) from by omega, er, ↓reduceIte]
      refine Ev.bind (index_at _ (pre ++ C) D c hll (by simp) (by simp [hcp, hcC])) ?_
      rw [List.length_append]
      exact impl_down pre c b _ _ _ C.length C D R rfl (by omega) (by omega) hi
theorem SwapWay_both (n : Int) (S : List Int) (hS : S.length ≤ 1048576) (a : List Int) (ha : a.length ≤ 1048576) (b : List Int) (hb : b.length ≤ 1048576) : ∃ (L : List Int) (v : Bool), L.length ≤ 1048576 ∧ Ev (fun k => spec_SwapWay.f k n S a b) (L, v) ∧ Ev (fun k => impl_SwapWay.f k n S a b) (L, v) := by
  have hS2 : S.length ≤ 1099511627776 := by omega
  have hsj : Ev (fun k => spec_SwapWay.j0 k a b true n S) ([], false) := by
    refine Ev.step (fun k => by rw [spec_SwapWay.j0]) ?_
    simp only [↓reduceIte]; exact Ev.some _
  have hij : Ev (fun k => impl_SwapWay.j0 k a b true) ([], false) := by
    refine Ev.step (fun k => by rw [impl_SwapWay.j0]) ?_
    simp only [↓reduceIte]; exact Ev.some _
  cases hg : goodB n S with
  | false =>
    have hf1 : ∀ w, Ev (fun k => spec_woFull.f k n S w) false := fun w => by
      unfold spec_woFull.f
      refine Ev.bind ((spec_spGood_ev n S hS2).eq hg) ?_
      simp only [↓reduceIte, Bool.false_eq_true]; exact Ev.some _
    have hf2 : ∀ w, Ev (fun k => impl_isFull.f k n S w) false := fun w => by
      unfold impl_isFull.f
      refine Ev.bind (isWord_no hS2 hg w) ?_
      simp only [↓reduceIte, Bool.false_eq_true]; exact Ev.some _
    refine ⟨[], false, by simp, ?_, ?_⟩
    · unfold spec_SwapWay.f
      refine Ev.bind (hf1 a) ?_
      simp only [↓reduceIte, Bool.false_eq_true]; exact hsj
    · unfold impl_SwapWay.f
      refine Ev.bind (hf2 a) ?_
      simp only [↓reduceIte, Bool.false_eq_true]; exact hij
  | true =>
    obtain ⟨m, T, rfl, rfl, h⟩ := good_space hg
    have m7 := h.m7
    have m1 := h.m1
    have hf1 : ∀ w : List Int, w.length ≤ 1048576 → Ev (fun k => spec_woFull.f k (m : Int) (castL T) w) (decide (w.length = m) && (wordR m T w 0).2) := fun w hw => by
      unfold spec_woFull.f
      refine Ev.bind h.spec ?_
      simp only [↓reduceIte]
      by_cases e : w.length = m
      · simp only [show ((w.length : Int) = (m : Int)) from by omega, ↓reduceIte]
        exact Ev.bind (woSet_ev h w (by omega)) ((Ev.some _).eq (by simp [e]))
      · simp only [show ¬ ((w.length : Int) = (m : Int)) from by omega, ↓reduceIte]
        exact (Ev.some _).eq (by simp [e])
    have hf2 : ∀ w : List Int, w.length ≤ 1048576 → Ev (fun k => impl_isFull.f k (m : Int) (castL T) w) (decide (w.length = m) && (wordR m T w 0).2) := fun w hw => by
      unfold impl_isFull.f
      refine Ev.bind (isWord_ev h w (by omega)) ?_
      cases hw2 : (wordR m T w 0).2 with
      | false => simp only [↓reduceIte, Bool.false_eq_true]; exact (Ev.some _).eq (by simp)
      | true =>
        simp only [↓reduceIte]
        refine (Ev.some _).eq ?_
        rw [Bool.eq_iff_iff, beq_iff_eq, Bool.and_true, decide_eq_true_eq]
        omega
    cases h1 : (decide (a.length = m) && (wordR m T a 0).2) with
    | false =>
      refine ⟨[], false, by simp, ?_, ?_⟩
      · unfold spec_SwapWay.f
        refine Ev.bind ((hf1 a ha).eq h1) ?_
        simp only [↓reduceIte, Bool.false_eq_true]; exact hsj
      · unfold impl_SwapWay.f
        refine Ev.bind ((hf2 a ha).eq h1) ?_
        simp only [↓reduceIte, Bool.false_eq_true]; exact hij
    | true =>
      cases h2 : (decide (b.length = m) && (wordR m T b 0).2) with
      | false =>
        refine ⟨[], false, by simp, ?_, ?_⟩
        · unfold spec_SwapWay.f
          refine Ev.bind ((hf1 a ha).eq h1) ?_
          simp only [↓reduceIte]
          refine Ev.bind ((hf1 b hb).eq h2) ?_
          exact hsj
        · unfold impl_SwapWay.f
          refine Ev.bind ((hf2 a ha).eq h1) ?_
          simp only [↓reduceIte]
          refine Ev.bind ((hf2 b hb).eq h2) ?_
          exact hij
      | true =>
        have h1' := h1
        have h2' := h2
        simp only [Bool.and_eq_true, decide_eq_true_eq] at h1' h2'
        obtain ⟨A, rfl, hA, hAN⟩ := wordR_ord h1'.2
        obtain ⟨B, rfl, hB, hBN⟩ := wordR_ord h2'.2
        rw [castL_length] at h1' h2'
        have hO : OrdN m A := ⟨m1, m7, h1'.1, fun i hi => (hA i hi).1, hAN⟩
        obtain ⟨L, hL, hs, hi⟩ := way_loop h (castL B) (by rw [castL_length]; omega) (castL_nodup.2 hBN) (castL B) [] (castL A) [] rfl (fun i hi => by
          obtain ⟨j, hj, rfl⟩ := List.mem_map.1 hi
          exact mem_castL.2 (hO.cover j (hB j hj).1)) (by rw [castL_length, castL_length]; omega) (by simp)
        refine ⟨L, true, hL, ?_, ?_⟩
        · unfold spec_SwapWay.f
          refine Ev.bind ((hf1 _ ha).eq h1) ?_
          simp only [↓reduceIte]
          refine Ev.bind ((hf1 _ hb).eq h2) ?_
          refine Ev.step (fun k => by rw [spec_SwapWay.j0]) ?_
          simp only [Bool.not_true, Bool.false_eq_true, ↓reduceIte, own_eq (castL A) (by omega), Option.bind_some]
          exact hs
        · unfold impl_SwapWay.f
          refine Ev.bind ((hf2 _ ha).eq h1) ?_
          simp only [↓reduceIte]
          refine Ev.bind ((hf2 _ hb).eq h2) ?_
          refine Ev.step (fun k => by rw [impl_SwapWay.j0]) ?_
          simp only [Bool.not_true, Bool.false_eq_true, ↓reduceIte, clone_eq (castL A) (by omega), Option.bind_some]
          exact hi
end Go.Proofs.Ytnpfkbfmipnofaa.Q
