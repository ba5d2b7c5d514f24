/- The space of an order: both; conditions: as each theorem states. -/
import Derived.Test.YtpliebmaagoahaaCFnExactOrderSpaceQUp
import Derived.Test.YtpliebmaagoahaaCFnExactOrderSpaceQNet
import Derived.Test.YtpliebmaagoahaaCFnExactOrderSpaceQGood
import Derived.Test.YtpliebmaagoahaaCFnExactOrderSpaceQLawPts
import Derived.Test.YtpliebmaagoahaaCFnExactOrderSpaceP4
namespace Go.Proofs.Ytpliebmaagoahaa.Q
open Go.RowKit Go.Proofs.YtpliebmaagoahaaW.PrintWords Go.Proofs.YtpliebmaagoahaaW.PrintLast Go.Proofs.YtpliebmaagoahaaW.PrintMore Go.Proofs.Ytpliebmaagoahaa.P
set_option linter.unusedVariables false
set_option linter.unusedSimpArgs false

/-- A pair of two items. -/
def pairB (n : Int) : List Int → Bool
  | [a, b] => decide ((0 ≤ a ∧ a ≤ n - 1) ∧ (0 ≤ b ∧ b ≤ n - 1) ∧ a ≠ b)
  | _ => false
theorem pairB_of {m : Nat} {r : List Int} (h : pairB (m : Int) r = true) : ∃ a b : Nat, r = [(a : Int), (b : Int)] ∧ a < m ∧ b < m ∧ a ≠ b := by
  match r, h with
  | [x, y], h =>
    simp only [pairB, decide_eq_true_eq] at h
    obtain ⟨a, rfl⟩ := Int.eq_ofNat_of_zero_le h.1.1
    obtain ⟨b, rfl⟩ := Int.eq_ofNat_of_zero_le h.2.1.1
    exact ⟨a, b, rfl, by omega, by omega, fun e => h.2.2 (by rw [e])⟩
/-- A set keeps a pair. -/
def keepB (x : Nat) (r : List Int) : Bool := !(x.testBit (rd r 1).toNat && !x.testBit (rd r 0).toNat)
theorem keepB_two (x a b : Nat) : keepB x [(a : Int), (b : Int)] = !(x.testBit b && !x.testBit a) := rfl

theorem arePairs1_eq {n : Int} (h1 : 1 ≤ n) (h7 : n ≤ 7) (r : List Int) : impl_arePairs_1.f r [n] = some (!pairB n r) := by
  have hw : wrap64 (n - 1) = n - 1 := w64 (by omega) (by omega)
  unfold impl_arePairs_1.f
  have e0 : rd [n] 0 = n := rfl
  by_cases hl : r.length = 2
  · match r, hl with
    | [a, b], _ =>
      have ea : rd [a, b] 0 = a := rfl
      have eb : rd [a, b] 1 = b := rfl
      simp only [List.length_cons, List.length_nil, within_eq, ea, eb, e0, hw, Option.bind_some, pairB]
      by_cases ha : 0 ≤ a ∧ a ≤ n - 1
      · by_cases hb : 0 ≤ b ∧ b ≤ n - 1
        · by_cases hab : a = b
          · subst hab; simp [ha, hb]
          · simp [ha, hb, hab]
        · simp [ha, hb]
      · simp [ha]
  · have hp : pairB n r = false := by
      match r, hl with
      | [], _ => rfl
      | [_], _ => rfl
      | [_, _], hl => exact absurd rfl hl
      | _ :: _ :: _ :: _, _ => rfl
    rw [if_neg (by omega), hp]; rfl
theorem idx_pairs {n : Int} (h1 : 1 ≤ n) (h7 : n ≤ 7) (P : List (List Int)) (hl : P.length ≤ 1048576) : ∀ rest pre : List (List Int), pre ++ rest = P →
    ∃ v, Ev (fun k => slices_IndexFunc_int_int__arePairs_1.l0 k P (P.length : Int) (pre.length : Int) [n]) v ∧ (decide (v ≥ 0) = rest.any fun r => !pairB n r) := by
  intro rest
  induction rest with
  | nil =>
    intro pre h
    obtain rfl : pre = P := by simpa using h
    refine ⟨-1, Ev.step (fun k => by rw [slices_IndexFunc_int_int__arePairs_1.l0]) ?_, rfl⟩
    simp only [show ¬ ((pre.length : Int) < (pre.length : Int)) from by omega, ↓reduceIte]
    exact Ev.some _
  | cons r rest ih =>
    intro pre h
    have hlen : P.length = pre.length + (rest.length + 1) := by rw [← h]; simp
    have e : rd_L3 P (pre.length : Int) = r := by rw [← h]; exact rdL_mid _ _ _
    obtain ⟨v, hv, hd⟩ := ih (pre ++ [r]) (by simp [h])
    rw [List.length_append, List.length_singleton] at hv
    cases hp : pairB n r with
    | false =>
      refine ⟨(pre.length : Int), Ev.step (fun k => by rw [slices_IndexFunc_int_int__arePairs_1.l0]) ?_, by simp [hp]⟩
      simp only [show ((pre.length : Int) < (P.length : Int)) from by omega, show (0 : Int) ≤ (pre.length : Int) from by omega, e, arePairs1_eq h1 h7, Option.bind_some, hp, Bool.not_false, ↓reduceIte]
      exact Ev.some _
    | true =>
      refine ⟨v, Ev.step (fun k => by rw [slices_IndexFunc_int_int__arePairs_1.l0]) ?_, by simp [hp, hd]⟩
      simp only [show ((pre.length : Int) < (P.length : Int)) from by omega, show (0 : Int) ≤ (pre.length : Int) from by omega, e, arePairs1_eq h1 h7, Option.bind_some, hp, Bool.not_true, Bool.false_eq_true, ↓reduceIte]
      rw [wnext (n := P.length) (by omega) (by omega)]
      exact hv
theorem arePairs_ev {n : Int} (h1 : 1 ≤ n) (h7 : n ≤ 7) (P : List (List Int)) (hl : P.length ≤ 1048576) : Ev (fun k => impl_arePairs.f k n P) (decide (P.length ≤ 40) && P.all (pairB n)) := by
  unfold impl_arePairs.f
  by_cases h : P.length ≤ 40
  · obtain ⟨v, hv, hd⟩ := idx_pairs h1 h7 P hl P [] rfl
    simp only [show ((P.length : Int) ≤ 40) from by omega, ↓reduceIte]
    have : Ev (fun k => slices_ContainsFunc_int_int__arePairs_1.f k P [n]) (decide (v ≥ 0)) := by
      unfold slices_ContainsFunc_int_int__arePairs_1.f slices_IndexFunc_int_int__arePairs_1.f
      exact Ev.bind hv (Ev.some _)
    refine Ev.bind this ((Ev.some _).eq ?_)
    rw [hd, decide_eq_true h, Bool.true_and, List.not_any_eq_all_not]
    simp
  · simp only [show ¬ ((P.length : Int) ≤ 40) from by omega, ↓reduceIte]
    exact (Ev.some _).eq (by simp [h])
theorem orderSpace11_eq {m : Nat} (m7 : m ≤ 7) {x : Nat} (hx : x < 128) {r : List Int} (h : pairB (m : Int) r = true) : impl_orderSpace_1_1.f r [(x : Int)] = some (!keepB x r) := by
  obtain ⟨a, b, rfl, ha, hb, _⟩ := pairB_of h
  have ea : rd [(a : Int), (b : Int)] 0 = (a : Int) := rfl
  have eb : rd [(a : Int), (b : Int)] 1 = (b : Int) := rfl
  have ex : rd [(x : Int)] 0 = (x : Int) := rfl
  unfold impl_orderSpace_1_1.f
  simp only [List.length_cons, List.length_nil, ea, eb, ex, keepB_two, bitAnd (show x < 2 ^ 62 from by omega) (show b ≤ 64 from by omega), bitAnd (show x < 2 ^ 62 from by omega) (show a ≤ 64 from by omega), show (0 : Int) ≤ (a : Int) from by omega, show (0 : Int) ≤ (b : Int) from by omega]
  cases x.testBit a <;> cases x.testBit b <;> simp
theorem idx_keep {m : Nat} (m7 : m ≤ 7) {x : Nat} (hx : x < 128) (P : List (List Int)) (hl : P.length ≤ 1048576) (hp : ∀ r ∈ P, pairB (m : Int) r = true) : ∀ rest pre : List (List Int), pre ++ rest = P →
    ∃ v, Ev (fun k => slices_IndexFunc_int_int__orderSpace_1_1.l0 k P (P.length : Int) (pre.length : Int) [(x : Int)]) v ∧ (decide (v ≥ 0) = rest.any fun r => !keepB x r) := by
  intro rest
  induction rest with
  | nil =>
    intro pre h
    obtain rfl : pre = P := by simpa using h
    refine ⟨-1, Ev.step (fun k => by rw [slices_IndexFunc_int_int__orderSpace_1_1.l0]) ?_, rfl⟩
    simp only [show ¬ ((pre.length : Int) < (pre.length : Int)) from by omega, ↓reduceIte]
    exact Ev.some _
  | cons r rest ih =>
    intro pre h
    have hlen : P.length = pre.length + (rest.length + 1) := by rw [← h]; simp
    have e : rd_L3 P (pre.length : Int) = r := by rw [← h]; exact rdL_mid _ _ _
    have hr := hp r (by rw [← h]; simp)
    obtain ⟨v, hv, hd⟩ := ih (pre ++ [r]) (by simp [h])
    rw [List.length_append, List.length_singleton] at hv
    cases hk : keepB x r with
    | false =>
      refine ⟨(pre.length : Int), Ev.step (fun k => by rw [slices_IndexFunc_int_int__orderSpace_1_1.l0]) ?_, by simp [hk]⟩
      simp only [show ((pre.length : Int) < (P.length : Int)) from by omega, show (0 : Int) ≤ (pre.length : Int) from by omega, e, orderSpace11_eq m7 hx hr, Option.bind_some, hk, Bool.not_false, ↓reduceIte]
      exact Ev.some _
    | true =>
      refine ⟨v, Ev.step (fun k => by rw [slices_IndexFunc_int_int__orderSpace_1_1.l0]) ?_, by simp [hk, hd]⟩
      simp only [show ((pre.length : Int) < (P.length : Int)) from by omega, show (0 : Int) ≤ (pre.length : Int) from by omega, e, orderSpace11_eq m7 hx hr, Option.bind_some, hk, Bool.not_true, Bool.false_eq_true, ↓reduceIte]
      rw [wnext (n := P.length) (by omega) (by omega)]
      exact hv
theorem orderSpace1_ev {m : Nat} (m7 : m ≤ 7) {x : Nat} (hx : x < 128) (P : List (List Int)) (hl : P.length ≤ 1048576) (hp : ∀ r ∈ P, pairB (m : Int) r = true) : Ev (fun k => impl_orderSpace_1.f k (x : Int) [P]) (P.all (keepB x)) := by
  have e : rd_L4 [P] 0 = P := rfl
  unfold impl_orderSpace_1.f
  simp only [List.length_singleton, show ((0 : Int) < ((1 : Nat) : Int)) from by omega, ↓reduceIte, e]
  obtain ⟨v, hv, hd⟩ := idx_keep m7 hx P hl hp P [] rfl
  have : Ev (fun k => slices_ContainsFunc_int_int__orderSpace_1_1.f k P [(x : Int)]) (decide (v ≥ 0)) := by
    unfold slices_ContainsFunc_int_int__orderSpace_1_1.f slices_IndexFunc_int_int__orderSpace_1_1.f
    exact Ev.bind hv (Ev.some _)
  refine Ev.bind this ((Ev.some _).eq ?_)
  rw [hd, List.not_any_eq_all_not]
  simp
theorem those_order_loop {m : Nat} (m7 : m ≤ 7) (p : Nat → Bool) (q : List (List (List Int))) (hp : ∀ x : Nat, x < 2 ^ m → Ev (fun k => impl_orderSpace_1.f k (x : Int) q) (p x)) : ∀ d c : Nat, c + d = 2 ^ m →
    Ev (fun k => impl_those__orderSpace_1.l0 k ((2 ^ m : Nat) : Int) (c : Int) q (m : Int) (castL (upN p c))) ((m : Int), castL (upN p (2 ^ m))) := by
  have hp2 := pow_le_128 m7
  intro d
  induction d with
  | zero =>
    intro c h
    obtain rfl : c = 2 ^ m := by omega
    refine Ev.step (fun k => by rw [impl_those__orderSpace_1.l0]) ?_
    simp only [show ¬ (((2 ^ m : Nat) : Int) < ((2 ^ m : Nat) : Int)) from by omega, ↓reduceIte]
    exact Ev.some _
  | succ d ih =>
    intro c h
    have hc : c < 2 ^ m := by omega
    have hn := ih (c + 1) (by omega)
    rw [upN_succ] at hn
    have hl := upN_le p c
    refine Ev.step (fun k => by rw [impl_those__orderSpace_1.l0]) ?_
    simp only [show ((c : Int) < ((2 ^ m : Nat) : Int)) from by omega, ↓reduceIte]
    refine Ev.bind (hp c hc) ?_
    rw [wnext (n := 2 ^ m) hc (by omega)]
    by_cases hpc : p c = true
    · simp only [hpc, ↓reduceIte, castL_length, show (upN p c).length < 17592186044416 from by omega, castL_snoc] at hn ⊢
      exact hn
    · simp only [hpc, ↓reduceIte] at hn ⊢
      exact hn
theorem those_order_ev {m : Nat} (m7 : m ≤ 7) (p : Nat → Bool) (q : List (List (List Int))) (hp : ∀ x : Nat, x < 2 ^ m → Ev (fun k => impl_orderSpace_1.f k (x : Int) q) (p x)) :
    Ev (fun k => impl_those__orderSpace_1.f k (m : Int) q) ((m : Int), castL (upN p (2 ^ m))) := by
  unfold impl_those__orderSpace_1.f
  simp only [show (0 : Int) ≤ (m : Int) from by omega, shl1 (show m ≤ 61 from by omega), ↓reduceIte]
  simpa [upN, castL_nil] using those_order_loop m7 p q hp (2 ^ m) 0 (by omega)

/-! ### the reference -/
theorem spec_pairs_loop {m : Nat} (m1 : 1 ≤ m) (m7 : m ≤ 7) (P : List (List Int)) (hl : P.length ≤ 1048576) (v : Int × List Int × Bool) (hg : P.all (pairB (m : Int)) = true → Ev (fun k => spec_OrderSpace.l1 k (m : Int) P 0 (m : Int) []) v) (hb : P.all (pairB (m : Int)) = false → v = (0, [], false)) :
    ∀ rest pre : List (List Int), pre ++ rest = P → pre.all (pairB (m : Int)) = true →
    Ev (fun k => spec_OrderSpace.l0 k (m : Int) P P (P.length : Int) (pre.length : Int)) v := by
  have hw : wrap64 ((m : Int) - 1) = (m : Int) - 1 := w64 (by omega) (by omega)
  intro rest
  induction rest with
  | nil =>
    intro pre h hpre
    obtain rfl : pre = P := by simpa using h
    refine Ev.step (fun k => by rw [spec_OrderSpace.l0]) ?_
    simp only [show ¬ ((pre.length : Int) < (pre.length : Int)) from by omega, ↓reduceIte]
    exact hg hpre
  | cons r rest ih =>
    intro pre h hpre
    have hlen : P.length = pre.length + (rest.length + 1) := by rw [← h]; simp
    have e : rd_L3 P (pre.length : Int) = r := by rw [← h]; exact rdL_mid _ _ _
    refine Ev.step (fun k => by rw [spec_OrderSpace.l0]) ?_
    simp only [show ((pre.length : Int) < (P.length : Int)) from by omega, show (0 : Int) ≤ (pre.length : Int) from by omega, e, hw, ↓reduceIte]
    have hbad : pairB (m : Int) r = false → v = (0, [], false) := fun hr => hb (by rw [← h]; simp [hr])
    have hgood : pairB (m : Int) r = true → Ev (fun k => spec_OrderSpace.l0 k (m : Int) P P (P.length : Int) (wrap64 ((pre.length : Int) + 1))) v := by
      intro hr
      have := ih (pre ++ [r]) (by simp [h]) (by simp [hr]; simpa using hpre)
      rw [List.length_append, List.length_singleton] at this
      rw [wnext (n := P.length) (by omega) (by omega)]
      exact this
    by_cases hl2 : r.length = 2
    · match r, hl2, hbad, hgood with
      | [a, b], _, hbad, hgood =>
        have ea : rd [a, b] 0 = a := rfl
        have eb : rd [a, b] 1 = b := rfl
        simp only [List.length_cons, List.length_nil, ea, eb, show (((0 + 1 + 1 : Nat) : Int) = 2) from rfl, show ((0 : Int) < 2) from by omega, show ((1 : Int) < 2) from by omega, ↓reduceIte]
        refine Ev.bind (l1All_ev [a, b] (by simp) 0 ((m : Int) - 1)) ?_
        by_cases hab : (0 ≤ a ∧ a ≤ (m : Int) - 1) ∧ (0 ≤ b ∧ b ≤ (m : Int) - 1)
        · have ht : ([a, b].all fun x => decide (0 ≤ x ∧ x ≤ (m : Int) - 1)) = true := by simp [hab]
          simp only [ht, ↓reduceIte]
          by_cases he : a = b
          · simp only [he, ↓reduceIte]
            rw [hbad (by simp [pairB, he])]
            exact Ev.some _
          · simp only [he, ↓reduceIte]
            exact hgood (by simp only [pairB, decide_eq_true_eq]; exact ⟨hab.1, hab.2, he⟩)
        · have ht : ([a, b].all fun x => decide (0 ≤ x ∧ x ≤ (m : Int) - 1)) = false := by
            rw [Bool.eq_false_iff]
            intro hh
            simp only [List.all_cons, List.all_nil, Bool.and_true, Bool.and_eq_true, decide_eq_true_eq] at hh
            exact hab hh
          simp only [ht, ↓reduceIte, Bool.false_eq_true]
          rw [hbad (by simp only [pairB, decide_eq_false_iff_not]; exact fun hh => hab ⟨hh.1, hh.2.1⟩)]
          exact Ev.some _
    · have hp : pairB (m : Int) r = false := by
        match r, hl2 with
        | [], _ => rfl
        | [_], _ => rfl
        | [_, _], hl => exact absurd rfl hl
        | _ :: _ :: _ :: _, _ => rfl
      simp only [show ¬ ((r.length : Int) = 2) from by omega, ↓reduceIte]
      rw [hbad hp]
      exact Ev.some _
theorem spec_keep_loop {m : Nat} (m7 : m ≤ 7) (P : List (List Int)) (hl : P.length ≤ 1048576) (hp : ∀ r ∈ P, pairB (m : Int) r = true) {x : Nat} (hx : x < 128) (L : List Int) (v : Int × List Int × Bool) : ∀ (rest pre : List (List Int)) (g : Bool), pre ++ rest = P →
    Ev (fun k => if (g && rest.all (keepB x)) = true then (if L.length < 17592186044416 then (spec_OrderSpace.l1 k (m : Int) P (wrap64 ((x : Int) + 1)) (m : Int) (L ++ [(x : Int)])) else none) else spec_OrderSpace.l1 k (m : Int) P (wrap64 ((x : Int) + 1)) (m : Int) L) v →
    Ev (fun k => spec_OrderSpace.l2 k (m : Int) P (x : Int) g P (P.length : Int) (pre.length : Int) (m : Int) L) v := by
  intro rest
  induction rest with
  | nil =>
    intro pre g h hv
    obtain rfl : pre = P := by simpa using h
    refine Ev.step (fun k => by rw [spec_OrderSpace.l2]) ?_
    simp only [show ¬ ((pre.length : Int) < (pre.length : Int)) from by omega, ↓reduceIte]
    simpa using hv
  | cons r rest ih =>
    intro pre g h hv
    have hlen : P.length = pre.length + (rest.length + 1) := by rw [← h]; simp
    have e : rd_L3 P (pre.length : Int) = r := by rw [← h]; exact rdL_mid _ _ _
    have hr := hp r (by rw [← h]; simp)
    obtain ⟨a, b, rfl, ha, hb, _⟩ := pairB_of hr
    have ea : rd [(a : Int), (b : Int)] 0 = (a : Int) := rfl
    have eb : rd [(a : Int), (b : Int)] 1 = (b : Int) := rfl
    have ee : (g && ([(a : Int), (b : Int)] :: rest).all (keepB x)) = ((g && keepB x [(a : Int), (b : Int)]) && rest.all (keepB x)) := by rw [List.all_cons, Bool.and_assoc]
    rw [ee] at hv
    have hn : ∀ g' : Bool, (g && keepB x [(a : Int), (b : Int)]) = g' → Ev (fun k => spec_OrderSpace.l2 k (m : Int) P (x : Int) g' P (P.length : Int) (wrap64 ((pre.length : Int) + 1)) (m : Int) L) v := by
      intro g' hg'
      have := ih (pre ++ [[(a : Int), (b : Int)]]) g' (by simp [h]) (by subst hg'; exact hv)
      rw [List.length_append, List.length_singleton] at this
      rw [wnext (n := P.length) (by omega) (by omega)]
      exact this
    rw [keepB_two] at hn
    refine Ev.step (fun k => by rw [spec_OrderSpace.l2]) ?_
    simp only [show ((pre.length : Int) < (P.length : Int)) from by omega, show (0 : Int) ≤ (pre.length : Int) from by omega, e, ea, eb, List.length_cons, List.length_nil, show (((0 + 1 + 1 : Nat) : Int) = 2) from rfl, show ((0 : Int) < 2) from by omega, show ((1 : Int) < 2) from by omega, spIn_eq x b (by omega), spIn_eq x a (by omega), Option.bind_some, ↓reduceIte]
    cases g with
    | false =>
      simp only [Bool.false_eq_true, ↓reduceIte]
      exact hn false rfl
    | true =>
      simp only [↓reduceIte]
      cases hbx : x.testBit b with
      | false =>
        simp only [Bool.false_eq_true, ↓reduceIte]
        exact hn true (by simp [hbx])
      | true =>
        simp only [↓reduceIte]
        exact hn _ (by simp [hbx])
theorem spec_order_loop {m : Nat} (m7 : m ≤ 7) (P : List (List Int)) (hl : P.length ≤ 1048576) (hp : ∀ r ∈ P, pairB (m : Int) r = true) (p : Nat → Bool) (hpd : p = fun x => P.all (keepB x)) (v : Int × List Int × Bool) (hv : Ev (fun k => spec_spIf.f k (m : Int) (castL (upN p (2 ^ m)))) v) : ∀ d c : Nat, c + d = 2 ^ m →
    Ev (fun k => spec_OrderSpace.l1 k (m : Int) P (c : Int) (m : Int) (castL (upN p c))) v := by
  have hp2 := pow_le_128 m7
  intro d
  induction d with
  | zero =>
    intro c h
    obtain rfl : c = 2 ^ m := by omega
    refine Ev.step (fun k => by rw [spec_OrderSpace.l1]) ?_
    simp only [show (0 : Int) ≤ (m : Int) from by omega, shl1 (show m ≤ 61 from by omega), show ¬ (((2 ^ m : Nat) : Int) < ((2 ^ m : Nat) : Int)) from by omega, ↓reduceIte]
    exact Ev.bind hv ((Ev.some _).eq rfl)
  | succ d ih =>
    intro c h
    have hc : c < 2 ^ m := by omega
    have hn := ih (c + 1) (by omega)
    rw [upN_succ] at hn
    have hlu := upN_le p c
    refine Ev.step (fun k => by rw [spec_OrderSpace.l1]) ?_
    simp only [show (0 : Int) ≤ (m : Int) from by omega, shl1 (show m ≤ 61 from by omega), show ((c : Int) < ((2 ^ m : Nat) : Int)) from by omega, ↓reduceIte]
    refine spec_keep_loop m7 P hl hp (show c < 128 by omega) _ v P [] true rfl ?_
    rw [wnext (n := 2 ^ m) hc (by omega)]
    have hpc : (true && P.all (keepB c)) = p c := by rw [hpd]; simp
    rw [hpc]
    by_cases hpc : p c = true
    · simp only [hpc, ↓reduceIte, castL_length, show (upN p c).length < 17592186044416 from by omega, castL_snoc] at hn ⊢
      exact hn
    · simp only [hpc, ↓reduceIte] at hn ⊢
      exact hn
theorem OrderSpace_both (P : List (List Int)) (hl : P.length ≤ 1048576) (hrow : ∀ x ∈ P, x.length ≤ 1048576) (n : Int) : ∃ (n' : Int) (L : List Int) (b : Bool), L.length ≤ 1048576 ∧ Ev (fun k => spec_OrderSpace.f k n P) (n', L, b) ∧ Ev (fun k => impl_OrderSpace.f k n P) (n', L, b) := by
  have e3 : rd_L4 [P] 0 = P := rfl
  have hj : ∀ v, Ev (fun k => impl_orderSpace.f k n P) v → Ev (fun k => impl_OrderSpace.f k n P) v := by
    intro v hv
    unfold impl_OrderSpace.f
    exact Ev.bind hv ((Ev.some _).eq rfl)
  have hno : ∀ q, Ev (fun k => impl_orderSpace.j0 k n q true) (0, [], false) := by
    intro q
    refine Ev.step (fun k => by rw [impl_orderSpace.j0]) ?_
    simp only [↓reduceIte]; exact Ev.some _
  have hno2 : Ev (fun k => spec_OrderSpace.j0 k n P true) (0, [], false) := by
    refine Ev.step (fun k => by rw [spec_OrderSpace.j0]) ?_
    simp only [↓reduceIte]; exact Ev.some _
  by_cases h : 1 ≤ n ∧ n ≤ 7
  rotate_left
  · refine ⟨0, [], false, by simp, ?_, hj _ ?_⟩
    · unfold spec_OrderSpace.f
      simp only [spItems_eq, Option.bind_some, decide_eq_false h, ↓reduceIte, Bool.false_eq_true]
      exact hno2
    · unfold impl_orderSpace.f
      simp only [isSize_eq, Option.bind_some, decide_eq_false h, ↓reduceIte, Bool.false_eq_true]
      exact hno _
  obtain ⟨m, rfl⟩ := Int.eq_ofNat_of_zero_le (show 0 ≤ n by omega)
  have m7 : m ≤ 7 := by omega
  have m1 : 1 ≤ m := by omega
  have hp2 := pow_le_128 m7
  have himp : ∀ v, Ev (fun k => impl_orderSpace.j0 k (m : Int) [P] (!(decide (P.length ≤ 40) && P.all (pairB (m : Int))))) v → Ev (fun k => impl_OrderSpace.f k (m : Int) P) v := by
    intro v hv
    refine hj _ ?_
    unfold impl_orderSpace.f
    simp only [isSize_eq, Option.bind_some, decide_eq_true h, ↓reduceIte, List.length_singleton, show ((0 : Int) < ((1 : Nat) : Int)) from by omega, e3]
    exact Ev.bind (arePairs_ev h.1 h.2 P hl) hv
  have hspec : ∀ v, Ev (fun k => spec_OrderSpace.j0 k (m : Int) P (decide ((P.length : Int) > 40))) v → Ev (fun k => spec_OrderSpace.f k (m : Int) P) v := by
    intro v hv
    unfold spec_OrderSpace.f
    simp only [spItems_eq, Option.bind_some, decide_eq_true h, ↓reduceIte]
    exact hv
  by_cases h40 : P.length ≤ 40
  rotate_left
  · refine ⟨0, [], false, by simp, hspec _ ?_, himp _ ?_⟩
    · simp only [decide_eq_true (show ((P.length : Int) > 40) from by omega)]; exact hno2
    · simp only [decide_eq_false h40, Bool.false_and, Bool.not_false]; exact hno _
  simp only [decide_eq_true h40, Bool.true_and] at himp
  simp only [decide_eq_false (show ¬ ((P.length : Int) > 40) from by omega)] at hspec
  cases hall : P.all (pairB (m : Int)) with
  | false =>
    refine ⟨0, [], false, by simp, hspec _ ?_, himp _ ?_⟩
    · refine Ev.step (fun k => by rw [spec_OrderSpace.j0]) ?_
      simp only [↓reduceIte, Bool.false_eq_true]
      exact spec_pairs_loop m1 m7 P hl _ (fun hh => by rw [hall] at hh; cases hh) (fun _ => rfl) P [] rfl rfl
    · rw [hall]; exact hno _
  | true =>
    have hp : ∀ r ∈ P, pairB (m : Int) r = true := List.all_eq_true.1 hall
    obtain ⟨p, hpd⟩ : ∃ p : Nat → Bool, p = fun x => P.all (keepB x) := ⟨_, rfl⟩
    have hlu := upN_le p (2 ^ m)
    have hgs := spec_spGood_ev (m : Int) (castL (upN p (2 ^ m))) (by rw [castL_length]; omega)
    have hgi := impl_IsSpace_ev (m : Int) (castL (upN p (2 ^ m))) (by rw [castL_length]; omega)
    have hs : ∀ v, Ev (fun k => spec_spIf.f k (m : Int) (castL (upN p (2 ^ m)))) v → Ev (fun k => spec_OrderSpace.f k (m : Int) P) v := by
      intro v hv
      refine hspec _ ?_
      refine Ev.step (fun k => by rw [spec_OrderSpace.j0]) ?_
      simp only [↓reduceIte, Bool.false_eq_true]
      refine spec_pairs_loop m1 m7 P hl _ (fun _ => ?_) (fun hh => by rw [hall] at hh; cases hh) P [] rfl rfl
      simpa [upN, castL_nil] using spec_order_loop m7 P hl hp p hpd v hv (2 ^ m) 0 (by omega)
    have hi : ∀ v, Ev (fun k => (impl_IsSpace.f k (m : Int) (castL (upN p (2 ^ m)))).bind fun t => (if t = true then (some ((m : Int), castL (upN p (2 ^ m)), true)) else (some (0, ([] : List Int), false)))) v → Ev (fun k => impl_OrderSpace.f k (m : Int) P) v := by
      intro v hv
      refine himp _ ?_
      rw [hall]
      refine Ev.step (fun k => by rw [impl_orderSpace.j0]) ?_
      simp only [Bool.not_true, Bool.false_eq_true, ↓reduceIte]
      exact Ev.bind (those_order_ev m7 p [P] (fun x hx => by rw [hpd]; exact orderSpace1_ev m7 (by omega) P hl hp)) hv
    cases hgd : goodB (m : Int) (castL (upN p (2 ^ m))) with
    | true =>
      rw [hgd] at hgs hgi
      refine ⟨(m : Int), castL (upN p (2 ^ m)), true, by rw [castL_length]; omega, hs _ ?_, hi _ ?_⟩
      · unfold spec_spIf.f
        exact Ev.bind hgs (by simp only [↓reduceIte]; exact Ev.some _)
      · exact Ev.bind hgi (by simp only [↓reduceIte]; exact Ev.some _)
    | false =>
      rw [hgd] at hgs hgi
      refine ⟨0, [], false, by simp, hs _ ?_, hi _ ?_⟩
      · unfold spec_spIf.f
        exact Ev.bind hgs (by simp only [↓reduceIte, Bool.false_eq_true]; exact Ev.some _)
      · exact Ev.bind hgi (by simp only [↓reduceIte, Bool.false_eq_true]; exact Ev.some _)
end Go.Proofs.Ytpliebmaagoahaa.Q
