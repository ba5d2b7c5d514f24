/- The space of a tree: both; conditions: as each theorem states. -/
import Derived.Test.YtnpfkbfmipnofaaCFnExactTreeSpaceQUp
import Derived.Test.YtnpfkbfmipnofaaCFnExactTreeSpaceQTree
import Derived.Test.YtnpfkbfmipnofaaCFnExactTreeSpaceQGood
import Derived.Test.YtnpfkbfmipnofaaCFnExactTreeSpaceP4
namespace Go.Proofs.Ytnpfkbfmipnofaa.Q
open Go.RowKit Go.Proofs.YtnpfkbfmipnofaaW.PrintWords Go.Proofs.YtnpfkbfmipnofaaW.PrintLast Go.Proofs.YtnpfkbfmipnofaaW.PrintMore Go.Proofs.Ytnpfkbfmipnofaa.P
set_option linter.unusedVariables false
set_option linter.unusedSimpArgs false

theorem impl_those__TreeSpace_1_loop {m : Nat} (m7 : m ≤ 7) (p : Nat → Bool) (g : List S58) (hp : ∀ x : Nat, x < 2 ^ m → Ev (fun k => impl_TreeSpace_1.f k (x : Int) g) (p x)) : ∀ d c : Nat, c + d = 2 ^ m →
    Ev (fun k => impl_those__TreeSpace_1.l0 k ((2 ^ m : Nat) : Int) (c : Int) g (m : Int) (castL (upN p c))) ((m : Int), castL (upN p (2 ^ m))) := by
  have hp2 := pow_le_128 m7
  intro d
  induction d with
  | zero =>
    intro c h
    obtain rfl : c = 2 ^ m := by omega
    refine Ev.step (fun k => by rw [impl_those__TreeSpace_1.l0]) ?_
    simp only [show ¬ (((2 ^ m : Nat) : Int) < ((2 ^ m : Nat) : Int)) from by omega, ↓reduceIte]
    exact Ev.some _
  | succ d ih =>
    intro c h
    have hc : c < 2 ^ m := by omega
    have hn := ih (c + 1) (by omega)
    rw [upN_succ] at hn
    have hl := upN_le p c
    refine Ev.step (fun k => by rw [impl_those__TreeSpace_1.l0]) ?_
    simp only [show ((c : Int) < ((2 ^ m : Nat) : Int)) from by omega, ↓reduceIte]
    refine Ev.bind (hp c hc) ?_
    rw [wnext (n := 2 ^ m) hc (by omega)]
    by_cases hpc : p c = true
    · simp only [hpc, ↓reduceIte, castL_length, show (upN p c).length < 17592186044416 from by omega, castL_snoc] at hn ⊢
      exact hn
    · simp only [hpc, ↓reduceIte] at hn ⊢
      exact hn
theorem impl_those__TreeSpace_1_ev {m : Nat} (m7 : m ≤ 7) (p : Nat → Bool) (g : List S58) (hp : ∀ x : Nat, x < 2 ^ m → Ev (fun k => impl_TreeSpace_1.f k (x : Int) g) (p x)) :
    Ev (fun k => impl_those__TreeSpace_1.f k (m : Int) g) ((m : Int), castL (upN p (2 ^ m))) := by
  unfold impl_those__TreeSpace_1.f
  simp only [show (0 : Int) ≤ (m : Int) from by omega, shl1 (show m ≤ 61 from by omega), ↓reduceIte]
  simpa [upN, castL_nil] using impl_those__TreeSpace_1_loop m7 p g hp (2 ^ m) 0 (by omega)
/-- Is a set joined within itself: both. -/
theorem joined_both {T : List Nat} (h : NetN T) {c : Nat} (hc : c < 2 ^ T.length) : ∃ b : Bool, Ev (fun k => impl_Net_connected.f k (castL T) (c : Int)) b ∧ Ev (fun k => spec_shJoined.f k (castL T) (c : Int)) b := by
  have hl7 := h.l7
  have hp2 := pow_le_128 hl7
  have hc2 : c < 128 := by omega
  cases hI : itemsN c with
  | nil =>
    obtain rfl : c = 0 := items_none ⟨c, hc2⟩ hI
    refine ⟨true, ?_, ?_⟩
    · unfold impl_Net_connected.f
      simp only [Int.natCast_zero, ↓reduceIte]
      exact Ev.some _
    · unfold spec_shJoined.f
      rw [castL_length]
      have : ∀ d i : Nat, i + d = T.length → Ev (fun k => spec_shJoined.l0 k ((0 : Nat) : Int) (T.length : Int) (i : Int) (castL T)) true := by
        intro d
        induction d with
        | zero =>
          intro i e
          obtain rfl : i = T.length := by omega
          refine Ev.step (fun k => by rw [spec_shJoined.l0]) ?_
          simp only [show ¬ ((T.length : Int) < (T.length : Int)) from by omega, ↓reduceIte]
          exact Ev.some _
        | succ d ih =>
          intro i e
          have hn := ih (i + 1) (by omega)
          rw [← wnext (n := T.length) (by omega) (by omega)] at hn
          refine Ev.step (fun k => by rw [spec_shJoined.l0]) ?_
          simp only [show ((i : Int) < (T.length : Int)) from by omega, spIn_eq 0 i (by omega), Nat.zero_testBit, Option.bind_some, ↓reduceIte, Bool.false_eq_true]
          exact hn
      exact this T.length 0 (by omega)
  | cons i rest =>
    have him : i ∈ itemsN c := by rw [hI]; simp
    obtain ⟨hi7, hb⟩ := mem_itemsN.1 him
    obtain ⟨_, hleast⟩ := first_item' ⟨c, hc2⟩ ⟨i, hi7⟩ (by simp [hI])
    have hi : i < T.length := by
      rcases Nat.lt_or_ge i T.length with h1 | h1
      · exact h1
      · rw [Nat.testBit_lt_two_pow (Nat.lt_of_lt_of_le hc (Nat.pow_le_pow_right (by omega) h1))] at hb; cases hb
    have hc0 : c ≠ 0 := by rintro rfl; rw [Nat.zero_testBit] at hb; cases hb
    obtain ⟨F, hF, _, e1, e2⟩ := reach_both h hi hc2
    refine ⟨F == c, ?_, ?_⟩
    · unfold impl_Net_connected.f
      simp only [show ¬ ((c : Int) = 0) from by omega, ↓reduceIte]
      refine Ev.bind (items_ev hc2) ?_
      have er : rd (castL (i :: rest)) 0 = (i : Int) := rd_castL_mid [] i rest
      rw [hI]
      simp only [er, castL_length, List.length_cons, show ((0 : Int) < ((rest.length + 1 : Nat) : Int)) from by omega, ↓reduceIte]
      exact Ev.bind e1 ((Ev.some _).eq (by rw [Bool.eq_iff_iff, beq_iff_eq, beq_iff_eq]; omega))
    · unfold spec_shJoined.f
      rw [castL_length]
      have : ∀ d j : Nat, j + d = i → Ev (fun k => spec_shJoined.l0 k (c : Int) (T.length : Int) (j : Int) (castL T)) (F == c) := by
        intro d
        induction d with
        | zero =>
          intro j e
          obtain rfl : j = i := by omega
          refine Ev.step (fun k => by rw [spec_shJoined.l0]) ?_
          simp only [show ((j : Int) < (T.length : Int)) from by omega, spIn_eq c j (by omega), hb, Option.bind_some, ↓reduceIte]
          exact Ev.bind e2 ((Ev.some _).eq (by rw [Bool.eq_iff_iff, beq_iff_eq, beq_iff_eq]; omega))
        | succ d ih =>
          intro j e
          have hn := ih (j + 1) (by omega)
          rw [← wnext (n := T.length) (by omega) (by omega)] at hn
          have hj : c.testBit j = false := hleast ⟨j, by omega⟩ (by show j < i; omega)
          refine Ev.step (fun k => by rw [spec_shJoined.l0]) ?_
          simp only [show ((j : Int) < (T.length : Int)) from by omega, spIn_eq c j (by omega), hj, Option.bind_some, ↓reduceIte, Bool.false_eq_true]
          exact hn
      exact this i 0 (by omega)
theorem TreeSpace_loop {T : List Nat} {n : Nat} (n7 : n ≤ 7) (p : Nat → Bool) (hp : ∀ x : Nat, x < 2 ^ n → Ev (fun k => spec_shJoined.f k (castL T) ((andn (2 ^ n - 1) x : Nat) : Int)) (p x)) : ∀ d c : Nat, c + d = 2 ^ n →
    Ev (fun k => spec_TreeSpace.l0 k ((2 ^ n - 1 : Nat) : Int) (c : Int) (castL T) (n : Int) (castL (upN p c))) ((n : Int), castL (upN p (2 ^ n)), true) := by
  have hp2 := pow_le_128 n7
  intro d
  induction d with
  | zero =>
    intro c h
    obtain rfl : c = 2 ^ n := by omega
    have hpos : 0 < 2 ^ n := Nat.two_pow_pos _
    refine Ev.step (fun k => by rw [spec_TreeSpace.l0]) ?_
    simp only [show ¬ (((2 ^ n : Nat) : Int) ≤ ((2 ^ n - 1 : Nat) : Int)) from by omega, ↓reduceIte]
    exact Ev.some _
  | succ d ih =>
    intro c h
    have hc : c < 2 ^ n := by omega
    have hn := ih (c + 1) (by omega)
    rw [upN_succ] at hn
    have hl := upN_le p c
    refine Ev.step (fun k => by rw [spec_TreeSpace.l0]) ?_
    simp only [show ((c : Int) ≤ ((2 ^ n - 1 : Nat) : Int)) from by omega, bAndn (show 2 ^ n - 1 < 2 ^ 62 from by omega) (show c < 2 ^ 62 from by omega), ↓reduceIte]
    refine Ev.bind (hp c hc) ?_
    rw [wnext (n := 2 ^ n) hc (by omega)]
    by_cases hpc : p c = true
    · simp only [hpc, ↓reduceIte, castL_length, show (upN p c).length < 17592186044416 from by omega, castL_snoc] at hn ⊢
      exact hn
    · simp only [hpc, ↓reduceIte] at hn ⊢
      exact hn
theorem TreeSpace_both (S : List Int) (hS : S.length ≤ 1048576) : ∃ (n' : Int) (L : List Int) (b : Bool), L.length ≤ 1048576 ∧ Ev (fun k => spec_TreeSpace.f k S) (n', L, b) ∧ Ev (fun k => impl_TreeSpace.f k S) (n', L, b) := by
  have himp : ∀ v, Ev (fun k => (impl_IsNet.f k S).bind fun t => (if t = true then ((impl_Net_isTree.f k S).bind fun t => (if t = true then ((impl_those__TreeSpace_1.f k (S.length : Int) [(⟨S⟩ : S58)]).bind fun bt => (some (bt.1, bt.2, true))) else (some (0, ([] : List Int), false)))) else (some (0, ([] : List Int), false)))) v → Ev (fun k => impl_TreeSpace.f k S) v := by
    intro v hv
    unfold impl_TreeSpace.f
    simpa [rd_T58] using hv
  rcases net_cases (S := S) (by omega) with ⟨h1, h2⟩ | ⟨T, rfl, h, h1, h2⟩
  · have hno : Ev (fun k => spec_shTree.f k S) false := by
      unfold spec_shTree.f
      refine Ev.bind h2 ?_
      simp only [↓reduceIte, Bool.false_eq_true]
      refine Ev.step (fun k => by rw [spec_shTree.j0]) ?_
      simp only [↓reduceIte]; exact Ev.some _
    refine ⟨0, [], false, by simp, ?_, himp _ ?_⟩
    · unfold spec_TreeSpace.f
      refine Ev.bind hno ?_
      simp only [↓reduceIte, Bool.false_eq_true]; exact Ev.some _
    · refine Ev.bind h1 ?_
      simp only [↓reduceIte, Bool.false_eq_true]; exact Ev.some _
  · have hl7 := h.l7
    have hp2 := pow_le_128 hl7
    obtain ⟨b, t1, t2⟩ := tree_both h h2
    cases b with
    | false =>
      refine ⟨0, [], false, by simp, ?_, himp _ ?_⟩
      · unfold spec_TreeSpace.f
        refine Ev.bind t2 ?_
        simp only [↓reduceIte, Bool.false_eq_true]; exact Ev.some _
      · refine Ev.bind h1 ?_
        simp only [↓reduceIte]
        refine Ev.bind t1 ?_
        simp only [↓reduceIte, Bool.false_eq_true]; exact Ev.some _
    | true =>
      obtain ⟨p, hp⟩ : ∃ p : Nat → Bool, ∀ x, x < 2 ^ T.length → Ev (fun k => impl_Net_connected.f k (castL T) ((andn (2 ^ T.length - 1) x : Nat) : Int)) (p x) ∧ Ev (fun k => spec_shJoined.f k (castL T) ((andn (2 ^ T.length - 1) x : Nat) : Int)) (p x) := by
        have hpos : 0 < 2 ^ T.length := Nat.two_pow_pos _
        have hall : ∀ x, ∃ b : Bool, x < 2 ^ T.length → Ev (fun k => impl_Net_connected.f k (castL T) ((andn (2 ^ T.length - 1) x : Nat) : Int)) b ∧ Ev (fun k => spec_shJoined.f k (castL T) ((andn (2 ^ T.length - 1) x : Nat) : Int)) b := by
          intro x
          by_cases hx : x < 2 ^ T.length
          · obtain ⟨b, e1, e2⟩ := joined_both h (c := andn (2 ^ T.length - 1) x) (andn_lt (by omega))
            exact ⟨b, fun _ => ⟨e1, e2⟩⟩
          · exact ⟨false, fun h => absurd h hx⟩
        exact ⟨fun x => Classical.choose (hall x), fun x hx => Classical.choose_spec (hall x) hx⟩
      have hl := upN_le p (2 ^ T.length)
      refine ⟨(T.length : Int), castL (upN p (2 ^ T.length)), true, by rw [castL_length]; omega, ?_, himp _ ?_⟩
      · unfold spec_TreeSpace.f
        refine Ev.bind t2 ?_
        simp only [↓reduceIte, castL_length, pow1 (show T.length ≤ 61 from by omega)]
        simpa [upN, castL_nil] using TreeSpace_loop (T := T) hl7 p (fun x hx => (hp x hx).2) (2 ^ T.length) 0 (by omega)
      · refine Ev.bind h1 ?_
        simp only [↓reduceIte]
        refine Ev.bind t1 ?_
        simp only [↓reduceIte, castL_length]
        refine Ev.bind (impl_those__TreeSpace_1_ev hl7 p [(⟨castL T⟩ : S58)] (fun x hx => ?_)) (Ev.some _)
        have e := (hp x hx).1
        unfold impl_TreeSpace_1.f
        simp only [List.length_singleton, show ((0 : Int) < ((1 : Nat) : Int)) from by omega, ↓reduceIte, rd_T58, Int.toNat_zero, List.getD_cons_zero, allNet_eq (show T.length ≤ 61 from by omega), Option.bind_some, bAndn (show 2 ^ T.length - 1 < 2 ^ 62 from by omega) (show x < 2 ^ 62 from by omega)]
        exact Ev.bind e (Ev.some _)
end Go.Proofs.Ytnpfkbfmipnofaa.Q
