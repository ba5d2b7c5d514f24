/- The least space with the sets of two: both; conditions: as each theorem states. -/
import Derived.Test.YtekllaaohagefaaCFnExactUnionSpacesQClosedI
import Derived.Test.YtekllaaohagefaaCFnExactUnionSpacesQSp
import Derived.Test.YtekllaaohagefaaCFnExactUnionSpacesP5
namespace Go.Proofs.Ytekllaaohagefaa.Q
open Go.RowKit Go.Proofs.YtekllaaohagefaaW.PrintWords Go.Proofs.YtekllaaohagefaaW.PrintLast Go.Proofs.YtekllaaohagefaaW.PrintMore Go.Proofs.Ytekllaaohagefaa.P
set_option linter.unusedVariables false
set_option linter.unusedSimpArgs false

theorem union_loop (A B : List Nat) (hB : ∀ x ∈ B, x < 128) (hl : B.length ≤ 1099511627776) (n : Int) (S : List Int) (v : Int × List Int × Bool)
    (hv : Ev (fun k => (impl_family_closed.f k (famN fun y => decide (y ∈ A ++ B))).bind fun t572 => ((impl_family_space.f k t572 n).bind fun bt575 => (some (bt575.1, bt575.2, true)))) v) : ∀ rest pre : List Nat, pre ++ rest = B →
    Ev (fun k => impl_UnionSpaces.l0 k (famN fun y => decide (y ∈ A ++ pre)) (castL B) (B.length : Int) (pre.length : Int) n S) v := by
  intro rest
  induction rest with
  | nil =>
    intro pre h
    obtain rfl : pre = B := by simpa using h
    refine Ev.step (fun k => by rw [impl_UnionSpaces.l0]) ?_
    simp only [show ¬ ((pre.length : Int) < (pre.length : Int)) from by omega, ↓reduceIte]
    exact hv
  | cons x rest ih =>
    intro pre h
    have hx : x < 128 := hB x (by rw [← h]; simp)
    have hlen : B.length = pre.length + (rest.length + 1) := by rw [← h]; simp
    have e : rd (castL B) (pre.length : Int) = (x : Int) := by rw [← h]; exact rd_castL_mid _ _ _
    refine Ev.step (fun k => by rw [impl_UnionSpaces.l0]) ?_
    simp only [show ((pre.length : Int) < (B.length : Int)) from by omega, show (0 : Int) ≤ (pre.length : Int) from by omega, castL_length, e, famN_length,
      show (0 : Int) ≤ (x : Int) from by omega, show ((x : Int) < ((128 : Nat) : Int)) from by omega, show ((x : Int) < 128) from by omega, ↓reduceIte, Int.toNat_natCast, famN_set]
    rw [wnext (n := B.length) (by omega) hl]
    have := ih (pre ++ [x]) (by simp [h])
    refine Ev.congr (fun k => ?_) this
    rw [List.length_append, List.length_singleton]
    congr 1
    apply famN_congr
    intro y _
    rw [Bool.eq_iff_iff]
    simp [or_assoc]
theorem sunion_in {x : Nat} (hx : x < 128) (B : List Nat) (hB : ∀ y ∈ B, y < 128) (hl : B.length ≤ 128) (L : List Int) (nl i n n' : Int) (S : List Int) (v : Int × List Int × Bool) : ∀ (rest pre R : List Nat), pre ++ rest = B → Inc R → (∀ y ∈ R, y < 128) →
    Ev (fun k => spec_UnionSpaces.l0 k L nl (wrap64 (i + 1)) n (castL B) n' (castL (putL x rest R))) v →
    Ev (fun k => spec_UnionSpaces.l1 k (x : Int) L nl i (castL B) (B.length : Int) (pre.length : Int) n (castL B) n' (castL R)) v := by
  intro rest
  induction rest with
  | nil =>
    intro pre R e hI hR hr
    obtain rfl : pre = B := by simpa using e
    refine Ev.step (fun k => by rw [spec_UnionSpaces.l1]) ?_
    simp only [show ¬ ((pre.length : Int) < (pre.length : Int)) from by omega, ↓reduceIte]
    exact hr
  | cons y rest ih =>
    intro pre R e hI hR hr
    have hy : y < 128 := hB y (by rw [← e]; simp)
    have hxy : x ||| y < 128 := Nat.or_lt_two_pow (n := 7) hx hy
    have hlen : B.length = pre.length + (rest.length + 1) := by rw [← e]; simp
    have er : rd (castL B) (pre.length : Int) = (y : Int) := by rw [← e]; exact rd_castL_mid _ _ _
    have hRl := inc_len hI hR
    have hn := ih (pre ++ [y]) (insN (x ||| y) R) (by simp [e]) (inc_insN hI) (fun z hz => by
      rcases mem_insN.1 hz with rfl | hz
      · exact hxy
      · exact hR z hz) hr
    simp only [List.length_append, List.length_singleton] at hn
    refine Ev.step (fun k => by rw [spec_UnionSpaces.l1]) ?_
    simp only [show ((pre.length : Int) < (B.length : Int)) from by omega, show (0 : Int) ≤ (pre.length : Int) from by omega, castL_length, er, bOr (show x < 2 ^ 62 from by omega) (show y < 2 ^ 62 from by omega), ↓reduceIte]
    refine Ev.bind (spPut_ev R (by omega) _) ?_
    rw [wnext (n := B.length) (by omega) (by omega)]
    exact hn
theorem sunion_loop (A B : List Nat) (hA : ∀ x ∈ A, x < 128) (hB : ∀ y ∈ B, y < 128) (hlA : A.length ≤ 128) (hl : B.length ≤ 128) (n n' : Int) (S : List Int) (R' : List Nat) (hI' : Inc R') (hR' : ∀ z, z ∈ R' ↔ ∃ x ∈ A, ∃ y ∈ B, z = x ||| y) : ∀ (rest pre R : List Nat), pre ++ rest = A → Inc R → (∀ z, z ∈ R ↔ ∃ x ∈ pre, ∃ y ∈ B, z = x ||| y) →
    Ev (fun k => spec_UnionSpaces.l0 k (castL A) (A.length : Int) (pre.length : Int) n (castL B) n' (castL R)) (n', castL R', true) := by
  intro rest
  induction rest with
  | nil =>
    intro pre R e hI hR
    obtain rfl : pre = A := by simpa using e
    have : R = R' := inc_ext hI hI' (fun z => by rw [hR, hR'])
    subst this
    refine Ev.step (fun k => by rw [spec_UnionSpaces.l0]) ?_
    simp only [show ¬ ((pre.length : Int) < (pre.length : Int)) from by omega, ↓reduceIte]
    exact Ev.some _
  | cons x rest ih =>
    intro pre R e hI hR
    have hx : x < 128 := hA x (by rw [← e]; simp)
    have hlen : A.length = pre.length + (rest.length + 1) := by rw [← e]; simp
    have er : rd (castL A) (pre.length : Int) = (x : Int) := by rw [← e]; exact rd_castL_mid _ _ _
    have hRlt : ∀ y ∈ R, y < 128 := fun y hy => by
      obtain ⟨a, ha, b, hb, rfl⟩ := (hR y).1 hy
      exact Nat.or_lt_two_pow (n := 7) (hA a (by rw [← e]; simp [ha])) (hB b hb)
    have hn := ih (pre ++ [x]) (putL x B R) (by simp [e]) (putL_inc hI) (fun z => by
      rw [mem_putL, hR]
      constructor
      · rintro (⟨a, ha, b, hb, h⟩ | ⟨b, hb, h⟩)
        · exact ⟨a, by simp [ha], b, hb, h⟩
        · exact ⟨x, by simp, b, hb, h⟩
      · rintro ⟨a, ha, b, hb, h⟩
        rcases List.mem_append.1 ha with ha | ha
        · exact .inl ⟨a, ha, b, hb, h⟩
        · rw [List.mem_singleton] at ha
          subst ha
          exact .inr ⟨b, hb, h⟩)
    simp only [List.length_append, List.length_singleton] at hn
    rw [← wnext (n := A.length) (by omega) (by omega)] at hn
    refine Ev.step (fun k => by rw [spec_UnionSpaces.l0]) ?_
    simp only [show ((pre.length : Int) < (A.length : Int)) from by omega, show (0 : Int) ≤ (pre.length : Int) from by omega, castL_length, er, ↓reduceIte]
    exact sunion_in hx B hB hl _ _ _ n n' S _ B [] R rfl hI hRlt hn
theorem union_mem {m : Nat} {A B : List Nat} (hA : SpN m A) (hB : SpN m B) {z : Nat} : UC (· ∈ A ++ B) z ↔ ∃ x ∈ A, ∃ y ∈ B, z = x ||| y := by
  constructor
  · intro h
    induction h with
    | zero => exact ⟨0, hA.zero, 0, hB.zero, rfl⟩
    | @base x hx =>
      rcases List.mem_append.1 hx with hx | hx
      · exact ⟨x, hx, 0, hB.zero, by simp⟩
      · exact ⟨0, hA.zero, x, hx, by simp⟩
    | or _ _ ha hb =>
      obtain ⟨a, ha, b, hb', rfl⟩ := ha
      obtain ⟨c, hc, d, hd, rfl⟩ := hb
      refine ⟨a ||| c, hA.union a ha c hc, b ||| d, hB.union b hb' d hd, ?_⟩
      apply Nat.eq_of_testBit_eq
      intro i
      simp only [Nat.testBit_or]
      cases a.testBit i <;> cases b.testBit i <;> cases c.testBit i <;> cases d.testBit i <;> rfl
  · rintro ⟨x, hx, y, hy, rfl⟩
    exact .or (.base (by simp [hx])) (.base (by simp [hy]))
theorem UnionSpaces_both (n : Int) (S : List Int) (hS : S.length ≤ 1048576) (n2 : Int) (S2 : List Int) (hS2 : S2.length ≤ 1048576) : ∃ (n' : Int) (L : List Int) (b : Bool), L.length ≤ 1048576 ∧ Ev (fun k => spec_UnionSpaces.f k n S n2 S2) (n', L, b) ∧ Ev (fun k => impl_UnionSpaces.f k n S n2 S2) (n', L, b) := by
  have hSb : S.length ≤ 1099511627776 := by omega
  have hSb2 : S2.length ≤ 1099511627776 := by omega
  have hj : ∀ a b c d, Ev (fun k => impl_UnionSpaces.j0 k true a b c d) (0, [], false) := by
    intro a b c d
    refine Ev.step (fun k => by rw [impl_UnionSpaces.j0]) ?_
    simp only [↓reduceIte]; exact Ev.some _
  have hk : ∀ a b c d, Ev (fun k => spec_UnionSpaces.j0 k true a b c d) (0, [], false) := by
    intro a b c d
    refine Ev.step (fun k => by rw [spec_UnionSpaces.j0]) ?_
    simp only [↓reduceIte]; exact Ev.some _
  cases hg : goodB n S with
  | false =>
    refine ⟨0, [], false, by simp, ?_, ?_⟩
    · unfold spec_UnionSpaces.f
      refine Ev.bind ((spec_spGood_ev n S hSb).eq hg) ?_
      simp only [↓reduceIte, Bool.false_eq_true]; exact hk _ _ _ _
    · unfold impl_UnionSpaces.f
      refine Ev.bind ((impl_IsSpace_ev n S hSb).eq hg) ?_
      simp only [↓reduceIte, Bool.false_eq_true]; exact hj _ _ _ _
  | true =>
    obtain ⟨m, A, rfl, rfl, hA⟩ := good_space hg
    cases hg2 : goodB n2 S2 with
    | false =>
      refine ⟨0, [], false, by simp, ?_, ?_⟩
      · unfold spec_UnionSpaces.f
        refine Ev.bind hA.spec ?_
        simp only [↓reduceIte]
        refine Ev.bind ((spec_spGood_ev n2 S2 hSb2).eq hg2) ?_
        simp only [↓reduceIte, Bool.false_eq_true]; exact hk _ _ _ _
      · unfold impl_UnionSpaces.f
        refine Ev.bind hA.impl ?_
        simp only [↓reduceIte]
        refine Ev.bind ((impl_IsSpace_ev n2 S2 hSb2).eq hg2) ?_
        simp only [↓reduceIte, Bool.false_eq_true]; exact hj _ _ _ _
    | true =>
      obtain ⟨m2, B, rfl, rfl, hB⟩ := good_space hg2
      have hs : ∀ v, Ev (fun k => spec_UnionSpaces.j0 k ((m : Int) != (m2 : Int)) (m : Int) (castL A) (m2 : Int) (castL B)) v → Ev (fun k => spec_UnionSpaces.f k (m : Int) (castL A) (m2 : Int) (castL B)) v := by
        intro v hv
        unfold spec_UnionSpaces.f
        refine Ev.bind hA.spec ?_
        simp only [↓reduceIte]
        refine Ev.bind hB.spec ?_
        simp only [↓reduceIte]
        exact hv
      have hi : ∀ v, Ev (fun k => impl_UnionSpaces.j0 k ((m : Int) != (m2 : Int)) (m : Int) (castL A) (m2 : Int) (castL B)) v → Ev (fun k => impl_UnionSpaces.f k (m : Int) (castL A) (m2 : Int) (castL B)) v := by
        intro v hv
        unfold impl_UnionSpaces.f
        refine Ev.bind hA.impl ?_
        simp only [↓reduceIte]
        refine Ev.bind hB.impl ?_
        simp only [↓reduceIte]
        exact hv
      by_cases hm : m = m2
      rotate_left
      · have hne : ((m : Int) != (m2 : Int)) = true := by rw [bne_iff_ne]; omega
        refine ⟨0, [], false, by simp, hs _ ?_, hi _ ?_⟩
        · rw [hne]; exact hk _ _ _ _
        · rw [hne]; exact hj _ _ _ _
      subst hm
      have hAl := hA.short
      have hBl := hB.short
      have hlt : ∀ x ∈ A ++ B, x < 128 := fun x hx => by
        rcases List.mem_append.1 hx with hx | hx
        · exact hA.lt128 x hx
        · exact hB.lt128 x hx
      obtain ⟨p, hp1, hp2⟩ := closed_ev hlt
      have hmem : ∀ z, z ∈ listN p ↔ ∃ x ∈ A, ∃ y ∈ B, z = x ||| y := by
        intro z
        rw [mem_listN, ← union_mem hA hB]
        constructor
        · rintro ⟨h1, h2⟩; exact (hp2 z h1).1 h2
        · intro h
          have hz : z < 128 := UC.lt (n := 7) hlt h
          exact ⟨hz, (hp2 z hz).2 h⟩
      have hll : (listN p).length ≤ 128 := Nat.le_trans (List.length_filter_le _ _) (by simp)
      refine ⟨(m : Int), castL (listN p), true, by rw [castL_length]; omega, hs _ ?_, hi _ ?_⟩
      · refine Ev.step (fun k => by rw [spec_UnionSpaces.j0]) ?_
        simp only [bne_self_eq_false, Bool.false_eq_true, ↓reduceIte]
        have h := sunion_loop A B hA.lt128 hB.lt128 hAl hBl (m : Int) (m : Int) [] (listN p) (inc_listN p) hmem A [] [] rfl List.Pairwise.nil (fun z => by simp)
        simpa [castL] using h
      · refine Ev.step (fun k => by rw [impl_UnionSpaces.j0]) ?_
        simp only [bne_self_eq_false, Bool.false_eq_true, ↓reduceIte]
        refine Ev.bind (family_ev (m : Int) A hA.lt128 hA.small) ?_
        have h := union_loop A B hB.lt128 hB.small (m : Int) (castL A) ((m : Int), castL (listN p), true) (by
          refine Ev.bind hp1 ?_
          refine Ev.bind (fam_space_ev p (m : Int)) (Ev.some _)) B [] rfl
        simpa using h
end Go.Proofs.Ytekllaaohagefaa.Q
