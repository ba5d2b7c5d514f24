/- The space made of some sets: both the same; conditions: as each theorem states. -/
import Derived.Test.YthpbmecinoninaaCFnExactSpaceWithQSpWith
import Derived.Test.YthpbmecinoninaaCFnExactSpaceWithP4
namespace Go.Proofs.Ythpbmecinoninaa.Q
open Go.RowKit Go.Proofs.YthpbmecinoninaaW.PrintWords Go.Proofs.YthpbmecinoninaaW.PrintLast Go.Proofs.YthpbmecinoninaaW.PrintMore Go.Proofs.Ythpbmecinoninaa.P
set_option linter.unusedVariables false
set_option linter.unusedSimpArgs false

theorem UC.tr {B C : Nat → Prop} (h : ∀ x, B x → UC C x) {z : Nat} (hz : UC B z) : UC C z := by
  induction hz with
  | zero => exact .zero
  | base hx => exact h _ hx
  | or _ _ ha hb => exact .or ha hb
theorem spIf_yes {m : Nat} {R : List Nat} (h : SpN m R) : Ev (fun k => spec_spIf.f k (m : Int) (castL R)) ((m : Int), castL R, true) := by
  unfold spec_spIf.f
  refine Ev.bind h.spec ?_
  simp only [↓reduceIte]
  exact Ev.some _
theorem spIf_no {m : Nat} {R : List Nat} (hl : R.length ≤ 1099511627776) (h : 2 ^ m - 1 ∉ R) : Ev (fun k => spec_spIf.f k (m : Int) (castL R)) (0, [], false) := by
  have hg : goodB (m : Int) (castL R) = false := by
    rw [Bool.eq_false_iff]
    intro hg
    obtain ⟨m', T, e1, e2, hS⟩ := good_space hg
    have em : m = m' := by omega
    subst em
    rw [castL_inj e2] at h
    exact h hS.full
  unfold spec_spIf.f
  refine Ev.bind ((spec_spGood_ev _ _ (by rw [castL_length]; exact hl)).eq hg) ?_
  simp only [↓reduceIte, Bool.false_eq_true]
  exact Ev.some _
theorem SpaceWith_both (a : Int) (w : List Int) (hw : w.length ≤ 1048576) : ∃ (n' : Int) (L : List Int) (b : Bool), L.length ≤ 1048576 ∧ Ev (fun k => spec_SpaceWith.f k a w) (n', L, b) ∧ Ev (fun k => impl_SpaceWith.f k a w) (n', L, b) := by
  have hj : ∀ a : Int, Ev (fun k => spec_SpaceWith.j0 k a w true) (0, [], false) := by
    intro a
    refine Ev.step (fun k => by rw [spec_SpaceWith.j0]) ?_
    simp only [↓reduceIte]; exact Ev.some _
  rcases famOf_cases a w hw 40 (by omega) with ⟨h1, hbad⟩ | ⟨m, L, rfl, rfl, m1, m7, hlen, hL, hset, h1⟩
  · refine ⟨0, [], false, by simp, ?_, ?_⟩
    · unfold spec_SpaceWith.f
      by_cases g1 : 1 ≤ a ∧ a ≤ 7
      · simp only [spItems_eq, Option.bind_some, decide_eq_true g1, ↓reduceIte]
        by_cases g2 : (w.length : Int) > 40
        · simp only [g2, ↓reduceIte]; exact hj a
        · obtain ⟨m, rfl⟩ := Int.eq_ofNat_of_zero_le (show 0 ≤ a by omega)
          simp only [g2, ↓reduceIte, show (0 : Int) ≤ (m : Int) from by omega, pow1 (show m ≤ 61 from by omega)]
          have hb : (w.all fun x => decide (0 ≤ x ∧ x ≤ ((2 ^ m - 1 : Nat) : Int))) = false := by
            rw [Bool.eq_false_iff]
            intro h
            exact hbad ⟨g1, by omega, by rw [Int.toNat_natCast]; exact h⟩
          refine Ev.bind ((l1All_ev w (by omega) _ _).eq hb) ?_
          exact hj _
      · simp only [spItems_eq, Option.bind_some, decide_eq_false g1, ↓reduceIte, Bool.false_eq_true]
        exact hj a
    · unfold impl_SpaceWith.f
      refine Ev.bind h1 ?_
      simp only [↓reduceIte, Bool.false_eq_true]
      exact Ev.some _
  · have hp2 := pow_le_128 m7
    have hpos : 0 < 2 ^ m := Nat.two_pow_pos _
    have hL2 : ∀ x ∈ L, x < 128 := fun x hx => Nat.lt_of_lt_of_le (hL x hx) hp2
    obtain ⟨R0, hR0⟩ : ∃ R0, R0 = listN (fun y => decide (y ∈ L) || y == 0) := ⟨_, rfl⟩
    have hI0 : Inc R0 := by rw [hR0]; exact inc_listN _
    have hm0 : ∀ z, z ∈ R0 ↔ z ∈ L ∨ z = 0 := by
      intro z
      rw [hR0, mem_listN]
      simp only [Bool.or_eq_true, decide_eq_true_eq, beq_iff_eq]
      constructor
      · exact fun h => h.2
      · rintro (h | rfl)
        · exact ⟨hL2 z h, .inl h⟩
        · exact ⟨by omega, .inr rfl⟩
    have hlt0 : ∀ x ∈ R0, x < 2 ^ m := fun x hx => by
      rcases (hm0 x).1 hx with h | rfl
      · exact hL x h
      · exact hpos
    have hlt128 : ∀ x ∈ R0, x < 128 := fun x hx => Nat.lt_of_lt_of_le (hlt0 x hx) hp2
    have hR0l := inc_len hI0 hlt128
    have hfam : (famN fun y => decide (y ∈ L)).set (0 : Int).toNat true = famN fun y => decide (y ∈ R0) := by
      rw [show (0 : Int).toNat = 0 from rfl, famN_set]
      apply famN_congr
      intro y _
      rw [Bool.eq_iff_iff]
      simp only [Bool.or_eq_true, decide_eq_true_eq, beq_iff_eq, hm0]
    have hallE : L.all (okB fun y => decide (y ∈ R0)) = R0.all (okB fun y => decide (y ∈ R0)) := by
      rw [Bool.eq_iff_iff, List.all_eq_true, List.all_eq_true]
      constructor
      · intro h x hx
        rcases (hm0 x).1 hx with g | rfl
        · exact h x g
        · simp [okB]
      · exact fun h x hx => h x ((hm0 x).2 (.inl hx))
    obtain ⟨p, hc, hp⟩ := closed_ev (L := R0) hlt128
    obtain ⟨R, hu, hI, hR⟩ := unions_ev (L := R0) hlt128 (by omega)
    have hlist : listN p = R := closed_list hlt128 hp hI hR
    have hRlt : ∀ x ∈ R, x < 128 := fun x hx => UC.lt (n := 7) hlt128 ((hR x).1 hx)
    have hRl := inc_len hI hRlt
    have hUC : UC (· ∈ R0) (2 ^ m - 1) ↔ orAll L 0 = 2 ^ m - 1 := by
      rw [← full_iff hL]
      constructor
      · exact fun h => h.tr (fun x hx => by
          rcases (hm0 x).1 hx with g | rfl
          · exact .base g
          · exact .zero)
      · exact fun h => h.mono (fun x hx => (hm0 x).2 (.inl hx))
    have horl : orAll L 0 < 2 ^ m := orAll_lt hL hpos
    -- what comes behind the checks
    obtain ⟨fin, hfl, hfi, hfs⟩ : ∃ fin : Int × List Int × Bool, fin.2.1.length ≤ 1048576 ∧
        Ev (fun k => impl_SpaceWith.l0 k (m : Int) (famN fun y => decide (y ∈ R0)) ((orAll L 0 : Nat) : Int) (castL L) (L.length : Int) (L.length : Int)) fin ∧
        (R0.all (okB fun y => decide (y ∈ R0)) = true → Ev (fun k => spec_SpaceWith.l1 k (m : Int) (castL R0) (castL R0) (R0.length : Int) (R0.length : Int)) fin) := by
      by_cases hf : orAll L 0 = 2 ^ m - 1
      · refine ⟨((m : Int), castL R, true), by simp; omega, ?_, fun hok => ?_⟩
        · refine Ev.step (fun k => by rw [impl_SpaceWith.l0]) ?_
          simp only [show ¬ ((L.length : Int) < (L.length : Int)) from by omega, show (0 : Int) ≤ (m : Int) from by omega, pow1 (show m ≤ 61 from by omega), hf, ↓reduceIte]
          refine Ev.bind hc ?_
          refine Ev.bind (fam_space_ev _ _) ?_
          rw [hlist]
          exact Ev.some _
        · have hS : SpN m R := uc_space m1 m7 hlt0 (fun x hx h0 => by
            have h2 := List.all_eq_true.1 hok x hx
            simp only [okB, Bool.or_eq_true, decide_eq_true_eq] at h2
            rcases h2 with h2 | h2
            · exact absurd h2 h0
            · obtain ⟨i, _, hb, hq⟩ := innN_some h2
              exact ⟨i, hb, .base (by simpa using hq)⟩) (hUC.2 hf) hI hR
          refine Ev.step (fun k => by rw [spec_SpaceWith.l1]) ?_
          simp only [show ¬ ((R0.length : Int) < (R0.length : Int)) from by omega, ↓reduceIte]
          refine Ev.bind hu ?_
          exact Ev.bind (spIf_yes hS) (Ev.some _)
      · refine ⟨(0, [], false), by simp, ?_, fun hok => ?_⟩
        · refine Ev.step (fun k => by rw [impl_SpaceWith.l0]) ?_
          simp only [show ¬ ((L.length : Int) < (L.length : Int)) from by omega, show (0 : Int) ≤ (m : Int) from by omega, pow1 (show m ≤ 61 from by omega), show ¬ ((orAll L 0 : Nat) : Int) = ((2 ^ m - 1 : Nat) : Int) from by omega, ↓reduceIte]
          exact Ev.some _
        · refine Ev.step (fun k => by rw [spec_SpaceWith.l1]) ?_
          simp only [show ¬ ((R0.length : Int) < (R0.length : Int)) from by omega, ↓reduceIte]
          refine Ev.bind hu ?_
          exact Ev.bind (spIf_no (by omega) (fun h => hf (hUC.1 ((hR _).1 h)))) (Ev.some _)
    have hi := impl_with_loop m7 hL (by omega) (fun y => decide (y ∈ R0)) fin (fun _ => hfi) L [] 0 rfl hpos rfl rfl
    have hs := spec_with_loop (m := (m : Int)) hI0 hlt128 fin hfs R0 [] rfl rfl
    rw [hallE] at hi
    obtain ⟨res, hres, hr1⟩ : ∃ res : Int × List Int × Bool, res = (if R0.all (okB fun y => decide (y ∈ R0)) = true then fin else (0, [], false)) ∧ res.2.1.length ≤ 1048576 := by
      refine ⟨_, rfl, ?_⟩
      by_cases g : R0.all (okB fun y => decide (y ∈ R0)) = true
      · rw [if_pos g]; exact hfl
      · rw [if_neg g]; simp
    rw [← hres] at hi hs
    refine ⟨res.1, res.2.1, res.2.2, hr1, ?_, ?_⟩
    · unfold spec_SpaceWith.f
      have g1 : (1 : Int) ≤ (m : Int) ∧ (m : Int) ≤ 7 := by omega
      simp only [spItems_eq, Option.bind_some, decide_eq_true g1, ↓reduceIte, castL_length, show ¬ ((L.length : Int) > 40) from by omega, show (0 : Int) ≤ (m : Int) from by omega, pow1 (show m ≤ 61 from by omega)]
      refine Ev.bind ((l1All_ev (castL L) (by simp; omega) _ _).eq hset) ?_
      refine Ev.step (fun k => by rw [spec_SpaceWith.j0]) ?_
      simp only [Bool.not_true, ↓reduceIte, Bool.false_eq_true, castL_length]
      refine spec_put_loop hL2 (by omega) _ L [] [0] rfl (by simp [Inc]) (by simp) (fun R1 h2 h3 => ?_)
      have e : R1 = R0 := inc_ext h2 hI0 (fun z => by
        rw [h3, hm0, List.mem_singleton]
        exact or_comm)
      subst e
      simpa using hs
    · unfold impl_SpaceWith.f
      refine Ev.bind h1 ?_
      simp only [↓reduceIte, famN_length, show (0 : Int) < ((128 : Nat) : Int) from by omega, hfam, castL_length]
      simpa using hi
end Go.Proofs.Ythpbmecinoninaa.Q
