/- The pure statement of the law FnExactCoveredBy: the printed law function answers true, for all arguments; no conditions. -/
import Derived.Test.YthpbmecinoninaaCFnExactCoveredByQCorners
import Derived.Test.YthpbmecinoninaaCFnExactCoveredByQMark
import Derived.Test.YthpbmecinoninaaCFnExactCoveredByP4
namespace Go.Proofs.Ythpbmecinoninaa.Pure
open Go.RowKit Go.Proofs.YthpbmecinoninaaW.PrintWords Go.Proofs.YthpbmecinoninaaW.PrintLast Go.Proofs.YthpbmecinoninaaW.PrintMore Go.Proofs.Ythpbmecinoninaa.P Go.Proofs.Ythpbmecinoninaa.Q
set_option linter.unusedVariables false
set_option linter.unusedSimpArgs false

theorem CoveredBy_both (P : List (List Int)) (hl : P.length ≤ 1048576) (hrow : ∀ x ∈ P, x.length ≤ 1048576) (a : Int) : ∃ v : Int × Bool, Ev (fun k => spec_CoveredBy.f k P a) v ∧ Ev (fun k => impl_CoveredBy.f k P a) v := by
  cases hp : ptsB P with
  | false =>
    have hno : Ev (fun k => spec_shOf.f k P a) false := by
      unfold spec_shOf.f
      refine Ev.bind ((spec_pts_ev P).eq hp) ?_
      simp only [↓reduceIte, Bool.false_eq_true]; exact Ev.some _
    refine ⟨(0, false), ?_, ?_⟩
    · unfold spec_CoveredBy.f
      refine Ev.bind hno ?_
      simp only [↓reduceIte, Bool.false_eq_true]; exact Ev.some _
    · unfold impl_CoveredBy.f
      refine Ev.bind ((impl_pts_ev P).eq hp) ?_
      simp only [↓reduceIte, Bool.false_eq_true]; exact Ev.some _
  | true =>
    have h := ptsN_of hp
    have hl7 := h.l7
    have hpos : 0 < 2 ^ P.length := Nat.two_pow_pos _
    have hof : Ev (fun k => spec_shOf.f k P a) (decide (0 ≤ a ∧ a ≤ ((2 ^ P.length - 1 : Nat) : Int))) := by
      unfold spec_shOf.f
      refine Ev.bind ((spec_pts_ev P).eq hp) ?_
      simp only [↓reduceIte, pow1 (show P.length ≤ 61 from by omega), l1In_eq, Option.bind_some]; exact Ev.some _
    by_cases ha : 0 ≤ a ∧ a ≤ ((2 ^ P.length - 1 : Nat) : Int)
    · obtain ⟨s, rfl⟩ := Int.eq_ofNat_of_zero_le ha.1
      have hs : s < 2 ^ P.length := by omega
      refine ⟨(((covN P s P.length : Nat) : Int), true), ?_, ?_⟩
      · unfold spec_CoveredBy.f
        refine Ev.bind (hof.eq (decide_eq_true ha)) ?_
        simp only [↓reduceIte]
        exact Ev.bind (shCover_ev h hs) (Ev.some _)
      · unfold impl_CoveredBy.f
        refine Ev.bind ((impl_pts_ev P).eq hp) ?_
        simp only [↓reduceIte, isSet_eq (show P.length ≤ 61 from by omega), Option.bind_some, decide_eq_true ha]
        exact Ev.bind (covered_ev h hs) (Ev.some _)
    · refine ⟨(0, false), ?_, ?_⟩
      · unfold spec_CoveredBy.f
        refine Ev.bind (hof.eq (decide_eq_false ha)) ?_
        simp only [↓reduceIte, Bool.false_eq_true]; exact Ev.some _
      · unfold impl_CoveredBy.f
        refine Ev.bind ((impl_pts_ev P).eq hp) ?_
        simp only [↓reduceIte, isSet_eq (show P.length ≤ 61 from by omega), Option.bind_some, decide_eq_false ha, Bool.false_eq_true]; exact Ev.some _
theorem FnExactCoveredBy : laws_FnExactCoveredBy.Pure := by
  intro P a hmp hwp _
  refine Ev.rounds ?_
  unfold laws_FnExactCoveredBy.f
  obtain ⟨r, hr, hc⟩ := szSS_cases P hmp (fun r hr => (hwp r hr).1)
  refine Ev.bind hr ?_
  rcases hc with h0 | ⟨h0, hl, hrow⟩
  · simp only [h0, ↓reduceIte]
    exact Ev.some _
  simp only [h0, ↓reduceIte]
  obtain ⟨v, hs, hi⟩ := CoveredBy_both P hl hrow a
  repeat (first
    | exact Ev.some _
    | with_reducible refine Ev.bind (toSS_ev P hl hrow) ?_
    | with_reducible refine Ev.bind hs ?_
    | with_reducible refine Ev.bind hi ?_
    | with_reducible refine Ev.bind (eqSS_self P hl hrow) ?_
    | (show Ev (fun k => laws_FnExactCoveredBy.j0 k _ _ _) _; refine Ev.step (fun k => by rw [laws_FnExactCoveredBy.j0]) ?_)
    | simp only [bne_self_eq_false, bne_self_eq_false', bneB, Bool.false_eq_true, Option.bind_some, ↓reduceIte, nneg])
end Go.Proofs.Ythpbmecinoninaa.Pure
