/- The law FnExactIsSpace: for every input it returns true and its arguments read as before: the row, out of the pure statement and the walk. No conditions. -/
import Derived.Test.YtnmpocdpdmkbdaaRows
import Derived.Test.YtnmpocdpdmkbdaaCFnExactIsSpaceP2
import Derived.Test.YtnmpocdpdmkbdaaCFnExactIsSpacePureFnExactIsSpace
import Derived.Test.YtnmpocdpdmkbdaaOws
namespace Go.Proofs.Ytnmpocdpdmkbdaa.fnExactIsSpace
open Go.ChangeShapes Go.WideShapes Go.ChangeAt Go.RowKit
open Go.ChangeMaps (open_string shut_string)
open Go.Proofs.YtnmpocdpdmkbdaaW.PrintOws
set_option linter.unusedVariables false
theorem own : ownKnob Try.prog.godebug = none := by kernel_rfl
theorem laidOut : laidOutB Try.prog = true := by kernel_rfl
set_option maxRecDepth 100000 in
theorem lifted (os : Os) (started : os.Started) (H : Type) (enc : TypeId × Value → H) :
    ReturnsInHanded {} Try.checked os 12 .any (Rows.fnExactIsSpaceSpec.pre6 enc Try.prog Try.f12 Rows.fnExactIsSpaceRow.domain false) (Rows.fnExactIsSpaceSpec.post enc Try.prog Try.f12 false true false false) := by
  refine returnsInHanded_of_change_sized (C := Try.checked) own started (by kernel_rfl) Try.func12
    (ChangeSpec.witness6 (enc := enc) (C := Try.checked) false ⟨#[], #[.agg #[.int .i64 0, .slice none 0 0]], []⟩ 8 (by kernel_rfl) (by kernel_rfl) (by kernel_rfl) (by kernel_rfl)) ?_
  intro W base args ds gs before hval0 hW hcnd hsz0 _
  have hval : ∀ (j : Nat) t v, Try.f12.params[j]? = some t → args[j]? = some v → Value.okWide Try.prog W .any base t v := hval0
  have hW' := hW
  obtain ⟨p, q, hA0, hV, rfl, hfz, hnd⟩ := hW
  have hA : DataW.TrodAll enc Try.prog W 0 (fun _ => true) true Try.f12.params.toList args.toList ds p := hA0
  rw [Try.params12] at hA hval
  obtain ⟨v0, vs0, d0, ds0, p0, q0, hargs, rfl, rfl, h0, r0⟩ := trodAll_cons hA
  obtain ⟨rfl, rfl, rfl⟩ := trodAll_nil r0
  obtain rfl : args = #[v0] := by cases args; simp_all
  obtain ⟨rfl, rfl⟩ := trodVars_none hV
  have k0 := h0
  have lt0 : ∀ x ∈ p0, x.block < W.heap.size := by obtain ⟨m, hm⟩ := k0; exact DataW.trod_lt m _ _ _ hm
  obtain ⟨a0_0, _, l0_1, rfl, w0_0, A0_1, c0_1, rfl, hr0_1, hc0_1, hm0_1, hw0_1⟩ := in_space (ti := 3) (ts := 23) Try.underlying49 (by kernel_rfl) rfl (by kernel_rfl) rfl (by kernel_rfl) rfl rfl Try.underlying3 Try.underlying23 Try.underlying3 (by kernel_rfl) (hval 0 49 v0 rfl rfl) h0
  clear hA0 hval0 hsz0
  refine (P.laws_FnExactIsSpace.walk Pure.FnExactIsSpace a0_0 A0_1 c0_1 l0_1 W w0_0 hr0_1 hc0_1 hm0_1 hw0_1).mono fun e W' ⟨he, bel⟩ => ?_
  subst he
  exact ⟨_, rfl, _, _, _, [], _, [], hW', trodAll_mk1 (shut_bool Try.underlying4 _), (trodAll_cons_mk (Below.trod laidOut (by kernel_rfl) (of_decide_eq_true (by kernel_rfl)) k0 bel lt0) trodAll_mk0), rfl, bel.frame _, fun h => by cases h⟩
theorem over : Rows.fnExactIsSpaceRow.holds Try.pinned (OpenSpec.ofChange Rows.fnExactIsSpaceSpec) :=
  OpenClaim.holds_of_wide 12 Try.f12 rfl rfl rfl rfl rfl rfl rfl ⟨rfl, rfl, rfl, rfl, rfl⟩ rfl rfl rfl rfl rfl (by kernel_rfl) Try.func12 (by kernel_rfl)
    (of_decide_eq_true (by kernel_rfl)) (by unfold Func.isWrapper; first | (rw [if_pos (by decide +kernel)]; kernel_rfl) | (rw [if_neg (by decide +kernel)]; exact ⟨rfl, rfl⟩))
    (fun os started H enc _ => lifted os started H enc)
theorem proved : Rows.FnExactIsSpaceSaid := over
#print axioms proved
end Go.Proofs.Ytnmpocdpdmkbdaa.fnExactIsSpace
namespace Go.Proofs.Ytnmpocdpdmkbdaa
/-- The row, under a short name, for the claim. -/
theorem fnExactIsSpace_holds : Rows.FnExactIsSpaceSaid := fnExactIsSpace.proved
end Go.Proofs.Ytnmpocdpdmkbdaa
