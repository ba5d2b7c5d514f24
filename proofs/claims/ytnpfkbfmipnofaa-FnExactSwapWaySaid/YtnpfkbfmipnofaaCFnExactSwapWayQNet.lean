/- When the program and the reference call a net valid; conditions: as each theorem states. -/
import Derived.Test.YtnpfkbfmipnofaaCFnExactSwapWayQSet
import Derived.Test.YtnpfkbfmipnofaaCFnExactSwapWayP5
namespace Go.Proofs.Ytnpfkbfmipnofaa.Q
open Go.RowKit Go.Proofs.YtnpfkbfmipnofaaW.PrintWords Go.Proofs.YtnpfkbfmipnofaaW.PrintLast Go.Proofs.YtnpfkbfmipnofaaW.PrintMore Go.Proofs.Ytnpfkbfmipnofaa.P
set_option linter.unusedVariables false
set_option linter.unusedSimpArgs false

theorem getD_mem {T : List Nat} {v : Nat} (h : v < T.length) : T.getD v 0 ∈ T := by
  rw [List.getD_eq_getElem?_getD, List.getElem?_eq_getElem h]; exact List.getElem_mem h

/-- A valid net. -/
structure NetN (T : List Nat) : Prop where
  l1 : 1 ≤ T.length
  l7 : T.length ≤ 7
  lt : ∀ x ∈ T, x < 2 ^ T.length
  irr : ∀ v, v < T.length → (T.getD v 0).testBit v = false
  sym : ∀ v w, v < T.length → w < T.length → (T.getD v 0).testBit w = (T.getD w 0).testBit v
theorem NetN.lt128 {T : List Nat} (h : NetN T) : ∀ x ∈ T, x < 128 := fun x hx => Nat.lt_of_lt_of_le (h.lt x hx) (Nat.le_trans (Nat.pow_le_pow_right (by omega) h.l7) (by omega))
theorem NetN.get {T : List Nat} (h : NetN T) {v : Nat} (hv : v < T.length) : T.getD v 0 < 128 := h.lt128 _ (getD_mem hv)
end Go.Proofs.Ytnpfkbfmipnofaa.Q
