/- A copy of a list: the program; and what words are; conditions: as each theorem states. -/
import Derived.Test.YtnpfkbfmipnofaaCFnExactSwapWayQWord
import Derived.Test.YtnpfkbfmipnofaaCFnExactSwapWayP5
namespace Go.Proofs.Ytnpfkbfmipnofaa.Q
open Go.RowKit Go.Proofs.YtnpfkbfmipnofaaW.PrintWords Go.Proofs.YtnpfkbfmipnofaaW.PrintLast Go.Proofs.YtnpfkbfmipnofaaW.PrintMore Go.Proofs.Ytnpfkbfmipnofaa.P
set_option linter.unusedVariables false
set_option linter.unusedSimpArgs false

theorem clone_eq (l : List Int) (h : l.length ≤ 1099511627776) : slices_Clone_int_int.f l = some l := by
  unfold slices_Clone_int_int.f
  simp
  try omega
end Go.Proofs.Ytnpfkbfmipnofaa.Q
