/- The laws' marks of a net; conditions: as each theorem states. -/
import Derived.Test.YtnpfkbfmipnofaaCFnExactChordalSpaceQMark
import Derived.Test.YtnpfkbfmipnofaaCFnExactChordalSpaceP5
namespace Go.Proofs.Ytnpfkbfmipnofaa.Q
open Go.RowKit Go.Proofs.YtnpfkbfmipnofaaW.PrintWords Go.Proofs.YtnpfkbfmipnofaaW.PrintLast Go.Proofs.YtnpfkbfmipnofaaW.PrintMore Go.Proofs.Ytnpfkbfmipnofaa.P
set_option linter.unusedVariables false
set_option linter.unusedSimpArgs false

theorem markNet1_ev (S : List Int) (h : S.length ≤ 1048576) : Ev (fun k => laws_markNet.f k S 1) (((1 + S.length : Nat) : Int), upL 1 S.length) := by
  unfold laws_markNet.f
  exact Ev.bind (mark1_ev S h) (Ev.some _)
end Go.Proofs.Ytnpfkbfmipnofaa.Q
