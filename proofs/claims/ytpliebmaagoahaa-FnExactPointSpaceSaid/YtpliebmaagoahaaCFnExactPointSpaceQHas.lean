/- The reference's search in an increasing list; conditions: as each theorem states. -/
import Derived.Test.YtpliebmaagoahaaCFnExactPointSpaceQ0
import Derived.Test.YtpliebmaagoahaaCFnExactPointSpaceP6
namespace Go.Proofs.Ytpliebmaagoahaa.Q
open Go.RowKit Go.Proofs.YtpliebmaagoahaaW.PrintWords Go.Proofs.YtpliebmaagoahaaW.PrintLast Go.Proofs.YtpliebmaagoahaaW.PrintMore Go.Proofs.Ytpliebmaagoahaa.P
set_option linter.unusedVariables false
set_option linter.unusedSimpArgs false

/-- Strictly increasing. -/
def Inc (T : List Nat) : Prop := T.Pairwise (· < ·)
theorem Inc.get {T : List Nat} (h : Inc T) {i j : Nat} (hij : i < j) (hj : j < T.length) : T[i]'(by omega) < T[j] :=
  List.pairwise_iff_getElem.1 h i j (by omega) hj hij

end Go.Proofs.Ytpliebmaagoahaa.Q
