/- The program's family of sets, its inner fringe; conditions: as each theorem states. -/
import Derived.Test.YtekllaaohagefaaCFnExactEndsSpaceQSet
import Derived.Test.YtekllaaohagefaaCFnExactEndsSpaceP6
namespace Go.Proofs.Ytekllaaohagefaa.Q
open Go.RowKit Go.Proofs.YtekllaaohagefaaW.PrintWords Go.Proofs.YtekllaaohagefaaW.PrintLast Go.Proofs.YtekllaaohagefaaW.PrintMore Go.Proofs.Ytekllaaohagefaa.P
set_option linter.unusedVariables false
set_option linter.unusedSimpArgs false

end Go.Proofs.Ytekllaaohagefaa.Q
