/- Marks on a space that was handed over; conditions: as each theorem states. -/
import Derived.Test.YtekllaaohagefaaCFnExactCriticalOfQMark
import Derived.Test.YtekllaaohagefaaCFnExactCriticalOfQLawSpace
import Derived.Test.YtekllaaohagefaaCFnExactCriticalOfP4
namespace Go.Proofs.Ytekllaaohagefaa.Q
open Go.RowKit Go.Proofs.YtekllaaohagefaaW.PrintWords Go.Proofs.YtekllaaohagefaaW.PrintLast Go.Proofs.YtekllaaohagefaaW.PrintMore Go.Proofs.Ytekllaaohagefaa.P
set_option linter.unusedVariables false
set_option linter.unusedSimpArgs false

theorem markSpace1_ev (n : Int) (l : List Int) (h : l.length ≤ 1048576) : Ev (fun k => laws_markSpace.f k n l 1) (((1 + l.length : Nat) : Int), upL 1 l.length) := by
  unfold laws_markSpace.f
  exact Ev.bind (mark1_ev l h) (Ev.some _)
end Go.Proofs.Ytekllaaohagefaa.Q
