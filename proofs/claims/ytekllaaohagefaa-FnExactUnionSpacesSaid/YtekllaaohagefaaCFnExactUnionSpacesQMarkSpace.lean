/- Marks on a space; conditions: as each theorem states. -/
import Derived.Test.YtekllaaohagefaaCFnExactUnionSpacesQMark
import Derived.Test.YtekllaaohagefaaCFnExactUnionSpacesQLawSpace
import Derived.Test.YtekllaaohagefaaCFnExactUnionSpacesP5
namespace Go.Proofs.Ytekllaaohagefaa.Q
open Go.RowKit Go.Proofs.YtekllaaohagefaaW.PrintWords Go.Proofs.YtekllaaohagefaaW.PrintLast Go.Proofs.YtekllaaohagefaaW.PrintMore Go.Proofs.Ytekllaaohagefaa.P
set_option linter.unusedVariables false
set_option linter.unusedSimpArgs false

theorem markSpace1_ev (n : Int) (l : List Int) (h : l.length ≤ 1048576) : Ev (fun k => laws_markSpace.f k n l 1) (((1 + l.length : Nat) : Int), upL 1 l.length) := by
  unfold laws_markSpace.f
  exact Ev.bind (mark1_ev l h) (Ev.some _)
theorem heldSpace1_ev (a : Int) (n : Nat) (h : n ≤ 1048576) : Ev (fun k => laws_heldSpace.f k a (upL 1 n) 1) ((1 + n : Nat) : Int) := by
  unfold laws_heldSpace.f
  refine Ev.bind (held1_ev n h) ?_
  simp only [nneg, ↓reduceIte]
  exact Ev.some _
end Go.Proofs.Ytekllaaohagefaa.Q
