/- The pure statement of the law FnExactEndsSpace: the printed law function answers true, for all arguments; no conditions. -/
import Derived.Test.YtekllaaohagefaaCFnExactEndsSpaceQEnds
import Derived.Test.YtekllaaohagefaaCFnExactEndsSpaceQMarkSSR
import Derived.Test.YtekllaaohagefaaCFnExactEndsSpaceQMarkSpace
import Derived.Test.YtekllaaohagefaaCFnExactEndsSpaceP6
namespace Go.Proofs.Ytekllaaohagefaa.Pure
open Go.RowKit Go.Proofs.YtekllaaohagefaaW.PrintWords Go.Proofs.YtekllaaohagefaaW.PrintLast Go.Proofs.YtekllaaohagefaaW.PrintMore Go.Proofs.Ytekllaaohagefaa.P Go.Proofs.Ytekllaaohagefaa.Q
set_option linter.unusedVariables false
set_option linter.unusedSimpArgs false


theorem FnExactEndsSpace : laws_FnExactEndsSpace.Pure := by
  intro n P _ hmp hwp
  refine Ev.rounds ?_
  unfold laws_FnExactEndsSpace.f
  obtain ⟨r, hr, hc⟩ := szSS_cases2 P hmp (fun r hr => (hwp r hr).1)
  refine Ev.bind hr ?_
  rcases hc with h0 | ⟨h0, hl, hrow, hsum⟩
  · simp only [h0, ↓reduceIte]
    exact Ev.some _
  simp only [h0, ↓reduceIte]
  obtain ⟨n', L, b, hL, hs, hi⟩ := EndsSpace_both P hl hrow n
  repeat (first
    | exact Ev.some _
    | with_reducible refine Ev.bind (toSS_ev P hl hrow) ?_
    | with_reducible refine Ev.bind hs ?_
    | with_reducible refine Ev.bind hi ?_
    | with_reducible refine Ev.bind (eqSS_self P hl hrow) ?_
    | with_reducible refine Ev.bind (eqSpace_self _ _ hL) ?_
    | with_reducible refine Ev.bind (markSpace1_ev _ _ hL) ?_
    | with_reducible refine Ev.bind (heldSpace1_ev _ _ hL) ?_
    | with_reducible refine Ev.bind (markSS1_ev P hl hsum) ?_
    | (show Ev (fun k => laws_FnExactEndsSpace.j0 k _ _ _ _ _ _ _ _ _ _) _; refine Ev.step (fun k => by rw [laws_FnExactEndsSpace.j0]) ?_)
    | (show Ev (fun k => laws_FnExactEndsSpace.j1 k _ _ _ _ _ _ _ _) _; refine Ev.step (fun k => by rw [laws_FnExactEndsSpace.j1]) ?_)
    | (show Ev (fun k => laws_FnExactEndsSpace.j2 k _ _ _ _) _; refine Ev.step (fun k => by rw [laws_FnExactEndsSpace.j2]) ?_)
    | (show Ev (fun k => laws_FnExactEndsSpace.j0 k _ _ _ _ _ _ _ _ _ _) _; refine Ev.step (fun k => by rw [laws_FnExactEndsSpace.j0]) ?_)
    | (show Ev (fun k => laws_FnExactEndsSpace.j1 k _ _ _ _ _ _ _ _) _; refine Ev.step (fun k => by rw [laws_FnExactEndsSpace.j1]) ?_)
    | (show Ev (fun k => laws_FnExactEndsSpace.j2 k _ _ _ _) _; refine Ev.step (fun k => by rw [laws_FnExactEndsSpace.j2]) ?_)
    | simp only [bne_self_eq_false, bne_self_eq_false', bneB, Bool.false_eq_true, Option.bind_some, ↓reduceIte, nneg])
end Go.Proofs.Ytekllaaohagefaa.Pure
