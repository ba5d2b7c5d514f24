/-
  No cell of these rows narrows 'for every input' (looked for: loops, veiled, ifaces, maps, wideKeys, modest, calm, conditions, laid).
  DERIVED. THE GIVEN ROWS OF THIS SEAT. 12 by the template 'for every input the law returns true; each argument reads behind the call as it read before'; 0 by the template 'total and deterministic' (their statements: YtniehinnbdcafaaTotals.lean).
  GIVEN WITH THE SEED: the statements are not yours to turn. If you find one false, say at which input.
  Laid BY PROGRAM, IN A SANDBOX (cutbox-rows.mjs): the forced cells as the released guide's own fill.sh prints them over the translation 76799df5ab24c99a… (all of the seat's roots in one cut). By AI agents, Wed Nov 11 2026. No macro, syntax, notation, axiom, sorry.
-/
import Derived.Test.YtniehinnbdcafaaChecked
import GoSem.Claim
import GoSem.ClaimJoined
import GoSem.ClaimMapViews
import Derived.JoinedTies
import Derived.KernelRfl
namespace Go.Proofs.Ytniehinnbdcafaa
/- THE CELL 'sum', in the pinned program and in every row, IS THE sha256 OF THE DUMP (.gsa) THAT YtniehinnbdcafaaProg.lean LOADS. Nothing in Lean hashes anything: it is a label: what it is worth is what the hold of that sum in a sandbox is worth. -/
noncomputable def Try.pinned : Pinned := { name := "ytniehinnbdcafaa", sum := "76799df5ab24c99a07d883897f48496fe85d98975f9fb293e5501d82738beeec", checked := Try.checked }
namespace Rows
def none {H : Type} : Left H := { results := [], args := [] }

/-- 'laws.FnExactInnerFringe': WHATEVER THE INPUT: true; the input reads as it did. -/
def fnExactInnerFringeSpec : ChangeSpec := { name := "fnExactInnerFringe", fn := fun _ => fun
  | [d1, d2] => { results := [.lit (.bool true)], args := [d1, d2] }
  | _ => none }
def fnExactInnerFringeRow : OpenClaim := { program := "ytniehinnbdcafaa", sum := "76799df5ab24c99a07d883897f48496fe85d98975f9fb293e5501d82738beeec", func := "loop.example/g01137/laws.FnExactInnerFringe", spec := "fnExactInnerFringe", apart := false }
def FnExactInnerFringeSaid : Prop := fnExactInnerFringeRow.holds Try.pinned (OpenSpec.ofChange fnExactInnerFringeSpec)

/-- ITS FALSE NEIGHBOUR: 'it returns false'. Refute it at one input. -/
def fnExactInnerFringeWrong : ChangeSpec := { name := "fnExactInnerFringe", fn := fun _ => fun
  | [d1, d2] => { results := [.lit (.bool false)], args := [d1, d2] }
  | _ => none }
def FnExactInnerFringeWrongFalsely : Prop := fnExactInnerFringeRow.holds Try.pinned (OpenSpec.ofChange fnExactInnerFringeWrong)

/-- 'laws.FnExactFreeTriples': WHATEVER THE INPUT: true; the input reads as it did. -/
def fnExactFreeTriplesSpec : ChangeSpec := { name := "fnExactFreeTriples", fn := fun _ => fun
  | [d] => { results := [.lit (.bool true)], args := [d] }
  | _ => none }
def fnExactFreeTriplesRow : OpenClaim := { program := "ytniehinnbdcafaa", sum := "76799df5ab24c99a07d883897f48496fe85d98975f9fb293e5501d82738beeec", func := "loop.example/g01137/laws.FnExactFreeTriples", spec := "fnExactFreeTriples", apart := false }
def FnExactFreeTriplesSaid : Prop := fnExactFreeTriplesRow.holds Try.pinned (OpenSpec.ofChange fnExactFreeTriplesSpec)

/-- ITS FALSE NEIGHBOUR: 'it returns false'. Refute it at one input. -/
def fnExactFreeTriplesWrong : ChangeSpec := { name := "fnExactFreeTriples", fn := fun _ => fun
  | [d] => { results := [.lit (.bool false)], args := [d] }
  | _ => none }
def FnExactFreeTriplesWrongFalsely : Prop := fnExactFreeTriplesRow.holds Try.pinned (OpenSpec.ofChange fnExactFreeTriplesWrong)

/-- 'laws.FnExactCanLearn': WHATEVER THE INPUT: true; the input reads as it did. -/
def fnExactCanLearnSpec : ChangeSpec := { name := "fnExactCanLearn", fn := fun _ => fun
  | [d1, d2, d3] => { results := [.lit (.bool true)], args := [d1, d2, d3] }
  | _ => none }
def fnExactCanLearnRow : OpenClaim := { program := "ytniehinnbdcafaa", sum := "76799df5ab24c99a07d883897f48496fe85d98975f9fb293e5501d82738beeec", func := "loop.example/g01137/laws.FnExactCanLearn", spec := "fnExactCanLearn", apart := false }
def FnExactCanLearnSaid : Prop := fnExactCanLearnRow.holds Try.pinned (OpenSpec.ofChange fnExactCanLearnSpec)

/-- ITS FALSE NEIGHBOUR: 'it returns false'. Refute it at one input. -/
def fnExactCanLearnWrong : ChangeSpec := { name := "fnExactCanLearn", fn := fun _ => fun
  | [d1, d2, d3] => { results := [.lit (.bool false)], args := [d1, d2, d3] }
  | _ => none }
def FnExactCanLearnWrongFalsely : Prop := fnExactCanLearnRow.holds Try.pinned (OpenSpec.ofChange fnExactCanLearnWrong)

/-- 'laws.FnExactIsElimination': WHATEVER THE INPUT: true; the input reads as it did. -/
def fnExactIsEliminationSpec : ChangeSpec := { name := "fnExactIsElimination", fn := fun _ => fun
  | [d1, d2] => { results := [.lit (.bool true)], args := [d1, d2] }
  | _ => none }
def fnExactIsEliminationRow : OpenClaim := { program := "ytniehinnbdcafaa", sum := "76799df5ab24c99a07d883897f48496fe85d98975f9fb293e5501d82738beeec", func := "loop.example/g01137/laws.FnExactIsElimination", spec := "fnExactIsElimination", apart := false }
def FnExactIsEliminationSaid : Prop := fnExactIsEliminationRow.holds Try.pinned (OpenSpec.ofChange fnExactIsEliminationSpec)

/-- ITS FALSE NEIGHBOUR: 'it returns false'. Refute it at one input. -/
def fnExactIsEliminationWrong : ChangeSpec := { name := "fnExactIsElimination", fn := fun _ => fun
  | [d1, d2] => { results := [.lit (.bool false)], args := [d1, d2] }
  | _ => none }
def FnExactIsEliminationWrongFalsely : Prop := fnExactIsEliminationRow.holds Try.pinned (OpenSpec.ofChange fnExactIsEliminationWrong)

/-- 'laws.FnExactEliminationOf': WHATEVER THE INPUT: true; the input reads as it did. -/
def fnExactEliminationOfSpec : ChangeSpec := { name := "fnExactEliminationOf", fn := fun _ => fun
  | [d] => { results := [.lit (.bool true)], args := [d] }
  | _ => none }
def fnExactEliminationOfRow : OpenClaim := { program := "ytniehinnbdcafaa", sum := "76799df5ab24c99a07d883897f48496fe85d98975f9fb293e5501d82738beeec", func := "loop.example/g01137/laws.FnExactEliminationOf", spec := "fnExactEliminationOf", apart := false }
def FnExactEliminationOfSaid : Prop := fnExactEliminationOfRow.holds Try.pinned (OpenSpec.ofChange fnExactEliminationOfSpec)

/-- ITS FALSE NEIGHBOUR: 'it returns false'. Refute it at one input. -/
def fnExactEliminationOfWrong : ChangeSpec := { name := "fnExactEliminationOf", fn := fun _ => fun
  | [d] => { results := [.lit (.bool false)], args := [d] }
  | _ => none }
def FnExactEliminationOfWrongFalsely : Prop := fnExactEliminationOfRow.holds Try.pinned (OpenSpec.ofChange fnExactEliminationOfWrong)

/-- 'laws.FnExactGreatestWithin': WHATEVER THE INPUT: true; the input reads as it did. -/
def fnExactGreatestWithinSpec : ChangeSpec := { name := "fnExactGreatestWithin", fn := fun _ => fun
  | [d1, d2] => { results := [.lit (.bool true)], args := [d1, d2] }
  | _ => none }
def fnExactGreatestWithinRow : OpenClaim := { program := "ytniehinnbdcafaa", sum := "76799df5ab24c99a07d883897f48496fe85d98975f9fb293e5501d82738beeec", func := "loop.example/g01137/laws.FnExactGreatestWithin", spec := "fnExactGreatestWithin", apart := false }
def FnExactGreatestWithinSaid : Prop := fnExactGreatestWithinRow.holds Try.pinned (OpenSpec.ofChange fnExactGreatestWithinSpec)

/-- ITS FALSE NEIGHBOUR: 'it returns false'. Refute it at one input. -/
def fnExactGreatestWithinWrong : ChangeSpec := { name := "fnExactGreatestWithin", fn := fun _ => fun
  | [d1, d2] => { results := [.lit (.bool false)], args := [d1, d2] }
  | _ => none }
def FnExactGreatestWithinWrongFalsely : Prop := fnExactGreatestWithinRow.holds Try.pinned (OpenSpec.ofChange fnExactGreatestWithinWrong)

/-- 'laws.FnExactOuterFringe': WHATEVER THE INPUT: true; the input reads as it did. -/
def fnExactOuterFringeSpec : ChangeSpec := { name := "fnExactOuterFringe", fn := fun _ => fun
  | [d1, d2] => { results := [.lit (.bool true)], args := [d1, d2] }
  | _ => none }
def fnExactOuterFringeRow : OpenClaim := { program := "ytniehinnbdcafaa", sum := "76799df5ab24c99a07d883897f48496fe85d98975f9fb293e5501d82738beeec", func := "loop.example/g01137/laws.FnExactOuterFringe", spec := "fnExactOuterFringe", apart := false }
def FnExactOuterFringeSaid : Prop := fnExactOuterFringeRow.holds Try.pinned (OpenSpec.ofChange fnExactOuterFringeSpec)

/-- ITS FALSE NEIGHBOUR: 'it returns false'. Refute it at one input. -/
def fnExactOuterFringeWrong : ChangeSpec := { name := "fnExactOuterFringe", fn := fun _ => fun
  | [d1, d2] => { results := [.lit (.bool false)], args := [d1, d2] }
  | _ => none }
def FnExactOuterFringeWrongFalsely : Prop := fnExactOuterFringeRow.holds Try.pinned (OpenSpec.ofChange fnExactOuterFringeWrong)

/-- 'laws.FnExactBehindSet': WHATEVER THE INPUT: true; the input reads as it did. -/
def fnExactBehindSetSpec : ChangeSpec := { name := "fnExactBehindSet", fn := fun _ => fun
  | [d1, d2] => { results := [.lit (.bool true)], args := [d1, d2] }
  | _ => none }
def fnExactBehindSetRow : OpenClaim := { program := "ytniehinnbdcafaa", sum := "76799df5ab24c99a07d883897f48496fe85d98975f9fb293e5501d82738beeec", func := "loop.example/g01137/laws.FnExactBehindSet", spec := "fnExactBehindSet", apart := false }
def FnExactBehindSetSaid : Prop := fnExactBehindSetRow.holds Try.pinned (OpenSpec.ofChange fnExactBehindSetSpec)

/-- ITS FALSE NEIGHBOUR: 'it returns false'. Refute it at one input. -/
def fnExactBehindSetWrong : ChangeSpec := { name := "fnExactBehindSet", fn := fun _ => fun
  | [d1, d2] => { results := [.lit (.bool false)], args := [d1, d2] }
  | _ => none }
def FnExactBehindSetWrongFalsely : Prop := fnExactBehindSetRow.holds Try.pinned (OpenSpec.ofChange fnExactBehindSetWrong)

/-- 'laws.FnExactHullOf': WHATEVER THE INPUT: true; the input reads as it did. -/
def fnExactHullOfSpec : ChangeSpec := { name := "fnExactHullOf", fn := fun _ => fun
  | [d1, d2] => { results := [.lit (.bool true)], args := [d1, d2] }
  | _ => none }
def fnExactHullOfRow : OpenClaim := { program := "ytniehinnbdcafaa", sum := "76799df5ab24c99a07d883897f48496fe85d98975f9fb293e5501d82738beeec", func := "loop.example/g01137/laws.FnExactHullOf", spec := "fnExactHullOf", apart := false }
def FnExactHullOfSaid : Prop := fnExactHullOfRow.holds Try.pinned (OpenSpec.ofChange fnExactHullOfSpec)

/-- ITS FALSE NEIGHBOUR: 'it returns false'. Refute it at one input. -/
def fnExactHullOfWrong : ChangeSpec := { name := "fnExactHullOf", fn := fun _ => fun
  | [d1, d2] => { results := [.lit (.bool false)], args := [d1, d2] }
  | _ => none }
def FnExactHullOfWrongFalsely : Prop := fnExactHullOfRow.holds Try.pinned (OpenSpec.ofChange fnExactHullOfWrong)

/-- 'laws.FnExactSetOfWord': WHATEVER THE INPUT: true; the input reads as it did. -/
def fnExactSetOfWordSpec : ChangeSpec := { name := "fnExactSetOfWord", fn := fun _ => fun
  | [d1, d2] => { results := [.lit (.bool true)], args := [d1, d2] }
  | _ => none }
def fnExactSetOfWordRow : OpenClaim := { program := "ytniehinnbdcafaa", sum := "76799df5ab24c99a07d883897f48496fe85d98975f9fb293e5501d82738beeec", func := "loop.example/g01137/laws.FnExactSetOfWord", spec := "fnExactSetOfWord", apart := false }
def FnExactSetOfWordSaid : Prop := fnExactSetOfWordRow.holds Try.pinned (OpenSpec.ofChange fnExactSetOfWordSpec)

/-- ITS FALSE NEIGHBOUR: 'it returns false'. Refute it at one input. -/
def fnExactSetOfWordWrong : ChangeSpec := { name := "fnExactSetOfWord", fn := fun _ => fun
  | [d1, d2] => { results := [.lit (.bool false)], args := [d1, d2] }
  | _ => none }
def FnExactSetOfWordWrongFalsely : Prop := fnExactSetOfWordRow.holds Try.pinned (OpenSpec.ofChange fnExactSetOfWordWrong)

/-- 'laws.FnExactIsWord': WHATEVER THE INPUT: true; the input reads as it did. -/
def fnExactIsWordSpec : ChangeSpec := { name := "fnExactIsWord", fn := fun _ => fun
  | [d1, d2] => { results := [.lit (.bool true)], args := [d1, d2] }
  | _ => none }
def fnExactIsWordRow : OpenClaim := { program := "ytniehinnbdcafaa", sum := "76799df5ab24c99a07d883897f48496fe85d98975f9fb293e5501d82738beeec", func := "loop.example/g01137/laws.FnExactIsWord", spec := "fnExactIsWord", apart := false }
def FnExactIsWordSaid : Prop := fnExactIsWordRow.holds Try.pinned (OpenSpec.ofChange fnExactIsWordSpec)

/-- ITS FALSE NEIGHBOUR: 'it returns false'. Refute it at one input. -/
def fnExactIsWordWrong : ChangeSpec := { name := "fnExactIsWord", fn := fun _ => fun
  | [d1, d2] => { results := [.lit (.bool false)], args := [d1, d2] }
  | _ => none }
def FnExactIsWordWrongFalsely : Prop := fnExactIsWordRow.holds Try.pinned (OpenSpec.ofChange fnExactIsWordWrong)

/-- 'laws.FnExactExtremeOf': WHATEVER THE INPUT: true; the input reads as it did. -/
def fnExactExtremeOfSpec : ChangeSpec := { name := "fnExactExtremeOf", fn := fun _ => fun
  | [d1, d2] => { results := [.lit (.bool true)], args := [d1, d2] }
  | _ => none }
def fnExactExtremeOfRow : OpenClaim := { program := "ytniehinnbdcafaa", sum := "76799df5ab24c99a07d883897f48496fe85d98975f9fb293e5501d82738beeec", func := "loop.example/g01137/laws.FnExactExtremeOf", spec := "fnExactExtremeOf", apart := false }
def FnExactExtremeOfSaid : Prop := fnExactExtremeOfRow.holds Try.pinned (OpenSpec.ofChange fnExactExtremeOfSpec)

/-- ITS FALSE NEIGHBOUR: 'it returns false'. Refute it at one input. -/
def fnExactExtremeOfWrong : ChangeSpec := { name := "fnExactExtremeOf", fn := fun _ => fun
  | [d1, d2] => { results := [.lit (.bool false)], args := [d1, d2] }
  | _ => none }
def FnExactExtremeOfWrongFalsely : Prop := fnExactExtremeOfRow.holds Try.pinned (OpenSpec.ofChange fnExactExtremeOfWrong)

/- THE SECOND FORM. 'bulk': how many values and letters a reading holds, each counted each time it is reached (what is shared counts as often as it is met; a slice's spare places count too). A statement '..UptoSaid' is the law's where the arguments, and the package variables that the reading takes, are together of bulk at most 1048576: NARROWER than '..Said'. Prove '..Said' where nothing that the law and all that it calls make is longer than what came in: it says more and counts as full. Else prove '..UptoSaid'. A law counts once. -/
mutual
def uptoBulk {H : Type} : DataW H → Nat
  | .lit (.string bytes) => bytes.length + 1
  | .lit _ => 1
  | .nil => 1
  | .ptr d => uptoBulk d + 1
  | .slice elems spare => uptoBulkAll elems + uptoBulkAll spare + 1
  | .agg parts => uptoBulkAll parts + 1
  | .iface _ d => uptoBulk d + 1
  | .map entries => uptoBulkEntries entries + 1
  | .held _ => 1
def uptoBulkAll {H : Type} : List (DataW H) → Nat
  | [] => 0
  | d :: r => uptoBulk d + uptoBulkAll r
def uptoBulkEntries {H : Type} : List (Lit × DataW H) → Nat
  | [] => 0
  | x :: r => uptoBulkEntry x + uptoBulkEntries r
def uptoBulkEntry {H : Type} : Lit × DataW H → Nat
  | (.string bytes, d) => bytes.length + uptoBulk d + 1
  | (_, d) => uptoBulk d + 1
 end
def uptoSmall : (H : Type) → List (DataW H) → Bool := fun _ ds => decide (uptoBulkAll ds ≤ 1048576)
def OpenSpec.upto (s : _root_.Go.ChangeSpec) : _root_.Go.OpenSpec := { _root_.Go.OpenSpec.ofChange s with cond := some uptoSmall }

/-- 'laws.FnExactInnerFringe', WHERE WHAT IT READS IS OF BULK AT MOST 1048576: true; the input reads as it did. -/
def fnExactInnerFringeUptoRow : OpenClaim := { program := "ytniehinnbdcafaa", sum := "76799df5ab24c99a07d883897f48496fe85d98975f9fb293e5501d82738beeec", func := "loop.example/g01137/laws.FnExactInnerFringe", spec := "fnExactInnerFringe", apart := false, narrowed := true }
def FnExactInnerFringeUptoSaid : Prop := fnExactInnerFringeUptoRow.holds Try.pinned (OpenSpec.upto fnExactInnerFringeSpec)

/-- 'laws.FnExactFreeTriples', WHERE WHAT IT READS IS OF BULK AT MOST 1048576: true; the input reads as it did. -/
def fnExactFreeTriplesUptoRow : OpenClaim := { program := "ytniehinnbdcafaa", sum := "76799df5ab24c99a07d883897f48496fe85d98975f9fb293e5501d82738beeec", func := "loop.example/g01137/laws.FnExactFreeTriples", spec := "fnExactFreeTriples", apart := false, narrowed := true }
def FnExactFreeTriplesUptoSaid : Prop := fnExactFreeTriplesUptoRow.holds Try.pinned (OpenSpec.upto fnExactFreeTriplesSpec)

/-- 'laws.FnExactCanLearn', WHERE WHAT IT READS IS OF BULK AT MOST 1048576: true; the input reads as it did. -/
def fnExactCanLearnUptoRow : OpenClaim := { program := "ytniehinnbdcafaa", sum := "76799df5ab24c99a07d883897f48496fe85d98975f9fb293e5501d82738beeec", func := "loop.example/g01137/laws.FnExactCanLearn", spec := "fnExactCanLearn", apart := false, narrowed := true }
def FnExactCanLearnUptoSaid : Prop := fnExactCanLearnUptoRow.holds Try.pinned (OpenSpec.upto fnExactCanLearnSpec)

/-- 'laws.FnExactIsElimination', WHERE WHAT IT READS IS OF BULK AT MOST 1048576: true; the input reads as it did. -/
def fnExactIsEliminationUptoRow : OpenClaim := { program := "ytniehinnbdcafaa", sum := "76799df5ab24c99a07d883897f48496fe85d98975f9fb293e5501d82738beeec", func := "loop.example/g01137/laws.FnExactIsElimination", spec := "fnExactIsElimination", apart := false, narrowed := true }
def FnExactIsEliminationUptoSaid : Prop := fnExactIsEliminationUptoRow.holds Try.pinned (OpenSpec.upto fnExactIsEliminationSpec)

/-- 'laws.FnExactEliminationOf', WHERE WHAT IT READS IS OF BULK AT MOST 1048576: true; the input reads as it did. -/
def fnExactEliminationOfUptoRow : OpenClaim := { program := "ytniehinnbdcafaa", sum := "76799df5ab24c99a07d883897f48496fe85d98975f9fb293e5501d82738beeec", func := "loop.example/g01137/laws.FnExactEliminationOf", spec := "fnExactEliminationOf", apart := false, narrowed := true }
def FnExactEliminationOfUptoSaid : Prop := fnExactEliminationOfUptoRow.holds Try.pinned (OpenSpec.upto fnExactEliminationOfSpec)

/-- 'laws.FnExactGreatestWithin', WHERE WHAT IT READS IS OF BULK AT MOST 1048576: true; the input reads as it did. -/
def fnExactGreatestWithinUptoRow : OpenClaim := { program := "ytniehinnbdcafaa", sum := "76799df5ab24c99a07d883897f48496fe85d98975f9fb293e5501d82738beeec", func := "loop.example/g01137/laws.FnExactGreatestWithin", spec := "fnExactGreatestWithin", apart := false, narrowed := true }
def FnExactGreatestWithinUptoSaid : Prop := fnExactGreatestWithinUptoRow.holds Try.pinned (OpenSpec.upto fnExactGreatestWithinSpec)

/-- 'laws.FnExactOuterFringe', WHERE WHAT IT READS IS OF BULK AT MOST 1048576: true; the input reads as it did. -/
def fnExactOuterFringeUptoRow : OpenClaim := { program := "ytniehinnbdcafaa", sum := "76799df5ab24c99a07d883897f48496fe85d98975f9fb293e5501d82738beeec", func := "loop.example/g01137/laws.FnExactOuterFringe", spec := "fnExactOuterFringe", apart := false, narrowed := true }
def FnExactOuterFringeUptoSaid : Prop := fnExactOuterFringeUptoRow.holds Try.pinned (OpenSpec.upto fnExactOuterFringeSpec)

/-- 'laws.FnExactBehindSet', WHERE WHAT IT READS IS OF BULK AT MOST 1048576: true; the input reads as it did. -/
def fnExactBehindSetUptoRow : OpenClaim := { program := "ytniehinnbdcafaa", sum := "76799df5ab24c99a07d883897f48496fe85d98975f9fb293e5501d82738beeec", func := "loop.example/g01137/laws.FnExactBehindSet", spec := "fnExactBehindSet", apart := false, narrowed := true }
def FnExactBehindSetUptoSaid : Prop := fnExactBehindSetUptoRow.holds Try.pinned (OpenSpec.upto fnExactBehindSetSpec)

/-- 'laws.FnExactHullOf', WHERE WHAT IT READS IS OF BULK AT MOST 1048576: true; the input reads as it did. -/
def fnExactHullOfUptoRow : OpenClaim := { program := "ytniehinnbdcafaa", sum := "76799df5ab24c99a07d883897f48496fe85d98975f9fb293e5501d82738beeec", func := "loop.example/g01137/laws.FnExactHullOf", spec := "fnExactHullOf", apart := false, narrowed := true }
def FnExactHullOfUptoSaid : Prop := fnExactHullOfUptoRow.holds Try.pinned (OpenSpec.upto fnExactHullOfSpec)

/-- 'laws.FnExactSetOfWord', WHERE WHAT IT READS IS OF BULK AT MOST 1048576: true; the input reads as it did. -/
def fnExactSetOfWordUptoRow : OpenClaim := { program := "ytniehinnbdcafaa", sum := "76799df5ab24c99a07d883897f48496fe85d98975f9fb293e5501d82738beeec", func := "loop.example/g01137/laws.FnExactSetOfWord", spec := "fnExactSetOfWord", apart := false, narrowed := true }
def FnExactSetOfWordUptoSaid : Prop := fnExactSetOfWordUptoRow.holds Try.pinned (OpenSpec.upto fnExactSetOfWordSpec)

/-- 'laws.FnExactIsWord', WHERE WHAT IT READS IS OF BULK AT MOST 1048576: true; the input reads as it did. -/
def fnExactIsWordUptoRow : OpenClaim := { program := "ytniehinnbdcafaa", sum := "76799df5ab24c99a07d883897f48496fe85d98975f9fb293e5501d82738beeec", func := "loop.example/g01137/laws.FnExactIsWord", spec := "fnExactIsWord", apart := false, narrowed := true }
def FnExactIsWordUptoSaid : Prop := fnExactIsWordUptoRow.holds Try.pinned (OpenSpec.upto fnExactIsWordSpec)

/-- 'laws.FnExactExtremeOf', WHERE WHAT IT READS IS OF BULK AT MOST 1048576: true; the input reads as it did. -/
def fnExactExtremeOfUptoRow : OpenClaim := { program := "ytniehinnbdcafaa", sum := "76799df5ab24c99a07d883897f48496fe85d98975f9fb293e5501d82738beeec", func := "loop.example/g01137/laws.FnExactExtremeOf", spec := "fnExactExtremeOf", apart := false, narrowed := true }
def FnExactExtremeOfUptoSaid : Prop := fnExactExtremeOfUptoRow.holds Try.pinned (OpenSpec.upto fnExactExtremeOfSpec)

end Rows
end Go.Proofs.Ytniehinnbdcafaa
