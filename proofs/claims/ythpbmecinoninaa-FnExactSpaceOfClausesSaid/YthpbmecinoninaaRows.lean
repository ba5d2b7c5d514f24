/-
  No cell of these rows narrows 'for every input' (looked for: loops, veiled, ifaces, maps, wideKeys, modest, calm, conditions, laid).
  DERIVED. THE GIVEN ROWS OF THIS SEAT. 12 by the template 'for every input the law returns true; each argument reads behind the call as it read before'; 0 by the template 'total and deterministic' (their statements: YthpbmecinoninaaTotals.lean).
  GIVEN WITH THE SEED: the statements are not yours to turn. If you find one false, say at which input.
  Laid BY PROGRAM, IN A SANDBOX (cutbox-rows.mjs): the forced cells as the released guide's own fill.sh prints them over the translation 39e722747776487b… (all of the seat's roots in one cut). By AI agents, Wed Nov 11 2026. No macro, syntax, notation, axiom, sorry.
-/
import Derived.Test.YthpbmecinoninaaChecked
import GoSem.Claim
import GoSem.ClaimJoined
import GoSem.ClaimMapViews
import Derived.JoinedTies
import Derived.KernelRfl
namespace Go.Proofs.Ythpbmecinoninaa
/- THE CELL 'sum', in the pinned program and in every row, IS THE sha256 OF THE DUMP (.gsa) THAT YthpbmecinoninaaProg.lean LOADS. Nothing in Lean hashes anything: it is a label: what it is worth is what the hold of that sum in a sandbox is worth. -/
noncomputable def Try.pinned : Pinned := { name := "ythpbmecinoninaa", sum := "39e722747776487b9ee46c25f5ab20176f051618f355f65e9505f8db4b262d60", checked := Try.checked }
namespace Rows
def none {H : Type} : Left H := { results := [], args := [] }

/-- 'laws.FnExactIsTree': WHATEVER THE INPUT: true; the input reads as it did. -/
def fnExactIsTreeSpec : ChangeSpec := { name := "fnExactIsTree", fn := fun _ => fun
  | [d] => { results := [.lit (.bool true)], args := [d] }
  | _ => none }
def fnExactIsTreeRow : OpenClaim := { program := "ythpbmecinoninaa", sum := "39e722747776487b9ee46c25f5ab20176f051618f355f65e9505f8db4b262d60", func := "loop.example/g01137/laws.FnExactIsTree", spec := "fnExactIsTree", apart := false }
def FnExactIsTreeSaid : Prop := fnExactIsTreeRow.holds Try.pinned (OpenSpec.ofChange fnExactIsTreeSpec)

/-- ITS FALSE NEIGHBOUR: 'it returns false'. Refute it at one input. -/
def fnExactIsTreeWrong : ChangeSpec := { name := "fnExactIsTree", fn := fun _ => fun
  | [d] => { results := [.lit (.bool false)], args := [d] }
  | _ => none }
def FnExactIsTreeWrongFalsely : Prop := fnExactIsTreeRow.holds Try.pinned (OpenSpec.ofChange fnExactIsTreeWrong)

/-- 'laws.FnExactCountWords': WHATEVER THE INPUT: true; the input reads as it did. -/
def fnExactCountWordsSpec : ChangeSpec := { name := "fnExactCountWords", fn := fun _ => fun
  | [d] => { results := [.lit (.bool true)], args := [d] }
  | _ => none }
def fnExactCountWordsRow : OpenClaim := { program := "ythpbmecinoninaa", sum := "39e722747776487b9ee46c25f5ab20176f051618f355f65e9505f8db4b262d60", func := "loop.example/g01137/laws.FnExactCountWords", spec := "fnExactCountWords", unfollowed := true, recurses := true, apart := false }
def FnExactCountWordsSaid : Prop := fnExactCountWordsRow.holds Try.pinned (OpenSpec.ofChange fnExactCountWordsSpec)

/-- ITS FALSE NEIGHBOUR: 'it returns false'. Refute it at one input. -/
def fnExactCountWordsWrong : ChangeSpec := { name := "fnExactCountWords", fn := fun _ => fun
  | [d] => { results := [.lit (.bool false)], args := [d] }
  | _ => none }
def FnExactCountWordsWrongFalsely : Prop := fnExactCountWordsRow.holds Try.pinned (OpenSpec.ofChange fnExactCountWordsWrong)

/-- 'laws.FnExactCornersOf': WHATEVER THE INPUT: true; the input reads as it did. -/
def fnExactCornersOfSpec : ChangeSpec := { name := "fnExactCornersOf", fn := fun _ => fun
  | [d1, d2] => { results := [.lit (.bool true)], args := [d1, d2] }
  | _ => none }
def fnExactCornersOfRow : OpenClaim := { program := "ythpbmecinoninaa", sum := "39e722747776487b9ee46c25f5ab20176f051618f355f65e9505f8db4b262d60", func := "loop.example/g01137/laws.FnExactCornersOf", spec := "fnExactCornersOf", apart := false }
def FnExactCornersOfSaid : Prop := fnExactCornersOfRow.holds Try.pinned (OpenSpec.ofChange fnExactCornersOfSpec)

/-- ITS FALSE NEIGHBOUR: 'it returns false'. Refute it at one input. -/
def fnExactCornersOfWrong : ChangeSpec := { name := "fnExactCornersOf", fn := fun _ => fun
  | [d1, d2] => { results := [.lit (.bool false)], args := [d1, d2] }
  | _ => none }
def FnExactCornersOfWrongFalsely : Prop := fnExactCornersOfRow.holds Try.pinned (OpenSpec.ofChange fnExactCornersOfWrong)

/-- 'laws.FnExactCoveredBy': WHATEVER THE INPUT: true; the input reads as it did. -/
def fnExactCoveredBySpec : ChangeSpec := { name := "fnExactCoveredBy", fn := fun _ => fun
  | [d1, d2] => { results := [.lit (.bool true)], args := [d1, d2] }
  | _ => none }
def fnExactCoveredByRow : OpenClaim := { program := "ythpbmecinoninaa", sum := "39e722747776487b9ee46c25f5ab20176f051618f355f65e9505f8db4b262d60", func := "loop.example/g01137/laws.FnExactCoveredBy", spec := "fnExactCoveredBy", apart := false }
def FnExactCoveredBySaid : Prop := fnExactCoveredByRow.holds Try.pinned (OpenSpec.ofChange fnExactCoveredBySpec)

/-- ITS FALSE NEIGHBOUR: 'it returns false'. Refute it at one input. -/
def fnExactCoveredByWrong : ChangeSpec := { name := "fnExactCoveredBy", fn := fun _ => fun
  | [d1, d2] => { results := [.lit (.bool false)], args := [d1, d2] }
  | _ => none }
def FnExactCoveredByWrongFalsely : Prop := fnExactCoveredByRow.holds Try.pinned (OpenSpec.ofChange fnExactCoveredByWrong)

/-- 'laws.FnExactWayBetween': WHATEVER THE INPUT: true; the input reads as it did. -/
def fnExactWayBetweenSpec : ChangeSpec := { name := "fnExactWayBetween", fn := fun _ => fun
  | [d1, d2, d3] => { results := [.lit (.bool true)], args := [d1, d2, d3] }
  | _ => none }
def fnExactWayBetweenRow : OpenClaim := { program := "ythpbmecinoninaa", sum := "39e722747776487b9ee46c25f5ab20176f051618f355f65e9505f8db4b262d60", func := "loop.example/g01137/laws.FnExactWayBetween", spec := "fnExactWayBetween", apart := false }
def FnExactWayBetweenSaid : Prop := fnExactWayBetweenRow.holds Try.pinned (OpenSpec.ofChange fnExactWayBetweenSpec)

/-- ITS FALSE NEIGHBOUR: 'it returns false'. Refute it at one input. -/
def fnExactWayBetweenWrong : ChangeSpec := { name := "fnExactWayBetween", fn := fun _ => fun
  | [d1, d2, d3] => { results := [.lit (.bool false)], args := [d1, d2, d3] }
  | _ => none }
def FnExactWayBetweenWrongFalsely : Prop := fnExactWayBetweenRow.holds Try.pinned (OpenSpec.ofChange fnExactWayBetweenWrong)

/-- 'laws.FnExactSortWord': WHATEVER THE INPUT: true; the input reads as it did. -/
def fnExactSortWordSpec : ChangeSpec := { name := "fnExactSortWord", fn := fun _ => fun
  | [d1, d2] => { results := [.lit (.bool true)], args := [d1, d2] }
  | _ => none }
def fnExactSortWordRow : OpenClaim := { program := "ythpbmecinoninaa", sum := "39e722747776487b9ee46c25f5ab20176f051618f355f65e9505f8db4b262d60", func := "loop.example/g01137/laws.FnExactSortWord", spec := "fnExactSortWord", apart := false }
def FnExactSortWordSaid : Prop := fnExactSortWordRow.holds Try.pinned (OpenSpec.ofChange fnExactSortWordSpec)

/-- ITS FALSE NEIGHBOUR: 'it returns false'. Refute it at one input. -/
def fnExactSortWordWrong : ChangeSpec := { name := "fnExactSortWord", fn := fun _ => fun
  | [d1, d2] => { results := [.lit (.bool false)], args := [d1, d2] }
  | _ => none }
def FnExactSortWordWrongFalsely : Prop := fnExactSortWordRow.holds Try.pinned (OpenSpec.ofChange fnExactSortWordWrong)

/-- 'laws.FnExactCountFrom': WHATEVER THE INPUT: true; the input reads as it did. -/
def fnExactCountFromSpec : ChangeSpec := { name := "fnExactCountFrom", fn := fun _ => fun
  | [d1, d2] => { results := [.lit (.bool true)], args := [d1, d2] }
  | _ => none }
def fnExactCountFromRow : OpenClaim := { program := "ythpbmecinoninaa", sum := "39e722747776487b9ee46c25f5ab20176f051618f355f65e9505f8db4b262d60", func := "loop.example/g01137/laws.FnExactCountFrom", spec := "fnExactCountFrom", unfollowed := true, recurses := true, apart := false }
def FnExactCountFromSaid : Prop := fnExactCountFromRow.holds Try.pinned (OpenSpec.ofChange fnExactCountFromSpec)

/-- ITS FALSE NEIGHBOUR: 'it returns false'. Refute it at one input. -/
def fnExactCountFromWrong : ChangeSpec := { name := "fnExactCountFrom", fn := fun _ => fun
  | [d1, d2] => { results := [.lit (.bool false)], args := [d1, d2] }
  | _ => none }
def FnExactCountFromWrongFalsely : Prop := fnExactCountFromRow.holds Try.pinned (OpenSpec.ofChange fnExactCountFromWrong)

/-- 'laws.FnExactEndsSpace': WHATEVER THE INPUT: true; the input reads as it did. -/
def fnExactEndsSpaceSpec : ChangeSpec := { name := "fnExactEndsSpace", fn := fun _ => fun
  | [d1, d2] => { results := [.lit (.bool true)], args := [d1, d2] }
  | _ => none }
def fnExactEndsSpaceRow : OpenClaim := { program := "ythpbmecinoninaa", sum := "39e722747776487b9ee46c25f5ab20176f051618f355f65e9505f8db4b262d60", func := "loop.example/g01137/laws.FnExactEndsSpace", spec := "fnExactEndsSpace", unfollowed := true, recurses := true, apart := false }
def FnExactEndsSpaceSaid : Prop := fnExactEndsSpaceRow.holds Try.pinned (OpenSpec.ofChange fnExactEndsSpaceSpec)

/-- ITS FALSE NEIGHBOUR: 'it returns false'. Refute it at one input. -/
def fnExactEndsSpaceWrong : ChangeSpec := { name := "fnExactEndsSpace", fn := fun _ => fun
  | [d1, d2] => { results := [.lit (.bool false)], args := [d1, d2] }
  | _ => none }
def FnExactEndsSpaceWrongFalsely : Prop := fnExactEndsSpaceRow.holds Try.pinned (OpenSpec.ofChange fnExactEndsSpaceWrong)

/-- 'laws.FnExactLeastAbove': WHATEVER THE INPUT: true; the input reads as it did. -/
def fnExactLeastAboveSpec : ChangeSpec := { name := "fnExactLeastAbove", fn := fun _ => fun
  | [d1, d2] => { results := [.lit (.bool true)], args := [d1, d2] }
  | _ => none }
def fnExactLeastAboveRow : OpenClaim := { program := "ythpbmecinoninaa", sum := "39e722747776487b9ee46c25f5ab20176f051618f355f65e9505f8db4b262d60", func := "loop.example/g01137/laws.FnExactLeastAbove", spec := "fnExactLeastAbove", apart := false }
def FnExactLeastAboveSaid : Prop := fnExactLeastAboveRow.holds Try.pinned (OpenSpec.ofChange fnExactLeastAboveSpec)

/-- ITS FALSE NEIGHBOUR: 'it returns false'. Refute it at one input. -/
def fnExactLeastAboveWrong : ChangeSpec := { name := "fnExactLeastAbove", fn := fun _ => fun
  | [d1, d2] => { results := [.lit (.bool false)], args := [d1, d2] }
  | _ => none }
def FnExactLeastAboveWrongFalsely : Prop := fnExactLeastAboveRow.holds Try.pinned (OpenSpec.ofChange fnExactLeastAboveWrong)

/-- 'laws.FnExactSpaceWith': WHATEVER THE INPUT: true; the input reads as it did. -/
def fnExactSpaceWithSpec : ChangeSpec := { name := "fnExactSpaceWith", fn := fun _ => fun
  | [d1, d2] => { results := [.lit (.bool true)], args := [d1, d2] }
  | _ => none }
def fnExactSpaceWithRow : OpenClaim := { program := "ythpbmecinoninaa", sum := "39e722747776487b9ee46c25f5ab20176f051618f355f65e9505f8db4b262d60", func := "loop.example/g01137/laws.FnExactSpaceWith", spec := "fnExactSpaceWith", apart := false }
def FnExactSpaceWithSaid : Prop := fnExactSpaceWithRow.holds Try.pinned (OpenSpec.ofChange fnExactSpaceWithSpec)

/-- ITS FALSE NEIGHBOUR: 'it returns false'. Refute it at one input. -/
def fnExactSpaceWithWrong : ChangeSpec := { name := "fnExactSpaceWith", fn := fun _ => fun
  | [d1, d2] => { results := [.lit (.bool false)], args := [d1, d2] }
  | _ => none }
def FnExactSpaceWithWrongFalsely : Prop := fnExactSpaceWithRow.holds Try.pinned (OpenSpec.ofChange fnExactSpaceWithWrong)

/-- 'laws.FnExactSpaceOfClauses': WHATEVER THE INPUT: true; the input reads as it did. -/
def fnExactSpaceOfClausesSpec : ChangeSpec := { name := "fnExactSpaceOfClauses", fn := fun _ => fun
  | [d1, d2] => { results := [.lit (.bool true)], args := [d1, d2] }
  | _ => none }
def fnExactSpaceOfClausesRow : OpenClaim := { program := "ythpbmecinoninaa", sum := "39e722747776487b9ee46c25f5ab20176f051618f355f65e9505f8db4b262d60", func := "loop.example/g01137/laws.FnExactSpaceOfClauses", spec := "fnExactSpaceOfClauses", apart := false }
def FnExactSpaceOfClausesSaid : Prop := fnExactSpaceOfClausesRow.holds Try.pinned (OpenSpec.ofChange fnExactSpaceOfClausesSpec)

/-- ITS FALSE NEIGHBOUR: 'it returns false'. Refute it at one input. -/
def fnExactSpaceOfClausesWrong : ChangeSpec := { name := "fnExactSpaceOfClauses", fn := fun _ => fun
  | [d1, d2] => { results := [.lit (.bool false)], args := [d1, d2] }
  | _ => none }
def FnExactSpaceOfClausesWrongFalsely : Prop := fnExactSpaceOfClausesRow.holds Try.pinned (OpenSpec.ofChange fnExactSpaceOfClausesWrong)

/-- 'laws.FnExactUnionSpaces': WHATEVER THE INPUT: true; the input reads as it did. -/
def fnExactUnionSpacesSpec : ChangeSpec := { name := "fnExactUnionSpaces", fn := fun _ => fun
  | [d1, d2] => { results := [.lit (.bool true)], args := [d1, d2] }
  | _ => none }
def fnExactUnionSpacesRow : OpenClaim := { program := "ythpbmecinoninaa", sum := "39e722747776487b9ee46c25f5ab20176f051618f355f65e9505f8db4b262d60", func := "loop.example/g01137/laws.FnExactUnionSpaces", spec := "fnExactUnionSpaces", apart := false }
def FnExactUnionSpacesSaid : Prop := fnExactUnionSpacesRow.holds Try.pinned (OpenSpec.ofChange fnExactUnionSpacesSpec)

/-- ITS FALSE NEIGHBOUR: 'it returns false'. Refute it at one input. -/
def fnExactUnionSpacesWrong : ChangeSpec := { name := "fnExactUnionSpaces", fn := fun _ => fun
  | [d1, d2] => { results := [.lit (.bool false)], args := [d1, d2] }
  | _ => none }
def FnExactUnionSpacesWrongFalsely : Prop := fnExactUnionSpacesRow.holds Try.pinned (OpenSpec.ofChange fnExactUnionSpacesWrong)

/- THE SECOND FORM. 'bulk': how many values and letters a reading holds, each counted each time it is reached (what is shared counts as often as it is met; a slice's spare places count too). A statement '..UptoSaid' is the law's where the arguments, and the package variables that the reading takes, are together of bulk at most 1048576: NARROWER than '..Said'. Prove '..Said' where nothing that the law and all that it calls make is longer than what came in: it says more and counts as full. Else prove '..UptoSaid'. A law counts once. -/
mutual
def uptoBulk {H : Type} : DataW H → Nat
  | .lit (.string bytes) => bytes.length + 1
  | .lit _ => 1
  | .nil => 1
  | .ptr d => uptoBulk d + 1
  | .slice elems spare => uptoBulkAll elems + uptoBulkAll spare + 1
  | .agg parts => uptoBulkAll parts + 1
  | .iface _ d => uptoBulk d + 1
  | .map entries => uptoBulkEntries entries + 1
  | .held _ => 1
def uptoBulkAll {H : Type} : List (DataW H) → Nat
  | [] => 0
  | d :: r => uptoBulk d + uptoBulkAll r
def uptoBulkEntries {H : Type} : List (Lit × DataW H) → Nat
  | [] => 0
  | x :: r => uptoBulkEntry x + uptoBulkEntries r
def uptoBulkEntry {H : Type} : Lit × DataW H → Nat
  | (.string bytes, d) => bytes.length + uptoBulk d + 1
  | (_, d) => uptoBulk d + 1
 end
def uptoSmall : (H : Type) → List (DataW H) → Bool := fun _ ds => decide (uptoBulkAll ds ≤ 1048576)
def OpenSpec.upto (s : _root_.Go.ChangeSpec) : _root_.Go.OpenSpec := { _root_.Go.OpenSpec.ofChange s with cond := some uptoSmall }

/-- 'laws.FnExactIsTree', WHERE WHAT IT READS IS OF BULK AT MOST 1048576: true; the input reads as it did. -/
def fnExactIsTreeUptoRow : OpenClaim := { program := "ythpbmecinoninaa", sum := "39e722747776487b9ee46c25f5ab20176f051618f355f65e9505f8db4b262d60", func := "loop.example/g01137/laws.FnExactIsTree", spec := "fnExactIsTree", apart := false, narrowed := true }
def FnExactIsTreeUptoSaid : Prop := fnExactIsTreeUptoRow.holds Try.pinned (OpenSpec.upto fnExactIsTreeSpec)

/-- 'laws.FnExactCountWords', WHERE WHAT IT READS IS OF BULK AT MOST 1048576: true; the input reads as it did. -/
def fnExactCountWordsUptoRow : OpenClaim := { program := "ythpbmecinoninaa", sum := "39e722747776487b9ee46c25f5ab20176f051618f355f65e9505f8db4b262d60", func := "loop.example/g01137/laws.FnExactCountWords", spec := "fnExactCountWords", unfollowed := true, recurses := true, apart := false, narrowed := true }
def FnExactCountWordsUptoSaid : Prop := fnExactCountWordsUptoRow.holds Try.pinned (OpenSpec.upto fnExactCountWordsSpec)

/-- 'laws.FnExactCornersOf', WHERE WHAT IT READS IS OF BULK AT MOST 1048576: true; the input reads as it did. -/
def fnExactCornersOfUptoRow : OpenClaim := { program := "ythpbmecinoninaa", sum := "39e722747776487b9ee46c25f5ab20176f051618f355f65e9505f8db4b262d60", func := "loop.example/g01137/laws.FnExactCornersOf", spec := "fnExactCornersOf", apart := false, narrowed := true }
def FnExactCornersOfUptoSaid : Prop := fnExactCornersOfUptoRow.holds Try.pinned (OpenSpec.upto fnExactCornersOfSpec)

/-- 'laws.FnExactCoveredBy', WHERE WHAT IT READS IS OF BULK AT MOST 1048576: true; the input reads as it did. -/
def fnExactCoveredByUptoRow : OpenClaim := { program := "ythpbmecinoninaa", sum := "39e722747776487b9ee46c25f5ab20176f051618f355f65e9505f8db4b262d60", func := "loop.example/g01137/laws.FnExactCoveredBy", spec := "fnExactCoveredBy", apart := false, narrowed := true }
def FnExactCoveredByUptoSaid : Prop := fnExactCoveredByUptoRow.holds Try.pinned (OpenSpec.upto fnExactCoveredBySpec)

/-- 'laws.FnExactWayBetween', WHERE WHAT IT READS IS OF BULK AT MOST 1048576: true; the input reads as it did. -/
def fnExactWayBetweenUptoRow : OpenClaim := { program := "ythpbmecinoninaa", sum := "39e722747776487b9ee46c25f5ab20176f051618f355f65e9505f8db4b262d60", func := "loop.example/g01137/laws.FnExactWayBetween", spec := "fnExactWayBetween", apart := false, narrowed := true }
def FnExactWayBetweenUptoSaid : Prop := fnExactWayBetweenUptoRow.holds Try.pinned (OpenSpec.upto fnExactWayBetweenSpec)

/-- 'laws.FnExactSortWord', WHERE WHAT IT READS IS OF BULK AT MOST 1048576: true; the input reads as it did. -/
def fnExactSortWordUptoRow : OpenClaim := { program := "ythpbmecinoninaa", sum := "39e722747776487b9ee46c25f5ab20176f051618f355f65e9505f8db4b262d60", func := "loop.example/g01137/laws.FnExactSortWord", spec := "fnExactSortWord", apart := false, narrowed := true }
def FnExactSortWordUptoSaid : Prop := fnExactSortWordUptoRow.holds Try.pinned (OpenSpec.upto fnExactSortWordSpec)

/-- 'laws.FnExactCountFrom', WHERE WHAT IT READS IS OF BULK AT MOST 1048576: true; the input reads as it did. -/
def fnExactCountFromUptoRow : OpenClaim := { program := "ythpbmecinoninaa", sum := "39e722747776487b9ee46c25f5ab20176f051618f355f65e9505f8db4b262d60", func := "loop.example/g01137/laws.FnExactCountFrom", spec := "fnExactCountFrom", unfollowed := true, recurses := true, apart := false, narrowed := true }
def FnExactCountFromUptoSaid : Prop := fnExactCountFromUptoRow.holds Try.pinned (OpenSpec.upto fnExactCountFromSpec)

/-- 'laws.FnExactEndsSpace', WHERE WHAT IT READS IS OF BULK AT MOST 1048576: true; the input reads as it did. -/
def fnExactEndsSpaceUptoRow : OpenClaim := { program := "ythpbmecinoninaa", sum := "39e722747776487b9ee46c25f5ab20176f051618f355f65e9505f8db4b262d60", func := "loop.example/g01137/laws.FnExactEndsSpace", spec := "fnExactEndsSpace", unfollowed := true, recurses := true, apart := false, narrowed := true }
def FnExactEndsSpaceUptoSaid : Prop := fnExactEndsSpaceUptoRow.holds Try.pinned (OpenSpec.upto fnExactEndsSpaceSpec)

/-- 'laws.FnExactLeastAbove', WHERE WHAT IT READS IS OF BULK AT MOST 1048576: true; the input reads as it did. -/
def fnExactLeastAboveUptoRow : OpenClaim := { program := "ythpbmecinoninaa", sum := "39e722747776487b9ee46c25f5ab20176f051618f355f65e9505f8db4b262d60", func := "loop.example/g01137/laws.FnExactLeastAbove", spec := "fnExactLeastAbove", apart := false, narrowed := true }
def FnExactLeastAboveUptoSaid : Prop := fnExactLeastAboveUptoRow.holds Try.pinned (OpenSpec.upto fnExactLeastAboveSpec)

/-- 'laws.FnExactSpaceWith', WHERE WHAT IT READS IS OF BULK AT MOST 1048576: true; the input reads as it did. -/
def fnExactSpaceWithUptoRow : OpenClaim := { program := "ythpbmecinoninaa", sum := "39e722747776487b9ee46c25f5ab20176f051618f355f65e9505f8db4b262d60", func := "loop.example/g01137/laws.FnExactSpaceWith", spec := "fnExactSpaceWith", apart := false, narrowed := true }
def FnExactSpaceWithUptoSaid : Prop := fnExactSpaceWithUptoRow.holds Try.pinned (OpenSpec.upto fnExactSpaceWithSpec)

/-- 'laws.FnExactSpaceOfClauses', WHERE WHAT IT READS IS OF BULK AT MOST 1048576: true; the input reads as it did. -/
def fnExactSpaceOfClausesUptoRow : OpenClaim := { program := "ythpbmecinoninaa", sum := "39e722747776487b9ee46c25f5ab20176f051618f355f65e9505f8db4b262d60", func := "loop.example/g01137/laws.FnExactSpaceOfClauses", spec := "fnExactSpaceOfClauses", apart := false, narrowed := true }
def FnExactSpaceOfClausesUptoSaid : Prop := fnExactSpaceOfClausesUptoRow.holds Try.pinned (OpenSpec.upto fnExactSpaceOfClausesSpec)

/-- 'laws.FnExactUnionSpaces', WHERE WHAT IT READS IS OF BULK AT MOST 1048576: true; the input reads as it did. -/
def fnExactUnionSpacesUptoRow : OpenClaim := { program := "ythpbmecinoninaa", sum := "39e722747776487b9ee46c25f5ab20176f051618f355f65e9505f8db4b262d60", func := "loop.example/g01137/laws.FnExactUnionSpaces", spec := "fnExactUnionSpaces", apart := false, narrowed := true }
def FnExactUnionSpacesUptoSaid : Prop := fnExactUnionSpacesUptoRow.holds Try.pinned (OpenSpec.upto fnExactUnionSpacesSpec)

end Rows
end Go.Proofs.Ythpbmecinoninaa
