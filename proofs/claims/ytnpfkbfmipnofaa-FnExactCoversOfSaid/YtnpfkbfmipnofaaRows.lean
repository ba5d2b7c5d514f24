/-
  No cell of these rows narrows 'for every input' (looked for: loops, veiled, ifaces, maps, wideKeys, modest, calm, conditions, laid).
  DERIVED. THE GIVEN ROWS OF THIS SEAT. 12 by the template 'for every input the law returns true; each argument reads behind the call as it read before'; 0 by the template 'total and deterministic' (their statements: YtnpfkbfmipnofaaTotals.lean).
  GIVEN WITH THE SEED: the statements are not yours to turn. If you find one false, say at which input.
  Laid BY PROGRAM, IN A SANDBOX (cutbox-rows.mjs): the forced cells as the released guide's own fill.sh prints them over the translation 64ed9c9a450b599e… (all of the seat's roots in one cut). By AI agents, Wed Nov 11 2026. No macro, syntax, notation, axiom, sorry.
-/
import Derived.Test.YtnpfkbfmipnofaaChecked
import GoSem.Claim
import GoSem.ClaimJoined
import GoSem.ClaimMapViews
import Derived.JoinedTies
import Derived.KernelRfl
namespace Go.Proofs.Ytnpfkbfmipnofaa
/- THE CELL 'sum', in the pinned program and in every row, IS THE sha256 OF THE DUMP (.gsa) THAT YtnpfkbfmipnofaaProg.lean LOADS. Nothing in Lean hashes anything: it is a label: what it is worth is what the hold of that sum in a sandbox is worth. -/
noncomputable def Try.pinned : Pinned := { name := "ytnpfkbfmipnofaa", sum := "64ed9c9a450b599ec8606d5a1a611f90cd7b66e7a18565cf7cfd3c4c3ad1167a", checked := Try.checked }
namespace Rows
def none {H : Type} : Left H := { results := [], args := [] }

/-- 'laws.FnExactIsPath': WHATEVER THE INPUT: true; the input reads as it did. -/
def fnExactIsPathSpec : ChangeSpec := { name := "fnExactIsPath", fn := fun _ => fun
  | [d1, d2] => { results := [.lit (.bool true)], args := [d1, d2] }
  | _ => none }
def fnExactIsPathRow : OpenClaim := { program := "ytnpfkbfmipnofaa", sum := "64ed9c9a450b599ec8606d5a1a611f90cd7b66e7a18565cf7cfd3c4c3ad1167a", func := "loop.example/g01137/laws.FnExactIsPath", spec := "fnExactIsPath", apart := false }
def FnExactIsPathSaid : Prop := fnExactIsPathRow.holds Try.pinned (OpenSpec.ofChange fnExactIsPathSpec)

/-- ITS FALSE NEIGHBOUR: 'it returns false'. Refute it at one input. -/
def fnExactIsPathWrong : ChangeSpec := { name := "fnExactIsPath", fn := fun _ => fun
  | [d1, d2] => { results := [.lit (.bool false)], args := [d1, d2] }
  | _ => none }
def FnExactIsPathWrongFalsely : Prop := fnExactIsPathRow.holds Try.pinned (OpenSpec.ofChange fnExactIsPathWrong)

/-- 'laws.FnExactSpaceOfPaths': WHATEVER THE INPUT: true; the input reads as it did. -/
def fnExactSpaceOfPathsSpec : ChangeSpec := { name := "fnExactSpaceOfPaths", fn := fun _ => fun
  | [d1, d2] => { results := [.lit (.bool true)], args := [d1, d2] }
  | _ => none }
def fnExactSpaceOfPathsRow : OpenClaim := { program := "ytnpfkbfmipnofaa", sum := "64ed9c9a450b599ec8606d5a1a611f90cd7b66e7a18565cf7cfd3c4c3ad1167a", func := "loop.example/g01137/laws.FnExactSpaceOfPaths", spec := "fnExactSpaceOfPaths", apart := false }
def FnExactSpaceOfPathsSaid : Prop := fnExactSpaceOfPathsRow.holds Try.pinned (OpenSpec.ofChange fnExactSpaceOfPathsSpec)

/-- ITS FALSE NEIGHBOUR: 'it returns false'. Refute it at one input. -/
def fnExactSpaceOfPathsWrong : ChangeSpec := { name := "fnExactSpaceOfPaths", fn := fun _ => fun
  | [d1, d2] => { results := [.lit (.bool false)], args := [d1, d2] }
  | _ => none }
def FnExactSpaceOfPathsWrongFalsely : Prop := fnExactSpaceOfPathsRow.holds Try.pinned (OpenSpec.ofChange fnExactSpaceOfPathsWrong)

/-- 'laws.FnExactCoversOf': WHATEVER THE INPUT: true; the input reads as it did. -/
def fnExactCoversOfSpec : ChangeSpec := { name := "fnExactCoversOf", fn := fun _ => fun
  | [d] => { results := [.lit (.bool true)], args := [d] }
  | _ => none }
def fnExactCoversOfRow : OpenClaim := { program := "ytnpfkbfmipnofaa", sum := "64ed9c9a450b599ec8606d5a1a611f90cd7b66e7a18565cf7cfd3c4c3ad1167a", func := "loop.example/g01137/laws.FnExactCoversOf", spec := "fnExactCoversOf", apart := false }
def FnExactCoversOfSaid : Prop := fnExactCoversOfRow.holds Try.pinned (OpenSpec.ofChange fnExactCoversOfSpec)

/-- ITS FALSE NEIGHBOUR: 'it returns false'. Refute it at one input. -/
def fnExactCoversOfWrong : ChangeSpec := { name := "fnExactCoversOf", fn := fun _ => fun
  | [d] => { results := [.lit (.bool false)], args := [d] }
  | _ => none }
def FnExactCoversOfWrongFalsely : Prop := fnExactCoversOfRow.holds Try.pinned (OpenSpec.ofChange fnExactCoversOfWrong)

/-- 'laws.FnExactSwapWord': WHATEVER THE INPUT: true; the input reads as it did. -/
def fnExactSwapWordSpec : ChangeSpec := { name := "fnExactSwapWord", fn := fun _ => fun
  | [d1, d2, d3] => { results := [.lit (.bool true)], args := [d1, d2, d3] }
  | _ => none }
def fnExactSwapWordRow : OpenClaim := { program := "ytnpfkbfmipnofaa", sum := "64ed9c9a450b599ec8606d5a1a611f90cd7b66e7a18565cf7cfd3c4c3ad1167a", func := "loop.example/g01137/laws.FnExactSwapWord", spec := "fnExactSwapWord", apart := false }
def FnExactSwapWordSaid : Prop := fnExactSwapWordRow.holds Try.pinned (OpenSpec.ofChange fnExactSwapWordSpec)

/-- ITS FALSE NEIGHBOUR: 'it returns false'. Refute it at one input. -/
def fnExactSwapWordWrong : ChangeSpec := { name := "fnExactSwapWord", fn := fun _ => fun
  | [d1, d2, d3] => { results := [.lit (.bool false)], args := [d1, d2, d3] }
  | _ => none }
def FnExactSwapWordWrongFalsely : Prop := fnExactSwapWordRow.holds Try.pinned (OpenSpec.ofChange fnExactSwapWordWrong)

/-- 'laws.FnExactLongestPath': WHATEVER THE INPUT: true; the input reads as it did. -/
def fnExactLongestPathSpec : ChangeSpec := { name := "fnExactLongestPath", fn := fun _ => fun
  | [d] => { results := [.lit (.bool true)], args := [d] }
  | _ => none }
def fnExactLongestPathRow : OpenClaim := { program := "ytnpfkbfmipnofaa", sum := "64ed9c9a450b599ec8606d5a1a611f90cd7b66e7a18565cf7cfd3c4c3ad1167a", func := "loop.example/g01137/laws.FnExactLongestPath", spec := "fnExactLongestPath", apart := false }
def FnExactLongestPathSaid : Prop := fnExactLongestPathRow.holds Try.pinned (OpenSpec.ofChange fnExactLongestPathSpec)

/-- ITS FALSE NEIGHBOUR: 'it returns false'. Refute it at one input. -/
def fnExactLongestPathWrong : ChangeSpec := { name := "fnExactLongestPath", fn := fun _ => fun
  | [d] => { results := [.lit (.bool false)], args := [d] }
  | _ => none }
def FnExactLongestPathWrongFalsely : Prop := fnExactLongestPathRow.holds Try.pinned (OpenSpec.ofChange fnExactLongestPathWrong)

/-- 'laws.FnExactSpaceOfWords': WHATEVER THE INPUT: true; the input reads as it did. -/
def fnExactSpaceOfWordsSpec : ChangeSpec := { name := "fnExactSpaceOfWords", fn := fun _ => fun
  | [d] => { results := [.lit (.bool true)], args := [d] }
  | _ => none }
def fnExactSpaceOfWordsRow : OpenClaim := { program := "ytnpfkbfmipnofaa", sum := "64ed9c9a450b599ec8606d5a1a611f90cd7b66e7a18565cf7cfd3c4c3ad1167a", func := "loop.example/g01137/laws.FnExactSpaceOfWords", spec := "fnExactSpaceOfWords", unfollowed := true, recurses := true, apart := false }
def FnExactSpaceOfWordsSaid : Prop := fnExactSpaceOfWordsRow.holds Try.pinned (OpenSpec.ofChange fnExactSpaceOfWordsSpec)

/-- ITS FALSE NEIGHBOUR: 'it returns false'. Refute it at one input. -/
def fnExactSpaceOfWordsWrong : ChangeSpec := { name := "fnExactSpaceOfWords", fn := fun _ => fun
  | [d] => { results := [.lit (.bool false)], args := [d] }
  | _ => none }
def FnExactSpaceOfWordsWrongFalsely : Prop := fnExactSpaceOfWordsRow.holds Try.pinned (OpenSpec.ofChange fnExactSpaceOfWordsWrong)

/-- 'laws.FnExactPathsOf': WHATEVER THE INPUT: true; the input reads as it did. -/
def fnExactPathsOfSpec : ChangeSpec := { name := "fnExactPathsOf", fn := fun _ => fun
  | [d] => { results := [.lit (.bool true)], args := [d] }
  | _ => none }
def fnExactPathsOfRow : OpenClaim := { program := "ytnpfkbfmipnofaa", sum := "64ed9c9a450b599ec8606d5a1a611f90cd7b66e7a18565cf7cfd3c4c3ad1167a", func := "loop.example/g01137/laws.FnExactPathsOf", spec := "fnExactPathsOf", apart := false }
def FnExactPathsOfSaid : Prop := fnExactPathsOfRow.holds Try.pinned (OpenSpec.ofChange fnExactPathsOfSpec)

/-- ITS FALSE NEIGHBOUR: 'it returns false'. Refute it at one input. -/
def fnExactPathsOfWrong : ChangeSpec := { name := "fnExactPathsOf", fn := fun _ => fun
  | [d] => { results := [.lit (.bool false)], args := [d] }
  | _ => none }
def FnExactPathsOfWrongFalsely : Prop := fnExactPathsOfRow.holds Try.pinned (OpenSpec.ofChange fnExactPathsOfWrong)

/-- 'laws.FnExactChordalSpace': WHATEVER THE INPUT: true; the input reads as it did. -/
def fnExactChordalSpaceSpec : ChangeSpec := { name := "fnExactChordalSpace", fn := fun _ => fun
  | [d] => { results := [.lit (.bool true)], args := [d] }
  | _ => none }
def fnExactChordalSpaceRow : OpenClaim := { program := "ytnpfkbfmipnofaa", sum := "64ed9c9a450b599ec8606d5a1a611f90cd7b66e7a18565cf7cfd3c4c3ad1167a", func := "loop.example/g01137/laws.FnExactChordalSpace", spec := "fnExactChordalSpace", apart := false }
def FnExactChordalSpaceSaid : Prop := fnExactChordalSpaceRow.holds Try.pinned (OpenSpec.ofChange fnExactChordalSpaceSpec)

/-- ITS FALSE NEIGHBOUR: 'it returns false'. Refute it at one input. -/
def fnExactChordalSpaceWrong : ChangeSpec := { name := "fnExactChordalSpace", fn := fun _ => fun
  | [d] => { results := [.lit (.bool false)], args := [d] }
  | _ => none }
def FnExactChordalSpaceWrongFalsely : Prop := fnExactChordalSpaceRow.holds Try.pinned (OpenSpec.ofChange fnExactChordalSpaceWrong)

/-- 'laws.FnExactExchangeWord': WHATEVER THE INPUT: true; the input reads as it did. -/
def fnExactExchangeWordSpec : ChangeSpec := { name := "fnExactExchangeWord", fn := fun _ => fun
  | [d1, d2, d3] => { results := [.lit (.bool true)], args := [d1, d2, d3] }
  | _ => none }
def fnExactExchangeWordRow : OpenClaim := { program := "ytnpfkbfmipnofaa", sum := "64ed9c9a450b599ec8606d5a1a611f90cd7b66e7a18565cf7cfd3c4c3ad1167a", func := "loop.example/g01137/laws.FnExactExchangeWord", spec := "fnExactExchangeWord", apart := false }
def FnExactExchangeWordSaid : Prop := fnExactExchangeWordRow.holds Try.pinned (OpenSpec.ofChange fnExactExchangeWordSpec)

/-- ITS FALSE NEIGHBOUR: 'it returns false'. Refute it at one input. -/
def fnExactExchangeWordWrong : ChangeSpec := { name := "fnExactExchangeWord", fn := fun _ => fun
  | [d1, d2, d3] => { results := [.lit (.bool false)], args := [d1, d2, d3] }
  | _ => none }
def FnExactExchangeWordWrongFalsely : Prop := fnExactExchangeWordRow.holds Try.pinned (OpenSpec.ofChange fnExactExchangeWordWrong)

/-- 'laws.FnExactFinishWord': WHATEVER THE INPUT: true; the input reads as it did. -/
def fnExactFinishWordSpec : ChangeSpec := { name := "fnExactFinishWord", fn := fun _ => fun
  | [d1, d2] => { results := [.lit (.bool true)], args := [d1, d2] }
  | _ => none }
def fnExactFinishWordRow : OpenClaim := { program := "ytnpfkbfmipnofaa", sum := "64ed9c9a450b599ec8606d5a1a611f90cd7b66e7a18565cf7cfd3c4c3ad1167a", func := "loop.example/g01137/laws.FnExactFinishWord", spec := "fnExactFinishWord", apart := false }
def FnExactFinishWordSaid : Prop := fnExactFinishWordRow.holds Try.pinned (OpenSpec.ofChange fnExactFinishWordSpec)

/-- ITS FALSE NEIGHBOUR: 'it returns false'. Refute it at one input. -/
def fnExactFinishWordWrong : ChangeSpec := { name := "fnExactFinishWord", fn := fun _ => fun
  | [d1, d2] => { results := [.lit (.bool false)], args := [d1, d2] }
  | _ => none }
def FnExactFinishWordWrongFalsely : Prop := fnExactFinishWordRow.holds Try.pinned (OpenSpec.ofChange fnExactFinishWordWrong)

/-- 'laws.FnExactTreeSpace': WHATEVER THE INPUT: true; the input reads as it did. -/
def fnExactTreeSpaceSpec : ChangeSpec := { name := "fnExactTreeSpace", fn := fun _ => fun
  | [d] => { results := [.lit (.bool true)], args := [d] }
  | _ => none }
def fnExactTreeSpaceRow : OpenClaim := { program := "ytnpfkbfmipnofaa", sum := "64ed9c9a450b599ec8606d5a1a611f90cd7b66e7a18565cf7cfd3c4c3ad1167a", func := "loop.example/g01137/laws.FnExactTreeSpace", spec := "fnExactTreeSpace", unfollowed := true, recurses := true, apart := false }
def FnExactTreeSpaceSaid : Prop := fnExactTreeSpaceRow.holds Try.pinned (OpenSpec.ofChange fnExactTreeSpaceSpec)

/-- ITS FALSE NEIGHBOUR: 'it returns false'. Refute it at one input. -/
def fnExactTreeSpaceWrong : ChangeSpec := { name := "fnExactTreeSpace", fn := fun _ => fun
  | [d] => { results := [.lit (.bool false)], args := [d] }
  | _ => none }
def FnExactTreeSpaceWrongFalsely : Prop := fnExactTreeSpaceRow.holds Try.pinned (OpenSpec.ofChange fnExactTreeSpaceWrong)

/-- 'laws.FnExactSwapWay': WHATEVER THE INPUT: true; the input reads as it did. -/
def fnExactSwapWaySpec : ChangeSpec := { name := "fnExactSwapWay", fn := fun _ => fun
  | [d1, d2, d3] => { results := [.lit (.bool true)], args := [d1, d2, d3] }
  | _ => none }
def fnExactSwapWayRow : OpenClaim := { program := "ytnpfkbfmipnofaa", sum := "64ed9c9a450b599ec8606d5a1a611f90cd7b66e7a18565cf7cfd3c4c3ad1167a", func := "loop.example/g01137/laws.FnExactSwapWay", spec := "fnExactSwapWay", apart := false }
def FnExactSwapWaySaid : Prop := fnExactSwapWayRow.holds Try.pinned (OpenSpec.ofChange fnExactSwapWaySpec)

/-- ITS FALSE NEIGHBOUR: 'it returns false'. Refute it at one input. -/
def fnExactSwapWayWrong : ChangeSpec := { name := "fnExactSwapWay", fn := fun _ => fun
  | [d1, d2, d3] => { results := [.lit (.bool false)], args := [d1, d2, d3] }
  | _ => none }
def FnExactSwapWayWrongFalsely : Prop := fnExactSwapWayRow.holds Try.pinned (OpenSpec.ofChange fnExactSwapWayWrong)

/- THE SECOND FORM. 'bulk': how many values and letters a reading holds, each counted each time it is reached (what is shared counts as often as it is met; a slice's spare places count too). A statement '..UptoSaid' is the law's where the arguments, and the package variables that the reading takes, are together of bulk at most 1048576: NARROWER than '..Said'. Prove '..Said' where nothing that the law and all that it calls make is longer than what came in: it says more and counts as full. Else prove '..UptoSaid'. A law counts once. -/
mutual
def uptoBulk {H : Type} : DataW H → Nat
  | .lit (.string bytes) => bytes.length + 1
  | .lit _ => 1
  | .nil => 1
  | .ptr d => uptoBulk d + 1
  | .slice elems spare => uptoBulkAll elems + uptoBulkAll spare + 1
  | .agg parts => uptoBulkAll parts + 1
  | .iface _ d => uptoBulk d + 1
  | .map entries => uptoBulkEntries entries + 1
  | .held _ => 1
def uptoBulkAll {H : Type} : List (DataW H) → Nat
  | [] => 0
  | d :: r => uptoBulk d + uptoBulkAll r
def uptoBulkEntries {H : Type} : List (Lit × DataW H) → Nat
  | [] => 0
  | x :: r => uptoBulkEntry x + uptoBulkEntries r
def uptoBulkEntry {H : Type} : Lit × DataW H → Nat
  | (.string bytes, d) => bytes.length + uptoBulk d + 1
  | (_, d) => uptoBulk d + 1
 end
def uptoSmall : (H : Type) → List (DataW H) → Bool := fun _ ds => decide (uptoBulkAll ds ≤ 1048576)
def OpenSpec.upto (s : _root_.Go.ChangeSpec) : _root_.Go.OpenSpec := { _root_.Go.OpenSpec.ofChange s with cond := some uptoSmall }

/-- 'laws.FnExactIsPath', WHERE WHAT IT READS IS OF BULK AT MOST 1048576: true; the input reads as it did. -/
def fnExactIsPathUptoRow : OpenClaim := { program := "ytnpfkbfmipnofaa", sum := "64ed9c9a450b599ec8606d5a1a611f90cd7b66e7a18565cf7cfd3c4c3ad1167a", func := "loop.example/g01137/laws.FnExactIsPath", spec := "fnExactIsPath", apart := false, narrowed := true }
def FnExactIsPathUptoSaid : Prop := fnExactIsPathUptoRow.holds Try.pinned (OpenSpec.upto fnExactIsPathSpec)

/-- 'laws.FnExactSpaceOfPaths', WHERE WHAT IT READS IS OF BULK AT MOST 1048576: true; the input reads as it did. -/
def fnExactSpaceOfPathsUptoRow : OpenClaim := { program := "ytnpfkbfmipnofaa", sum := "64ed9c9a450b599ec8606d5a1a611f90cd7b66e7a18565cf7cfd3c4c3ad1167a", func := "loop.example/g01137/laws.FnExactSpaceOfPaths", spec := "fnExactSpaceOfPaths", apart := false, narrowed := true }
def FnExactSpaceOfPathsUptoSaid : Prop := fnExactSpaceOfPathsUptoRow.holds Try.pinned (OpenSpec.upto fnExactSpaceOfPathsSpec)

/-- 'laws.FnExactCoversOf', WHERE WHAT IT READS IS OF BULK AT MOST 1048576: true; the input reads as it did. -/
def fnExactCoversOfUptoRow : OpenClaim := { program := "ytnpfkbfmipnofaa", sum := "64ed9c9a450b599ec8606d5a1a611f90cd7b66e7a18565cf7cfd3c4c3ad1167a", func := "loop.example/g01137/laws.FnExactCoversOf", spec := "fnExactCoversOf", apart := false, narrowed := true }
def FnExactCoversOfUptoSaid : Prop := fnExactCoversOfUptoRow.holds Try.pinned (OpenSpec.upto fnExactCoversOfSpec)

/-- 'laws.FnExactSwapWord', WHERE WHAT IT READS IS OF BULK AT MOST 1048576: true; the input reads as it did. -/
def fnExactSwapWordUptoRow : OpenClaim := { program := "ytnpfkbfmipnofaa", sum := "64ed9c9a450b599ec8606d5a1a611f90cd7b66e7a18565cf7cfd3c4c3ad1167a", func := "loop.example/g01137/laws.FnExactSwapWord", spec := "fnExactSwapWord", apart := false, narrowed := true }
def FnExactSwapWordUptoSaid : Prop := fnExactSwapWordUptoRow.holds Try.pinned (OpenSpec.upto fnExactSwapWordSpec)

/-- 'laws.FnExactLongestPath', WHERE WHAT IT READS IS OF BULK AT MOST 1048576: true; the input reads as it did. -/
def fnExactLongestPathUptoRow : OpenClaim := { program := "ytnpfkbfmipnofaa", sum := "64ed9c9a450b599ec8606d5a1a611f90cd7b66e7a18565cf7cfd3c4c3ad1167a", func := "loop.example/g01137/laws.FnExactLongestPath", spec := "fnExactLongestPath", apart := false, narrowed := true }
def FnExactLongestPathUptoSaid : Prop := fnExactLongestPathUptoRow.holds Try.pinned (OpenSpec.upto fnExactLongestPathSpec)

/-- 'laws.FnExactSpaceOfWords', WHERE WHAT IT READS IS OF BULK AT MOST 1048576: true; the input reads as it did. -/
def fnExactSpaceOfWordsUptoRow : OpenClaim := { program := "ytnpfkbfmipnofaa", sum := "64ed9c9a450b599ec8606d5a1a611f90cd7b66e7a18565cf7cfd3c4c3ad1167a", func := "loop.example/g01137/laws.FnExactSpaceOfWords", spec := "fnExactSpaceOfWords", unfollowed := true, recurses := true, apart := false, narrowed := true }
def FnExactSpaceOfWordsUptoSaid : Prop := fnExactSpaceOfWordsUptoRow.holds Try.pinned (OpenSpec.upto fnExactSpaceOfWordsSpec)

/-- 'laws.FnExactPathsOf', WHERE WHAT IT READS IS OF BULK AT MOST 1048576: true; the input reads as it did. -/
def fnExactPathsOfUptoRow : OpenClaim := { program := "ytnpfkbfmipnofaa", sum := "64ed9c9a450b599ec8606d5a1a611f90cd7b66e7a18565cf7cfd3c4c3ad1167a", func := "loop.example/g01137/laws.FnExactPathsOf", spec := "fnExactPathsOf", apart := false, narrowed := true }
def FnExactPathsOfUptoSaid : Prop := fnExactPathsOfUptoRow.holds Try.pinned (OpenSpec.upto fnExactPathsOfSpec)

/-- 'laws.FnExactChordalSpace', WHERE WHAT IT READS IS OF BULK AT MOST 1048576: true; the input reads as it did. -/
def fnExactChordalSpaceUptoRow : OpenClaim := { program := "ytnpfkbfmipnofaa", sum := "64ed9c9a450b599ec8606d5a1a611f90cd7b66e7a18565cf7cfd3c4c3ad1167a", func := "loop.example/g01137/laws.FnExactChordalSpace", spec := "fnExactChordalSpace", apart := false, narrowed := true }
def FnExactChordalSpaceUptoSaid : Prop := fnExactChordalSpaceUptoRow.holds Try.pinned (OpenSpec.upto fnExactChordalSpaceSpec)

/-- 'laws.FnExactExchangeWord', WHERE WHAT IT READS IS OF BULK AT MOST 1048576: true; the input reads as it did. -/
def fnExactExchangeWordUptoRow : OpenClaim := { program := "ytnpfkbfmipnofaa", sum := "64ed9c9a450b599ec8606d5a1a611f90cd7b66e7a18565cf7cfd3c4c3ad1167a", func := "loop.example/g01137/laws.FnExactExchangeWord", spec := "fnExactExchangeWord", apart := false, narrowed := true }
def FnExactExchangeWordUptoSaid : Prop := fnExactExchangeWordUptoRow.holds Try.pinned (OpenSpec.upto fnExactExchangeWordSpec)

/-- 'laws.FnExactFinishWord', WHERE WHAT IT READS IS OF BULK AT MOST 1048576: true; the input reads as it did. -/
def fnExactFinishWordUptoRow : OpenClaim := { program := "ytnpfkbfmipnofaa", sum := "64ed9c9a450b599ec8606d5a1a611f90cd7b66e7a18565cf7cfd3c4c3ad1167a", func := "loop.example/g01137/laws.FnExactFinishWord", spec := "fnExactFinishWord", apart := false, narrowed := true }
def FnExactFinishWordUptoSaid : Prop := fnExactFinishWordUptoRow.holds Try.pinned (OpenSpec.upto fnExactFinishWordSpec)

/-- 'laws.FnExactTreeSpace', WHERE WHAT IT READS IS OF BULK AT MOST 1048576: true; the input reads as it did. -/
def fnExactTreeSpaceUptoRow : OpenClaim := { program := "ytnpfkbfmipnofaa", sum := "64ed9c9a450b599ec8606d5a1a611f90cd7b66e7a18565cf7cfd3c4c3ad1167a", func := "loop.example/g01137/laws.FnExactTreeSpace", spec := "fnExactTreeSpace", unfollowed := true, recurses := true, apart := false, narrowed := true }
def FnExactTreeSpaceUptoSaid : Prop := fnExactTreeSpaceUptoRow.holds Try.pinned (OpenSpec.upto fnExactTreeSpaceSpec)

/-- 'laws.FnExactSwapWay', WHERE WHAT IT READS IS OF BULK AT MOST 1048576: true; the input reads as it did. -/
def fnExactSwapWayUptoRow : OpenClaim := { program := "ytnpfkbfmipnofaa", sum := "64ed9c9a450b599ec8606d5a1a611f90cd7b66e7a18565cf7cfd3c4c3ad1167a", func := "loop.example/g01137/laws.FnExactSwapWay", spec := "fnExactSwapWay", apart := false, narrowed := true }
def FnExactSwapWayUptoSaid : Prop := fnExactSwapWayUptoRow.holds Try.pinned (OpenSpec.upto fnExactSwapWaySpec)

end Rows
end Go.Proofs.Ytnpfkbfmipnofaa
