/-
  No cell of these rows narrows 'for every input' (looked for: loops, veiled, ifaces, maps, wideKeys, modest, calm, conditions, laid).
  DERIVED. THE GIVEN ROWS OF THIS SEAT. 12 by the template 'for every input the law returns true; each argument reads behind the call as it read before'; 0 by the template 'total and deterministic' (their statements: YtnmpocdpdmkbdaaTotals.lean).
  GIVEN WITH THE SEED: the statements are not yours to turn. If you find one false, say at which input.
  Laid BY PROGRAM, IN A SANDBOX (cutbox-rows.mjs): the forced cells as the released guide's own fill.sh prints them over the translation a95c41be36a807dc… (all of the seat's roots in one cut). By AI agents, Wed Nov 11 2026. No macro, syntax, notation, axiom, sorry.
-/
import Derived.Test.YtnmpocdpdmkbdaaChecked
import GoSem.Claim
import GoSem.ClaimJoined
import GoSem.ClaimMapViews
import Derived.JoinedTies
import Derived.KernelRfl
namespace Go.Proofs.Ytnmpocdpdmkbdaa
/- THE CELL 'sum', in the pinned program and in every row, IS THE sha256 OF THE DUMP (.gsa) THAT YtnmpocdpdmkbdaaProg.lean LOADS. Nothing in Lean hashes anything: it is a label: what it is worth is what the hold of that sum in a sandbox is worth. -/
noncomputable def Try.pinned : Pinned := { name := "ytnmpocdpdmkbdaa", sum := "a95c41be36a807dc1c8352990cf0b6e4d8bd99c797fcbb48d1fafcb44ee60387", checked := Try.checked }
namespace Rows
def none {H : Type} : Left H := { results := [], args := [] }

/-- 'laws.FnExactConstants': WHATEVER THE INPUT: true; the input reads as it did. -/
def fnExactConstantsSpec : ChangeSpec := { name := "fnExactConstants", fn := fun _ => fun
  | [] => { results := [.lit (.bool true)], args := [] }
  | _ => none }
def fnExactConstantsRow : OpenClaim := { program := "ytnmpocdpdmkbdaa", sum := "a95c41be36a807dc1c8352990cf0b6e4d8bd99c797fcbb48d1fafcb44ee60387", func := "loop.example/g01137/laws.FnExactConstants", spec := "fnExactConstants", apart := false }
def FnExactConstantsSaid : Prop := fnExactConstantsRow.holds Try.pinned (OpenSpec.ofChange fnExactConstantsSpec)

/-- ITS FALSE NEIGHBOUR: 'it returns false'. Refute it at one input. -/
def fnExactConstantsWrong : ChangeSpec := { name := "fnExactConstants", fn := fun _ => fun
  | [] => { results := [.lit (.bool false)], args := [] }
  | _ => none }
def FnExactConstantsWrongFalsely : Prop := fnExactConstantsRow.holds Try.pinned (OpenSpec.ofChange fnExactConstantsWrong)

/-- 'laws.FnExactWordText': WHATEVER THE INPUT: true; the input reads as it did. -/
def fnExactWordTextSpec : ChangeSpec := { name := "fnExactWordText", fn := fun _ => fun
  | [d] => { results := [.lit (.bool true)], args := [d] }
  | _ => none }
def fnExactWordTextRow : OpenClaim := { program := "ytnmpocdpdmkbdaa", sum := "a95c41be36a807dc1c8352990cf0b6e4d8bd99c797fcbb48d1fafcb44ee60387", func := "loop.example/g01137/laws.FnExactWordText", spec := "fnExactWordText", unfollowed := true, recurses := true, apart := false }
def FnExactWordTextSaid : Prop := fnExactWordTextRow.holds Try.pinned (OpenSpec.ofChange fnExactWordTextSpec)

/-- ITS FALSE NEIGHBOUR: 'it returns false'. Refute it at one input. -/
def fnExactWordTextWrong : ChangeSpec := { name := "fnExactWordText", fn := fun _ => fun
  | [d] => { results := [.lit (.bool false)], args := [d] }
  | _ => none }
def FnExactWordTextWrongFalsely : Prop := fnExactWordTextRow.holds Try.pinned (OpenSpec.ofChange fnExactWordTextWrong)

/-- 'laws.FnExactFreeSpace': WHATEVER THE INPUT: true; the input reads as it did. -/
def fnExactFreeSpaceSpec : ChangeSpec := { name := "fnExactFreeSpace", fn := fun _ => fun
  | [d] => { results := [.lit (.bool true)], args := [d] }
  | _ => none }
def fnExactFreeSpaceRow : OpenClaim := { program := "ytnmpocdpdmkbdaa", sum := "a95c41be36a807dc1c8352990cf0b6e4d8bd99c797fcbb48d1fafcb44ee60387", func := "loop.example/g01137/laws.FnExactFreeSpace", spec := "fnExactFreeSpace", unfollowed := true, recurses := true, apart := false }
def FnExactFreeSpaceSaid : Prop := fnExactFreeSpaceRow.holds Try.pinned (OpenSpec.ofChange fnExactFreeSpaceSpec)

/-- ITS FALSE NEIGHBOUR: 'it returns false'. Refute it at one input. -/
def fnExactFreeSpaceWrong : ChangeSpec := { name := "fnExactFreeSpace", fn := fun _ => fun
  | [d] => { results := [.lit (.bool false)], args := [d] }
  | _ => none }
def FnExactFreeSpaceWrongFalsely : Prop := fnExactFreeSpaceRow.holds Try.pinned (OpenSpec.ofChange fnExactFreeSpaceWrong)

/-- 'laws.FnExactIsNet': WHATEVER THE INPUT: true; the input reads as it did. -/
def fnExactIsNetSpec : ChangeSpec := { name := "fnExactIsNet", fn := fun _ => fun
  | [d] => { results := [.lit (.bool true)], args := [d] }
  | _ => none }
def fnExactIsNetRow : OpenClaim := { program := "ytnmpocdpdmkbdaa", sum := "a95c41be36a807dc1c8352990cf0b6e4d8bd99c797fcbb48d1fafcb44ee60387", func := "loop.example/g01137/laws.FnExactIsNet", spec := "fnExactIsNet", apart := false }
def FnExactIsNetSaid : Prop := fnExactIsNetRow.holds Try.pinned (OpenSpec.ofChange fnExactIsNetSpec)

/-- ITS FALSE NEIGHBOUR: 'it returns false'. Refute it at one input. -/
def fnExactIsNetWrong : ChangeSpec := { name := "fnExactIsNet", fn := fun _ => fun
  | [d] => { results := [.lit (.bool false)], args := [d] }
  | _ => none }
def FnExactIsNetWrongFalsely : Prop := fnExactIsNetRow.holds Try.pinned (OpenSpec.ofChange fnExactIsNetWrong)

/-- 'laws.FnExactLineSpace': WHATEVER THE INPUT: true; the input reads as it did. -/
def fnExactLineSpaceSpec : ChangeSpec := { name := "fnExactLineSpace", fn := fun _ => fun
  | [d] => { results := [.lit (.bool true)], args := [d] }
  | _ => none }
def fnExactLineSpaceRow : OpenClaim := { program := "ytnmpocdpdmkbdaa", sum := "a95c41be36a807dc1c8352990cf0b6e4d8bd99c797fcbb48d1fafcb44ee60387", func := "loop.example/g01137/laws.FnExactLineSpace", spec := "fnExactLineSpace", apart := false }
def FnExactLineSpaceSaid : Prop := fnExactLineSpaceRow.holds Try.pinned (OpenSpec.ofChange fnExactLineSpaceSpec)

/-- ITS FALSE NEIGHBOUR: 'it returns false'. Refute it at one input. -/
def fnExactLineSpaceWrong : ChangeSpec := { name := "fnExactLineSpace", fn := fun _ => fun
  | [d] => { results := [.lit (.bool false)], args := [d] }
  | _ => none }
def FnExactLineSpaceWrongFalsely : Prop := fnExactLineSpaceRow.holds Try.pinned (OpenSpec.ofChange fnExactLineSpaceWrong)

/-- 'laws.FnExactArePoints': WHATEVER THE INPUT: true; the input reads as it did. -/
def fnExactArePointsSpec : ChangeSpec := { name := "fnExactArePoints", fn := fun _ => fun
  | [d] => { results := [.lit (.bool true)], args := [d] }
  | _ => none }
def fnExactArePointsRow : OpenClaim := { program := "ytnmpocdpdmkbdaa", sum := "a95c41be36a807dc1c8352990cf0b6e4d8bd99c797fcbb48d1fafcb44ee60387", func := "loop.example/g01137/laws.FnExactArePoints", spec := "fnExactArePoints", apart := false }
def FnExactArePointsSaid : Prop := fnExactArePointsRow.holds Try.pinned (OpenSpec.ofChange fnExactArePointsSpec)

/-- ITS FALSE NEIGHBOUR: 'it returns false'. Refute it at one input. -/
def fnExactArePointsWrong : ChangeSpec := { name := "fnExactArePoints", fn := fun _ => fun
  | [d] => { results := [.lit (.bool false)], args := [d] }
  | _ => none }
def FnExactArePointsWrongFalsely : Prop := fnExactArePointsRow.holds Try.pinned (OpenSpec.ofChange fnExactArePointsWrong)

/-- 'laws.FnExactRankWord': WHATEVER THE INPUT: true; the input reads as it did. -/
def fnExactRankWordSpec : ChangeSpec := { name := "fnExactRankWord", fn := fun _ => fun
  | [d1, d2] => { results := [.lit (.bool true)], args := [d1, d2] }
  | _ => none }
def fnExactRankWordRow : OpenClaim := { program := "ytnmpocdpdmkbdaa", sum := "a95c41be36a807dc1c8352990cf0b6e4d8bd99c797fcbb48d1fafcb44ee60387", func := "loop.example/g01137/laws.FnExactRankWord", spec := "fnExactRankWord", unfollowed := true, recurses := true, apart := false }
def FnExactRankWordSaid : Prop := fnExactRankWordRow.holds Try.pinned (OpenSpec.ofChange fnExactRankWordSpec)

/-- ITS FALSE NEIGHBOUR: 'it returns false'. Refute it at one input. -/
def fnExactRankWordWrong : ChangeSpec := { name := "fnExactRankWord", fn := fun _ => fun
  | [d1, d2] => { results := [.lit (.bool false)], args := [d1, d2] }
  | _ => none }
def FnExactRankWordWrongFalsely : Prop := fnExactRankWordRow.holds Try.pinned (OpenSpec.ofChange fnExactRankWordWrong)

/-- 'laws.FnExactSimplicialOf': WHATEVER THE INPUT: true; the input reads as it did. -/
def fnExactSimplicialOfSpec : ChangeSpec := { name := "fnExactSimplicialOf", fn := fun _ => fun
  | [d1, d2] => { results := [.lit (.bool true)], args := [d1, d2] }
  | _ => none }
def fnExactSimplicialOfRow : OpenClaim := { program := "ytnmpocdpdmkbdaa", sum := "a95c41be36a807dc1c8352990cf0b6e4d8bd99c797fcbb48d1fafcb44ee60387", func := "loop.example/g01137/laws.FnExactSimplicialOf", spec := "fnExactSimplicialOf", apart := false }
def FnExactSimplicialOfSaid : Prop := fnExactSimplicialOfRow.holds Try.pinned (OpenSpec.ofChange fnExactSimplicialOfSpec)

/-- ITS FALSE NEIGHBOUR: 'it returns false'. Refute it at one input. -/
def fnExactSimplicialOfWrong : ChangeSpec := { name := "fnExactSimplicialOf", fn := fun _ => fun
  | [d1, d2] => { results := [.lit (.bool false)], args := [d1, d2] }
  | _ => none }
def FnExactSimplicialOfWrongFalsely : Prop := fnExactSimplicialOfRow.holds Try.pinned (OpenSpec.ofChange fnExactSimplicialOfWrong)

/-- 'laws.FnExactChainSpace': WHATEVER THE INPUT: true; the input reads as it did. -/
def fnExactChainSpaceSpec : ChangeSpec := { name := "fnExactChainSpace", fn := fun _ => fun
  | [d] => { results := [.lit (.bool true)], args := [d] }
  | _ => none }
def fnExactChainSpaceRow : OpenClaim := { program := "ytnmpocdpdmkbdaa", sum := "a95c41be36a807dc1c8352990cf0b6e4d8bd99c797fcbb48d1fafcb44ee60387", func := "loop.example/g01137/laws.FnExactChainSpace", spec := "fnExactChainSpace", apart := false }
def FnExactChainSpaceSaid : Prop := fnExactChainSpaceRow.holds Try.pinned (OpenSpec.ofChange fnExactChainSpaceSpec)

/-- ITS FALSE NEIGHBOUR: 'it returns false'. Refute it at one input. -/
def fnExactChainSpaceWrong : ChangeSpec := { name := "fnExactChainSpace", fn := fun _ => fun
  | [d] => { results := [.lit (.bool false)], args := [d] }
  | _ => none }
def FnExactChainSpaceWrongFalsely : Prop := fnExactChainSpaceRow.holds Try.pinned (OpenSpec.ofChange fnExactChainSpaceWrong)

/-- 'laws.FnExactIsSpace': WHATEVER THE INPUT: true; the input reads as it did. -/
def fnExactIsSpaceSpec : ChangeSpec := { name := "fnExactIsSpace", fn := fun _ => fun
  | [d] => { results := [.lit (.bool true)], args := [d] }
  | _ => none }
def fnExactIsSpaceRow : OpenClaim := { program := "ytnmpocdpdmkbdaa", sum := "a95c41be36a807dc1c8352990cf0b6e4d8bd99c797fcbb48d1fafcb44ee60387", func := "loop.example/g01137/laws.FnExactIsSpace", spec := "fnExactIsSpace", apart := false }
def FnExactIsSpaceSaid : Prop := fnExactIsSpaceRow.holds Try.pinned (OpenSpec.ofChange fnExactIsSpaceSpec)

/-- ITS FALSE NEIGHBOUR: 'it returns false'. Refute it at one input. -/
def fnExactIsSpaceWrong : ChangeSpec := { name := "fnExactIsSpace", fn := fun _ => fun
  | [d] => { results := [.lit (.bool false)], args := [d] }
  | _ => none }
def FnExactIsSpaceWrongFalsely : Prop := fnExactIsSpaceRow.holds Try.pinned (OpenSpec.ofChange fnExactIsSpaceWrong)

/-- 'laws.FnExactHasSet': WHATEVER THE INPUT: true; the input reads as it did. -/
def fnExactHasSetSpec : ChangeSpec := { name := "fnExactHasSet", fn := fun _ => fun
  | [d1, d2] => { results := [.lit (.bool true)], args := [d1, d2] }
  | _ => none }
def fnExactHasSetRow : OpenClaim := { program := "ytnmpocdpdmkbdaa", sum := "a95c41be36a807dc1c8352990cf0b6e4d8bd99c797fcbb48d1fafcb44ee60387", func := "loop.example/g01137/laws.FnExactHasSet", spec := "fnExactHasSet", apart := false }
def FnExactHasSetSaid : Prop := fnExactHasSetRow.holds Try.pinned (OpenSpec.ofChange fnExactHasSetSpec)

/-- ITS FALSE NEIGHBOUR: 'it returns false'. Refute it at one input. -/
def fnExactHasSetWrong : ChangeSpec := { name := "fnExactHasSet", fn := fun _ => fun
  | [d1, d2] => { results := [.lit (.bool false)], args := [d1, d2] }
  | _ => none }
def FnExactHasSetWrongFalsely : Prop := fnExactHasSetRow.holds Try.pinned (OpenSpec.ofChange fnExactHasSetWrong)

/-- 'laws.FnExactIsConvex': WHATEVER THE INPUT: true; the input reads as it did. -/
def fnExactIsConvexSpec : ChangeSpec := { name := "fnExactIsConvex", fn := fun _ => fun
  | [d1, d2] => { results := [.lit (.bool true)], args := [d1, d2] }
  | _ => none }
def fnExactIsConvexRow : OpenClaim := { program := "ytnmpocdpdmkbdaa", sum := "a95c41be36a807dc1c8352990cf0b6e4d8bd99c797fcbb48d1fafcb44ee60387", func := "loop.example/g01137/laws.FnExactIsConvex", spec := "fnExactIsConvex", apart := false }
def FnExactIsConvexSaid : Prop := fnExactIsConvexRow.holds Try.pinned (OpenSpec.ofChange fnExactIsConvexSpec)

/-- ITS FALSE NEIGHBOUR: 'it returns false'. Refute it at one input. -/
def fnExactIsConvexWrong : ChangeSpec := { name := "fnExactIsConvex", fn := fun _ => fun
  | [d1, d2] => { results := [.lit (.bool false)], args := [d1, d2] }
  | _ => none }
def FnExactIsConvexWrongFalsely : Prop := fnExactIsConvexRow.holds Try.pinned (OpenSpec.ofChange fnExactIsConvexWrong)

/- THE SECOND FORM. 'bulk': how many values and letters a reading holds, each counted each time it is reached (what is shared counts as often as it is met; a slice's spare places count too). A statement '..UptoSaid' is the law's where the arguments, and the package variables that the reading takes, are together of bulk at most 1048576: NARROWER than '..Said'. Prove '..Said' where nothing that the law and all that it calls make is longer than what came in: it says more and counts as full. Else prove '..UptoSaid'. A law counts once. -/
mutual
def uptoBulk {H : Type} : DataW H → Nat
  | .lit (.string bytes) => bytes.length + 1
  | .lit _ => 1
  | .nil => 1
  | .ptr d => uptoBulk d + 1
  | .slice elems spare => uptoBulkAll elems + uptoBulkAll spare + 1
  | .agg parts => uptoBulkAll parts + 1
  | .iface _ d => uptoBulk d + 1
  | .map entries => uptoBulkEntries entries + 1
  | .held _ => 1
def uptoBulkAll {H : Type} : List (DataW H) → Nat
  | [] => 0
  | d :: r => uptoBulk d + uptoBulkAll r
def uptoBulkEntries {H : Type} : List (Lit × DataW H) → Nat
  | [] => 0
  | x :: r => uptoBulkEntry x + uptoBulkEntries r
def uptoBulkEntry {H : Type} : Lit × DataW H → Nat
  | (.string bytes, d) => bytes.length + uptoBulk d + 1
  | (_, d) => uptoBulk d + 1
 end
def uptoSmall : (H : Type) → List (DataW H) → Bool := fun _ ds => decide (uptoBulkAll ds ≤ 1048576)
def OpenSpec.upto (s : _root_.Go.ChangeSpec) : _root_.Go.OpenSpec := { _root_.Go.OpenSpec.ofChange s with cond := some uptoSmall }

/-- 'laws.FnExactConstants', WHERE WHAT IT READS IS OF BULK AT MOST 1048576: true; the input reads as it did. -/
def fnExactConstantsUptoRow : OpenClaim := { program := "ytnmpocdpdmkbdaa", sum := "a95c41be36a807dc1c8352990cf0b6e4d8bd99c797fcbb48d1fafcb44ee60387", func := "loop.example/g01137/laws.FnExactConstants", spec := "fnExactConstants", apart := false, narrowed := true }
def FnExactConstantsUptoSaid : Prop := fnExactConstantsUptoRow.holds Try.pinned (OpenSpec.upto fnExactConstantsSpec)

/-- 'laws.FnExactWordText', WHERE WHAT IT READS IS OF BULK AT MOST 1048576: true; the input reads as it did. -/
def fnExactWordTextUptoRow : OpenClaim := { program := "ytnmpocdpdmkbdaa", sum := "a95c41be36a807dc1c8352990cf0b6e4d8bd99c797fcbb48d1fafcb44ee60387", func := "loop.example/g01137/laws.FnExactWordText", spec := "fnExactWordText", unfollowed := true, recurses := true, apart := false, narrowed := true }
def FnExactWordTextUptoSaid : Prop := fnExactWordTextUptoRow.holds Try.pinned (OpenSpec.upto fnExactWordTextSpec)

/-- 'laws.FnExactFreeSpace', WHERE WHAT IT READS IS OF BULK AT MOST 1048576: true; the input reads as it did. -/
def fnExactFreeSpaceUptoRow : OpenClaim := { program := "ytnmpocdpdmkbdaa", sum := "a95c41be36a807dc1c8352990cf0b6e4d8bd99c797fcbb48d1fafcb44ee60387", func := "loop.example/g01137/laws.FnExactFreeSpace", spec := "fnExactFreeSpace", unfollowed := true, recurses := true, apart := false, narrowed := true }
def FnExactFreeSpaceUptoSaid : Prop := fnExactFreeSpaceUptoRow.holds Try.pinned (OpenSpec.upto fnExactFreeSpaceSpec)

/-- 'laws.FnExactIsNet', WHERE WHAT IT READS IS OF BULK AT MOST 1048576: true; the input reads as it did. -/
def fnExactIsNetUptoRow : OpenClaim := { program := "ytnmpocdpdmkbdaa", sum := "a95c41be36a807dc1c8352990cf0b6e4d8bd99c797fcbb48d1fafcb44ee60387", func := "loop.example/g01137/laws.FnExactIsNet", spec := "fnExactIsNet", apart := false, narrowed := true }
def FnExactIsNetUptoSaid : Prop := fnExactIsNetUptoRow.holds Try.pinned (OpenSpec.upto fnExactIsNetSpec)

/-- 'laws.FnExactLineSpace', WHERE WHAT IT READS IS OF BULK AT MOST 1048576: true; the input reads as it did. -/
def fnExactLineSpaceUptoRow : OpenClaim := { program := "ytnmpocdpdmkbdaa", sum := "a95c41be36a807dc1c8352990cf0b6e4d8bd99c797fcbb48d1fafcb44ee60387", func := "loop.example/g01137/laws.FnExactLineSpace", spec := "fnExactLineSpace", apart := false, narrowed := true }
def FnExactLineSpaceUptoSaid : Prop := fnExactLineSpaceUptoRow.holds Try.pinned (OpenSpec.upto fnExactLineSpaceSpec)

/-- 'laws.FnExactArePoints', WHERE WHAT IT READS IS OF BULK AT MOST 1048576: true; the input reads as it did. -/
def fnExactArePointsUptoRow : OpenClaim := { program := "ytnmpocdpdmkbdaa", sum := "a95c41be36a807dc1c8352990cf0b6e4d8bd99c797fcbb48d1fafcb44ee60387", func := "loop.example/g01137/laws.FnExactArePoints", spec := "fnExactArePoints", apart := false, narrowed := true }
def FnExactArePointsUptoSaid : Prop := fnExactArePointsUptoRow.holds Try.pinned (OpenSpec.upto fnExactArePointsSpec)

/-- 'laws.FnExactRankWord', WHERE WHAT IT READS IS OF BULK AT MOST 1048576: true; the input reads as it did. -/
def fnExactRankWordUptoRow : OpenClaim := { program := "ytnmpocdpdmkbdaa", sum := "a95c41be36a807dc1c8352990cf0b6e4d8bd99c797fcbb48d1fafcb44ee60387", func := "loop.example/g01137/laws.FnExactRankWord", spec := "fnExactRankWord", unfollowed := true, recurses := true, apart := false, narrowed := true }
def FnExactRankWordUptoSaid : Prop := fnExactRankWordUptoRow.holds Try.pinned (OpenSpec.upto fnExactRankWordSpec)

/-- 'laws.FnExactSimplicialOf', WHERE WHAT IT READS IS OF BULK AT MOST 1048576: true; the input reads as it did. -/
def fnExactSimplicialOfUptoRow : OpenClaim := { program := "ytnmpocdpdmkbdaa", sum := "a95c41be36a807dc1c8352990cf0b6e4d8bd99c797fcbb48d1fafcb44ee60387", func := "loop.example/g01137/laws.FnExactSimplicialOf", spec := "fnExactSimplicialOf", apart := false, narrowed := true }
def FnExactSimplicialOfUptoSaid : Prop := fnExactSimplicialOfUptoRow.holds Try.pinned (OpenSpec.upto fnExactSimplicialOfSpec)

/-- 'laws.FnExactChainSpace', WHERE WHAT IT READS IS OF BULK AT MOST 1048576: true; the input reads as it did. -/
def fnExactChainSpaceUptoRow : OpenClaim := { program := "ytnmpocdpdmkbdaa", sum := "a95c41be36a807dc1c8352990cf0b6e4d8bd99c797fcbb48d1fafcb44ee60387", func := "loop.example/g01137/laws.FnExactChainSpace", spec := "fnExactChainSpace", apart := false, narrowed := true }
def FnExactChainSpaceUptoSaid : Prop := fnExactChainSpaceUptoRow.holds Try.pinned (OpenSpec.upto fnExactChainSpaceSpec)

/-- 'laws.FnExactIsSpace', WHERE WHAT IT READS IS OF BULK AT MOST 1048576: true; the input reads as it did. -/
def fnExactIsSpaceUptoRow : OpenClaim := { program := "ytnmpocdpdmkbdaa", sum := "a95c41be36a807dc1c8352990cf0b6e4d8bd99c797fcbb48d1fafcb44ee60387", func := "loop.example/g01137/laws.FnExactIsSpace", spec := "fnExactIsSpace", apart := false, narrowed := true }
def FnExactIsSpaceUptoSaid : Prop := fnExactIsSpaceUptoRow.holds Try.pinned (OpenSpec.upto fnExactIsSpaceSpec)

/-- 'laws.FnExactHasSet', WHERE WHAT IT READS IS OF BULK AT MOST 1048576: true; the input reads as it did. -/
def fnExactHasSetUptoRow : OpenClaim := { program := "ytnmpocdpdmkbdaa", sum := "a95c41be36a807dc1c8352990cf0b6e4d8bd99c797fcbb48d1fafcb44ee60387", func := "loop.example/g01137/laws.FnExactHasSet", spec := "fnExactHasSet", apart := false, narrowed := true }
def FnExactHasSetUptoSaid : Prop := fnExactHasSetUptoRow.holds Try.pinned (OpenSpec.upto fnExactHasSetSpec)

/-- 'laws.FnExactIsConvex', WHERE WHAT IT READS IS OF BULK AT MOST 1048576: true; the input reads as it did. -/
def fnExactIsConvexUptoRow : OpenClaim := { program := "ytnmpocdpdmkbdaa", sum := "a95c41be36a807dc1c8352990cf0b6e4d8bd99c797fcbb48d1fafcb44ee60387", func := "loop.example/g01137/laws.FnExactIsConvex", spec := "fnExactIsConvex", apart := false, narrowed := true }
def FnExactIsConvexUptoSaid : Prop := fnExactIsConvexUptoRow.holds Try.pinned (OpenSpec.upto fnExactIsConvexSpec)

end Rows
end Go.Proofs.Ytnmpocdpdmkbdaa
