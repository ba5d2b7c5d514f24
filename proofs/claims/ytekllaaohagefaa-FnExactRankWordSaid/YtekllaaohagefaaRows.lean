/-
  No cell of these rows narrows 'for every input' (looked for: loops, veiled, ifaces, maps, wideKeys, modest, calm, conditions, laid).
  DERIVED. THE GIVEN ROWS OF THIS SEAT. 7 by the template 'for every input the law returns true; each argument reads behind the call as it read before'; 0 by the template 'total and deterministic' (their statements: YtekllaaohagefaaTotals.lean).
  GIVEN WITH THE SEED: the statements are not yours to turn. If you find one false, say at which input.
  Laid BY PROGRAM, IN A SANDBOX (cutbox-rows.mjs): the forced cells as the released guide's own fill.sh prints them over the translation 5afd93028316ad94… (all of the seat's roots in one cut). By AI agents, Wed Nov 11 2026. No macro, syntax, notation, axiom, sorry.
-/
import Derived.Test.YtekllaaohagefaaChecked
import GoSem.Claim
import GoSem.ClaimJoined
import GoSem.ClaimMapViews
import Derived.JoinedTies
import Derived.KernelRfl
namespace Go.Proofs.Ytekllaaohagefaa
/- THE CELL 'sum', in the pinned program and in every row, IS THE sha256 OF THE DUMP (.gsa) THAT YtekllaaohagefaaProg.lean LOADS. Nothing in Lean hashes anything: it is a label: what it is worth is what the hold of that sum in a sandbox is worth. -/
noncomputable def Try.pinned : Pinned := { name := "ytekllaaohagefaa", sum := "5afd93028316ad943de9d4e28095b0b6c3d78806bc9d07545341ffcf1df8abfc", checked := Try.checked }
namespace Rows
def none {H : Type} : Left H := { results := [], args := [] }

/-- 'laws.FnExactRankWord': WHATEVER THE INPUT: true; the input reads as it did. -/
def fnExactRankWordSpec : ChangeSpec := { name := "fnExactRankWord", fn := fun _ => fun
  | [d1, d2] => { results := [.lit (.bool true)], args := [d1, d2] }
  | _ => none }
def fnExactRankWordRow : OpenClaim := { program := "ytekllaaohagefaa", sum := "5afd93028316ad943de9d4e28095b0b6c3d78806bc9d07545341ffcf1df8abfc", func := "loop.example/g01137/laws.FnExactRankWord", spec := "fnExactRankWord", unfollowed := true, recurses := true, apart := false }
def FnExactRankWordSaid : Prop := fnExactRankWordRow.holds Try.pinned (OpenSpec.ofChange fnExactRankWordSpec)

/-- ITS FALSE NEIGHBOUR: 'it returns false'. Refute it at one input. -/
def fnExactRankWordWrong : ChangeSpec := { name := "fnExactRankWord", fn := fun _ => fun
  | [d1, d2] => { results := [.lit (.bool false)], args := [d1, d2] }
  | _ => none }
def FnExactRankWordWrongFalsely : Prop := fnExactRankWordRow.holds Try.pinned (OpenSpec.ofChange fnExactRankWordWrong)

/-- 'laws.FnExactCountWords': WHATEVER THE INPUT: true; the input reads as it did. -/
def fnExactCountWordsSpec : ChangeSpec := { name := "fnExactCountWords", fn := fun _ => fun
  | [d] => { results := [.lit (.bool true)], args := [d] }
  | _ => none }
def fnExactCountWordsRow : OpenClaim := { program := "ytekllaaohagefaa", sum := "5afd93028316ad943de9d4e28095b0b6c3d78806bc9d07545341ffcf1df8abfc", func := "loop.example/g01137/laws.FnExactCountWords", spec := "fnExactCountWords", unfollowed := true, recurses := true, apart := false }
def FnExactCountWordsSaid : Prop := fnExactCountWordsRow.holds Try.pinned (OpenSpec.ofChange fnExactCountWordsSpec)

/-- ITS FALSE NEIGHBOUR: 'it returns false'. Refute it at one input. -/
def fnExactCountWordsWrong : ChangeSpec := { name := "fnExactCountWords", fn := fun _ => fun
  | [d] => { results := [.lit (.bool false)], args := [d] }
  | _ => none }
def FnExactCountWordsWrongFalsely : Prop := fnExactCountWordsRow.holds Try.pinned (OpenSpec.ofChange fnExactCountWordsWrong)

/-- 'laws.FnExactCountFrom': WHATEVER THE INPUT: true; the input reads as it did. -/
def fnExactCountFromSpec : ChangeSpec := { name := "fnExactCountFrom", fn := fun _ => fun
  | [d1, d2] => { results := [.lit (.bool true)], args := [d1, d2] }
  | _ => none }
def fnExactCountFromRow : OpenClaim := { program := "ytekllaaohagefaa", sum := "5afd93028316ad943de9d4e28095b0b6c3d78806bc9d07545341ffcf1df8abfc", func := "loop.example/g01137/laws.FnExactCountFrom", spec := "fnExactCountFrom", unfollowed := true, recurses := true, apart := false }
def FnExactCountFromSaid : Prop := fnExactCountFromRow.holds Try.pinned (OpenSpec.ofChange fnExactCountFromSpec)

/-- ITS FALSE NEIGHBOUR: 'it returns false'. Refute it at one input. -/
def fnExactCountFromWrong : ChangeSpec := { name := "fnExactCountFrom", fn := fun _ => fun
  | [d1, d2] => { results := [.lit (.bool false)], args := [d1, d2] }
  | _ => none }
def FnExactCountFromWrongFalsely : Prop := fnExactCountFromRow.holds Try.pinned (OpenSpec.ofChange fnExactCountFromWrong)

/-- 'laws.FnExactEndsSpace': WHATEVER THE INPUT: true; the input reads as it did. -/
def fnExactEndsSpaceSpec : ChangeSpec := { name := "fnExactEndsSpace", fn := fun _ => fun
  | [d1, d2] => { results := [.lit (.bool true)], args := [d1, d2] }
  | _ => none }
def fnExactEndsSpaceRow : OpenClaim := { program := "ytekllaaohagefaa", sum := "5afd93028316ad943de9d4e28095b0b6c3d78806bc9d07545341ffcf1df8abfc", func := "loop.example/g01137/laws.FnExactEndsSpace", spec := "fnExactEndsSpace", unfollowed := true, recurses := true, apart := false }
def FnExactEndsSpaceSaid : Prop := fnExactEndsSpaceRow.holds Try.pinned (OpenSpec.ofChange fnExactEndsSpaceSpec)

/-- ITS FALSE NEIGHBOUR: 'it returns false'. Refute it at one input. -/
def fnExactEndsSpaceWrong : ChangeSpec := { name := "fnExactEndsSpace", fn := fun _ => fun
  | [d1, d2] => { results := [.lit (.bool false)], args := [d1, d2] }
  | _ => none }
def FnExactEndsSpaceWrongFalsely : Prop := fnExactEndsSpaceRow.holds Try.pinned (OpenSpec.ofChange fnExactEndsSpaceWrong)

/-- 'laws.FnExactUnionSpaces': WHATEVER THE INPUT: true; the input reads as it did. -/
def fnExactUnionSpacesSpec : ChangeSpec := { name := "fnExactUnionSpaces", fn := fun _ => fun
  | [d1, d2] => { results := [.lit (.bool true)], args := [d1, d2] }
  | _ => none }
def fnExactUnionSpacesRow : OpenClaim := { program := "ytekllaaohagefaa", sum := "5afd93028316ad943de9d4e28095b0b6c3d78806bc9d07545341ffcf1df8abfc", func := "loop.example/g01137/laws.FnExactUnionSpaces", spec := "fnExactUnionSpaces", apart := false }
def FnExactUnionSpacesSaid : Prop := fnExactUnionSpacesRow.holds Try.pinned (OpenSpec.ofChange fnExactUnionSpacesSpec)

/-- ITS FALSE NEIGHBOUR: 'it returns false'. Refute it at one input. -/
def fnExactUnionSpacesWrong : ChangeSpec := { name := "fnExactUnionSpaces", fn := fun _ => fun
  | [d1, d2] => { results := [.lit (.bool false)], args := [d1, d2] }
  | _ => none }
def FnExactUnionSpacesWrongFalsely : Prop := fnExactUnionSpacesRow.holds Try.pinned (OpenSpec.ofChange fnExactUnionSpacesWrong)

/-- 'laws.FnExactCriticalOf': WHATEVER THE INPUT: true; the input reads as it did. -/
def fnExactCriticalOfSpec : ChangeSpec := { name := "fnExactCriticalOf", fn := fun _ => fun
  | [d] => { results := [.lit (.bool true)], args := [d] }
  | _ => none }
def fnExactCriticalOfRow : OpenClaim := { program := "ytekllaaohagefaa", sum := "5afd93028316ad943de9d4e28095b0b6c3d78806bc9d07545341ffcf1df8abfc", func := "loop.example/g01137/laws.FnExactCriticalOf", spec := "fnExactCriticalOf", unfollowed := true, recurses := true, apart := false }
def FnExactCriticalOfSaid : Prop := fnExactCriticalOfRow.holds Try.pinned (OpenSpec.ofChange fnExactCriticalOfSpec)

/-- ITS FALSE NEIGHBOUR: 'it returns false'. Refute it at one input. -/
def fnExactCriticalOfWrong : ChangeSpec := { name := "fnExactCriticalOf", fn := fun _ => fun
  | [d] => { results := [.lit (.bool false)], args := [d] }
  | _ => none }
def FnExactCriticalOfWrongFalsely : Prop := fnExactCriticalOfRow.holds Try.pinned (OpenSpec.ofChange fnExactCriticalOfWrong)

/-- 'laws.FnExactPathsWithin': WHATEVER THE INPUT: true; the input reads as it did. -/
def fnExactPathsWithinSpec : ChangeSpec := { name := "fnExactPathsWithin", fn := fun _ => fun
  | [d1, d2] => { results := [.lit (.bool true)], args := [d1, d2] }
  | _ => none }
def fnExactPathsWithinRow : OpenClaim := { program := "ytekllaaohagefaa", sum := "5afd93028316ad943de9d4e28095b0b6c3d78806bc9d07545341ffcf1df8abfc", func := "loop.example/g01137/laws.FnExactPathsWithin", spec := "fnExactPathsWithin", unfollowed := true, recurses := true, apart := false }
def FnExactPathsWithinSaid : Prop := fnExactPathsWithinRow.holds Try.pinned (OpenSpec.ofChange fnExactPathsWithinSpec)

/-- ITS FALSE NEIGHBOUR: 'it returns false'. Refute it at one input. -/
def fnExactPathsWithinWrong : ChangeSpec := { name := "fnExactPathsWithin", fn := fun _ => fun
  | [d1, d2] => { results := [.lit (.bool false)], args := [d1, d2] }
  | _ => none }
def FnExactPathsWithinWrongFalsely : Prop := fnExactPathsWithinRow.holds Try.pinned (OpenSpec.ofChange fnExactPathsWithinWrong)

/- THE SECOND FORM. 'bulk': how many values and letters a reading holds, each counted each time it is reached (what is shared counts as often as it is met; a slice's spare places count too). A statement '..UptoSaid' is the law's where the arguments, and the package variables that the reading takes, are together of bulk at most 1048576: NARROWER than '..Said'. Prove '..Said' where nothing that the law and all that it calls make is longer than what came in: it says more and counts as full. Else prove '..UptoSaid'. A law counts once. -/
mutual
def uptoBulk {H : Type} : DataW H → Nat
  | .lit (.string bytes) => bytes.length + 1
  | .lit _ => 1
  | .nil => 1
  | .ptr d => uptoBulk d + 1
  | .slice elems spare => uptoBulkAll elems + uptoBulkAll spare + 1
  | .agg parts => uptoBulkAll parts + 1
  | .iface _ d => uptoBulk d + 1
  | .map entries => uptoBulkEntries entries + 1
  | .held _ => 1
def uptoBulkAll {H : Type} : List (DataW H) → Nat
  | [] => 0
  | d :: r => uptoBulk d + uptoBulkAll r
def uptoBulkEntries {H : Type} : List (Lit × DataW H) → Nat
  | [] => 0
  | x :: r => uptoBulkEntry x + uptoBulkEntries r
def uptoBulkEntry {H : Type} : Lit × DataW H → Nat
  | (.string bytes, d) => bytes.length + uptoBulk d + 1
  | (_, d) => uptoBulk d + 1
 end
def uptoSmall : (H : Type) → List (DataW H) → Bool := fun _ ds => decide (uptoBulkAll ds ≤ 1048576)
def OpenSpec.upto (s : _root_.Go.ChangeSpec) : _root_.Go.OpenSpec := { _root_.Go.OpenSpec.ofChange s with cond := some uptoSmall }

/-- 'laws.FnExactRankWord', WHERE WHAT IT READS IS OF BULK AT MOST 1048576: true; the input reads as it did. -/
def fnExactRankWordUptoRow : OpenClaim := { program := "ytekllaaohagefaa", sum := "5afd93028316ad943de9d4e28095b0b6c3d78806bc9d07545341ffcf1df8abfc", func := "loop.example/g01137/laws.FnExactRankWord", spec := "fnExactRankWord", unfollowed := true, recurses := true, apart := false, narrowed := true }
def FnExactRankWordUptoSaid : Prop := fnExactRankWordUptoRow.holds Try.pinned (OpenSpec.upto fnExactRankWordSpec)

/-- 'laws.FnExactCountWords', WHERE WHAT IT READS IS OF BULK AT MOST 1048576: true; the input reads as it did. -/
def fnExactCountWordsUptoRow : OpenClaim := { program := "ytekllaaohagefaa", sum := "5afd93028316ad943de9d4e28095b0b6c3d78806bc9d07545341ffcf1df8abfc", func := "loop.example/g01137/laws.FnExactCountWords", spec := "fnExactCountWords", unfollowed := true, recurses := true, apart := false, narrowed := true }
def FnExactCountWordsUptoSaid : Prop := fnExactCountWordsUptoRow.holds Try.pinned (OpenSpec.upto fnExactCountWordsSpec)

/-- 'laws.FnExactCountFrom', WHERE WHAT IT READS IS OF BULK AT MOST 1048576: true; the input reads as it did. -/
def fnExactCountFromUptoRow : OpenClaim := { program := "ytekllaaohagefaa", sum := "5afd93028316ad943de9d4e28095b0b6c3d78806bc9d07545341ffcf1df8abfc", func := "loop.example/g01137/laws.FnExactCountFrom", spec := "fnExactCountFrom", unfollowed := true, recurses := true, apart := false, narrowed := true }
def FnExactCountFromUptoSaid : Prop := fnExactCountFromUptoRow.holds Try.pinned (OpenSpec.upto fnExactCountFromSpec)

/-- 'laws.FnExactEndsSpace', WHERE WHAT IT READS IS OF BULK AT MOST 1048576: true; the input reads as it did. -/
def fnExactEndsSpaceUptoRow : OpenClaim := { program := "ytekllaaohagefaa", sum := "5afd93028316ad943de9d4e28095b0b6c3d78806bc9d07545341ffcf1df8abfc", func := "loop.example/g01137/laws.FnExactEndsSpace", spec := "fnExactEndsSpace", unfollowed := true, recurses := true, apart := false, narrowed := true }
def FnExactEndsSpaceUptoSaid : Prop := fnExactEndsSpaceUptoRow.holds Try.pinned (OpenSpec.upto fnExactEndsSpaceSpec)

/-- 'laws.FnExactUnionSpaces', WHERE WHAT IT READS IS OF BULK AT MOST 1048576: true; the input reads as it did. -/
def fnExactUnionSpacesUptoRow : OpenClaim := { program := "ytekllaaohagefaa", sum := "5afd93028316ad943de9d4e28095b0b6c3d78806bc9d07545341ffcf1df8abfc", func := "loop.example/g01137/laws.FnExactUnionSpaces", spec := "fnExactUnionSpaces", apart := false, narrowed := true }
def FnExactUnionSpacesUptoSaid : Prop := fnExactUnionSpacesUptoRow.holds Try.pinned (OpenSpec.upto fnExactUnionSpacesSpec)

/-- 'laws.FnExactCriticalOf', WHERE WHAT IT READS IS OF BULK AT MOST 1048576: true; the input reads as it did. -/
def fnExactCriticalOfUptoRow : OpenClaim := { program := "ytekllaaohagefaa", sum := "5afd93028316ad943de9d4e28095b0b6c3d78806bc9d07545341ffcf1df8abfc", func := "loop.example/g01137/laws.FnExactCriticalOf", spec := "fnExactCriticalOf", unfollowed := true, recurses := true, apart := false, narrowed := true }
def FnExactCriticalOfUptoSaid : Prop := fnExactCriticalOfUptoRow.holds Try.pinned (OpenSpec.upto fnExactCriticalOfSpec)

/-- 'laws.FnExactPathsWithin', WHERE WHAT IT READS IS OF BULK AT MOST 1048576: true; the input reads as it did. -/
def fnExactPathsWithinUptoRow : OpenClaim := { program := "ytekllaaohagefaa", sum := "5afd93028316ad943de9d4e28095b0b6c3d78806bc9d07545341ffcf1df8abfc", func := "loop.example/g01137/laws.FnExactPathsWithin", spec := "fnExactPathsWithin", unfollowed := true, recurses := true, apart := false, narrowed := true }
def FnExactPathsWithinUptoSaid : Prop := fnExactPathsWithinUptoRow.holds Try.pinned (OpenSpec.upto fnExactPathsWithinSpec)

end Rows
end Go.Proofs.Ytekllaaohagefaa
