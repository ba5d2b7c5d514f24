/-
  No cell of these rows narrows 'for every input' (looked for: loops, veiled, ifaces, maps, wideKeys, modest, calm, conditions, laid).
  DERIVED. THE GIVEN ROWS OF THIS SEAT. 9 by the template 'for every input the law returns true; each argument reads behind the call as it read before'; 0 by the template 'total and deterministic' (their statements: YtpliebmaagoahaaTotals.lean).
  GIVEN WITH THE SEED: the statements are not yours to turn. If you find one false, say at which input.
  Laid BY PROGRAM, IN A SANDBOX (cutbox-rows.mjs): the forced cells as the released guide's own fill.sh prints them over the translation 1b308ec3143da0d1… (all of the seat's roots in one cut). By AI agents, Wed Nov 11 2026. No macro, syntax, notation, axiom, sorry.
-/
import Derived.Test.YtpliebmaagoahaaChecked
import GoSem.Claim
import GoSem.ClaimJoined
import GoSem.ClaimMapViews
import Derived.JoinedTies
import Derived.KernelRfl
namespace Go.Proofs.Ytpliebmaagoahaa
/- THE CELL 'sum', in the pinned program and in every row, IS THE sha256 OF THE DUMP (.gsa) THAT YtpliebmaagoahaaProg.lean LOADS. Nothing in Lean hashes anything: it is a label: what it is worth is what the hold of that sum in a sandbox is worth. -/
noncomputable def Try.pinned : Pinned := { name := "ytpliebmaagoahaa", sum := "1b308ec3143da0d1c243d24db8058f0281cba3c40207898518b1f2b9c2477ac2", checked := Try.checked }
namespace Rows
def none {H : Type} : Left H := { results := [], args := [] }

/-- 'laws.FnExactWordText': WHATEVER THE INPUT: true; the input reads as it did. -/
def fnExactWordTextSpec : ChangeSpec := { name := "fnExactWordText", fn := fun _ => fun
  | [d] => { results := [.lit (.bool true)], args := [d] }
  | _ => none }
def fnExactWordTextRow : OpenClaim := { program := "ytpliebmaagoahaa", sum := "1b308ec3143da0d1c243d24db8058f0281cba3c40207898518b1f2b9c2477ac2", func := "loop.example/g01137/laws.FnExactWordText", spec := "fnExactWordText", unfollowed := true, recurses := true, apart := false }
def FnExactWordTextSaid : Prop := fnExactWordTextRow.holds Try.pinned (OpenSpec.ofChange fnExactWordTextSpec)

/-- ITS FALSE NEIGHBOUR: 'it returns false'. Refute it at one input. -/
def fnExactWordTextWrong : ChangeSpec := { name := "fnExactWordText", fn := fun _ => fun
  | [d] => { results := [.lit (.bool false)], args := [d] }
  | _ => none }
def FnExactWordTextWrongFalsely : Prop := fnExactWordTextRow.holds Try.pinned (OpenSpec.ofChange fnExactWordTextWrong)

/-- 'laws.FnExactFreeSpace': WHATEVER THE INPUT: true; the input reads as it did. -/
def fnExactFreeSpaceSpec : ChangeSpec := { name := "fnExactFreeSpace", fn := fun _ => fun
  | [d] => { results := [.lit (.bool true)], args := [d] }
  | _ => none }
def fnExactFreeSpaceRow : OpenClaim := { program := "ytpliebmaagoahaa", sum := "1b308ec3143da0d1c243d24db8058f0281cba3c40207898518b1f2b9c2477ac2", func := "loop.example/g01137/laws.FnExactFreeSpace", spec := "fnExactFreeSpace", unfollowed := true, recurses := true, apart := false }
def FnExactFreeSpaceSaid : Prop := fnExactFreeSpaceRow.holds Try.pinned (OpenSpec.ofChange fnExactFreeSpaceSpec)

/-- ITS FALSE NEIGHBOUR: 'it returns false'. Refute it at one input. -/
def fnExactFreeSpaceWrong : ChangeSpec := { name := "fnExactFreeSpace", fn := fun _ => fun
  | [d] => { results := [.lit (.bool false)], args := [d] }
  | _ => none }
def FnExactFreeSpaceWrongFalsely : Prop := fnExactFreeSpaceRow.holds Try.pinned (OpenSpec.ofChange fnExactFreeSpaceWrong)

/-- 'laws.FnExactIsConvex': WHATEVER THE INPUT: true; the input reads as it did. -/
def fnExactIsConvexSpec : ChangeSpec := { name := "fnExactIsConvex", fn := fun _ => fun
  | [d1, d2] => { results := [.lit (.bool true)], args := [d1, d2] }
  | _ => none }
def fnExactIsConvexRow : OpenClaim := { program := "ytpliebmaagoahaa", sum := "1b308ec3143da0d1c243d24db8058f0281cba3c40207898518b1f2b9c2477ac2", func := "loop.example/g01137/laws.FnExactIsConvex", spec := "fnExactIsConvex", apart := false }
def FnExactIsConvexSaid : Prop := fnExactIsConvexRow.holds Try.pinned (OpenSpec.ofChange fnExactIsConvexSpec)

/-- ITS FALSE NEIGHBOUR: 'it returns false'. Refute it at one input. -/
def fnExactIsConvexWrong : ChangeSpec := { name := "fnExactIsConvex", fn := fun _ => fun
  | [d1, d2] => { results := [.lit (.bool false)], args := [d1, d2] }
  | _ => none }
def FnExactIsConvexWrongFalsely : Prop := fnExactIsConvexRow.holds Try.pinned (OpenSpec.ofChange fnExactIsConvexWrong)

/-- 'laws.FnExactEliminationOf': WHATEVER THE INPUT: true; the input reads as it did. -/
def fnExactEliminationOfSpec : ChangeSpec := { name := "fnExactEliminationOf", fn := fun _ => fun
  | [d] => { results := [.lit (.bool true)], args := [d] }
  | _ => none }
def fnExactEliminationOfRow : OpenClaim := { program := "ytpliebmaagoahaa", sum := "1b308ec3143da0d1c243d24db8058f0281cba3c40207898518b1f2b9c2477ac2", func := "loop.example/g01137/laws.FnExactEliminationOf", spec := "fnExactEliminationOf", apart := false }
def FnExactEliminationOfSaid : Prop := fnExactEliminationOfRow.holds Try.pinned (OpenSpec.ofChange fnExactEliminationOfSpec)

/-- ITS FALSE NEIGHBOUR: 'it returns false'. Refute it at one input. -/
def fnExactEliminationOfWrong : ChangeSpec := { name := "fnExactEliminationOf", fn := fun _ => fun
  | [d] => { results := [.lit (.bool false)], args := [d] }
  | _ => none }
def FnExactEliminationOfWrongFalsely : Prop := fnExactEliminationOfRow.holds Try.pinned (OpenSpec.ofChange fnExactEliminationOfWrong)

/-- 'laws.FnExactCriticalOf': WHATEVER THE INPUT: true; the input reads as it did. -/
def fnExactCriticalOfSpec : ChangeSpec := { name := "fnExactCriticalOf", fn := fun _ => fun
  | [d] => { results := [.lit (.bool true)], args := [d] }
  | _ => none }
def fnExactCriticalOfRow : OpenClaim := { program := "ytpliebmaagoahaa", sum := "1b308ec3143da0d1c243d24db8058f0281cba3c40207898518b1f2b9c2477ac2", func := "loop.example/g01137/laws.FnExactCriticalOf", spec := "fnExactCriticalOf", unfollowed := true, recurses := true, apart := false }
def FnExactCriticalOfSaid : Prop := fnExactCriticalOfRow.holds Try.pinned (OpenSpec.ofChange fnExactCriticalOfSpec)

/-- ITS FALSE NEIGHBOUR: 'it returns false'. Refute it at one input. -/
def fnExactCriticalOfWrong : ChangeSpec := { name := "fnExactCriticalOf", fn := fun _ => fun
  | [d] => { results := [.lit (.bool false)], args := [d] }
  | _ => none }
def FnExactCriticalOfWrongFalsely : Prop := fnExactCriticalOfRow.holds Try.pinned (OpenSpec.ofChange fnExactCriticalOfWrong)

/-- 'laws.FnExactOrderSpace': WHATEVER THE INPUT: true; the input reads as it did. -/
def fnExactOrderSpaceSpec : ChangeSpec := { name := "fnExactOrderSpace", fn := fun _ => fun
  | [d1, d2] => { results := [.lit (.bool true)], args := [d1, d2] }
  | _ => none }
def fnExactOrderSpaceRow : OpenClaim := { program := "ytpliebmaagoahaa", sum := "1b308ec3143da0d1c243d24db8058f0281cba3c40207898518b1f2b9c2477ac2", func := "loop.example/g01137/laws.FnExactOrderSpace", spec := "fnExactOrderSpace", unfollowed := true, recurses := true, apart := false }
def FnExactOrderSpaceSaid : Prop := fnExactOrderSpaceRow.holds Try.pinned (OpenSpec.ofChange fnExactOrderSpaceSpec)

/-- ITS FALSE NEIGHBOUR: 'it returns false'. Refute it at one input. -/
def fnExactOrderSpaceWrong : ChangeSpec := { name := "fnExactOrderSpace", fn := fun _ => fun
  | [d1, d2] => { results := [.lit (.bool false)], args := [d1, d2] }
  | _ => none }
def FnExactOrderSpaceWrongFalsely : Prop := fnExactOrderSpaceRow.holds Try.pinned (OpenSpec.ofChange fnExactOrderSpaceWrong)

/-- 'laws.FnExactRenameItems': WHATEVER THE INPUT: true; the input reads as it did. -/
def fnExactRenameItemsSpec : ChangeSpec := { name := "fnExactRenameItems", fn := fun _ => fun
  | [d1, d2] => { results := [.lit (.bool true)], args := [d1, d2] }
  | _ => none }
def fnExactRenameItemsRow : OpenClaim := { program := "ytpliebmaagoahaa", sum := "1b308ec3143da0d1c243d24db8058f0281cba3c40207898518b1f2b9c2477ac2", func := "loop.example/g01137/laws.FnExactRenameItems", spec := "fnExactRenameItems", apart := false }
def FnExactRenameItemsSaid : Prop := fnExactRenameItemsRow.holds Try.pinned (OpenSpec.ofChange fnExactRenameItemsSpec)

/-- ITS FALSE NEIGHBOUR: 'it returns false'. Refute it at one input. -/
def fnExactRenameItemsWrong : ChangeSpec := { name := "fnExactRenameItems", fn := fun _ => fun
  | [d1, d2] => { results := [.lit (.bool false)], args := [d1, d2] }
  | _ => none }
def FnExactRenameItemsWrongFalsely : Prop := fnExactRenameItemsRow.holds Try.pinned (OpenSpec.ofChange fnExactRenameItemsWrong)

/-- 'laws.FnExactPointSpace': WHATEVER THE INPUT: true; the input reads as it did. -/
def fnExactPointSpaceSpec : ChangeSpec := { name := "fnExactPointSpace", fn := fun _ => fun
  | [d] => { results := [.lit (.bool true)], args := [d] }
  | _ => none }
def fnExactPointSpaceRow : OpenClaim := { program := "ytpliebmaagoahaa", sum := "1b308ec3143da0d1c243d24db8058f0281cba3c40207898518b1f2b9c2477ac2", func := "loop.example/g01137/laws.FnExactPointSpace", spec := "fnExactPointSpace", unfollowed := true, recurses := true, apart := false }
def FnExactPointSpaceSaid : Prop := fnExactPointSpaceRow.holds Try.pinned (OpenSpec.ofChange fnExactPointSpaceSpec)

/-- ITS FALSE NEIGHBOUR: 'it returns false'. Refute it at one input. -/
def fnExactPointSpaceWrong : ChangeSpec := { name := "fnExactPointSpace", fn := fun _ => fun
  | [d] => { results := [.lit (.bool false)], args := [d] }
  | _ => none }
def FnExactPointSpaceWrongFalsely : Prop := fnExactPointSpaceRow.holds Try.pinned (OpenSpec.ofChange fnExactPointSpaceWrong)

/-- 'laws.FnExactPathsWithin': WHATEVER THE INPUT: true; the input reads as it did. -/
def fnExactPathsWithinSpec : ChangeSpec := { name := "fnExactPathsWithin", fn := fun _ => fun
  | [d1, d2] => { results := [.lit (.bool true)], args := [d1, d2] }
  | _ => none }
def fnExactPathsWithinRow : OpenClaim := { program := "ytpliebmaagoahaa", sum := "1b308ec3143da0d1c243d24db8058f0281cba3c40207898518b1f2b9c2477ac2", func := "loop.example/g01137/laws.FnExactPathsWithin", spec := "fnExactPathsWithin", unfollowed := true, recurses := true, apart := false }
def FnExactPathsWithinSaid : Prop := fnExactPathsWithinRow.holds Try.pinned (OpenSpec.ofChange fnExactPathsWithinSpec)

/-- ITS FALSE NEIGHBOUR: 'it returns false'. Refute it at one input. -/
def fnExactPathsWithinWrong : ChangeSpec := { name := "fnExactPathsWithin", fn := fun _ => fun
  | [d1, d2] => { results := [.lit (.bool false)], args := [d1, d2] }
  | _ => none }
def FnExactPathsWithinWrongFalsely : Prop := fnExactPathsWithinRow.holds Try.pinned (OpenSpec.ofChange fnExactPathsWithinWrong)

/- THE SECOND FORM. 'bulk': how many values and letters a reading holds, each counted each time it is reached (what is shared counts as often as it is met; a slice's spare places count too). A statement '..UptoSaid' is the law's where the arguments, and the package variables that the reading takes, are together of bulk at most 1048576: NARROWER than '..Said'. Prove '..Said' where nothing that the law and all that it calls make is longer than what came in: it says more and counts as full. Else prove '..UptoSaid'. A law counts once. -/
mutual
def uptoBulk {H : Type} : DataW H → Nat
  | .lit (.string bytes) => bytes.length + 1
  | .lit _ => 1
  | .nil => 1
  | .ptr d => uptoBulk d + 1
  | .slice elems spare => uptoBulkAll elems + uptoBulkAll spare + 1
  | .agg parts => uptoBulkAll parts + 1
  | .iface _ d => uptoBulk d + 1
  | .map entries => uptoBulkEntries entries + 1
  | .held _ => 1
def uptoBulkAll {H : Type} : List (DataW H) → Nat
  | [] => 0
  | d :: r => uptoBulk d + uptoBulkAll r
def uptoBulkEntries {H : Type} : List (Lit × DataW H) → Nat
  | [] => 0
  | x :: r => uptoBulkEntry x + uptoBulkEntries r
def uptoBulkEntry {H : Type} : Lit × DataW H → Nat
  | (.string bytes, d) => bytes.length + uptoBulk d + 1
  | (_, d) => uptoBulk d + 1
 end
def uptoSmall : (H : Type) → List (DataW H) → Bool := fun _ ds => decide (uptoBulkAll ds ≤ 1048576)
def OpenSpec.upto (s : _root_.Go.ChangeSpec) : _root_.Go.OpenSpec := { _root_.Go.OpenSpec.ofChange s with cond := some uptoSmall }

/-- 'laws.FnExactWordText', WHERE WHAT IT READS IS OF BULK AT MOST 1048576: true; the input reads as it did. -/
def fnExactWordTextUptoRow : OpenClaim := { program := "ytpliebmaagoahaa", sum := "1b308ec3143da0d1c243d24db8058f0281cba3c40207898518b1f2b9c2477ac2", func := "loop.example/g01137/laws.FnExactWordText", spec := "fnExactWordText", unfollowed := true, recurses := true, apart := false, narrowed := true }
def FnExactWordTextUptoSaid : Prop := fnExactWordTextUptoRow.holds Try.pinned (OpenSpec.upto fnExactWordTextSpec)

/-- 'laws.FnExactFreeSpace', WHERE WHAT IT READS IS OF BULK AT MOST 1048576: true; the input reads as it did. -/
def fnExactFreeSpaceUptoRow : OpenClaim := { program := "ytpliebmaagoahaa", sum := "1b308ec3143da0d1c243d24db8058f0281cba3c40207898518b1f2b9c2477ac2", func := "loop.example/g01137/laws.FnExactFreeSpace", spec := "fnExactFreeSpace", unfollowed := true, recurses := true, apart := false, narrowed := true }
def FnExactFreeSpaceUptoSaid : Prop := fnExactFreeSpaceUptoRow.holds Try.pinned (OpenSpec.upto fnExactFreeSpaceSpec)

/-- 'laws.FnExactIsConvex', WHERE WHAT IT READS IS OF BULK AT MOST 1048576: true; the input reads as it did. -/
def fnExactIsConvexUptoRow : OpenClaim := { program := "ytpliebmaagoahaa", sum := "1b308ec3143da0d1c243d24db8058f0281cba3c40207898518b1f2b9c2477ac2", func := "loop.example/g01137/laws.FnExactIsConvex", spec := "fnExactIsConvex", apart := false, narrowed := true }
def FnExactIsConvexUptoSaid : Prop := fnExactIsConvexUptoRow.holds Try.pinned (OpenSpec.upto fnExactIsConvexSpec)

/-- 'laws.FnExactEliminationOf', WHERE WHAT IT READS IS OF BULK AT MOST 1048576: true; the input reads as it did. -/
def fnExactEliminationOfUptoRow : OpenClaim := { program := "ytpliebmaagoahaa", sum := "1b308ec3143da0d1c243d24db8058f0281cba3c40207898518b1f2b9c2477ac2", func := "loop.example/g01137/laws.FnExactEliminationOf", spec := "fnExactEliminationOf", apart := false, narrowed := true }
def FnExactEliminationOfUptoSaid : Prop := fnExactEliminationOfUptoRow.holds Try.pinned (OpenSpec.upto fnExactEliminationOfSpec)

/-- 'laws.FnExactCriticalOf', WHERE WHAT IT READS IS OF BULK AT MOST 1048576: true; the input reads as it did. -/
def fnExactCriticalOfUptoRow : OpenClaim := { program := "ytpliebmaagoahaa", sum := "1b308ec3143da0d1c243d24db8058f0281cba3c40207898518b1f2b9c2477ac2", func := "loop.example/g01137/laws.FnExactCriticalOf", spec := "fnExactCriticalOf", unfollowed := true, recurses := true, apart := false, narrowed := true }
def FnExactCriticalOfUptoSaid : Prop := fnExactCriticalOfUptoRow.holds Try.pinned (OpenSpec.upto fnExactCriticalOfSpec)

/-- 'laws.FnExactOrderSpace', WHERE WHAT IT READS IS OF BULK AT MOST 1048576: true; the input reads as it did. -/
def fnExactOrderSpaceUptoRow : OpenClaim := { program := "ytpliebmaagoahaa", sum := "1b308ec3143da0d1c243d24db8058f0281cba3c40207898518b1f2b9c2477ac2", func := "loop.example/g01137/laws.FnExactOrderSpace", spec := "fnExactOrderSpace", unfollowed := true, recurses := true, apart := false, narrowed := true }
def FnExactOrderSpaceUptoSaid : Prop := fnExactOrderSpaceUptoRow.holds Try.pinned (OpenSpec.upto fnExactOrderSpaceSpec)

/-- 'laws.FnExactRenameItems', WHERE WHAT IT READS IS OF BULK AT MOST 1048576: true; the input reads as it did. -/
def fnExactRenameItemsUptoRow : OpenClaim := { program := "ytpliebmaagoahaa", sum := "1b308ec3143da0d1c243d24db8058f0281cba3c40207898518b1f2b9c2477ac2", func := "loop.example/g01137/laws.FnExactRenameItems", spec := "fnExactRenameItems", apart := false, narrowed := true }
def FnExactRenameItemsUptoSaid : Prop := fnExactRenameItemsUptoRow.holds Try.pinned (OpenSpec.upto fnExactRenameItemsSpec)

/-- 'laws.FnExactPointSpace', WHERE WHAT IT READS IS OF BULK AT MOST 1048576: true; the input reads as it did. -/
def fnExactPointSpaceUptoRow : OpenClaim := { program := "ytpliebmaagoahaa", sum := "1b308ec3143da0d1c243d24db8058f0281cba3c40207898518b1f2b9c2477ac2", func := "loop.example/g01137/laws.FnExactPointSpace", spec := "fnExactPointSpace", unfollowed := true, recurses := true, apart := false, narrowed := true }
def FnExactPointSpaceUptoSaid : Prop := fnExactPointSpaceUptoRow.holds Try.pinned (OpenSpec.upto fnExactPointSpaceSpec)

/-- 'laws.FnExactPathsWithin', WHERE WHAT IT READS IS OF BULK AT MOST 1048576: true; the input reads as it did. -/
def fnExactPathsWithinUptoRow : OpenClaim := { program := "ytpliebmaagoahaa", sum := "1b308ec3143da0d1c243d24db8058f0281cba3c40207898518b1f2b9c2477ac2", func := "loop.example/g01137/laws.FnExactPathsWithin", spec := "fnExactPathsWithin", unfollowed := true, recurses := true, apart := false, narrowed := true }
def FnExactPathsWithinUptoSaid : Prop := fnExactPathsWithinUptoRow.holds Try.pinned (OpenSpec.upto fnExactPathsWithinSpec)

end Rows
end Go.Proofs.Ytpliebmaagoahaa
