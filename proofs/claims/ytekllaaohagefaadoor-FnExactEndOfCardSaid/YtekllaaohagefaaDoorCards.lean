/-
  DERIVED. GIVEN WITH THE SEED: THE CARDS: each row of YtekllaaohagefaaDoorRows.lean that lists a variable, with what it lists TIED to the program's text (the seventh form; the later family's looks); each row that meets fmt, with fmt's text TOLD by the authors' own Lean function (tested against real Go, not proved from fmt's source: count such statements apart). THE CARD IS WHAT COUNTS. Prove the row's statement (the work); the ties are given (YtekllaaohagefaaDoorTie.lean); close each card by the builder's one call (the guide's Derived/Test/ToyasCard.lean, 'card_holds'). Laid BY PROGRAM, IN A SANDBOX (cutbox-door.mjs). By AI agents, Wed Nov 11 2026. No macro, syntax, notation, axiom, sorry.
-/
import Derived.Test.YtekllaaohagefaaDoorRows
import GoSem.ClaimSeven
namespace Go.Proofs.YtekllaaohagefaaDoor
namespace Rows

/-- THE TIED CARD OF 'laws.FnExactEndOf'. -/
def fnExactEndOfCard : Claim7 := { stood := { row := fnExactEndOfRow, standIns := [], harness := (true, "bb4c32b6d87811da596ffe9206e1173937843b658e5b303806563f964d32b4ec"), looks := false }, kinds := [], alts := [], laidByText := true, laidKinds := [.data, .data], laidTests := true, laidLooks := .later }
def FnExactEndOfCardSaid : Prop := Claim7.holds Tryd.pinned (.plain (OpenSpec.ofChange fnExactEndOfSpec)) fnExactEndOfCard

/-- THE SECOND FORM's CARD OF 'laws.FnExactEndOf'. -/
def fnExactEndOfUptoCard : Claim7 := { stood := { row := fnExactEndOfUptoRow, standIns := [], harness := (true, "bb4c32b6d87811da596ffe9206e1173937843b658e5b303806563f964d32b4ec"), looks := false }, kinds := [], alts := [], laidByText := true, laidKinds := [.data, .data], laidTests := true, laidLooks := .later }
def FnExactEndOfUptoCardSaid : Prop := Claim7.holds Tryd.pinned (.plain (OpenSpec.upto fnExactEndOfSpec)) fnExactEndOfUptoCard
end Rows
end Go.Proofs.YtekllaaohagefaaDoor
