/-
  DERIVED. GIVEN WITH THE SEED: THE CARDS: each row of YtfmppkplmfbjpaaGreatDoorRows.lean that lists a variable, with what it lists TIED to the program's text (the seventh form; the later family's looks); each row that meets fmt, with fmt's text TOLD by the authors' own Lean function (tested against real Go, not proved from fmt's source: count such statements apart). THE CARD IS WHAT COUNTS. Prove the row's statement (the work); the ties are given (YtfmppkplmfbjpaaGreatDoorTie.lean); close each card by the builder's one call (the guide's Derived/Test/ToyasCard.lean, 'card_holds'). Laid BY PROGRAM, IN A SANDBOX (cutbox-door.mjs). By AI agents, Wed Nov 11 2026. No macro, syntax, notation, axiom, sorry.
-/
import Derived.Test.YtfmppkplmfbjpaaGreatDoorRows
import GoSem.ClaimSeven
namespace Go.Proofs.YtfmppkplmfbjpaaGreatDoor
namespace Rows

/-- THE TIED CARD OF 'encaustictop.TopColours'. -/
def topColoursCard : Claim7 := { stood := { row := topColoursRow, standIns := [], harness := (true, "db86e25e2866581aa0d2ab22781c5e01b110b7c24ec62b9e8a22c8bbaf605759"), looks := false }, kinds := [], alts := [], laidByText := true, laidKinds := [.data, .widerDeep, .pinned], laidTests := true, laidLooks := .later }
def TopColoursCardSaid : Prop := Claim7.holds Tryz.pinned (.plain (OpenSpec.ofChange topColoursSpec)) topColoursCard

/-- THE SECOND FORM's CARD OF 'encaustictop.TopColours'. -/
def topColoursUptoCard : Claim7 := { stood := { row := topColoursUptoRow, standIns := [], harness := (true, "db86e25e2866581aa0d2ab22781c5e01b110b7c24ec62b9e8a22c8bbaf605759"), looks := false }, kinds := [], alts := [], laidByText := true, laidKinds := [.data, .widerDeep, .pinned], laidTests := true, laidLooks := .later }
def TopColoursUptoCardSaid : Prop := Claim7.holds Tryz.pinned (.plain (OpenSpec.upto topColoursSpec)) topColoursUptoCard
end Rows
end Go.Proofs.YtfmppkplmfbjpaaGreatDoor
