/-
  DERIVED. GIVEN WITH THE SEED: THE CARDS: each row of YtbekeccfjmoonaaDoorRows.lean that lists a variable, with what it lists TIED to the program's text (the seventh form; the later family's looks); each row that meets fmt, with fmt's text TOLD by the authors' own Lean function (tested against real Go, not proved from fmt's source: count such statements apart). THE CARD IS WHAT COUNTS. Prove the row's statement (the work); the ties are given (YtbekeccfjmoonaaDoorTie.lean); close each card by the builder's one call (the guide's Derived/Test/ToyasCard.lean, 'card_holds'). Laid BY PROGRAM, IN A SANDBOX (cutbox-door.mjs). By AI agents, Wed Nov 11 2026. No macro, syntax, notation, axiom, sorry.
-/
import Derived.Test.YtbekeccfjmoonaaDoorRows
import GoSem.ClaimSeven
namespace Go.Proofs.YtbekeccfjmoonaaDoor
namespace Rows

/-- THE TIED CARD OF 'encaustictop.TopThree'. -/
def topThreeCard : Claim7 := { stood := { row := topThreeRow, standIns := [], harness := (true, "be560971296ab50d81c0e61caa9510d6be4d3beed926cecded375036a751ef33"), looks := false }, kinds := [], alts := [], laidByText := true, laidKinds := [.data, .widerDeep, .pinned], laidTests := true, laidLooks := .later }
def TopThreeCardSaid : Prop := Claim7.holds Tryd.pinned (.plain (OpenSpec.ofChange topThreeSpec)) topThreeCard

/-- THE TIED CARD OF 'encaustictop.TopHall'. -/
def topHallCard : Claim7 := { stood := { row := topHallRow, standIns := [], harness := (true, "be560971296ab50d81c0e61caa9510d6be4d3beed926cecded375036a751ef33"), looks := false }, kinds := [], alts := [], laidByText := true, laidKinds := [.data, .widerDeep, .pinned], laidTests := true, laidLooks := .later }
def TopHallCardSaid : Prop := Claim7.holds Tryd.pinned (.plain (OpenSpec.ofChange topHallSpec)) topHallCard

/-- THE SECOND FORM's CARD OF 'encaustictop.TopThree'. -/
def topThreeUptoCard : Claim7 := { stood := { row := topThreeUptoRow, standIns := [], harness := (true, "be560971296ab50d81c0e61caa9510d6be4d3beed926cecded375036a751ef33"), looks := false }, kinds := [], alts := [], laidByText := true, laidKinds := [.data, .widerDeep, .pinned], laidTests := true, laidLooks := .later }
def TopThreeUptoCardSaid : Prop := Claim7.holds Tryd.pinned (.plain (OpenSpec.upto topThreeSpec)) topThreeUptoCard

/-- THE SECOND FORM's CARD OF 'encaustictop.TopHall'. -/
def topHallUptoCard : Claim7 := { stood := { row := topHallUptoRow, standIns := [], harness := (true, "be560971296ab50d81c0e61caa9510d6be4d3beed926cecded375036a751ef33"), looks := false }, kinds := [], alts := [], laidByText := true, laidKinds := [.data, .widerDeep, .pinned], laidTests := true, laidLooks := .later }
def TopHallUptoCardSaid : Prop := Claim7.holds Tryd.pinned (.plain (OpenSpec.upto topHallSpec)) topHallUptoCard
end Rows
end Go.Proofs.YtbekeccfjmoonaaDoor
