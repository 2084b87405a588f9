/-
  DERIVED. GIVEN WITH THE SEED: THE CARDS: each row of YtkdcldbedbagjaaDoorRows.lean that lists a variable, with what it lists TIED to the program's text (the seventh form; the later family's looks); each row that meets fmt, with fmt's text TOLD by the authors' own Lean function (tested against real Go, not proved from fmt's source: count such statements apart). THE CARD IS WHAT COUNTS. Prove the row's statement (the work); the ties are given (YtkdcldbedbagjaaDoorTie.lean); close each card by the builder's one call (the guide's Derived/Test/ToyasCard.lean, 'card_holds'). Laid BY PROGRAM, IN A SANDBOX (cutbox-door.mjs). By AI agents, Wed Nov 11 2026. No macro, syntax, notation, axiom, sorry.
-/
import Derived.Test.YtkdcldbedbagjaaDoorRows
import GoSem.ClaimSeven
namespace Go.Proofs.YtkdcldbedbagjaaDoor
namespace Rows

/-- THE TIED CARD OF 'encausticlaw01.SquareJudges'. -/
def squareJudgesCard : Claim7 := { stood := { row := squareJudgesRow, standIns := [], harness := (true, "6090836063352b050532c33db93931e720bfb7e2880570e8568c6a49ae3fb130"), looks := false }, kinds := [], alts := [], laidByText := true, laidKinds := [.funcs], laidTests := true, laidLooks := .later }
def SquareJudgesCardSaid : Prop := Claim7.holds Tryd.pinned (.plain (OpenSpec.ofChange squareJudgesSpec)) squareJudgesCard

/-- THE TIED CARD OF 'encausticlaw01.SquarePower'. -/
def squarePowerCard : Claim7 := { stood := { row := squarePowerRow, standIns := [], harness := (true, "6090836063352b050532c33db93931e720bfb7e2880570e8568c6a49ae3fb130"), looks := false }, kinds := [], alts := [], laidByText := true, laidKinds := [.funcs], laidTests := true, laidLooks := .later }
def SquarePowerCardSaid : Prop := Claim7.holds Tryd.pinned (.plain (OpenSpec.ofChange squarePowerSpec)) squarePowerCard

/-- THE TIED CARD OF 'encausticlaw01.SquareCurrents'. -/
def squareCurrentsCard : Claim7 := { stood := { row := squareCurrentsRow, standIns := [], harness := (true, "6090836063352b050532c33db93931e720bfb7e2880570e8568c6a49ae3fb130"), looks := false }, kinds := [], alts := [], laidByText := true, laidKinds := [.funcs], laidTests := true, laidLooks := .later }
def SquareCurrentsCardSaid : Prop := Claim7.holds Tryd.pinned (.plain (OpenSpec.ofChange squareCurrentsSpec)) squareCurrentsCard

/-- THE TIED CARD OF 'encausticlaw01.SquareFlows'. -/
def squareFlowsCard : Claim7 := { stood := { row := squareFlowsRow, standIns := [], harness := (true, "6090836063352b050532c33db93931e720bfb7e2880570e8568c6a49ae3fb130"), looks := false }, kinds := [], alts := [], laidByText := true, laidKinds := [.funcs], laidTests := true, laidLooks := .later }
def SquareFlowsCardSaid : Prop := Claim7.holds Tryd.pinned (.plain (OpenSpec.ofChange squareFlowsSpec)) squareFlowsCard

/-- THE TIED CARD OF 'encausticlaw01.SquareKirchhoff'. -/
def squareKirchhoffCard : Claim7 := { stood := { row := squareKirchhoffRow, standIns := [], harness := (true, "6090836063352b050532c33db93931e720bfb7e2880570e8568c6a49ae3fb130"), looks := false }, kinds := [], alts := [], laidByText := true, laidKinds := [.funcs], laidTests := true, laidLooks := .later }
def SquareKirchhoffCardSaid : Prop := Claim7.holds Tryd.pinned (.plain (OpenSpec.ofChange squareKirchhoffSpec)) squareKirchhoffCard

/-- THE TIED CARD OF 'encausticlaw01.SquareCuts'. -/
def squareCutsCard : Claim7 := { stood := { row := squareCutsRow, standIns := [], harness := (true, "6090836063352b050532c33db93931e720bfb7e2880570e8568c6a49ae3fb130"), looks := false }, kinds := [], alts := [], laidByText := true, laidKinds := [.funcs], laidTests := true, laidLooks := .later }
def SquareCutsCardSaid : Prop := Claim7.holds Tryd.pinned (.plain (OpenSpec.ofChange squareCutsSpec)) squareCutsCard

/-- THE TIED CARD OF 'encausticlaw01.SquareEuclid'. -/
def squareEuclidCard : Claim7 := { stood := { row := squareEuclidRow, standIns := [], harness := (true, "6090836063352b050532c33db93931e720bfb7e2880570e8568c6a49ae3fb130"), looks := false }, kinds := [], alts := [], laidByText := true, laidKinds := [.funcs], laidTests := true, laidLooks := .later }
def SquareEuclidCardSaid : Prop := Claim7.holds Tryd.pinned (.plain (OpenSpec.ofChange squareEuclidSpec)) squareEuclidCard

/-- THE TIED CARD OF 'encausticlaw01.SquareRayleigh'. -/
def squareRayleighCard : Claim7 := { stood := { row := squareRayleighRow, standIns := [], harness := (true, "6090836063352b050532c33db93931e720bfb7e2880570e8568c6a49ae3fb130"), looks := false }, kinds := [], alts := [], laidByText := true, laidKinds := [.funcs], laidTests := true, laidLooks := .later }
def SquareRayleighCardSaid : Prop := Claim7.holds Tryd.pinned (.plain (OpenSpec.ofChange squareRayleighSpec)) squareRayleighCard

/-- THE TIED CARD OF 'encausticlaw01.SquareRatios'. -/
def squareRatiosCard : Claim7 := { stood := { row := squareRatiosRow, standIns := [], harness := (true, "6090836063352b050532c33db93931e720bfb7e2880570e8568c6a49ae3fb130"), looks := false }, kinds := [], alts := [], laidByText := true, laidKinds := [.funcs], laidTests := true, laidLooks := .later }
def SquareRatiosCardSaid : Prop := Claim7.holds Tryd.pinned (.plain (OpenSpec.ofChange squareRatiosSpec)) squareRatiosCard

/-- THE TIED CARD OF 'encausticlaw01.SquareFoster'. -/
def squareFosterCard : Claim7 := { stood := { row := squareFosterRow, standIns := [], harness := (true, "6090836063352b050532c33db93931e720bfb7e2880570e8568c6a49ae3fb130"), looks := false }, kinds := [], alts := [], laidByText := true, laidKinds := [.funcs], laidTests := true, laidLooks := .later }
def SquareFosterCardSaid : Prop := Claim7.holds Tryd.pinned (.plain (OpenSpec.ofChange squareFosterSpec)) squareFosterCard

/-- THE TIED CARD OF 'encausticlaw01.SquareLadder'. -/
def squareLadderCard : Claim7 := { stood := { row := squareLadderRow, standIns := [], harness := (true, "6090836063352b050532c33db93931e720bfb7e2880570e8568c6a49ae3fb130"), looks := false }, kinds := [], alts := [], laidByText := true, laidKinds := [.funcs], laidTests := true, laidLooks := .later }
def SquareLadderCardSaid : Prop := Claim7.holds Tryd.pinned (.plain (OpenSpec.ofChange squareLadderSpec)) squareLadderCard

/-- THE SECOND FORM's CARD OF 'encausticlaw01.SquareJudges'. -/
def squareJudgesUptoCard : Claim7 := { stood := { row := squareJudgesUptoRow, standIns := [], harness := (true, "6090836063352b050532c33db93931e720bfb7e2880570e8568c6a49ae3fb130"), looks := false }, kinds := [], alts := [], laidByText := true, laidKinds := [.funcs], laidTests := true, laidLooks := .later }
def SquareJudgesUptoCardSaid : Prop := Claim7.holds Tryd.pinned (.plain (OpenSpec.upto squareJudgesSpec)) squareJudgesUptoCard

/-- THE SECOND FORM's CARD OF 'encausticlaw01.SquarePower'. -/
def squarePowerUptoCard : Claim7 := { stood := { row := squarePowerUptoRow, standIns := [], harness := (true, "6090836063352b050532c33db93931e720bfb7e2880570e8568c6a49ae3fb130"), looks := false }, kinds := [], alts := [], laidByText := true, laidKinds := [.funcs], laidTests := true, laidLooks := .later }
def SquarePowerUptoCardSaid : Prop := Claim7.holds Tryd.pinned (.plain (OpenSpec.upto squarePowerSpec)) squarePowerUptoCard

/-- THE SECOND FORM's CARD OF 'encausticlaw01.SquareCurrents'. -/
def squareCurrentsUptoCard : Claim7 := { stood := { row := squareCurrentsUptoRow, standIns := [], harness := (true, "6090836063352b050532c33db93931e720bfb7e2880570e8568c6a49ae3fb130"), looks := false }, kinds := [], alts := [], laidByText := true, laidKinds := [.funcs], laidTests := true, laidLooks := .later }
def SquareCurrentsUptoCardSaid : Prop := Claim7.holds Tryd.pinned (.plain (OpenSpec.upto squareCurrentsSpec)) squareCurrentsUptoCard

/-- THE SECOND FORM's CARD OF 'encausticlaw01.SquareFlows'. -/
def squareFlowsUptoCard : Claim7 := { stood := { row := squareFlowsUptoRow, standIns := [], harness := (true, "6090836063352b050532c33db93931e720bfb7e2880570e8568c6a49ae3fb130"), looks := false }, kinds := [], alts := [], laidByText := true, laidKinds := [.funcs], laidTests := true, laidLooks := .later }
def SquareFlowsUptoCardSaid : Prop := Claim7.holds Tryd.pinned (.plain (OpenSpec.upto squareFlowsSpec)) squareFlowsUptoCard

/-- THE SECOND FORM's CARD OF 'encausticlaw01.SquareKirchhoff'. -/
def squareKirchhoffUptoCard : Claim7 := { stood := { row := squareKirchhoffUptoRow, standIns := [], harness := (true, "6090836063352b050532c33db93931e720bfb7e2880570e8568c6a49ae3fb130"), looks := false }, kinds := [], alts := [], laidByText := true, laidKinds := [.funcs], laidTests := true, laidLooks := .later }
def SquareKirchhoffUptoCardSaid : Prop := Claim7.holds Tryd.pinned (.plain (OpenSpec.upto squareKirchhoffSpec)) squareKirchhoffUptoCard

/-- THE SECOND FORM's CARD OF 'encausticlaw01.SquareCuts'. -/
def squareCutsUptoCard : Claim7 := { stood := { row := squareCutsUptoRow, standIns := [], harness := (true, "6090836063352b050532c33db93931e720bfb7e2880570e8568c6a49ae3fb130"), looks := false }, kinds := [], alts := [], laidByText := true, laidKinds := [.funcs], laidTests := true, laidLooks := .later }
def SquareCutsUptoCardSaid : Prop := Claim7.holds Tryd.pinned (.plain (OpenSpec.upto squareCutsSpec)) squareCutsUptoCard

/-- THE SECOND FORM's CARD OF 'encausticlaw01.SquareEuclid'. -/
def squareEuclidUptoCard : Claim7 := { stood := { row := squareEuclidUptoRow, standIns := [], harness := (true, "6090836063352b050532c33db93931e720bfb7e2880570e8568c6a49ae3fb130"), looks := false }, kinds := [], alts := [], laidByText := true, laidKinds := [.funcs], laidTests := true, laidLooks := .later }
def SquareEuclidUptoCardSaid : Prop := Claim7.holds Tryd.pinned (.plain (OpenSpec.upto squareEuclidSpec)) squareEuclidUptoCard

/-- THE SECOND FORM's CARD OF 'encausticlaw01.SquareRayleigh'. -/
def squareRayleighUptoCard : Claim7 := { stood := { row := squareRayleighUptoRow, standIns := [], harness := (true, "6090836063352b050532c33db93931e720bfb7e2880570e8568c6a49ae3fb130"), looks := false }, kinds := [], alts := [], laidByText := true, laidKinds := [.funcs], laidTests := true, laidLooks := .later }
def SquareRayleighUptoCardSaid : Prop := Claim7.holds Tryd.pinned (.plain (OpenSpec.upto squareRayleighSpec)) squareRayleighUptoCard

/-- THE SECOND FORM's CARD OF 'encausticlaw01.SquareRatios'. -/
def squareRatiosUptoCard : Claim7 := { stood := { row := squareRatiosUptoRow, standIns := [], harness := (true, "6090836063352b050532c33db93931e720bfb7e2880570e8568c6a49ae3fb130"), looks := false }, kinds := [], alts := [], laidByText := true, laidKinds := [.funcs], laidTests := true, laidLooks := .later }
def SquareRatiosUptoCardSaid : Prop := Claim7.holds Tryd.pinned (.plain (OpenSpec.upto squareRatiosSpec)) squareRatiosUptoCard

/-- THE SECOND FORM's CARD OF 'encausticlaw01.SquareFoster'. -/
def squareFosterUptoCard : Claim7 := { stood := { row := squareFosterUptoRow, standIns := [], harness := (true, "6090836063352b050532c33db93931e720bfb7e2880570e8568c6a49ae3fb130"), looks := false }, kinds := [], alts := [], laidByText := true, laidKinds := [.funcs], laidTests := true, laidLooks := .later }
def SquareFosterUptoCardSaid : Prop := Claim7.holds Tryd.pinned (.plain (OpenSpec.upto squareFosterSpec)) squareFosterUptoCard

/-- THE SECOND FORM's CARD OF 'encausticlaw01.SquareLadder'. -/
def squareLadderUptoCard : Claim7 := { stood := { row := squareLadderUptoRow, standIns := [], harness := (true, "6090836063352b050532c33db93931e720bfb7e2880570e8568c6a49ae3fb130"), looks := false }, kinds := [], alts := [], laidByText := true, laidKinds := [.funcs], laidTests := true, laidLooks := .later }
def SquareLadderUptoCardSaid : Prop := Claim7.holds Tryd.pinned (.plain (OpenSpec.upto squareLadderSpec)) squareLadderUptoCard
end Rows
end Go.Proofs.YtkdcldbedbagjaaDoor
