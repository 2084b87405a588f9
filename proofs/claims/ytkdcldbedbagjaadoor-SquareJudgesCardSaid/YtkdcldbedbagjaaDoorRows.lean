/-
  NARROWER THAN 'FOR EVERY INPUT', by the rows' own cells (each row's printed sentence says how): SquareJudges: laid · SquarePower: laid · SquareCurrents: laid · SquareFlows: laid · SquareKirchhoff: laid · SquareCuts: laid · SquareEuclid: laid · SquareRayleigh: laid · SquareRatios: laid · SquareFoster: laid · SquareLadder: laid.
  DERIVED. THE GIVEN ROWS OF THIS SEAT. 11 by the template 'for every input the law returns true; each argument reads behind the call as it read before'; 0 by the template 'total and deterministic' (their statements: YtkdcldbedbagjaaDoorTotals.lean).
  GIVEN WITH THE SEED: the statements are not yours to turn. If you find one false, say at which input.
  Laid BY PROGRAM, IN A SANDBOX (cutbox-rows.mjs): the forced cells as the released guide's own fill.sh prints them over the translation 88ab30a6f0829125… (all of the seat's roots in one cut). By AI agents, Wed Nov 11 2026. No macro, syntax, notation, axiom, sorry.
-/
import Derived.Test.YtkdcldbedbagjaaDoorChecked
import GoSem.Claim
import GoSem.ClaimJoined
import GoSem.ClaimMapViews
import Derived.JoinedTies
import Derived.KernelRfl
namespace Go.Proofs.YtkdcldbedbagjaaDoor
/- THE CELL 'sum', in the pinned program and in every row, IS THE sha256 OF THE DUMP (.gsa) THAT YtkdcldbedbagjaaDoorProg.lean LOADS. Nothing in Lean hashes anything: it is a label: what it is worth is what the hold of that sum in a sandbox is worth. -/
noncomputable def Tryd.pinned : Pinned := { name := "ytkdcldbedbagjaadoor", sum := "88ab30a6f0829125408eb4bff6a15367af13d13c9a37c231d8877ed02ce05005", checked := Tryd.checked }
namespace Rows
def none {H : Type} : Left H := { results := [], args := [] }

/- WHAT THE LISTED PACKAGE-LEVEL VARIABLES READ AS WHEN THE CALL BEGINS. Each datum BY PROGRAM (the guide's laid-datum.mjs) off the statement by which the dump's own 'gosem.cut.vars' lays the variable. In a bare row this is a premise. The card (YtkdcldbedbagjaaDoorCards.lean) ties it to the program's text. -/
def laid_encaustic_square_whole {H : Type} : DataW H := .iface "func table" (.agg [.iface "func" (.lit (.string [101, 110, 99, 97, 117, 115, 116, 105, 99, 47, 115, 113, 117, 97, 114, 101, 46, 119, 104, 111, 108, 101, 36, 49])), .iface "func" (.lit (.string [101, 110, 99, 97, 117, 115, 116, 105, 99, 47, 115, 113, 117, 97, 114, 101, 46, 119, 104, 111, 108, 101, 36, 50])), .iface "func" (.lit (.string [101, 110, 99, 97, 117, 115, 116, 105, 99, 47, 115, 113, 117, 97, 114, 101, 46, 119, 104, 111, 108, 101, 36, 51]))])

/-- 'encausticlaw01.SquareJudges': WHATEVER THE INPUT: true; the input reads as it did. -/
def squareJudgesSpec : ChangeSpec := { name := "squareJudges", fn := fun _ => fun
  | [d1, d2, d3] => { results := [.lit (.bool true)], args := [d1, d2, d3] }
  | _ => none }
def squareJudgesRow : OpenClaim := { program := "ytkdcldbedbagjaadoor", sum := "88ab30a6f0829125408eb4bff6a15367af13d13c9a37c231d8877ed02ce05005", func := "encaustic/encausticlaw01.SquareJudges", spec := "squareJudges", unfollowed := true, recurses := true, named := ["encaustic/square.whole"], apart := false, laid := [("encaustic/square.whole", laid_encaustic_square_whole)] }
def SquareJudgesSaid : Prop := squareJudgesRow.holds Tryd.pinned (OpenSpec.ofChange squareJudgesSpec)

/-- ITS FALSE NEIGHBOUR: 'it returns false'. Refute it at one input. -/
def squareJudgesWrong : ChangeSpec := { name := "squareJudges", fn := fun _ => fun
  | [d1, d2, d3] => { results := [.lit (.bool false)], args := [d1, d2, d3] }
  | _ => none }
def SquareJudgesWrongFalsely : Prop := squareJudgesRow.holds Tryd.pinned (OpenSpec.ofChange squareJudgesWrong)

/-- 'encausticlaw01.SquarePower': WHATEVER THE INPUT: true; the input reads as it did. -/
def squarePowerSpec : ChangeSpec := { name := "squarePower", fn := fun _ => fun
  | [d1, d2, d3, d4] => { results := [.lit (.bool true)], args := [d1, d2, d3, d4] }
  | _ => none }
def squarePowerRow : OpenClaim := { program := "ytkdcldbedbagjaadoor", sum := "88ab30a6f0829125408eb4bff6a15367af13d13c9a37c231d8877ed02ce05005", func := "encaustic/encausticlaw01.SquarePower", spec := "squarePower", unfollowed := true, recurses := true, named := ["encaustic/square.whole"], apart := false, laid := [("encaustic/square.whole", laid_encaustic_square_whole)] }
def SquarePowerSaid : Prop := squarePowerRow.holds Tryd.pinned (OpenSpec.ofChange squarePowerSpec)

/-- ITS FALSE NEIGHBOUR: 'it returns false'. Refute it at one input. -/
def squarePowerWrong : ChangeSpec := { name := "squarePower", fn := fun _ => fun
  | [d1, d2, d3, d4] => { results := [.lit (.bool false)], args := [d1, d2, d3, d4] }
  | _ => none }
def SquarePowerWrongFalsely : Prop := squarePowerRow.holds Tryd.pinned (OpenSpec.ofChange squarePowerWrong)

/-- 'encausticlaw01.SquareCurrents': WHATEVER THE INPUT: true; the input reads as it did. -/
def squareCurrentsSpec : ChangeSpec := { name := "squareCurrents", fn := fun _ => fun
  | [d1, d2, d3] => { results := [.lit (.bool true)], args := [d1, d2, d3] }
  | _ => none }
def squareCurrentsRow : OpenClaim := { program := "ytkdcldbedbagjaadoor", sum := "88ab30a6f0829125408eb4bff6a15367af13d13c9a37c231d8877ed02ce05005", func := "encaustic/encausticlaw01.SquareCurrents", spec := "squareCurrents", unfollowed := true, recurses := true, named := ["encaustic/square.whole"], apart := false, laid := [("encaustic/square.whole", laid_encaustic_square_whole)] }
def SquareCurrentsSaid : Prop := squareCurrentsRow.holds Tryd.pinned (OpenSpec.ofChange squareCurrentsSpec)

/-- ITS FALSE NEIGHBOUR: 'it returns false'. Refute it at one input. -/
def squareCurrentsWrong : ChangeSpec := { name := "squareCurrents", fn := fun _ => fun
  | [d1, d2, d3] => { results := [.lit (.bool false)], args := [d1, d2, d3] }
  | _ => none }
def SquareCurrentsWrongFalsely : Prop := squareCurrentsRow.holds Tryd.pinned (OpenSpec.ofChange squareCurrentsWrong)

/-- 'encausticlaw01.SquareFlows': WHATEVER THE INPUT: true; the input reads as it did. -/
def squareFlowsSpec : ChangeSpec := { name := "squareFlows", fn := fun _ => fun
  | [d1, d2, d3, d4] => { results := [.lit (.bool true)], args := [d1, d2, d3, d4] }
  | _ => none }
def squareFlowsRow : OpenClaim := { program := "ytkdcldbedbagjaadoor", sum := "88ab30a6f0829125408eb4bff6a15367af13d13c9a37c231d8877ed02ce05005", func := "encaustic/encausticlaw01.SquareFlows", spec := "squareFlows", unfollowed := true, recurses := true, named := ["encaustic/square.whole"], apart := false, laid := [("encaustic/square.whole", laid_encaustic_square_whole)] }
def SquareFlowsSaid : Prop := squareFlowsRow.holds Tryd.pinned (OpenSpec.ofChange squareFlowsSpec)

/-- ITS FALSE NEIGHBOUR: 'it returns false'. Refute it at one input. -/
def squareFlowsWrong : ChangeSpec := { name := "squareFlows", fn := fun _ => fun
  | [d1, d2, d3, d4] => { results := [.lit (.bool false)], args := [d1, d2, d3, d4] }
  | _ => none }
def SquareFlowsWrongFalsely : Prop := squareFlowsRow.holds Tryd.pinned (OpenSpec.ofChange squareFlowsWrong)

/-- 'encausticlaw01.SquareKirchhoff': WHATEVER THE INPUT: true; the input reads as it did. -/
def squareKirchhoffSpec : ChangeSpec := { name := "squareKirchhoff", fn := fun _ => fun
  | [d1, d2, d3, d4] => { results := [.lit (.bool true)], args := [d1, d2, d3, d4] }
  | _ => none }
def squareKirchhoffRow : OpenClaim := { program := "ytkdcldbedbagjaadoor", sum := "88ab30a6f0829125408eb4bff6a15367af13d13c9a37c231d8877ed02ce05005", func := "encaustic/encausticlaw01.SquareKirchhoff", spec := "squareKirchhoff", unfollowed := true, recurses := true, named := ["encaustic/square.whole"], apart := false, laid := [("encaustic/square.whole", laid_encaustic_square_whole)] }
def SquareKirchhoffSaid : Prop := squareKirchhoffRow.holds Tryd.pinned (OpenSpec.ofChange squareKirchhoffSpec)

/-- ITS FALSE NEIGHBOUR: 'it returns false'. Refute it at one input. -/
def squareKirchhoffWrong : ChangeSpec := { name := "squareKirchhoff", fn := fun _ => fun
  | [d1, d2, d3, d4] => { results := [.lit (.bool false)], args := [d1, d2, d3, d4] }
  | _ => none }
def SquareKirchhoffWrongFalsely : Prop := squareKirchhoffRow.holds Tryd.pinned (OpenSpec.ofChange squareKirchhoffWrong)

/-- 'encausticlaw01.SquareCuts': WHATEVER THE INPUT: true; the input reads as it did. -/
def squareCutsSpec : ChangeSpec := { name := "squareCuts", fn := fun _ => fun
  | [d1, d2] => { results := [.lit (.bool true)], args := [d1, d2] }
  | _ => none }
def squareCutsRow : OpenClaim := { program := "ytkdcldbedbagjaadoor", sum := "88ab30a6f0829125408eb4bff6a15367af13d13c9a37c231d8877ed02ce05005", func := "encaustic/encausticlaw01.SquareCuts", spec := "squareCuts", unfollowed := true, recurses := true, named := ["encaustic/square.whole"], apart := false, laid := [("encaustic/square.whole", laid_encaustic_square_whole)] }
def SquareCutsSaid : Prop := squareCutsRow.holds Tryd.pinned (OpenSpec.ofChange squareCutsSpec)

/-- ITS FALSE NEIGHBOUR: 'it returns false'. Refute it at one input. -/
def squareCutsWrong : ChangeSpec := { name := "squareCuts", fn := fun _ => fun
  | [d1, d2] => { results := [.lit (.bool false)], args := [d1, d2] }
  | _ => none }
def SquareCutsWrongFalsely : Prop := squareCutsRow.holds Tryd.pinned (OpenSpec.ofChange squareCutsWrong)

/-- 'encausticlaw01.SquareEuclid': WHATEVER THE INPUT: true; the input reads as it did. -/
def squareEuclidSpec : ChangeSpec := { name := "squareEuclid", fn := fun _ => fun
  | [d1, d2] => { results := [.lit (.bool true)], args := [d1, d2] }
  | _ => none }
def squareEuclidRow : OpenClaim := { program := "ytkdcldbedbagjaadoor", sum := "88ab30a6f0829125408eb4bff6a15367af13d13c9a37c231d8877ed02ce05005", func := "encaustic/encausticlaw01.SquareEuclid", spec := "squareEuclid", unfollowed := true, recurses := true, named := ["encaustic/square.whole"], apart := false, laid := [("encaustic/square.whole", laid_encaustic_square_whole)] }
def SquareEuclidSaid : Prop := squareEuclidRow.holds Tryd.pinned (OpenSpec.ofChange squareEuclidSpec)

/-- ITS FALSE NEIGHBOUR: 'it returns false'. Refute it at one input. -/
def squareEuclidWrong : ChangeSpec := { name := "squareEuclid", fn := fun _ => fun
  | [d1, d2] => { results := [.lit (.bool false)], args := [d1, d2] }
  | _ => none }
def SquareEuclidWrongFalsely : Prop := squareEuclidRow.holds Tryd.pinned (OpenSpec.ofChange squareEuclidWrong)

/-- 'encausticlaw01.SquareRayleigh': WHATEVER THE INPUT: true; the input reads as it did. -/
def squareRayleighSpec : ChangeSpec := { name := "squareRayleigh", fn := fun _ => fun
  | [d1, d2, d3, d4, d5, d6] => { results := [.lit (.bool true)], args := [d1, d2, d3, d4, d5, d6] }
  | _ => none }
def squareRayleighRow : OpenClaim := { program := "ytkdcldbedbagjaadoor", sum := "88ab30a6f0829125408eb4bff6a15367af13d13c9a37c231d8877ed02ce05005", func := "encaustic/encausticlaw01.SquareRayleigh", spec := "squareRayleigh", unfollowed := true, recurses := true, named := ["encaustic/square.whole"], apart := false, laid := [("encaustic/square.whole", laid_encaustic_square_whole)] }
def SquareRayleighSaid : Prop := squareRayleighRow.holds Tryd.pinned (OpenSpec.ofChange squareRayleighSpec)

/-- ITS FALSE NEIGHBOUR: 'it returns false'. Refute it at one input. -/
def squareRayleighWrong : ChangeSpec := { name := "squareRayleigh", fn := fun _ => fun
  | [d1, d2, d3, d4, d5, d6] => { results := [.lit (.bool false)], args := [d1, d2, d3, d4, d5, d6] }
  | _ => none }
def SquareRayleighWrongFalsely : Prop := squareRayleighRow.holds Tryd.pinned (OpenSpec.ofChange squareRayleighWrong)

/-- 'encausticlaw01.SquareRatios': WHATEVER THE INPUT: true; the input reads as it did. -/
def squareRatiosSpec : ChangeSpec := { name := "squareRatios", fn := fun _ => fun
  | [d1, d2, d3, d4, d5] => { results := [.lit (.bool true)], args := [d1, d2, d3, d4, d5] }
  | _ => none }
def squareRatiosRow : OpenClaim := { program := "ytkdcldbedbagjaadoor", sum := "88ab30a6f0829125408eb4bff6a15367af13d13c9a37c231d8877ed02ce05005", func := "encaustic/encausticlaw01.SquareRatios", spec := "squareRatios", unfollowed := true, recurses := true, named := ["encaustic/square.whole"], apart := false, laid := [("encaustic/square.whole", laid_encaustic_square_whole)] }
def SquareRatiosSaid : Prop := squareRatiosRow.holds Tryd.pinned (OpenSpec.ofChange squareRatiosSpec)

/-- ITS FALSE NEIGHBOUR: 'it returns false'. Refute it at one input. -/
def squareRatiosWrong : ChangeSpec := { name := "squareRatios", fn := fun _ => fun
  | [d1, d2, d3, d4, d5] => { results := [.lit (.bool false)], args := [d1, d2, d3, d4, d5] }
  | _ => none }
def SquareRatiosWrongFalsely : Prop := squareRatiosRow.holds Tryd.pinned (OpenSpec.ofChange squareRatiosWrong)

/-- 'encausticlaw01.SquareFoster': WHATEVER THE INPUT: true; the input reads as it did. -/
def squareFosterSpec : ChangeSpec := { name := "squareFoster", fn := fun _ => fun
  | [d1, d2] => { results := [.lit (.bool true)], args := [d1, d2] }
  | _ => none }
def squareFosterRow : OpenClaim := { program := "ytkdcldbedbagjaadoor", sum := "88ab30a6f0829125408eb4bff6a15367af13d13c9a37c231d8877ed02ce05005", func := "encaustic/encausticlaw01.SquareFoster", spec := "squareFoster", unfollowed := true, recurses := true, named := ["encaustic/square.whole"], apart := false, laid := [("encaustic/square.whole", laid_encaustic_square_whole)] }
def SquareFosterSaid : Prop := squareFosterRow.holds Tryd.pinned (OpenSpec.ofChange squareFosterSpec)

/-- ITS FALSE NEIGHBOUR: 'it returns false'. Refute it at one input. -/
def squareFosterWrong : ChangeSpec := { name := "squareFoster", fn := fun _ => fun
  | [d1, d2] => { results := [.lit (.bool false)], args := [d1, d2] }
  | _ => none }
def SquareFosterWrongFalsely : Prop := squareFosterRow.holds Tryd.pinned (OpenSpec.ofChange squareFosterWrong)

/-- 'encausticlaw01.SquareLadder': WHATEVER THE INPUT: true; the input reads as it did. -/
def squareLadderSpec : ChangeSpec := { name := "squareLadder", fn := fun _ => fun
  | [d1, d2] => { results := [.lit (.bool true)], args := [d1, d2] }
  | _ => none }
def squareLadderRow : OpenClaim := { program := "ytkdcldbedbagjaadoor", sum := "88ab30a6f0829125408eb4bff6a15367af13d13c9a37c231d8877ed02ce05005", func := "encaustic/encausticlaw01.SquareLadder", spec := "squareLadder", unfollowed := true, recurses := true, named := ["encaustic/square.whole"], apart := false, laid := [("encaustic/square.whole", laid_encaustic_square_whole)] }
def SquareLadderSaid : Prop := squareLadderRow.holds Tryd.pinned (OpenSpec.ofChange squareLadderSpec)

/-- ITS FALSE NEIGHBOUR: 'it returns false'. Refute it at one input. -/
def squareLadderWrong : ChangeSpec := { name := "squareLadder", fn := fun _ => fun
  | [d1, d2] => { results := [.lit (.bool false)], args := [d1, d2] }
  | _ => none }
def SquareLadderWrongFalsely : Prop := squareLadderRow.holds Tryd.pinned (OpenSpec.ofChange squareLadderWrong)

/- THE SECOND FORM. 'bulk': how many values and letters a reading holds, each counted each time it is reached (what is shared counts as often as it is met; a slice's spare places count too). A statement '..UptoSaid' is the law's where the arguments, and the package variables that the reading takes, are together of bulk at most 1048576: NARROWER than '..Said'. Prove '..Said' where nothing that the law and all that it calls make is longer than what came in: it says more and counts as full. Else prove '..UptoSaid'. A law counts once. -/
mutual
def uptoBulk {H : Type} : DataW H → Nat
  | .lit (.string bytes) => bytes.length + 1
  | .lit _ => 1
  | .nil => 1
  | .ptr d => uptoBulk d + 1
  | .slice elems spare => uptoBulkAll elems + uptoBulkAll spare + 1
  | .agg parts => uptoBulkAll parts + 1
  | .iface _ d => uptoBulk d + 1
  | .map entries => uptoBulkEntries entries + 1
  | .held _ => 1
def uptoBulkAll {H : Type} : List (DataW H) → Nat
  | [] => 0
  | d :: r => uptoBulk d + uptoBulkAll r
def uptoBulkEntries {H : Type} : List (Lit × DataW H) → Nat
  | [] => 0
  | x :: r => uptoBulkEntry x + uptoBulkEntries r
def uptoBulkEntry {H : Type} : Lit × DataW H → Nat
  | (.string bytes, d) => bytes.length + uptoBulk d + 1
  | (_, d) => uptoBulk d + 1
 end
def uptoSmall : (H : Type) → List (DataW H) → Bool := fun _ ds => decide (uptoBulkAll ds ≤ 1048576)
def OpenSpec.upto (s : _root_.Go.ChangeSpec) : _root_.Go.OpenSpec := { _root_.Go.OpenSpec.ofChange s with cond := some uptoSmall }

/-- 'encausticlaw01.SquareJudges', WHERE WHAT IT READS IS OF BULK AT MOST 1048576: true; the input reads as it did. -/
def squareJudgesUptoRow : OpenClaim := { program := "ytkdcldbedbagjaadoor", sum := "88ab30a6f0829125408eb4bff6a15367af13d13c9a37c231d8877ed02ce05005", func := "encaustic/encausticlaw01.SquareJudges", spec := "squareJudges", unfollowed := true, recurses := true, named := ["encaustic/square.whole"], apart := false, laid := [("encaustic/square.whole", laid_encaustic_square_whole)], narrowed := true }
def SquareJudgesUptoSaid : Prop := squareJudgesUptoRow.holds Tryd.pinned (OpenSpec.upto squareJudgesSpec)

/-- 'encausticlaw01.SquarePower', WHERE WHAT IT READS IS OF BULK AT MOST 1048576: true; the input reads as it did. -/
def squarePowerUptoRow : OpenClaim := { program := "ytkdcldbedbagjaadoor", sum := "88ab30a6f0829125408eb4bff6a15367af13d13c9a37c231d8877ed02ce05005", func := "encaustic/encausticlaw01.SquarePower", spec := "squarePower", unfollowed := true, recurses := true, named := ["encaustic/square.whole"], apart := false, laid := [("encaustic/square.whole", laid_encaustic_square_whole)], narrowed := true }
def SquarePowerUptoSaid : Prop := squarePowerUptoRow.holds Tryd.pinned (OpenSpec.upto squarePowerSpec)

/-- 'encausticlaw01.SquareCurrents', WHERE WHAT IT READS IS OF BULK AT MOST 1048576: true; the input reads as it did. -/
def squareCurrentsUptoRow : OpenClaim := { program := "ytkdcldbedbagjaadoor", sum := "88ab30a6f0829125408eb4bff6a15367af13d13c9a37c231d8877ed02ce05005", func := "encaustic/encausticlaw01.SquareCurrents", spec := "squareCurrents", unfollowed := true, recurses := true, named := ["encaustic/square.whole"], apart := false, laid := [("encaustic/square.whole", laid_encaustic_square_whole)], narrowed := true }
def SquareCurrentsUptoSaid : Prop := squareCurrentsUptoRow.holds Tryd.pinned (OpenSpec.upto squareCurrentsSpec)

/-- 'encausticlaw01.SquareFlows', WHERE WHAT IT READS IS OF BULK AT MOST 1048576: true; the input reads as it did. -/
def squareFlowsUptoRow : OpenClaim := { program := "ytkdcldbedbagjaadoor", sum := "88ab30a6f0829125408eb4bff6a15367af13d13c9a37c231d8877ed02ce05005", func := "encaustic/encausticlaw01.SquareFlows", spec := "squareFlows", unfollowed := true, recurses := true, named := ["encaustic/square.whole"], apart := false, laid := [("encaustic/square.whole", laid_encaustic_square_whole)], narrowed := true }
def SquareFlowsUptoSaid : Prop := squareFlowsUptoRow.holds Tryd.pinned (OpenSpec.upto squareFlowsSpec)

/-- 'encausticlaw01.SquareKirchhoff', WHERE WHAT IT READS IS OF BULK AT MOST 1048576: true; the input reads as it did. -/
def squareKirchhoffUptoRow : OpenClaim := { program := "ytkdcldbedbagjaadoor", sum := "88ab30a6f0829125408eb4bff6a15367af13d13c9a37c231d8877ed02ce05005", func := "encaustic/encausticlaw01.SquareKirchhoff", spec := "squareKirchhoff", unfollowed := true, recurses := true, named := ["encaustic/square.whole"], apart := false, laid := [("encaustic/square.whole", laid_encaustic_square_whole)], narrowed := true }
def SquareKirchhoffUptoSaid : Prop := squareKirchhoffUptoRow.holds Tryd.pinned (OpenSpec.upto squareKirchhoffSpec)

/-- 'encausticlaw01.SquareCuts', WHERE WHAT IT READS IS OF BULK AT MOST 1048576: true; the input reads as it did. -/
def squareCutsUptoRow : OpenClaim := { program := "ytkdcldbedbagjaadoor", sum := "88ab30a6f0829125408eb4bff6a15367af13d13c9a37c231d8877ed02ce05005", func := "encaustic/encausticlaw01.SquareCuts", spec := "squareCuts", unfollowed := true, recurses := true, named := ["encaustic/square.whole"], apart := false, laid := [("encaustic/square.whole", laid_encaustic_square_whole)], narrowed := true }
def SquareCutsUptoSaid : Prop := squareCutsUptoRow.holds Tryd.pinned (OpenSpec.upto squareCutsSpec)

/-- 'encausticlaw01.SquareEuclid', WHERE WHAT IT READS IS OF BULK AT MOST 1048576: true; the input reads as it did. -/
def squareEuclidUptoRow : OpenClaim := { program := "ytkdcldbedbagjaadoor", sum := "88ab30a6f0829125408eb4bff6a15367af13d13c9a37c231d8877ed02ce05005", func := "encaustic/encausticlaw01.SquareEuclid", spec := "squareEuclid", unfollowed := true, recurses := true, named := ["encaustic/square.whole"], apart := false, laid := [("encaustic/square.whole", laid_encaustic_square_whole)], narrowed := true }
def SquareEuclidUptoSaid : Prop := squareEuclidUptoRow.holds Tryd.pinned (OpenSpec.upto squareEuclidSpec)

/-- 'encausticlaw01.SquareRayleigh', WHERE WHAT IT READS IS OF BULK AT MOST 1048576: true; the input reads as it did. -/
def squareRayleighUptoRow : OpenClaim := { program := "ytkdcldbedbagjaadoor", sum := "88ab30a6f0829125408eb4bff6a15367af13d13c9a37c231d8877ed02ce05005", func := "encaustic/encausticlaw01.SquareRayleigh", spec := "squareRayleigh", unfollowed := true, recurses := true, named := ["encaustic/square.whole"], apart := false, laid := [("encaustic/square.whole", laid_encaustic_square_whole)], narrowed := true }
def SquareRayleighUptoSaid : Prop := squareRayleighUptoRow.holds Tryd.pinned (OpenSpec.upto squareRayleighSpec)

/-- 'encausticlaw01.SquareRatios', WHERE WHAT IT READS IS OF BULK AT MOST 1048576: true; the input reads as it did. -/
def squareRatiosUptoRow : OpenClaim := { program := "ytkdcldbedbagjaadoor", sum := "88ab30a6f0829125408eb4bff6a15367af13d13c9a37c231d8877ed02ce05005", func := "encaustic/encausticlaw01.SquareRatios", spec := "squareRatios", unfollowed := true, recurses := true, named := ["encaustic/square.whole"], apart := false, laid := [("encaustic/square.whole", laid_encaustic_square_whole)], narrowed := true }
def SquareRatiosUptoSaid : Prop := squareRatiosUptoRow.holds Tryd.pinned (OpenSpec.upto squareRatiosSpec)

/-- 'encausticlaw01.SquareFoster', WHERE WHAT IT READS IS OF BULK AT MOST 1048576: true; the input reads as it did. -/
def squareFosterUptoRow : OpenClaim := { program := "ytkdcldbedbagjaadoor", sum := "88ab30a6f0829125408eb4bff6a15367af13d13c9a37c231d8877ed02ce05005", func := "encaustic/encausticlaw01.SquareFoster", spec := "squareFoster", unfollowed := true, recurses := true, named := ["encaustic/square.whole"], apart := false, laid := [("encaustic/square.whole", laid_encaustic_square_whole)], narrowed := true }
def SquareFosterUptoSaid : Prop := squareFosterUptoRow.holds Tryd.pinned (OpenSpec.upto squareFosterSpec)

/-- 'encausticlaw01.SquareLadder', WHERE WHAT IT READS IS OF BULK AT MOST 1048576: true; the input reads as it did. -/
def squareLadderUptoRow : OpenClaim := { program := "ytkdcldbedbagjaadoor", sum := "88ab30a6f0829125408eb4bff6a15367af13d13c9a37c231d8877ed02ce05005", func := "encaustic/encausticlaw01.SquareLadder", spec := "squareLadder", unfollowed := true, recurses := true, named := ["encaustic/square.whole"], apart := false, laid := [("encaustic/square.whole", laid_encaustic_square_whole)], narrowed := true }
def SquareLadderUptoSaid : Prop := squareLadderUptoRow.holds Tryd.pinned (OpenSpec.upto squareLadderSpec)

end Rows
end Go.Proofs.YtkdcldbedbagjaaDoor
