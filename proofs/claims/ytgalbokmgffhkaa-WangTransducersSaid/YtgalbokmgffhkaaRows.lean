/-
  No cell of these rows narrows 'for every input' (looked for: loops, veiled, ifaces, maps, wideKeys, modest, calm, conditions, laid).
  DERIVED. THE GIVEN ROWS OF THIS SEAT. 14 by the template 'for every input the law returns true; each argument reads behind the call as it read before'; 0 by the template 'total and deterministic' (their statements: YtgalbokmgffhkaaTotals.lean).
  GIVEN WITH THE SEED: the statements are not yours to turn. If you find one false, say at which input.
  Laid BY PROGRAM, IN A SANDBOX (cutbox-rows.mjs): the forced cells as the released guide's own fill.sh prints them over the translation 6eac34c05b787bf3… (all of the seat's roots in one cut). By AI agents, Wed Nov 11 2026. No macro, syntax, notation, axiom, sorry.
-/
import Derived.Test.YtgalbokmgffhkaaChecked
import GoSem.Claim
import GoSem.ClaimJoined
import GoSem.ClaimMapViews
import Derived.JoinedTies
import Derived.KernelRfl
namespace Go.Proofs.Ytgalbokmgffhkaa
/- THE CELL 'sum', in the pinned program and in every row, IS THE sha256 OF THE DUMP (.gsa) THAT YtgalbokmgffhkaaProg.lean LOADS. Nothing in Lean hashes anything: it is a label: what it is worth is what the hold of that sum in a sandbox is worth. -/
noncomputable def Try.pinned : Pinned := { name := "ytgalbokmgffhkaa", sum := "6eac34c05b787bf32c662189893e190c05ee0aa16308c689b46a78ad5b59a61a", checked := Try.checked }
namespace Rows
def none {H : Type} : Left H := { results := [], args := [] }

/-- 'encausticlaw07.WangRefutes': WHATEVER THE INPUT: true; the input reads as it did. -/
def wangRefutesSpec : ChangeSpec := { name := "wangRefutes", fn := fun _ => fun
  | [d1, d2, d3, d4] => { results := [.lit (.bool true)], args := [d1, d2, d3, d4] }
  | _ => none }
def wangRefutesRow : OpenClaim := { program := "ytgalbokmgffhkaa", sum := "6eac34c05b787bf32c662189893e190c05ee0aa16308c689b46a78ad5b59a61a", func := "encaustic/encausticlaw07.WangRefutes", spec := "wangRefutes", unfollowed := true, recurses := true, apart := false }
def WangRefutesSaid : Prop := wangRefutesRow.holds Try.pinned (OpenSpec.ofChange wangRefutesSpec)

/-- ITS FALSE NEIGHBOUR: 'it returns false'. Refute it at one input. -/
def wangRefutesWrong : ChangeSpec := { name := "wangRefutes", fn := fun _ => fun
  | [d1, d2, d3, d4] => { results := [.lit (.bool false)], args := [d1, d2, d3, d4] }
  | _ => none }
def WangRefutesWrongFalsely : Prop := wangRefutesRow.holds Try.pinned (OpenSpec.ofChange wangRefutesWrong)

/-- 'encausticlaw07.WangLimit': WHATEVER THE INPUT: true; the input reads as it did. -/
def wangLimitSpec : ChangeSpec := { name := "wangLimit", fn := fun _ => fun
  | [d] => { results := [.lit (.bool true)], args := [d] }
  | _ => none }
def wangLimitRow : OpenClaim := { program := "ytgalbokmgffhkaa", sum := "6eac34c05b787bf32c662189893e190c05ee0aa16308c689b46a78ad5b59a61a", func := "encaustic/encausticlaw07.WangLimit", spec := "wangLimit", unfollowed := true, recurses := true, apart := false }
def WangLimitSaid : Prop := wangLimitRow.holds Try.pinned (OpenSpec.ofChange wangLimitSpec)

/-- ITS FALSE NEIGHBOUR: 'it returns false'. Refute it at one input. -/
def wangLimitWrong : ChangeSpec := { name := "wangLimit", fn := fun _ => fun
  | [d] => { results := [.lit (.bool false)], args := [d] }
  | _ => none }
def WangLimitWrongFalsely : Prop := wangLimitRow.holds Try.pinned (OpenSpec.ofChange wangLimitWrong)

/-- 'encausticlaw07.WangBoards': WHATEVER THE INPUT: true; the input reads as it did. -/
def wangBoardsSpec : ChangeSpec := { name := "wangBoards", fn := fun _ => fun
  | [d1, d2] => { results := [.lit (.bool true)], args := [d1, d2] }
  | _ => none }
def wangBoardsRow : OpenClaim := { program := "ytgalbokmgffhkaa", sum := "6eac34c05b787bf32c662189893e190c05ee0aa16308c689b46a78ad5b59a61a", func := "encaustic/encausticlaw07.WangBoards", spec := "wangBoards", unfollowed := true, recurses := true, apart := false }
def WangBoardsSaid : Prop := wangBoardsRow.holds Try.pinned (OpenSpec.ofChange wangBoardsSpec)

/-- ITS FALSE NEIGHBOUR: 'it returns false'. Refute it at one input. -/
def wangBoardsWrong : ChangeSpec := { name := "wangBoards", fn := fun _ => fun
  | [d1, d2] => { results := [.lit (.bool false)], args := [d1, d2] }
  | _ => none }
def WangBoardsWrongFalsely : Prop := wangBoardsRow.holds Try.pinned (OpenSpec.ofChange wangBoardsWrong)

/-- 'encausticlaw07.WangCounts': WHATEVER THE INPUT: true; the input reads as it did. -/
def wangCountsSpec : ChangeSpec := { name := "wangCounts", fn := fun _ => fun
  | [d1, d2, d3] => { results := [.lit (.bool true)], args := [d1, d2, d3] }
  | _ => none }
def wangCountsRow : OpenClaim := { program := "ytgalbokmgffhkaa", sum := "6eac34c05b787bf32c662189893e190c05ee0aa16308c689b46a78ad5b59a61a", func := "encaustic/encausticlaw07.WangCounts", spec := "wangCounts", unfollowed := true, recurses := true, apart := false }
def WangCountsSaid : Prop := wangCountsRow.holds Try.pinned (OpenSpec.ofChange wangCountsSpec)

/-- ITS FALSE NEIGHBOUR: 'it returns false'. Refute it at one input. -/
def wangCountsWrong : ChangeSpec := { name := "wangCounts", fn := fun _ => fun
  | [d1, d2, d3] => { results := [.lit (.bool false)], args := [d1, d2, d3] }
  | _ => none }
def WangCountsWrongFalsely : Prop := wangCountsRow.holds Try.pinned (OpenSpec.ofChange wangCountsWrong)

/-- 'encausticlaw07.WangRefused': WHATEVER THE INPUT: true; the input reads as it did. -/
def wangRefusedSpec : ChangeSpec := { name := "wangRefused", fn := fun _ => fun
  | [d1, d2, d3, d4] => { results := [.lit (.bool true)], args := [d1, d2, d3, d4] }
  | _ => none }
def wangRefusedRow : OpenClaim := { program := "ytgalbokmgffhkaa", sum := "6eac34c05b787bf32c662189893e190c05ee0aa16308c689b46a78ad5b59a61a", func := "encaustic/encausticlaw07.WangRefused", spec := "wangRefused", unfollowed := true, recurses := true, apart := false }
def WangRefusedSaid : Prop := wangRefusedRow.holds Try.pinned (OpenSpec.ofChange wangRefusedSpec)

/-- ITS FALSE NEIGHBOUR: 'it returns false'. Refute it at one input. -/
def wangRefusedWrong : ChangeSpec := { name := "wangRefused", fn := fun _ => fun
  | [d1, d2, d3, d4] => { results := [.lit (.bool false)], args := [d1, d2, d3, d4] }
  | _ => none }
def WangRefusedWrongFalsely : Prop := wangRefusedRow.holds Try.pinned (OpenSpec.ofChange wangRefusedWrong)

/-- 'encausticlaw07.WangCloses': WHATEVER THE INPUT: true; the input reads as it did. -/
def wangClosesSpec : ChangeSpec := { name := "wangCloses", fn := fun _ => fun
  | [d1, d2, d3] => { results := [.lit (.bool true)], args := [d1, d2, d3] }
  | _ => none }
def wangClosesRow : OpenClaim := { program := "ytgalbokmgffhkaa", sum := "6eac34c05b787bf32c662189893e190c05ee0aa16308c689b46a78ad5b59a61a", func := "encaustic/encausticlaw07.WangCloses", spec := "wangCloses", unfollowed := true, recurses := true, apart := false }
def WangClosesSaid : Prop := wangClosesRow.holds Try.pinned (OpenSpec.ofChange wangClosesSpec)

/-- ITS FALSE NEIGHBOUR: 'it returns false'. Refute it at one input. -/
def wangClosesWrong : ChangeSpec := { name := "wangCloses", fn := fun _ => fun
  | [d1, d2, d3] => { results := [.lit (.bool false)], args := [d1, d2, d3] }
  | _ => none }
def WangClosesWrongFalsely : Prop := wangClosesRow.holds Try.pinned (OpenSpec.ofChange wangClosesWrong)

/-- 'encausticlaw07.WangLeast': WHATEVER THE INPUT: true; the input reads as it did. -/
def wangLeastSpec : ChangeSpec := { name := "wangLeast", fn := fun _ => fun
  | [d] => { results := [.lit (.bool true)], args := [d] }
  | _ => none }
def wangLeastRow : OpenClaim := { program := "ytgalbokmgffhkaa", sum := "6eac34c05b787bf32c662189893e190c05ee0aa16308c689b46a78ad5b59a61a", func := "encaustic/encausticlaw07.WangLeast", spec := "wangLeast", unfollowed := true, recurses := true, apart := false }
def WangLeastSaid : Prop := wangLeastRow.holds Try.pinned (OpenSpec.ofChange wangLeastSpec)

/-- ITS FALSE NEIGHBOUR: 'it returns false'. Refute it at one input. -/
def wangLeastWrong : ChangeSpec := { name := "wangLeast", fn := fun _ => fun
  | [d] => { results := [.lit (.bool false)], args := [d] }
  | _ => none }
def WangLeastWrongFalsely : Prop := wangLeastRow.holds Try.pinned (OpenSpec.ofChange wangLeastWrong)

/-- 'encausticlaw07.WangMachines': WHATEVER THE INPUT: true; the input reads as it did. -/
def wangMachinesSpec : ChangeSpec := { name := "wangMachines", fn := fun _ => fun
  | [d1, d2, d3] => { results := [.lit (.bool true)], args := [d1, d2, d3] }
  | _ => none }
def wangMachinesRow : OpenClaim := { program := "ytgalbokmgffhkaa", sum := "6eac34c05b787bf32c662189893e190c05ee0aa16308c689b46a78ad5b59a61a", func := "encaustic/encausticlaw07.WangMachines", spec := "wangMachines", unfollowed := true, recurses := true, apart := false }
def WangMachinesSaid : Prop := wangMachinesRow.holds Try.pinned (OpenSpec.ofChange wangMachinesSpec)

/-- ITS FALSE NEIGHBOUR: 'it returns false'. Refute it at one input. -/
def wangMachinesWrong : ChangeSpec := { name := "wangMachines", fn := fun _ => fun
  | [d1, d2, d3] => { results := [.lit (.bool false)], args := [d1, d2, d3] }
  | _ => none }
def WangMachinesWrongFalsely : Prop := wangMachinesRow.holds Try.pinned (OpenSpec.ofChange wangMachinesWrong)

/-- 'encausticlaw07.WangComputes': WHATEVER THE INPUT: true; the input reads as it did. -/
def wangComputesSpec : ChangeSpec := { name := "wangComputes", fn := fun _ => fun
  | [d1, d2] => { results := [.lit (.bool true)], args := [d1, d2] }
  | _ => none }
def wangComputesRow : OpenClaim := { program := "ytgalbokmgffhkaa", sum := "6eac34c05b787bf32c662189893e190c05ee0aa16308c689b46a78ad5b59a61a", func := "encaustic/encausticlaw07.WangComputes", spec := "wangComputes", unfollowed := true, recurses := true, apart := false }
def WangComputesSaid : Prop := wangComputesRow.holds Try.pinned (OpenSpec.ofChange wangComputesSpec)

/-- ITS FALSE NEIGHBOUR: 'it returns false'. Refute it at one input. -/
def wangComputesWrong : ChangeSpec := { name := "wangComputes", fn := fun _ => fun
  | [d1, d2] => { results := [.lit (.bool false)], args := [d1, d2] }
  | _ => none }
def WangComputesWrongFalsely : Prop := wangComputesRow.holds Try.pinned (OpenSpec.ofChange wangComputesWrong)

/-- 'encausticlaw07.WangRepeats': WHATEVER THE INPUT: true; the input reads as it did. -/
def wangRepeatsSpec : ChangeSpec := { name := "wangRepeats", fn := fun _ => fun
  | [d1, d2, d3] => { results := [.lit (.bool true)], args := [d1, d2, d3] }
  | _ => none }
def wangRepeatsRow : OpenClaim := { program := "ytgalbokmgffhkaa", sum := "6eac34c05b787bf32c662189893e190c05ee0aa16308c689b46a78ad5b59a61a", func := "encaustic/encausticlaw07.WangRepeats", spec := "wangRepeats", unfollowed := true, recurses := true, apart := false }
def WangRepeatsSaid : Prop := wangRepeatsRow.holds Try.pinned (OpenSpec.ofChange wangRepeatsSpec)

/-- ITS FALSE NEIGHBOUR: 'it returns false'. Refute it at one input. -/
def wangRepeatsWrong : ChangeSpec := { name := "wangRepeats", fn := fun _ => fun
  | [d1, d2, d3] => { results := [.lit (.bool false)], args := [d1, d2, d3] }
  | _ => none }
def WangRepeatsWrongFalsely : Prop := wangRepeatsRow.holds Try.pinned (OpenSpec.ofChange wangRepeatsWrong)

/-- 'encausticlaw07.WangTurned': WHATEVER THE INPUT: true; the input reads as it did. -/
def wangTurnedSpec : ChangeSpec := { name := "wangTurned", fn := fun _ => fun
  | [d1, d2, d3] => { results := [.lit (.bool true)], args := [d1, d2, d3] }
  | _ => none }
def wangTurnedRow : OpenClaim := { program := "ytgalbokmgffhkaa", sum := "6eac34c05b787bf32c662189893e190c05ee0aa16308c689b46a78ad5b59a61a", func := "encaustic/encausticlaw07.WangTurned", spec := "wangTurned", unfollowed := true, recurses := true, apart := false }
def WangTurnedSaid : Prop := wangTurnedRow.holds Try.pinned (OpenSpec.ofChange wangTurnedSpec)

/-- ITS FALSE NEIGHBOUR: 'it returns false'. Refute it at one input. -/
def wangTurnedWrong : ChangeSpec := { name := "wangTurned", fn := fun _ => fun
  | [d1, d2, d3] => { results := [.lit (.bool false)], args := [d1, d2, d3] }
  | _ => none }
def WangTurnedWrongFalsely : Prop := wangTurnedRow.holds Try.pinned (OpenSpec.ofChange wangTurnedWrong)

/-- 'encausticlaw07.WangRows': WHATEVER THE INPUT: true; the input reads as it did. -/
def wangRowsSpec : ChangeSpec := { name := "wangRows", fn := fun _ => fun
  | [d1, d2] => { results := [.lit (.bool true)], args := [d1, d2] }
  | _ => none }
def wangRowsRow : OpenClaim := { program := "ytgalbokmgffhkaa", sum := "6eac34c05b787bf32c662189893e190c05ee0aa16308c689b46a78ad5b59a61a", func := "encaustic/encausticlaw07.WangRows", spec := "wangRows", unfollowed := true, recurses := true, apart := false }
def WangRowsSaid : Prop := wangRowsRow.holds Try.pinned (OpenSpec.ofChange wangRowsSpec)

/-- ITS FALSE NEIGHBOUR: 'it returns false'. Refute it at one input. -/
def wangRowsWrong : ChangeSpec := { name := "wangRows", fn := fun _ => fun
  | [d1, d2] => { results := [.lit (.bool false)], args := [d1, d2] }
  | _ => none }
def WangRowsWrongFalsely : Prop := wangRowsRow.holds Try.pinned (OpenSpec.ofChange wangRowsWrong)

/-- 'encausticlaw07.WangProducts': WHATEVER THE INPUT: true; the input reads as it did. -/
def wangProductsSpec : ChangeSpec := { name := "wangProducts", fn := fun _ => fun
  | [d1, d2] => { results := [.lit (.bool true)], args := [d1, d2] }
  | _ => none }
def wangProductsRow : OpenClaim := { program := "ytgalbokmgffhkaa", sum := "6eac34c05b787bf32c662189893e190c05ee0aa16308c689b46a78ad5b59a61a", func := "encaustic/encausticlaw07.WangProducts", spec := "wangProducts", unfollowed := true, recurses := true, apart := false }
def WangProductsSaid : Prop := wangProductsRow.holds Try.pinned (OpenSpec.ofChange wangProductsSpec)

/-- ITS FALSE NEIGHBOUR: 'it returns false'. Refute it at one input. -/
def wangProductsWrong : ChangeSpec := { name := "wangProducts", fn := fun _ => fun
  | [d1, d2] => { results := [.lit (.bool false)], args := [d1, d2] }
  | _ => none }
def WangProductsWrongFalsely : Prop := wangProductsRow.holds Try.pinned (OpenSpec.ofChange wangProductsWrong)

/-- 'encausticlaw07.WangTransducers': WHATEVER THE INPUT: true; the input reads as it did. -/
def wangTransducersSpec : ChangeSpec := { name := "wangTransducers", fn := fun _ => fun
  | [d1, d2, d3] => { results := [.lit (.bool true)], args := [d1, d2, d3] }
  | _ => none }
def wangTransducersRow : OpenClaim := { program := "ytgalbokmgffhkaa", sum := "6eac34c05b787bf32c662189893e190c05ee0aa16308c689b46a78ad5b59a61a", func := "encaustic/encausticlaw07.WangTransducers", spec := "wangTransducers", unfollowed := true, recurses := true, apart := false }
def WangTransducersSaid : Prop := wangTransducersRow.holds Try.pinned (OpenSpec.ofChange wangTransducersSpec)

/-- ITS FALSE NEIGHBOUR: 'it returns false'. Refute it at one input. -/
def wangTransducersWrong : ChangeSpec := { name := "wangTransducers", fn := fun _ => fun
  | [d1, d2, d3] => { results := [.lit (.bool false)], args := [d1, d2, d3] }
  | _ => none }
def WangTransducersWrongFalsely : Prop := wangTransducersRow.holds Try.pinned (OpenSpec.ofChange wangTransducersWrong)

/- THE SECOND FORM. 'bulk': how many values and letters a reading holds, each counted each time it is reached (what is shared counts as often as it is met; a slice's spare places count too). A statement '..UptoSaid' is the law's where the arguments, and the package variables that the reading takes, are together of bulk at most 1048576: NARROWER than '..Said'. Prove '..Said' where nothing that the law and all that it calls make is longer than what came in: it says more and counts as full. Else prove '..UptoSaid'. A law counts once. -/
mutual
def uptoBulk {H : Type} : DataW H → Nat
  | .lit (.string bytes) => bytes.length + 1
  | .lit _ => 1
  | .nil => 1
  | .ptr d => uptoBulk d + 1
  | .slice elems spare => uptoBulkAll elems + uptoBulkAll spare + 1
  | .agg parts => uptoBulkAll parts + 1
  | .iface _ d => uptoBulk d + 1
  | .map entries => uptoBulkEntries entries + 1
  | .held _ => 1
def uptoBulkAll {H : Type} : List (DataW H) → Nat
  | [] => 0
  | d :: r => uptoBulk d + uptoBulkAll r
def uptoBulkEntries {H : Type} : List (Lit × DataW H) → Nat
  | [] => 0
  | x :: r => uptoBulkEntry x + uptoBulkEntries r
def uptoBulkEntry {H : Type} : Lit × DataW H → Nat
  | (.string bytes, d) => bytes.length + uptoBulk d + 1
  | (_, d) => uptoBulk d + 1
 end
def uptoSmall : (H : Type) → List (DataW H) → Bool := fun _ ds => decide (uptoBulkAll ds ≤ 1048576)
def OpenSpec.upto (s : _root_.Go.ChangeSpec) : _root_.Go.OpenSpec := { _root_.Go.OpenSpec.ofChange s with cond := some uptoSmall }

/-- 'encausticlaw07.WangRefutes', WHERE WHAT IT READS IS OF BULK AT MOST 1048576: true; the input reads as it did. -/
def wangRefutesUptoRow : OpenClaim := { program := "ytgalbokmgffhkaa", sum := "6eac34c05b787bf32c662189893e190c05ee0aa16308c689b46a78ad5b59a61a", func := "encaustic/encausticlaw07.WangRefutes", spec := "wangRefutes", unfollowed := true, recurses := true, apart := false, narrowed := true }
def WangRefutesUptoSaid : Prop := wangRefutesUptoRow.holds Try.pinned (OpenSpec.upto wangRefutesSpec)

/-- 'encausticlaw07.WangLimit', WHERE WHAT IT READS IS OF BULK AT MOST 1048576: true; the input reads as it did. -/
def wangLimitUptoRow : OpenClaim := { program := "ytgalbokmgffhkaa", sum := "6eac34c05b787bf32c662189893e190c05ee0aa16308c689b46a78ad5b59a61a", func := "encaustic/encausticlaw07.WangLimit", spec := "wangLimit", unfollowed := true, recurses := true, apart := false, narrowed := true }
def WangLimitUptoSaid : Prop := wangLimitUptoRow.holds Try.pinned (OpenSpec.upto wangLimitSpec)

/-- 'encausticlaw07.WangBoards', WHERE WHAT IT READS IS OF BULK AT MOST 1048576: true; the input reads as it did. -/
def wangBoardsUptoRow : OpenClaim := { program := "ytgalbokmgffhkaa", sum := "6eac34c05b787bf32c662189893e190c05ee0aa16308c689b46a78ad5b59a61a", func := "encaustic/encausticlaw07.WangBoards", spec := "wangBoards", unfollowed := true, recurses := true, apart := false, narrowed := true }
def WangBoardsUptoSaid : Prop := wangBoardsUptoRow.holds Try.pinned (OpenSpec.upto wangBoardsSpec)

/-- 'encausticlaw07.WangCounts', WHERE WHAT IT READS IS OF BULK AT MOST 1048576: true; the input reads as it did. -/
def wangCountsUptoRow : OpenClaim := { program := "ytgalbokmgffhkaa", sum := "6eac34c05b787bf32c662189893e190c05ee0aa16308c689b46a78ad5b59a61a", func := "encaustic/encausticlaw07.WangCounts", spec := "wangCounts", unfollowed := true, recurses := true, apart := false, narrowed := true }
def WangCountsUptoSaid : Prop := wangCountsUptoRow.holds Try.pinned (OpenSpec.upto wangCountsSpec)

/-- 'encausticlaw07.WangRefused', WHERE WHAT IT READS IS OF BULK AT MOST 1048576: true; the input reads as it did. -/
def wangRefusedUptoRow : OpenClaim := { program := "ytgalbokmgffhkaa", sum := "6eac34c05b787bf32c662189893e190c05ee0aa16308c689b46a78ad5b59a61a", func := "encaustic/encausticlaw07.WangRefused", spec := "wangRefused", unfollowed := true, recurses := true, apart := false, narrowed := true }
def WangRefusedUptoSaid : Prop := wangRefusedUptoRow.holds Try.pinned (OpenSpec.upto wangRefusedSpec)

/-- 'encausticlaw07.WangCloses', WHERE WHAT IT READS IS OF BULK AT MOST 1048576: true; the input reads as it did. -/
def wangClosesUptoRow : OpenClaim := { program := "ytgalbokmgffhkaa", sum := "6eac34c05b787bf32c662189893e190c05ee0aa16308c689b46a78ad5b59a61a", func := "encaustic/encausticlaw07.WangCloses", spec := "wangCloses", unfollowed := true, recurses := true, apart := false, narrowed := true }
def WangClosesUptoSaid : Prop := wangClosesUptoRow.holds Try.pinned (OpenSpec.upto wangClosesSpec)

/-- 'encausticlaw07.WangLeast', WHERE WHAT IT READS IS OF BULK AT MOST 1048576: true; the input reads as it did. -/
def wangLeastUptoRow : OpenClaim := { program := "ytgalbokmgffhkaa", sum := "6eac34c05b787bf32c662189893e190c05ee0aa16308c689b46a78ad5b59a61a", func := "encaustic/encausticlaw07.WangLeast", spec := "wangLeast", unfollowed := true, recurses := true, apart := false, narrowed := true }
def WangLeastUptoSaid : Prop := wangLeastUptoRow.holds Try.pinned (OpenSpec.upto wangLeastSpec)

/-- 'encausticlaw07.WangMachines', WHERE WHAT IT READS IS OF BULK AT MOST 1048576: true; the input reads as it did. -/
def wangMachinesUptoRow : OpenClaim := { program := "ytgalbokmgffhkaa", sum := "6eac34c05b787bf32c662189893e190c05ee0aa16308c689b46a78ad5b59a61a", func := "encaustic/encausticlaw07.WangMachines", spec := "wangMachines", unfollowed := true, recurses := true, apart := false, narrowed := true }
def WangMachinesUptoSaid : Prop := wangMachinesUptoRow.holds Try.pinned (OpenSpec.upto wangMachinesSpec)

/-- 'encausticlaw07.WangComputes', WHERE WHAT IT READS IS OF BULK AT MOST 1048576: true; the input reads as it did. -/
def wangComputesUptoRow : OpenClaim := { program := "ytgalbokmgffhkaa", sum := "6eac34c05b787bf32c662189893e190c05ee0aa16308c689b46a78ad5b59a61a", func := "encaustic/encausticlaw07.WangComputes", spec := "wangComputes", unfollowed := true, recurses := true, apart := false, narrowed := true }
def WangComputesUptoSaid : Prop := wangComputesUptoRow.holds Try.pinned (OpenSpec.upto wangComputesSpec)

/-- 'encausticlaw07.WangRepeats', WHERE WHAT IT READS IS OF BULK AT MOST 1048576: true; the input reads as it did. -/
def wangRepeatsUptoRow : OpenClaim := { program := "ytgalbokmgffhkaa", sum := "6eac34c05b787bf32c662189893e190c05ee0aa16308c689b46a78ad5b59a61a", func := "encaustic/encausticlaw07.WangRepeats", spec := "wangRepeats", unfollowed := true, recurses := true, apart := false, narrowed := true }
def WangRepeatsUptoSaid : Prop := wangRepeatsUptoRow.holds Try.pinned (OpenSpec.upto wangRepeatsSpec)

/-- 'encausticlaw07.WangTurned', WHERE WHAT IT READS IS OF BULK AT MOST 1048576: true; the input reads as it did. -/
def wangTurnedUptoRow : OpenClaim := { program := "ytgalbokmgffhkaa", sum := "6eac34c05b787bf32c662189893e190c05ee0aa16308c689b46a78ad5b59a61a", func := "encaustic/encausticlaw07.WangTurned", spec := "wangTurned", unfollowed := true, recurses := true, apart := false, narrowed := true }
def WangTurnedUptoSaid : Prop := wangTurnedUptoRow.holds Try.pinned (OpenSpec.upto wangTurnedSpec)

/-- 'encausticlaw07.WangRows', WHERE WHAT IT READS IS OF BULK AT MOST 1048576: true; the input reads as it did. -/
def wangRowsUptoRow : OpenClaim := { program := "ytgalbokmgffhkaa", sum := "6eac34c05b787bf32c662189893e190c05ee0aa16308c689b46a78ad5b59a61a", func := "encaustic/encausticlaw07.WangRows", spec := "wangRows", unfollowed := true, recurses := true, apart := false, narrowed := true }
def WangRowsUptoSaid : Prop := wangRowsUptoRow.holds Try.pinned (OpenSpec.upto wangRowsSpec)

/-- 'encausticlaw07.WangProducts', WHERE WHAT IT READS IS OF BULK AT MOST 1048576: true; the input reads as it did. -/
def wangProductsUptoRow : OpenClaim := { program := "ytgalbokmgffhkaa", sum := "6eac34c05b787bf32c662189893e190c05ee0aa16308c689b46a78ad5b59a61a", func := "encaustic/encausticlaw07.WangProducts", spec := "wangProducts", unfollowed := true, recurses := true, apart := false, narrowed := true }
def WangProductsUptoSaid : Prop := wangProductsUptoRow.holds Try.pinned (OpenSpec.upto wangProductsSpec)

/-- 'encausticlaw07.WangTransducers', WHERE WHAT IT READS IS OF BULK AT MOST 1048576: true; the input reads as it did. -/
def wangTransducersUptoRow : OpenClaim := { program := "ytgalbokmgffhkaa", sum := "6eac34c05b787bf32c662189893e190c05ee0aa16308c689b46a78ad5b59a61a", func := "encaustic/encausticlaw07.WangTransducers", spec := "wangTransducers", unfollowed := true, recurses := true, apart := false, narrowed := true }
def WangTransducersUptoSaid : Prop := wangTransducersUptoRow.holds Try.pinned (OpenSpec.upto wangTransducersSpec)

end Rows
end Go.Proofs.Ytgalbokmgffhkaa
