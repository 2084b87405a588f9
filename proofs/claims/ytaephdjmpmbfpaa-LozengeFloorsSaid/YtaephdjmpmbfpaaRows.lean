/-
  No cell of these rows narrows 'for every input' (looked for: loops, veiled, ifaces, maps, wideKeys, modest, calm, conditions, laid).
  DERIVED. THE GIVEN ROWS OF THIS SEAT. 9 by the template 'for every input the law returns true; each argument reads behind the call as it read before'; 0 by the template 'total and deterministic' (their statements: YtaephdjmpmbfpaaTotals.lean).
  GIVEN WITH THE SEED: the statements are not yours to turn. If you find one false, say at which input.
  Laid BY PROGRAM, IN A SANDBOX (cutbox-rows.mjs): the forced cells as the released guide's own fill.sh prints them over the translation b7b1409d6f7386e5… (all of the seat's roots in one cut). By AI agents, Wed Nov 11 2026. No macro, syntax, notation, axiom, sorry.
-/
import Derived.Test.YtaephdjmpmbfpaaChecked
import GoSem.Claim
import GoSem.ClaimJoined
import GoSem.ClaimMapViews
import Derived.JoinedTies
import Derived.KernelRfl
namespace Go.Proofs.Ytaephdjmpmbfpaa
/- THE CELL 'sum', in the pinned program and in every row, IS THE sha256 OF THE DUMP (.gsa) THAT YtaephdjmpmbfpaaProg.lean LOADS. Nothing in Lean hashes anything: it is a label: what it is worth is what the hold of that sum in a sandbox is worth. -/
noncomputable def Try.pinned : Pinned := { name := "ytaephdjmpmbfpaa", sum := "b7b1409d6f7386e59d58632002bcb91322e5674f20e70189bf4c35e0bc6159c8", checked := Try.checked }
namespace Rows
def none {H : Type} : Left H := { results := [], args := [] }

/-- 'encausticlaw04.LozengeGrows': WHATEVER THE INPUT: true; the input reads as it did. -/
def lozengeGrowsSpec : ChangeSpec := { name := "lozengeGrows", fn := fun _ => fun
  | [d1, d2, d3, d4, d5] => { results := [.lit (.bool true)], args := [d1, d2, d3, d4, d5] }
  | _ => none }
def lozengeGrowsRow : OpenClaim := { program := "ytaephdjmpmbfpaa", sum := "b7b1409d6f7386e59d58632002bcb91322e5674f20e70189bf4c35e0bc6159c8", func := "encaustic/encausticlaw04.LozengeGrows", spec := "lozengeGrows", unfollowed := true, recurses := true, plainKeys := false, apart := false }
def LozengeGrowsSaid : Prop := lozengeGrowsRow.holds Try.pinned (OpenSpec.ofChange lozengeGrowsSpec)

/-- ITS FALSE NEIGHBOUR: 'it returns false'. Refute it at one input. -/
def lozengeGrowsWrong : ChangeSpec := { name := "lozengeGrows", fn := fun _ => fun
  | [d1, d2, d3, d4, d5] => { results := [.lit (.bool false)], args := [d1, d2, d3, d4, d5] }
  | _ => none }
def LozengeGrowsWrongFalsely : Prop := lozengeGrowsRow.holds Try.pinned (OpenSpec.ofChange lozengeGrowsWrong)

/-- 'encausticlaw04.LozengeOrder': WHATEVER THE INPUT: true; the input reads as it did. -/
def lozengeOrderSpec : ChangeSpec := { name := "lozengeOrder", fn := fun _ => fun
  | [d1, d2, d3, d4] => { results := [.lit (.bool true)], args := [d1, d2, d3, d4] }
  | _ => none }
def lozengeOrderRow : OpenClaim := { program := "ytaephdjmpmbfpaa", sum := "b7b1409d6f7386e59d58632002bcb91322e5674f20e70189bf4c35e0bc6159c8", func := "encaustic/encausticlaw04.LozengeOrder", spec := "lozengeOrder", unfollowed := true, recurses := true, plainKeys := false, apart := false }
def LozengeOrderSaid : Prop := lozengeOrderRow.holds Try.pinned (OpenSpec.ofChange lozengeOrderSpec)

/-- ITS FALSE NEIGHBOUR: 'it returns false'. Refute it at one input. -/
def lozengeOrderWrong : ChangeSpec := { name := "lozengeOrder", fn := fun _ => fun
  | [d1, d2, d3, d4] => { results := [.lit (.bool false)], args := [d1, d2, d3, d4] }
  | _ => none }
def LozengeOrderWrongFalsely : Prop := lozengeOrderRow.holds Try.pinned (OpenSpec.ofChange lozengeOrderWrong)

/-- 'encausticlaw04.LozengeCounts': WHATEVER THE INPUT: true; the input reads as it did. -/
def lozengeCountsSpec : ChangeSpec := { name := "lozengeCounts", fn := fun _ => fun
  | [d] => { results := [.lit (.bool true)], args := [d] }
  | _ => none }
def lozengeCountsRow : OpenClaim := { program := "ytaephdjmpmbfpaa", sum := "b7b1409d6f7386e59d58632002bcb91322e5674f20e70189bf4c35e0bc6159c8", func := "encaustic/encausticlaw04.LozengeCounts", spec := "lozengeCounts", unfollowed := true, recurses := true, plainKeys := false, apart := false }
def LozengeCountsSaid : Prop := lozengeCountsRow.holds Try.pinned (OpenSpec.ofChange lozengeCountsSpec)

/-- ITS FALSE NEIGHBOUR: 'it returns false'. Refute it at one input. -/
def lozengeCountsWrong : ChangeSpec := { name := "lozengeCounts", fn := fun _ => fun
  | [d] => { results := [.lit (.bool false)], args := [d] }
  | _ => none }
def LozengeCountsWrongFalsely : Prop := lozengeCountsRow.holds Try.pinned (OpenSpec.ofChange lozengeCountsWrong)

/-- 'encausticlaw04.LozengeRanks': WHATEVER THE INPUT: true; the input reads as it did. -/
def lozengeRanksSpec : ChangeSpec := { name := "lozengeRanks", fn := fun _ => fun
  | [d1, d2, d3] => { results := [.lit (.bool true)], args := [d1, d2, d3] }
  | _ => none }
def lozengeRanksRow : OpenClaim := { program := "ytaephdjmpmbfpaa", sum := "b7b1409d6f7386e59d58632002bcb91322e5674f20e70189bf4c35e0bc6159c8", func := "encaustic/encausticlaw04.LozengeRanks", spec := "lozengeRanks", unfollowed := true, recurses := true, plainKeys := false, apart := false }
def LozengeRanksSaid : Prop := lozengeRanksRow.holds Try.pinned (OpenSpec.ofChange lozengeRanksSpec)

/-- ITS FALSE NEIGHBOUR: 'it returns false'. Refute it at one input. -/
def lozengeRanksWrong : ChangeSpec := { name := "lozengeRanks", fn := fun _ => fun
  | [d1, d2, d3] => { results := [.lit (.bool false)], args := [d1, d2, d3] }
  | _ => none }
def LozengeRanksWrongFalsely : Prop := lozengeRanksRow.holds Try.pinned (OpenSpec.ofChange lozengeRanksWrong)

/-- 'encausticlaw04.LozengeMacMahon': WHATEVER THE INPUT: true; the input reads as it did. -/
def lozengeMacMahonSpec : ChangeSpec := { name := "lozengeMacMahon", fn := fun _ => fun
  | [d1, d2, d3] => { results := [.lit (.bool true)], args := [d1, d2, d3] }
  | _ => none }
def lozengeMacMahonRow : OpenClaim := { program := "ytaephdjmpmbfpaa", sum := "b7b1409d6f7386e59d58632002bcb91322e5674f20e70189bf4c35e0bc6159c8", func := "encaustic/encausticlaw04.LozengeMacMahon", spec := "lozengeMacMahon", unfollowed := true, recurses := true, plainKeys := false, apart := false }
def LozengeMacMahonSaid : Prop := lozengeMacMahonRow.holds Try.pinned (OpenSpec.ofChange lozengeMacMahonSpec)

/-- ITS FALSE NEIGHBOUR: 'it returns false'. Refute it at one input. -/
def lozengeMacMahonWrong : ChangeSpec := { name := "lozengeMacMahon", fn := fun _ => fun
  | [d1, d2, d3] => { results := [.lit (.bool false)], args := [d1, d2, d3] }
  | _ => none }
def LozengeMacMahonWrongFalsely : Prop := lozengeMacMahonRow.holds Try.pinned (OpenSpec.ofChange lozengeMacMahonWrong)

/-- 'encausticlaw04.LozengeSymmetries': WHATEVER THE INPUT: true; the input reads as it did. -/
def lozengeSymmetriesSpec : ChangeSpec := { name := "lozengeSymmetries", fn := fun _ => fun
  | [d1, d2, d3, d4] => { results := [.lit (.bool true)], args := [d1, d2, d3, d4] }
  | _ => none }
def lozengeSymmetriesRow : OpenClaim := { program := "ytaephdjmpmbfpaa", sum := "b7b1409d6f7386e59d58632002bcb91322e5674f20e70189bf4c35e0bc6159c8", func := "encaustic/encausticlaw04.LozengeSymmetries", spec := "lozengeSymmetries", unfollowed := true, recurses := true, plainKeys := false, apart := false }
def LozengeSymmetriesSaid : Prop := lozengeSymmetriesRow.holds Try.pinned (OpenSpec.ofChange lozengeSymmetriesSpec)

/-- ITS FALSE NEIGHBOUR: 'it returns false'. Refute it at one input. -/
def lozengeSymmetriesWrong : ChangeSpec := { name := "lozengeSymmetries", fn := fun _ => fun
  | [d1, d2, d3, d4] => { results := [.lit (.bool false)], args := [d1, d2, d3, d4] }
  | _ => none }
def LozengeSymmetriesWrongFalsely : Prop := lozengeSymmetriesRow.holds Try.pinned (OpenSpec.ofChange lozengeSymmetriesWrong)

/-- 'encausticlaw04.LozengeFixed': WHATEVER THE INPUT: true; the input reads as it did. -/
def lozengeFixedSpec : ChangeSpec := { name := "lozengeFixed", fn := fun _ => fun
  | [d1, d2] => { results := [.lit (.bool true)], args := [d1, d2] }
  | _ => none }
def lozengeFixedRow : OpenClaim := { program := "ytaephdjmpmbfpaa", sum := "b7b1409d6f7386e59d58632002bcb91322e5674f20e70189bf4c35e0bc6159c8", func := "encaustic/encausticlaw04.LozengeFixed", spec := "lozengeFixed", unfollowed := true, recurses := true, plainKeys := false, apart := false }
def LozengeFixedSaid : Prop := lozengeFixedRow.holds Try.pinned (OpenSpec.ofChange lozengeFixedSpec)

/-- ITS FALSE NEIGHBOUR: 'it returns false'. Refute it at one input. -/
def lozengeFixedWrong : ChangeSpec := { name := "lozengeFixed", fn := fun _ => fun
  | [d1, d2] => { results := [.lit (.bool false)], args := [d1, d2] }
  | _ => none }
def LozengeFixedWrongFalsely : Prop := lozengeFixedRow.holds Try.pinned (OpenSpec.ofChange lozengeFixedWrong)

/-- 'encausticlaw04.LozengeFloors': WHATEVER THE INPUT: true; the input reads as it did. -/
def lozengeFloorsSpec : ChangeSpec := { name := "lozengeFloors", fn := fun _ => fun
  | [d1, d2, d3, d4, d5] => { results := [.lit (.bool true)], args := [d1, d2, d3, d4, d5] }
  | _ => none }
def lozengeFloorsRow : OpenClaim := { program := "ytaephdjmpmbfpaa", sum := "b7b1409d6f7386e59d58632002bcb91322e5674f20e70189bf4c35e0bc6159c8", func := "encaustic/encausticlaw04.LozengeFloors", spec := "lozengeFloors", unfollowed := true, recurses := true, plainKeys := false, apart := false }
def LozengeFloorsSaid : Prop := lozengeFloorsRow.holds Try.pinned (OpenSpec.ofChange lozengeFloorsSpec)

/-- ITS FALSE NEIGHBOUR: 'it returns false'. Refute it at one input. -/
def lozengeFloorsWrong : ChangeSpec := { name := "lozengeFloors", fn := fun _ => fun
  | [d1, d2, d3, d4, d5] => { results := [.lit (.bool false)], args := [d1, d2, d3, d4, d5] }
  | _ => none }
def LozengeFloorsWrongFalsely : Prop := lozengeFloorsRow.holds Try.pinned (OpenSpec.ofChange lozengeFloorsWrong)

/-- 'encausticlaw04.LozengeChanges': WHATEVER THE INPUT: true; the input reads as it did. -/
def lozengeChangesSpec : ChangeSpec := { name := "lozengeChanges", fn := fun _ => fun
  | [d1, d2] => { results := [.lit (.bool true)], args := [d1, d2] }
  | _ => none }
def lozengeChangesRow : OpenClaim := { program := "ytaephdjmpmbfpaa", sum := "b7b1409d6f7386e59d58632002bcb91322e5674f20e70189bf4c35e0bc6159c8", func := "encaustic/encausticlaw04.LozengeChanges", spec := "lozengeChanges", unfollowed := true, recurses := true, plainKeys := false, apart := false }
def LozengeChangesSaid : Prop := lozengeChangesRow.holds Try.pinned (OpenSpec.ofChange lozengeChangesSpec)

/-- ITS FALSE NEIGHBOUR: 'it returns false'. Refute it at one input. -/
def lozengeChangesWrong : ChangeSpec := { name := "lozengeChanges", fn := fun _ => fun
  | [d1, d2] => { results := [.lit (.bool false)], args := [d1, d2] }
  | _ => none }
def LozengeChangesWrongFalsely : Prop := lozengeChangesRow.holds Try.pinned (OpenSpec.ofChange lozengeChangesWrong)

/- THE SECOND FORM. 'bulk': how many values and letters a reading holds, each counted each time it is reached (what is shared counts as often as it is met; a slice's spare places count too). A statement '..UptoSaid' is the law's where the arguments, and the package variables that the reading takes, are together of bulk at most 1048576: NARROWER than '..Said'. Prove '..Said' where nothing that the law and all that it calls make is longer than what came in: it says more and counts as full. Else prove '..UptoSaid'. A law counts once. -/
mutual
def uptoBulk {H : Type} : DataW H → Nat
  | .lit (.string bytes) => bytes.length + 1
  | .lit _ => 1
  | .nil => 1
  | .ptr d => uptoBulk d + 1
  | .slice elems spare => uptoBulkAll elems + uptoBulkAll spare + 1
  | .agg parts => uptoBulkAll parts + 1
  | .iface _ d => uptoBulk d + 1
  | .map entries => uptoBulkEntries entries + 1
  | .held _ => 1
def uptoBulkAll {H : Type} : List (DataW H) → Nat
  | [] => 0
  | d :: r => uptoBulk d + uptoBulkAll r
def uptoBulkEntries {H : Type} : List (Lit × DataW H) → Nat
  | [] => 0
  | x :: r => uptoBulkEntry x + uptoBulkEntries r
def uptoBulkEntry {H : Type} : Lit × DataW H → Nat
  | (.string bytes, d) => bytes.length + uptoBulk d + 1
  | (_, d) => uptoBulk d + 1
 end
def uptoSmall : (H : Type) → List (DataW H) → Bool := fun _ ds => decide (uptoBulkAll ds ≤ 1048576)
def OpenSpec.upto (s : _root_.Go.ChangeSpec) : _root_.Go.OpenSpec := { _root_.Go.OpenSpec.ofChange s with cond := some uptoSmall }

/-- 'encausticlaw04.LozengeGrows', WHERE WHAT IT READS IS OF BULK AT MOST 1048576: true; the input reads as it did. -/
def lozengeGrowsUptoRow : OpenClaim := { program := "ytaephdjmpmbfpaa", sum := "b7b1409d6f7386e59d58632002bcb91322e5674f20e70189bf4c35e0bc6159c8", func := "encaustic/encausticlaw04.LozengeGrows", spec := "lozengeGrows", unfollowed := true, recurses := true, plainKeys := false, apart := false, narrowed := true }
def LozengeGrowsUptoSaid : Prop := lozengeGrowsUptoRow.holds Try.pinned (OpenSpec.upto lozengeGrowsSpec)

/-- 'encausticlaw04.LozengeOrder', WHERE WHAT IT READS IS OF BULK AT MOST 1048576: true; the input reads as it did. -/
def lozengeOrderUptoRow : OpenClaim := { program := "ytaephdjmpmbfpaa", sum := "b7b1409d6f7386e59d58632002bcb91322e5674f20e70189bf4c35e0bc6159c8", func := "encaustic/encausticlaw04.LozengeOrder", spec := "lozengeOrder", unfollowed := true, recurses := true, plainKeys := false, apart := false, narrowed := true }
def LozengeOrderUptoSaid : Prop := lozengeOrderUptoRow.holds Try.pinned (OpenSpec.upto lozengeOrderSpec)

/-- 'encausticlaw04.LozengeCounts', WHERE WHAT IT READS IS OF BULK AT MOST 1048576: true; the input reads as it did. -/
def lozengeCountsUptoRow : OpenClaim := { program := "ytaephdjmpmbfpaa", sum := "b7b1409d6f7386e59d58632002bcb91322e5674f20e70189bf4c35e0bc6159c8", func := "encaustic/encausticlaw04.LozengeCounts", spec := "lozengeCounts", unfollowed := true, recurses := true, plainKeys := false, apart := false, narrowed := true }
def LozengeCountsUptoSaid : Prop := lozengeCountsUptoRow.holds Try.pinned (OpenSpec.upto lozengeCountsSpec)

/-- 'encausticlaw04.LozengeRanks', WHERE WHAT IT READS IS OF BULK AT MOST 1048576: true; the input reads as it did. -/
def lozengeRanksUptoRow : OpenClaim := { program := "ytaephdjmpmbfpaa", sum := "b7b1409d6f7386e59d58632002bcb91322e5674f20e70189bf4c35e0bc6159c8", func := "encaustic/encausticlaw04.LozengeRanks", spec := "lozengeRanks", unfollowed := true, recurses := true, plainKeys := false, apart := false, narrowed := true }
def LozengeRanksUptoSaid : Prop := lozengeRanksUptoRow.holds Try.pinned (OpenSpec.upto lozengeRanksSpec)

/-- 'encausticlaw04.LozengeMacMahon', WHERE WHAT IT READS IS OF BULK AT MOST 1048576: true; the input reads as it did. -/
def lozengeMacMahonUptoRow : OpenClaim := { program := "ytaephdjmpmbfpaa", sum := "b7b1409d6f7386e59d58632002bcb91322e5674f20e70189bf4c35e0bc6159c8", func := "encaustic/encausticlaw04.LozengeMacMahon", spec := "lozengeMacMahon", unfollowed := true, recurses := true, plainKeys := false, apart := false, narrowed := true }
def LozengeMacMahonUptoSaid : Prop := lozengeMacMahonUptoRow.holds Try.pinned (OpenSpec.upto lozengeMacMahonSpec)

/-- 'encausticlaw04.LozengeSymmetries', WHERE WHAT IT READS IS OF BULK AT MOST 1048576: true; the input reads as it did. -/
def lozengeSymmetriesUptoRow : OpenClaim := { program := "ytaephdjmpmbfpaa", sum := "b7b1409d6f7386e59d58632002bcb91322e5674f20e70189bf4c35e0bc6159c8", func := "encaustic/encausticlaw04.LozengeSymmetries", spec := "lozengeSymmetries", unfollowed := true, recurses := true, plainKeys := false, apart := false, narrowed := true }
def LozengeSymmetriesUptoSaid : Prop := lozengeSymmetriesUptoRow.holds Try.pinned (OpenSpec.upto lozengeSymmetriesSpec)

/-- 'encausticlaw04.LozengeFixed', WHERE WHAT IT READS IS OF BULK AT MOST 1048576: true; the input reads as it did. -/
def lozengeFixedUptoRow : OpenClaim := { program := "ytaephdjmpmbfpaa", sum := "b7b1409d6f7386e59d58632002bcb91322e5674f20e70189bf4c35e0bc6159c8", func := "encaustic/encausticlaw04.LozengeFixed", spec := "lozengeFixed", unfollowed := true, recurses := true, plainKeys := false, apart := false, narrowed := true }
def LozengeFixedUptoSaid : Prop := lozengeFixedUptoRow.holds Try.pinned (OpenSpec.upto lozengeFixedSpec)

/-- 'encausticlaw04.LozengeFloors', WHERE WHAT IT READS IS OF BULK AT MOST 1048576: true; the input reads as it did. -/
def lozengeFloorsUptoRow : OpenClaim := { program := "ytaephdjmpmbfpaa", sum := "b7b1409d6f7386e59d58632002bcb91322e5674f20e70189bf4c35e0bc6159c8", func := "encaustic/encausticlaw04.LozengeFloors", spec := "lozengeFloors", unfollowed := true, recurses := true, plainKeys := false, apart := false, narrowed := true }
def LozengeFloorsUptoSaid : Prop := lozengeFloorsUptoRow.holds Try.pinned (OpenSpec.upto lozengeFloorsSpec)

/-- 'encausticlaw04.LozengeChanges', WHERE WHAT IT READS IS OF BULK AT MOST 1048576: true; the input reads as it did. -/
def lozengeChangesUptoRow : OpenClaim := { program := "ytaephdjmpmbfpaa", sum := "b7b1409d6f7386e59d58632002bcb91322e5674f20e70189bf4c35e0bc6159c8", func := "encaustic/encausticlaw04.LozengeChanges", spec := "lozengeChanges", unfollowed := true, recurses := true, plainKeys := false, apart := false, narrowed := true }
def LozengeChangesUptoSaid : Prop := lozengeChangesUptoRow.holds Try.pinned (OpenSpec.upto lozengeChangesSpec)

end Rows
end Go.Proofs.Ytaephdjmpmbfpaa
