/- Words for what memory holds: lists of integers, lists of such lists, and that they stay through new blocks. -/
import Derived.Test.YtbekeccfjmoonaaDoorRows
import Derived.WalkKit
import Derived.WalkSpells
import Derived.WalkLawsBesides
import Derived.Deep.QuietTactic
import Derived.BigQuiet
import Derived.Deep.DeepFit
import Derived.Test.YtbekeccfjmoonaaDoorRules
import Derived.KernelRfl
set_option linter.all false
namespace Go.Proofs.YtbekeccfjmoonaaDoor
open Go.RowKit Go.Lf

theorem hid {p : Prop} (h : p) : Hid p := h
theorem ret_int {k : IntKind} {a b : Int} (h : a = b) : Ending.returned (.int k a) = .returned (.int k b) := by rw [h]
theorem ret_bool {a b : Bool} (h : a = b) : Ending.returned (.bool a) = .returned (.bool b) := by rw [h]

theorem bcell {W w1 : World} (hb : Below W.heap.size W w1) : (∀ b o, b < W.heap.size → w1.cell? ⟨b, o, none⟩ = W.cell? ⟨b, o, none⟩) ∧ (∀ b o, b < W.heap.size → w1.frozen? ⟨b, o, none⟩ = W.frozen? ⟨b, o, none⟩) :=
  ⟨fun b o h => hb.cell (p := ⟨b, o, none⟩) h, fun b o h => hb.frozen (p := ⟨b, o, none⟩) h⟩

/-- The slice v reads as the integers l. -/
def RdInts (w : World) (v : Value) (l : List Int) : Prop :=
  ∃ a cap, v = .slice a l.length cap ∧ (l.length ≤ 17592186044416 ∧ l.length ≤ cap) ∧
    (0 < l.length → ∃ b off, a = some ⟨b, off, none⟩ ∧ ∀ i, i < l.length → w.cell? ⟨b, off + i, none⟩ = some (.int .i64 (l.getD i 0)))

/-- The slice v reads as the lists h. -/
def RdRows (w : World) (v : Value) (h : List (List Int)) : Prop :=
  ∃ a cap, ∃ vs : Nat → Value, v = .slice a h.length cap ∧ h.length ≤ 17592186044416 ∧
    (0 < h.length → ∃ b off, a = some ⟨b, off, none⟩ ∧ ∀ i, i < h.length → w.cell? ⟨b, off + i, none⟩ = some (vs i)) ∧
    ∀ i, i < h.length → RdInts w (vs i) (h.getD i [])

theorem RdInts.cells {w w' : World} {v : Value} {l : List Int} (h : RdInts w v l) (hc : ∀ a x, w.cell? a = some x → w'.cell? a = some x) : RdInts w' v l := by
  obtain ⟨a, cap, rfl, hl, hh⟩ := h
  refine ⟨a, cap, rfl, hl, fun h0 => ?_⟩
  obtain ⟨b, off, rfl, hcell⟩ := hh h0
  exact ⟨b, off, rfl, fun i hi => hc _ _ (hcell i hi)⟩

theorem RdRows.cells {w w' : World} {v : Value} {h : List (List Int)} (hr : RdRows w v h) (hc : ∀ a x, w.cell? a = some x → w'.cell? a = some x) : RdRows w' v h := by
  obtain ⟨a, cap, vs, rfl, hl, hh, hrows⟩ := hr
  refine ⟨a, cap, vs, rfl, hl, fun h0 => ?_, fun i hi => (hrows i hi).cells hc⟩
  obtain ⟨b, off, rfl, hcell⟩ := hh h0
  exact ⟨b, off, rfl, fun i hi => hc _ _ (hcell i hi)⟩

theorem RdInts.below {w w' : World} {v : Value} {l : List Int} (h : RdInts w v l) (hb : Below w.heap.size w w') : RdInts w' v l :=
  h.cells fun _ _ hx => cell_later hb hx

theorem RdRows.below {w w' : World} {v : Value} {h : List (List Int)} (hr : RdRows w v h) (hb : Below w.heap.size w w') : RdRows w' v h :=
  hr.cells fun _ _ hx => cell_later hb hx

theorem take_succ' {α : Type} (l : List α) (j : Nat) (h : j < l.length) : l.take (j + 1) = l.take j ++ [l[j]] := by
  rw [List.take_succ_eq_append_getElem h]

theorem getD_lt {α : Type} (l : List α) (j : Nat) (d : α) (h : j < l.length) : l.getD j d = l[j] := by
  simp [List.getD_eq_getElem?_getD, h]

/-- w' keeps all that is there in w. -/
abbrev Kp (w w' : World) : Prop := Below w.heap.size w w'
theorem Kp.refl (w : World) : Kp w w := Below.refl _ _
theorem Kp.trans {a b c : World} (h : Kp a b) (k : Kp b c) : Kp a c := Below.trans h (Below.mono k h.size)

theorem RdInts.at {w : World} {v : Value} {l : List Int} (h : RdInts w v l) {j : Nat} (hj : j < l.length) :
    ∃ b off cap, v = .slice (some ⟨b, off, none⟩) l.length cap ∧ w.cell? ⟨b, off + j, none⟩ = some (.int .i64 (l.getD j 0)) := by
  obtain ⟨a, cap, rfl, _, hc⟩ := h
  obtain ⟨b, off, rfl, hcl⟩ := hc (by omega)
  exact ⟨b, off, cap, rfl, hcl j hj⟩
theorem RdInts.len {w : World} {v : Value} {l : List Int} (h : RdInts w v l) : ∃ a cap, v = .slice a l.length cap ∧ l.length ≤ 17592186044416 ∧ l.length ≤ cap := by
  obtain ⟨a, cap, rfl, hl, _⟩ := h
  exact ⟨a, cap, rfl, hl⟩
theorem RdRows.row {w : World} {v : Value} {h : List (List Int)} (hr : RdRows w v h) {i : Nat} (hi : i < h.length) :
    ∃ b off cap rv, v = .slice (some ⟨b, off, none⟩) h.length cap ∧ w.cell? ⟨b, off + i, none⟩ = some rv ∧ RdInts w rv (h.getD i []) := by
  obtain ⟨a, cap, vs, rfl, _, hc, hrows⟩ := hr
  obtain ⟨b, off, rfl, hcl⟩ := hc (by omega)
  exact ⟨b, off, cap, vs i, rfl, hcl i hi, hrows i hi⟩
theorem RdRows.len {w : World} {v : Value} {h : List (List Int)} (hr : RdRows w v h) : ∃ a cap, v = .slice a h.length cap ∧ h.length ≤ 17592186044416 := by
  obtain ⟨a, cap, vs, rfl, hl, _⟩ := hr
  exact ⟨a, cap, rfl, hl⟩

theorem mixes : Tryd.prog.follows .mixedOrders = true := by kernel_rfl

end Go.Proofs.YtbekeccfjmoonaaDoor
