/- Keys of maps: cells, states, integers. -/
import Derived.Test.YtbekeccfjmoonaaDoorTd
import Derived.DeepKeys4
set_option linter.all false
namespace Go.Proofs.YtbekeccfjmoonaaDoor
open Go.Lf Go.RowKit Go.Ht

theorem laid : laidOutB Tryd.prog = true := by kernel_rfl
def i64B (n : Int) : Prop := -9223372036854775808 ≤ n ∧ n ≤ 9223372036854775807
theorem i64_wf {n : Int} (h : i64B n) : (Lit.int .i64 n).wf = true := by
  have e1 : IntKind.i64.min = -9223372036854775808 := by decide
  have e2 : IntKind.i64.max = 9223372036854775807 := by decide
  simpa [i64B, Lit.wf, e1, e2] using h
def okC (c : C2) : Prop := i64B c.1 ∧ i64B c.2
theorem cells43 : Tryd.prog.cellsOf 43 = 2 := by kernel_rfl
theorem cells72 : Tryd.prog.cellsOf 72 = 2 := by kernel_rfl
theorem cells3 : Tryd.prog.cellsOf 3 = 1 := by kernel_rfl
theorem sizeT : ∃ m, Tryd.prog.types.size = m + 1 := ⟨Tryd.prog.types.size - 1, by kernel_rfl⟩
theorem key43 {x y : Int} (hx : (Lit.int .i64 x).wf = true) (hy : (Lit.int .i64 y).wf = true) : keyOf Tryd.prog 43 (cV (x, y)) = some (.string (keyBytes [.int .i64 x, .int .i64 y])) := by
  have hkt : Tryd.prog.keyType 43 = true := by kernel_rfl
  obtain ⟨m, hm⟩ := sizeT
  unfold keyOf
  simp only [Tryd.underlying43]
  rw [if_pos (by simp [hkt, Value.formed, Tryd.underlying43, cells43]), hm]
  unfold Program.keyLits
  simp only [Tryd.underlying43, Value.cells]
  rw [if_pos ⟨by rw [cells43]; rfl, by kernel_rfl⟩]
  simp [Program.keyLits, Tryd.underlying3, cells3, hx, hy]
theorem key72 {x y : Int} (hx : (Lit.int .i64 x).wf = true) (hy : (Lit.int .i64 y).wf = true) : keyOf Tryd.prog 72 (cV (x, y)) = some (.string (keyBytes [.int .i64 x, .int .i64 y])) := by
  have hkt : Tryd.prog.keyType 72 = true := by kernel_rfl
  obtain ⟨m, hm⟩ := sizeT
  unfold keyOf
  simp only [Tryd.underlying72]
  rw [if_pos (by simp [hkt, Value.formed, Tryd.underlying72, cells72]), hm]
  unfold Program.keyLits
  simp only [Tryd.underlying72, Value.cells]
  rw [if_pos ⟨by rw [cells72]; rfl, by kernel_rfl⟩]
  simp [Program.keyLits, Tryd.underlying3, cells3, hx, hy]
theorem row43 : (43 : TypeId) < Tryd.prog.types.size := of_decide_eq_true (by kernel_rfl)
theorem row72 : (72 : TypeId) < Tryd.prog.types.size := of_decide_eq_true (by kernel_rfl)
theorem wide43 : (match Tryd.prog.underlying 43 with | some (.array _ _) | some (.struct _) => true | _ => false) = true := by rw [Tryd.underlying43]
theorem wide72 : (match Tryd.prog.underlying 72 with | some (.array _ _) | some (.struct _) => true | _ => false) = true := by rw [Tryd.underlying72]
set_option maxRecDepth 100000 in
theorem keyed43 : Maps.Keyed Tryd.prog 43 := Maps.Keyed.of_law (deep_law_laid laid (m := 2) (by omega) row43 (by kernel_rfl) wide43)
set_option maxRecDepth 100000 in
theorem keyed72 : Maps.Keyed Tryd.prog 72 := Maps.Keyed.of_law (deep_law_laid laid (m := 2) (by omega) row72 (by kernel_rfl) wide72)
theorem cV_inj {a b : C2} (h : cV a = cV b) : a = b := by
  injection h with h
  have := congrArg Array.toList h
  simp at this
  exact Prod.ext this.1 this.2
theorem keyC : KeyE 43 cV okC := ⟨keyed43, fun {k} h => ⟨_, key43 (i64_wf h.1) (i64_wf h.2)⟩, cV_inj⟩
theorem keyS : KeyE 72 cV okC := ⟨keyed72, fun {k} h => ⟨_, key72 (i64_wf h.1) (i64_wf h.2)⟩, cV_inj⟩
theorem und87 : Tryd.prog.underlying 87 = some (.map 43 43) := by kernel_rfl
theorem und79 : Tryd.prog.underlying 79 = some (.map 43 4) := by kernel_rfl
theorem und66 : Tryd.prog.underlying 66 = some (.map 72 3) := by kernel_rfl
theorem und53 : Tryd.prog.underlying 53 = some (.map 43 3) := by kernel_rfl
theorem zero43 (w : World) : (zeroValue 43).run Tryd.prog w = .ok (cV (0, 0)) w := by kernel_rfl
theorem zero4 (w : World) : (zeroValue 4).run Tryd.prog w = .ok (.bool false) w := by kernel_rfl
theorem zero3 (w : World) : (zeroValue 3).run Tryd.prog w = .ok (.int .i64 0) w := by kernel_rfl

end Go.Proofs.YtbekeccfjmoonaaDoor
