/- Tiles of one's own. -/
import Derived.Test.YtgalbokmgffhkaaA3
set_option linter.all false
namespace Go.Proofs.Ytgalbokmgffhkaa
open Go.Lf Go.RowKit Go.Wg

abbrev TlAt (base : Nat) (w : World) (v : Value) (l : List Tile) : Prop := RecAt 32 4 tlC base w v l
theorem slt22 : SlT 22 32 4 32 := SlT.mk' (z := tlV (0, 0, 0, 0)) (by kernel_rfl) (by kernel_rfl) rfl (by decide)
theorem bs22 (a b c d : Int) (w : World) (K : Value → World → Prop) : bsW Try.prog 22 1 [(0, tlV (a, b, c, d))] w K = K (.slice (some ⟨w.heap.size, 0, none⟩) 1 1) (w.alloc (.cells (Value.agg #[.int .i64 a, .int .i64 b, .int .i64 c, .int .i64 d]).cells 32)) := by kernel_rfl
theorem tlC_one (t : Tile) : ∀ u ∈ tlC t, u.oneCell' = true := by
  intro u hu
  simp [tlC] at hu
  rcases hu with rfl | rfl | rfl | rfl <;> rfl


end Go.Proofs.Ytgalbokmgffhkaa
