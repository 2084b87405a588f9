/- Contract: Machine of the specification: the tiles of a machine. -/
import Derived.Test.YtgalbokmgffhkaaD3
set_option linter.all false
namespace Go.Proofs.Ytgalbokmgffhkaa
open Go.Lf Go.RowKit Go.Wg

abbrev TlAt (base : Nat) (w : World) (v : Value) (l : List Tile) : Prop := RecAt 32 4 tlC base w v l
theorem slt22 : SlT 22 32 4 32 := SlT.mk' (z := tlV (0, 0, 0, 0)) (by kernel_rfl) (by kernel_rfl) rfl (by decide)
theorem bs22 (a b c d : Int) (w : World) (K : Value → World → Prop) : bsW Try.prog 22 1 [(0, tlV (a, b, c, d))] w K = K (.slice (some ⟨w.heap.size, 0, none⟩) 1 1) (w.alloc (.cells (Value.agg #[.int .i64 a, .int .i64 b, .int .i64 c, .int .i64 d]).cells 32)) := by kernel_rfl
theorem tlC_one (t : Tile) : ∀ u ∈ tlC t, u.oneCell' = true := by
  intro u hu
  simp [tlC] at hu
  rcases hu with rfl | rfl | rfl | rfl <;> rfl

set_option maxRecDepth 100000 in
/-- append(out, tile) -/
theorem r_pushT {w1 w : World} {v : Value} {P : List Tile} {t : Tile} {K : Value → World → Prop} (h : TlAt w1.heap.size w v P) (hn : P.length + 1 ≤ 1000000) (h1 : Kp w1 w)
    (hk : ∀ v' w', TlAt w1.heap.size w' v' (P ++ [t]) → Kp w1 w' → K v' w') :
    bsW Try.prog 22 1 [(0, tlV t)] w fun s w => semW Try.prog (apS [22, 22] 22 [v, s]) w K :=
  r_pushRec (x := t) slt22 tlC_len rfl (bs22 _ _ _ _ _) (tlC_one t) (by omega) h hn h1.size fun v' w' ho hc _ => hk v' w' ho (Kp.of_chg h1 hc fun k e => (h.lt e).1)

/-- The tiles of a machine. -/
def mt1 : List Tile := [(0, 0, 0, 0), (1, 0, 1, 0)]
def mt2 (S : Nat) (s : Nat) (q : Nat) : List Tile := [((s : Int), 0, 2 + 2 * (q : Int) + s, 1 + (q : Int)), ((s : Int), 1 + (S : Int) + q, 2 + 2 * (q : Int) + s, 0)]
def mt3 (S : Nat) (T : List Ent) (q s : Nat) : List Tile :=
  let e := T.getD (2 * q + s) (0, false, 0)
  if e.2.2 < 0 then [] else if e.2.1 = true then [(2 + 2 * (q : Int) + s, 1 + e.2.2, e.1, 0)] else [(2 + 2 * (q : Int) + s, 0, e.1, 1 + (S : Int) + e.2.2)]
def machT (S : Nat) (T : List Ent) : List Tile :=
  mt1 ++ (List.range 2).flatMap (fun s => (List.range S).flatMap (mt2 S s)) ++ (List.range S).flatMap (fun q => (List.range 2).flatMap (mt3 S T q))

theorem fl_succ {α : Type} (f : Nat → List α) (n : Nat) : (List.range (n + 1)).flatMap f = (List.range n).flatMap f ++ f n := by
  rw [List.range_succ, List.flatMap_append]; simp

end Go.Proofs.Ytgalbokmgffhkaa
