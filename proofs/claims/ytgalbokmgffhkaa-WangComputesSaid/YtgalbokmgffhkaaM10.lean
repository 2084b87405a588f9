/- Texts of my own, merged by program: Tt D4 D5. -/
import Derived.Test.YtgalbokmgffhkaaM05
import Derived.Test.YtgalbokmgffhkaaM09
set_option linter.all false
/- Tiles of one's own. -/
namespace Go.Proofs.Ytgalbokmgffhkaa
open Go.Lf Go.RowKit Go.Wg

abbrev TlAt (base : Nat) (w : World) (v : Value) (l : List Tile) : Prop := RecAt 32 4 tlC base w v l
theorem slt22 : SlT 22 32 4 32 := SlT.mk' (z := tlV (0, 0, 0, 0)) (by kernel_rfl) (by kernel_rfl) rfl (by decide)
theorem bs22 (a b c d : Int) (w : World) (K : Value → World → Prop) : bsW Try.prog 22 1 [(0, tlV (a, b, c, d))] w K = K (.slice (some ⟨w.heap.size, 0, none⟩) 1 1) (w.alloc (.cells (Value.agg #[.int .i64 a, .int .i64 b, .int .i64 c, .int .i64 d]).cells 32)) := by kernel_rfl
theorem tlC_one (t : Tile) : ∀ u ∈ tlC t, u.oneCell' = true := by
  intro u hu
  simp [tlC] at hu
  rcases hu with rfl | rfl | rfl | rfl <;> rfl


end Go.Proofs.Ytgalbokmgffhkaa

/- Contract: Machine of the specification: the tiles of a machine. -/
namespace Go.Proofs.Ytgalbokmgffhkaa
open Go.Lf Go.RowKit Go.Wg

set_option maxRecDepth 100000 in
/-- append(out, tile) -/
theorem r_pushT {w1 w : World} {v : Value} {P : List Tile} {t : Tile} {K : Value → World → Prop} (h : TlAt w1.heap.size w v P) (hn : P.length + 1 ≤ 1000000) (h1 : Kp w1 w)
    (hk : ∀ v' w', TlAt w1.heap.size w' v' (P ++ [t]) → Kp w1 w' → K v' w') :
    bsW Try.prog 22 1 [(0, tlV t)] w fun s w => semW Try.prog (apS [22, 22] 22 [v, s]) w K :=
  r_pushRec (x := t) slt22 tlC_len rfl (bs22 _ _ _ _ _) (tlC_one t) (by omega) h hn h1.size fun v' w' ho hc _ => hk v' w' ho (Kp.of_chg h1 hc fun k e => (h.lt e).1)

/-- The tiles of a machine. -/
def mt1 : List Tile := [(0, 0, 0, 0), (1, 0, 1, 0)]
def mt2 (S : Nat) (s : Nat) (q : Nat) : List Tile := [((s : Int), 0, 2 + 2 * (q : Int) + s, 1 + (q : Int)), ((s : Int), 1 + (S : Int) + q, 2 + 2 * (q : Int) + s, 0)]
def mt3 (S : Nat) (T : List Ent) (q s : Nat) : List Tile :=
  let e := T.getD (2 * q + s) (0, false, 0)
  if e.2.2 < 0 then [] else if e.2.1 = true then [(2 + 2 * (q : Int) + s, 1 + e.2.2, e.1, 0)] else [(2 + 2 * (q : Int) + s, 0, e.1, 1 + (S : Int) + e.2.2)]
def machT (S : Nat) (T : List Ent) : List Tile :=
  mt1 ++ (List.range 2).flatMap (fun s => (List.range S).flatMap (mt2 S s)) ++ (List.range S).flatMap (fun q => (List.range 2).flatMap (mt3 S T q))

theorem fl_succ {α : Type} (f : Nat → List α) (n : Nat) : (List.range (n + 1)).flatMap f = (List.range n).flatMap f ++ f n := by
  rw [List.range_succ, List.flatMap_append]; simp

end Go.Proofs.Ytgalbokmgffhkaa

/- Contract: Machine of the specification. -/
namespace Go.Proofs.Ytgalbokmgffhkaa
open Go.Lf Go.RowKit Go.Wg

def f1 (s : Nat) : Tile := ((s : Int), 0, (s : Int), 0)
theorem mt1_eq : mt1 = (List.range 2).map f1 := by decide
theorem mt2_len (S s q : Nat) : (mt2 S s q).length = 2 := rfl
theorem mt3_len (S : Nat) (T : List Ent) (q s : Nat) : (mt3 S T q s).length ≤ 1 := by
  unfold mt3
  dsimp only
  split
  · simp
  · split <;> simp
theorem fl_le {α : Type} (f : Nat → List α) (m : Nat) (h : ∀ i, (f i).length ≤ m) : ∀ n, ((List.range n).flatMap f).length ≤ n * m
  | 0 => by simp
  | n + 1 => by
    rw [fl_succ, List.length_append, Nat.add_mul, Nat.one_mul]
    have := fl_le f m h n
    have := h n
    omega

theorem bdA (x y : Int) (K : Value → Prop) : bdQ Try.prog 32 [(0, .int .i64 x), (2, .int .i64 y)] K = K (tlV (x, 0, y, 0)) := by kernel_rfl
theorem bdB (x y z : Int) (K : Value → Prop) : bdQ Try.prog 32 [(0, .int .i64 x), (2, .int .i64 y), (3, .int .i64 z)] K = K (tlV (x, 0, y, z)) := by kernel_rfl
theorem bdC (x y z : Int) (K : Value → Prop) : bdQ Try.prog 32 [(0, .int .i64 x), (2, .int .i64 y), (1, .int .i64 z)] K = K (tlV (x, z, y, 0)) := by kernel_rfl

/-- What Machine returns: an error, or the tiles. -/
def MacPost (S : Int) (T : List Ent) (base : Nat) (w' : World) (e : Ending) : Prop :=
  (macB S T = false ∧ e = .returned (.tuple #[nilS, .int .i64 2])) ∨ (macB S T = true ∧ ∃ v, e = .returned (.tuple #[v, .int .i64 0]) ∧ TlAt base w' v (machT S.toNat T))

theorem mac_of {S : Int} {T : List Ent} (h : macB S T = true) : ∃ s : Nat, S = s ∧ 1 ≤ s ∧ s ≤ 2 ∧ T.length = 2 * s ∧ ∀ x ∈ T, (0 ≤ x.1 ∧ x.1 ≤ 1) ∧ -1 ≤ x.2.2 ∧ x.2.2 < s := by
  simp only [macB, Bool.and_eq_true, decide_eq_true_eq, List.all_eq_true, entB] at h
  exact ⟨S.toNat, by omega, by omega, by omega, by omega, fun x hx => ⟨(h.2 x hx).1, by have := (h.2 x hx).2; omega⟩⟩

end Go.Proofs.Ytgalbokmgffhkaa
