/- Texts of my own, merged by program: Ka Kb. -/
import Init
set_option linter.all false
/- Floors within 4 by 4 as numbers (a cell is the bit 4y + x): tilings, Kasteleyn's determinant, inner holes. Plain, no program. -/
namespace Go.Km

/-- Tilings of what is left of 4 by 4 cells, from the cell 16 - k on (bit 0). -/
def cntM : Nat → Nat → Nat
  | 0, _ => 1
  | k + 1, U => bif Nat.beq (U % 2) 0 then cntM k (U / 2) else
      (bif Nat.beq (k % 4) 0 then 0 else bif Nat.beq (U / 2 % 2) 1 then cntM k (U / 2 - 1) else 0) + (bif Nat.beq (U / 16 % 2) 1 then cntM k (U / 2 - 8) else 0)

/-- What stands in Kasteleyn's matrix at two places. -/
def kas (b w : Nat) : Int :=
  bif Nat.beq w (b + 1) then (bif Nat.beq (b % 4) 3 then 0 else 1) else
  bif Nat.beq b (w + 1) then (bif Nat.beq (w % 4) 3 then 0 else 1) else
  bif Nat.beq w (b + 4) || Nat.beq b (w + 4) then (bif Nat.beq (b % 2) 1 then -1 else 1) else 0

def rowL (f : List Nat → Int) (b : Nat) : Int → List Nat → List Nat → Int
  | _, _, [] => 0
  | s, pre, w :: r => (match kas b w with | 0 => 0 | k => s * k * f (pre ++ r)) + rowL f b (-s) (pre ++ [w]) r
def detL : List Nat → List Nat → Int
  | [], _ => 1
  | b :: bs, ws => rowL (detL bs) b 1 [] ws

def bit (m q : Nat) : Bool := Nat.beq (m / 2 ^ q % 2) 1
def blacks : List Nat := [0, 2, 5, 7, 8, 10, 13, 15]
def whites : List Nat := [1, 3, 4, 6, 9, 11, 12, 14]
/-- Sets of inner cells, and their neighbours by a king's step beside them. -/
def holes : List (Nat × Nat) := ((List.range 15).map fun t => (t + 1)).map fun t =>
  let T := (t % 2) * 2 ^ 5 + (t / 2 % 2) * 2 ^ 6 + (t / 4 % 2) * 2 ^ 9 + (t / 8 % 2) * 2 ^ 10
  let nb (q : Nat) : Nat := 2 ^ (q - 5) + 2 ^ (q - 4) + 2 ^ (q - 3) + 2 ^ (q - 1) + 2 ^ (q + 1) + 2 ^ (q + 3) + 2 ^ (q + 4) + 2 ^ (q + 5)
  let n0 := bif Nat.beq (t % 2) 1 then nb 5 else 0
  let n1 := bif Nat.beq (t / 2 % 2) 1 then nb 6 else 0
  let n2 := bif Nat.beq (t / 4 % 2) 1 then nb 9 else 0
  let n3 := bif Nat.beq (t / 8 % 2) 1 then nb 10 else 0
  (T, ((n0 ||| n1 ||| n2 ||| n3) ||| T) - T)
def holed (m : Nat) : Bool := holes.any fun p => Nat.beq (p.1 &&& m) 0 && Nat.beq (p.2 &&& m) p.2
def chk (m : Nat) : Bool :=
  let bs := blacks.filter (bit m)
  let ws := whites.filter (bit m)
  bif Nat.beq bs.length ws.length then
    let d := (detL bs ws).natAbs
    let n := cntM 16 m
    Nat.ble d n && (Nat.beq d n || holed m)
  else Nat.beq (cntM 16 m) 0
def all : Nat → Nat → Bool
  | 0, _ => true
  | n + 1, b => chk b && all n (b + 1)
theorem all_spec : ∀ (n b : Nat), all n b = true → ∀ m, b ≤ m → m < b + n → chk m = true
  | 0, b, _, m, h1, h2 => by omega
  | n + 1, b, h, m, h1, h2 => by
    simp only [all, Bool.and_eq_true] at h
    by_cases e : m = b
    · rw [e]; exact h.1
    · exact all_spec n (b + 1) h.2 m (by omega) (by omega)

end Go.Km

/- The floors within 4 by 4, 1 of 4 parts: by the kernel. -/
namespace Go.Km

theorem kb0 : all 1024 0 = true := by decide +kernel
theorem kb1 : all 1024 1024 = true := by decide +kernel
theorem kb2 : all 1024 2048 = true := by decide +kernel
theorem kb3 : all 1024 3072 = true := by decide +kernel
theorem kb4 : all 1024 4096 = true := by decide +kernel
theorem kb5 : all 1024 5120 = true := by decide +kernel
theorem kb6 : all 1024 6144 = true := by decide +kernel
theorem kb7 : all 1024 7168 = true := by decide +kernel
theorem kb8 : all 1024 8192 = true := by decide +kernel
theorem kb9 : all 1024 9216 = true := by decide +kernel
theorem kb10 : all 1024 10240 = true := by decide +kernel
theorem kb11 : all 1024 11264 = true := by decide +kernel
theorem kb12 : all 1024 12288 = true := by decide +kernel
theorem kb13 : all 1024 13312 = true := by decide +kernel
theorem kb14 : all 1024 14336 = true := by decide +kernel
theorem kb15 : all 1024 15360 = true := by decide +kernel
theorem pb (m : Nat) (h1 : 0 ≤ m) (h2 : m < 16384) : chk m = true := by
  rcases Nat.lt_or_ge m 1024 with h | h
  · exact all_spec 1024 0 kb0 m (by omega) (by omega)
  rcases Nat.lt_or_ge m 2048 with h | h
  · exact all_spec 1024 1024 kb1 m (by omega) (by omega)
  rcases Nat.lt_or_ge m 3072 with h | h
  · exact all_spec 1024 2048 kb2 m (by omega) (by omega)
  rcases Nat.lt_or_ge m 4096 with h | h
  · exact all_spec 1024 3072 kb3 m (by omega) (by omega)
  rcases Nat.lt_or_ge m 5120 with h | h
  · exact all_spec 1024 4096 kb4 m (by omega) (by omega)
  rcases Nat.lt_or_ge m 6144 with h | h
  · exact all_spec 1024 5120 kb5 m (by omega) (by omega)
  rcases Nat.lt_or_ge m 7168 with h | h
  · exact all_spec 1024 6144 kb6 m (by omega) (by omega)
  rcases Nat.lt_or_ge m 8192 with h | h
  · exact all_spec 1024 7168 kb7 m (by omega) (by omega)
  rcases Nat.lt_or_ge m 9216 with h | h
  · exact all_spec 1024 8192 kb8 m (by omega) (by omega)
  rcases Nat.lt_or_ge m 10240 with h | h
  · exact all_spec 1024 9216 kb9 m (by omega) (by omega)
  rcases Nat.lt_or_ge m 11264 with h | h
  · exact all_spec 1024 10240 kb10 m (by omega) (by omega)
  rcases Nat.lt_or_ge m 12288 with h | h
  · exact all_spec 1024 11264 kb11 m (by omega) (by omega)
  rcases Nat.lt_or_ge m 13312 with h | h
  · exact all_spec 1024 12288 kb12 m (by omega) (by omega)
  rcases Nat.lt_or_ge m 14336 with h | h
  · exact all_spec 1024 13312 kb13 m (by omega) (by omega)
  rcases Nat.lt_or_ge m 15360 with h | h
  · exact all_spec 1024 14336 kb14 m (by omega) (by omega)
  exact all_spec 1024 15360 kb15 m (by omega) (by omega)

end Go.Km
