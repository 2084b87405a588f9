/- Texts of my own, merged by program: T1 Sa A1. -/
import Derived.Test.YtgalbokmgffhkaaM02
import Derived.Test.YtgalbokmgffhkaaM03
import Derived.Laws.StructEq
set_option linter.all false
/- Wang tiles, plainly: sets, rows of tiles, their colours as numbers. No program. -/
namespace Go.Wg

/-- North, East, South, West. -/
abbrev Tile := Int × Int × Int × Int
abbrev tN (t : Tile) : Int := t.1
abbrev tE (t : Tile) : Int := t.2.1
abbrev tS (t : Tile) : Int := t.2.2.1
abbrev tW (t : Tile) : Int := t.2.2.2
abbrev t0 : Tile := (0, 0, 0, 0)

/-- The tile at a place of a set. -/
def tl (l : List Tile) (i : Nat) : Tile := l.getD i t0
theorem tl_get {l : List Tile} {i : Nat} (h : i < l.length) : l[i]? = some (tl l i) := by
  simp [tl, List.getD_eq_getElem?_getD, h]

def colB (n : Int) : Bool := decide (0 ≤ n ∧ n ≤ 7)
def colsB (t : Tile) : Bool := colB (tN t) && colB (tE t) && colB (tS t) && colB (tW t)
/-- Tiles from place i on are well coloured and none of them stands before. -/
def freshB (l : List Tile) : Bool := (List.range l.length).all fun i => colsB (tl l i) && !decide (tl l i ∈ l.take i)
def setB (l : List Tile) : Bool := decide (1 ≤ l.length ∧ l.length ≤ 16) && freshB l
def sideB (n : Int) : Bool := decide (1 ≤ n ∧ n ≤ 4)

structure IsSet (l : List Tile) : Prop where
  pos : 1 ≤ l.length
  most : l.length ≤ 16
  cols : ∀ t ∈ l, colsB t = true
  nodup : l.Nodup

theorem getD_mem {α : Type} {l : List α} {i : Nat} {d : α} (h : i < l.length) : l.getD i d ∈ l := by
  rw [List.getD_eq_getElem?_getD, List.getElem?_eq_getElem h]
  exact List.getElem_mem h

theorem nodup_take {α : Type} {d : α} : ∀ {l : List α}, (∀ i, i < l.length → l.getD i d ∉ l.take i) → l.Nodup := by
  intro l h
  rw [List.nodup_iff_pairwise_ne] at *
  rw [List.pairwise_iff_getElem]
  intro i j hi hj hij e
  refine h j hj ?_
  rw [List.getD_eq_getElem?_getD, List.getElem?_eq_getElem hj, Option.getD_some, ← e, List.mem_take_iff_getElem]
  exact ⟨i, by omega, rfl⟩

theorem isSet_of {l : List Tile} (h : setB l = true) : IsSet l := by
  simp only [setB, freshB, Bool.and_eq_true, decide_eq_true_eq, List.all_eq_true, List.mem_range, Bool.not_eq_true', decide_eq_false_iff_not] at h
  obtain ⟨⟨h1, h2⟩, h3⟩ := h
  refine ⟨h1, h2, fun t ht => ?_, nodup_take (d := t0) fun i hi => (h3 i hi).2⟩
  obtain ⟨i, hi, rfl⟩ := List.getElem_of_mem ht
  have := (h3 i hi).1
  rwa [tl, List.getD_eq_getElem?_getD, List.getElem?_eq_getElem hi] at this

theorem cols_range {t : Tile} (h : colsB t = true) : (0 ≤ tN t ∧ tN t ≤ 7) ∧ (0 ≤ tE t ∧ tE t ≤ 7) ∧ (0 ≤ tS t ∧ tS t ≤ 7) ∧ (0 ≤ tW t ∧ tW t ≤ 7) := by
  simp only [colsB, colB, Bool.and_eq_true, decide_eq_true_eq] at h
  exact ⟨h.1.1.1, h.1.1.2, h.1.2, h.2⟩

/-! ### rows -/

theorem tl_cols {l : List Tile} (hs : IsSet l) {i : Nat} (hi : i < l.length) : (0 ≤ tN (tl l i) ∧ tN (tl l i) ≤ 7) ∧ (0 ≤ tE (tl l i) ∧ tE (tl l i) ≤ 7) ∧ (0 ≤ tS (tl l i) ∧ tS (tl l i) ≤ 7) ∧ (0 ≤ tW (tl l i) ∧ tW (tl l i) ≤ 7) :=
  cols_range (hs.cols _ (by unfold tl; exact getD_mem hi))

/-- May tile i come behind the row r? -/
def fits (l : List Tile) (r : List Nat) (i : Nat) : Bool := decide (r = []) || decide (tE (tl l (r.getLastD 0)) = tW (tl l i))
/-- All rows that go on from r by n tiles. -/
def exts (l : List Tile) : Nat → List Nat → List (List Nat)
  | 0, r => [r]
  | n + 1, r => (List.range l.length).flatMap fun i => if fits l r i = true then exts l n (r ++ [i]) else []
def rowsL (l : List Tile) (w : Nat) : List (List Nat) := exts l w []

/-- Colours as a number to the base 8. -/
def code (c : List Int) : Int := c.foldl (fun n x => n * 8 + x) 0
theorem code_push (c : List Int) (x : Int) : code (c ++ [x]) = code c * 8 + x := by simp [code]
theorem code_nil : code [] = 0 := rfl
def norths (l : List Tile) (r : List Nat) : List Int := r.map fun i => tN (tl l i)
def souths (l : List Tile) (r : List Nat) : List Int := r.map fun i => tS (tl l i)

/-- A row's record: tiles (four of them, those behind the row are 0), North and South as numbers, whether it closes. -/
abbrev Line := List Int × Int × Int × Bool
def pad4 (r : List Nat) : List Int := (List.range 4).map fun k => ((r.getD k 0 : Nat) : Int)
def partOf (l : List Tile) (r : List Nat) : Line := (pad4 r, code (norths l r), code (souths l r), false)
def closes (l : List Tile) (r : List Nat) : Bool := decide (tW (tl l (r.getD 0 0)) = tE (tl l (r.getLastD 0)))
def lineOf (l : List Tile) (r : List Nat) : Line := (pad4 r, code (norths l r), code (souths l r), closes l r)

theorem pad4_len (r : List Nat) : (pad4 r).length = 4 := by simp [pad4]
theorem pad4_at (r : List Nat) {k : Nat} (hk : k < 4) : (pad4 r).getD k 0 = ((r.getD k 0 : Nat) : Int) := by
  simp [pad4, List.getD_eq_getElem?_getD, hk]
theorem pad4_push {r : List Nat} {i : Nat} (h : r.length < 4) : pad4 (r ++ [i]) = (pad4 r).set r.length (i : Int) := by
  refine List.ext_getElem (by simp [pad4]) fun k h1 h2 => ?_
  have hk : k < 4 := by simpa [pad4] using h1
  by_cases e : k = r.length
  · subst e
    simp [pad4]
  · rw [List.getElem_set_ne (by omega)]
    simp only [pad4, List.getElem_map, List.getElem_range, List.getD_eq_getElem?_getD]
    congr 2
    by_cases hlt : k < r.length
    · rw [List.getElem?_append_left hlt]
    · rw [List.getElem?_eq_none (by simp; omega), List.getElem?_eq_none (by omega)]

theorem code_bound {c : List Int} (h : ∀ x ∈ c, 0 ≤ x ∧ x ≤ 7) : 0 ≤ code c ∧ code c < 8 ^ c.length := by
  have key : ∀ (c : List Int) (n : Int), (∀ x ∈ c, 0 ≤ x ∧ x ≤ 7) → 0 ≤ n → 0 ≤ c.foldl (fun n x => n * 8 + x) n ∧ c.foldl (fun n x => n * 8 + x) n < (n + 1) * 8 ^ c.length := by
    intro c
    induction c with
    | nil => intro n _ hn; simp; omega
    | cons y c ih =>
      intro n h hn
      have hy := h y (by simp)
      have := ih (n * 8 + y) (fun x hx => h x (by simp [hx])) (by omega)
      simp only [List.foldl_cons, List.length_cons]
      refine ⟨this.1, Int.lt_of_lt_of_le this.2 ?_⟩
      rw [Int.pow_succ, Int.mul_comm (8 ^ c.length) 8, ← Int.mul_assoc]
      exact Int.mul_le_mul_of_nonneg_right (by omega) (Int.pow_nonneg (by omega))
  have := key c 0 h (Int.le_refl 0)
  simpa [code] using this

/-- What a row of the list is. -/
structure IsRow (l : List Tile) (r : List Nat) : Prop where
  lt : ∀ i ∈ r, i < l.length
  chain : ∀ k, k + 1 < r.length → tE (tl l (r.getD k 0)) = tW (tl l (r.getD (k + 1) 0))

theorem mem_exts {l : List Tile} : ∀ (n : Nat) (r q : List Nat), q ∈ exts l n r ↔ ∃ s, q = r ++ s ∧ s.length = n ∧ (∀ i ∈ s, i < l.length) ∧ ∀ k, k < n → fits l (r ++ s.take k) (s.getD k 0) = true
  | 0, r, q => by
    simp only [exts, List.mem_singleton]
    constructor
    · rintro rfl
      exact ⟨[], by simp, rfl, by simp, fun k hk => absurd hk (by omega)⟩
    · rintro ⟨s, rfl, hs, _⟩
      have : s = [] := List.length_eq_zero_iff.1 hs
      simp [this]
  | n + 1, r, q => by
    simp only [exts, List.mem_flatMap, List.mem_range]
    constructor
    · rintro ⟨i, hi, hq⟩
      split at hq
      case isFalse => cases hq
      rename_i hf
      obtain ⟨s, rfl, hs, hlt, hk⟩ := (mem_exts n (r ++ [i]) q).1 hq
      refine ⟨i :: s, by simp, by simp [hs], fun j hj => ?_, fun k hkn => ?_⟩
      · rcases List.mem_cons.1 hj with rfl | hj
        · exact hi
        · exact hlt j hj
      · cases k with
        | zero => simpa using hf
        | succ k =>
          have := hk k (by omega)
          simpa using this
    · rintro ⟨s, rfl, hs, hlt, hk⟩
      cases s with
      | nil => simp at hs
      | cons i s =>
        refine ⟨i, hlt i (by simp), ?_⟩
        have h0 := hk 0 (by omega)
        simp at h0
        rw [if_pos h0]
        refine (mem_exts n (r ++ [i]) _).2 ⟨s, by simp, by simpa using hs, fun j hj => hlt j (by simp [hj]), fun k hkn => ?_⟩
        have := hk (k + 1) (by omega)
        simpa using this

theorem mem_rowsL {l : List Tile} {w : Nat} {r : List Nat} : r ∈ rowsL l w ↔ r.length = w ∧ IsRow l r := by
  unfold rowsL
  rw [mem_exts]
  constructor
  · rintro ⟨s, e, hs, hlt, hk⟩
    simp only [List.nil_append] at e
    subst e
    refine ⟨hs, hlt, fun k hkl => ?_⟩
    have := hk (k + 1) (by omega)
    simp only [List.nil_append, fits, Bool.or_eq_true, decide_eq_true_eq] at this
    rcases this with h | h
    · have := congrArg List.length h
      rw [List.length_take, List.length_nil] at this
      omega
    · rw [List.take_add_one, List.getElem?_eq_getElem (by omega)] at h
      simp only [Option.toList_some, List.getLastD_concat] at h
      rw [List.getD_eq_getElem?_getD, List.getElem?_eq_getElem (by omega)]
      exact h
  · rintro ⟨hl, hr⟩
    refine ⟨r, by simp, hl, hr.lt, fun k hk => ?_⟩
    simp only [List.nil_append, fits, Bool.or_eq_true, decide_eq_true_eq]
    cases k with
    | zero => left; simp
    | succ k =>
      right
      have := hr.chain k (by omega)
      rw [List.take_add_one, List.getElem?_eq_getElem (by omega)]
      simp only [Option.toList_some, List.getLastD_concat]
      rw [List.getD_eq_getElem?_getD, List.getElem?_eq_getElem (by omega)] at this
      exact this

theorem exts_length_le {l : List Tile} (hl : l.length ≤ 16) : ∀ (n : Nat) (r : List Nat), (exts l n r).length ≤ 16 ^ n
  | 0, _ => by simp [exts]
  | n + 1, r => by
    have key : ∀ L : List Nat, (L.flatMap fun i => if fits l r i = true then exts l n (r ++ [i]) else []).length ≤ L.length * 16 ^ n := by
      intro L
      induction L with
      | nil => simp
      | cons i L ih =>
        rw [List.flatMap_cons, List.length_append, List.length_cons, Nat.add_mul, Nat.one_mul]
        have h1 : (if fits l r i = true then exts l n (r ++ [i]) else []).length ≤ 16 ^ n := by
          split
          · exact exts_length_le hl n _
          · simp
        omega
    have := key (List.range l.length)
    rw [List.length_range] at this
    rw [exts, Nat.pow_succ, Nat.mul_comm]
    exact Nat.le_trans this (Nat.mul_le_mul_right _ hl)

end Go.Wg

/- Lifted texts, printed by program (gen.py): what each function's code asks. The ties are by the kernel. -/
namespace Go.Proofs.Ytgalbokmgffhkaa
open Go.Lf Go.RowKit

def S56 (t0 : Value) (w : World) (R : Ending → World → Prop) : Prop :=
  binQ Try.prog w .geq 3 true t0 (.int .i64 0) fun t4 =>
  gd t4 true (fun k => k t0 w) w fun t6 w =>
  gd t4 true (fun k => binQ Try.prog w .leq 3 true t6 (.int .i64 7) fun v => k v w) w fun t7 w =>
  pickQ t4 t7 (.bool false) fun t8 =>
  R (.returned t8) w

def A56 : Ann where
  live := fun _ => []
  wr := fun _ _ => false
  sched := fun _ => .done

set_option maxRecDepth 100000 in
theorem ok56 : (codeOk Try.f56.ntmps A56 (Try.f56.body.getD .skip) 0 && Nat.ble 1 Try.f56.ntmps) = true := by kernel_rfl
set_option maxRecDepth 100000 in
theorem lift56 {t0 : Value} {w : World} {R : Ending → World → Prop} (h : S56 t0 w R) : Calls Try.prog 56 #[t0] w R :=
  calls_of_cw (fn := Try.f56) (c := Try.f56.body.getD .skip) A56 mixes Try.func56 (by kernel_rfl) ok56
    ((by kernel_rfl : (S56 t0 w R) = cw Try.prog A56 (Try.f56.body.getD .skip) 0 (bodyQ Try.prog Try.f56 R) (frOf #[t0]) w).mp h)

def S62 (t0 : Value) (w : World) (R : Ending → World → Prop) : Prop :=
  binQ Try.prog w .geq 3 true t0 (.int .i64 0) fun t4 =>
  gd t4 true (fun k => k t0 w) w fun t6 w =>
  gd t4 true (fun k => binQ Try.prog w .leq 3 true t6 (.int .i64 7) fun v => k v w) w fun t7 w =>
  pickQ t4 t7 (.bool false) fun t8 =>
  R (.returned t8) w

def A62 : Ann where
  live := fun _ => []
  wr := fun _ _ => false
  sched := fun _ => .done

set_option maxRecDepth 100000 in
theorem ok62 : (codeOk Try.f62.ntmps A62 (Try.f62.body.getD .skip) 0 && Nat.ble 1 Try.f62.ntmps) = true := by kernel_rfl
set_option maxRecDepth 100000 in
theorem lift62 {t0 : Value} {w : World} {R : Ending → World → Prop} (h : S62 t0 w R) : Calls Try.prog 62 #[t0] w R :=
  calls_of_cw (fn := Try.f62) (c := Try.f62.body.getD .skip) A62 mixes Try.func62 (by kernel_rfl) ok62
    ((by kernel_rfl : (S62 t0 w R) = cw Try.prog A62 (Try.f62.body.getD .skip) 0 (bodyQ Try.prog Try.f62 R) (frOf #[t0]) w).mp h)

def S66 (t0 : Value) (w : World) (R : Ending → World → Prop) : Prop :=
  binQ Try.prog w .geq 3 true t0 (.int .i64 1) fun t4 =>
  gd t4 true (fun k => k t0 w) w fun t6 w =>
  gd t4 true (fun k => binQ Try.prog w .leq 3 true t6 (.int .i64 4) fun v => k v w) w fun t7 w =>
  pickQ t4 t7 (.bool false) fun t8 =>
  R (.returned t8) w

def A66 : Ann where
  live := fun _ => []
  wr := fun _ _ => false
  sched := fun _ => .done

set_option maxRecDepth 100000 in
theorem ok66 : (codeOk Try.f66.ntmps A66 (Try.f66.body.getD .skip) 0 && Nat.ble 1 Try.f66.ntmps) = true := by kernel_rfl
set_option maxRecDepth 100000 in
theorem lift66 {t0 : Value} {w : World} {R : Ending → World → Prop} (h : S66 t0 w R) : Calls Try.prog 66 #[t0] w R :=
  calls_of_cw (fn := Try.f66) (c := Try.f66.body.getD .skip) A66 mixes Try.func66 (by kernel_rfl) ok66
    ((by kernel_rfl : (S66 t0 w R) = cw Try.prog A66 (Try.f66.body.getD .skip) 0 (bodyQ Try.prog Try.f66 R) (frOf #[t0]) w).mp h)

def S68 (t0 : Value) (w : World) (R : Ending → World → Prop) : Prop :=
  binQ Try.prog w .geq 3 true t0 (.int .i64 1) fun t4 =>
  gd t4 true (fun k => k t0 w) w fun t6 w =>
  gd t4 true (fun k => binQ Try.prog w .leq 3 true t6 (.int .i64 4) fun v => k v w) w fun t7 w =>
  pickQ t4 t7 (.bool false) fun t8 =>
  R (.returned t8) w

def A68 : Ann where
  live := fun _ => []
  wr := fun _ _ => false
  sched := fun _ => .done

set_option maxRecDepth 100000 in
theorem ok68 : (codeOk Try.f68.ntmps A68 (Try.f68.body.getD .skip) 0 && Nat.ble 1 Try.f68.ntmps) = true := by kernel_rfl
set_option maxRecDepth 100000 in
theorem lift68 {t0 : Value} {w : World} {R : Ending → World → Prop} (h : S68 t0 w R) : Calls Try.prog 68 #[t0] w R :=
  calls_of_cw (fn := Try.f68) (c := Try.f68.body.getD .skip) A68 mixes Try.func68 (by kernel_rfl) ok68
    ((by kernel_rfl : (S68 t0 w R) = cw Try.prog A68 (Try.f68.body.getD .skip) 0 (bodyQ Try.prog Try.f68 R) (frOf #[t0]) w).mp h)

def S117 (t0 t1 : Value) (w : World) (R : Ending → World → Prop) : Prop :=
  boxW 32 t1 w fun t3 w =>
  ln1 t0 fun t7 =>
  Loop1 (.int .i64 0) w fun _ t8 w next =>
    binQ Try.prog w .lss 3 false t8 t7 fun t9 =>
    condW t9 (
      Drew w fun w =>
      ldN 4 w t3 fun t11 =>
      iaS 4 t0 t8 fun t14 =>
      ldN 4 w t14 fun t15 =>
      binQ Try.prog w .eql 32 false t11 t15 fun t16 =>
      condW t16 (
        R (.returned t8) w
      ) (
        binQ Try.prog w .add 3 true t8 (.int .i64 1) fun t18 =>
        next t18 w
      )
    ) (
      R (.returned (.int .i64 (-1))) w
    )

def A117 : Ann where
  live := fun
    | 0 => [8]
    | _ => []
  wr := fun
    | 0 => fun i => (Nat.ble 4 i && Nat.ble i 5) || (Nat.ble 8 i && Nat.ble i 18)
    | _ => fun _ => false
  sched := fun
    | 4 => (.take 0 (.take 1 (.take 2 (.take 3 (.take 4 (.take 5 .done))))))
    | _ => .done

set_option maxRecDepth 100000 in
theorem ok117 : (codeOk Try.f117.ntmps A117 (Try.f117.body.getD .skip) 0 && Nat.ble 2 Try.f117.ntmps) = true := by kernel_rfl
set_option maxRecDepth 100000 in
theorem lift117 {t0 t1 : Value} {w : World} {R : Ending → World → Prop} (h : S117 t0 t1 w R) : Calls Try.prog 117 #[t0, t1] w R :=
  calls_of_cw (fn := Try.f117) (c := Try.f117.body.getD .skip) A117 mixes Try.func117 (by kernel_rfl) ok117
    ((by kernel_rfl : (S117 t0 t1 w R) = cw Try.prog A117 (Try.f117.body.getD .skip) 0 (bodyQ Try.prog Try.f117 R) (frOf #[t0, t1]) w).mp h)

def S100 (t0 t1 : Value) (w : World) (R : Ending → World → Prop) : Prop :=
  boxW 32 t1 w fun t3 w =>
  ldN 4 w t3 fun t6 =>
  callW Try.prog (.func (.func 117) #[] #[]) [t0, t6] w fun t7 w =>
  binQ Try.prog w .geq 3 true t7 (.int .i64 0) fun t8 =>
  R (.returned t8) w

def A100 : Ann where
  live := fun _ => []
  wr := fun _ _ => false
  sched := fun _ => .done

set_option maxRecDepth 100000 in
theorem ok100 : (codeOk Try.f100.ntmps A100 (Try.f100.body.getD .skip) 0 && Nat.ble 2 Try.f100.ntmps) = true := by kernel_rfl
set_option maxRecDepth 100000 in
theorem lift100 {t0 t1 : Value} {w : World} {R : Ending → World → Prop} (h : S100 t0 t1 w R) : Calls Try.prog 100 #[t0, t1] w R :=
  calls_of_cw (fn := Try.f100) (c := Try.f100.body.getD .skip) A100 mixes Try.func100 (by kernel_rfl) ok100
    ((by kernel_rfl : (S100 t0 t1 w R) = cw Try.prog A100 (Try.f100.body.getD .skip) 0 (bodyQ Try.prog Try.f100 R) (frOf #[t0, t1]) w).mp h)

def S65 (t0 : Value) (w : World) (R : Ending → World → Prop) : Prop :=
  ln1 t0 fun t6 =>
  binQ Try.prog w .lss 3 true t6 (.int .i64 1) fun t7 =>
  gd t7 false (fun k => k t0 w) w fun t9 w =>
  gd t7 false (fun k => ln1 t9 fun v => k v w) w fun t10 w =>
  gd t7 false (fun k => binQ Try.prog w .gtr 3 true t10 (.int .i64 16) fun v => k v w) w fun t11 w =>
  pickQ t7 (.bool true) t11 fun t12 =>
  condW t12 (
    R (.returned (.bool false)) w
  ) (
    ln1 t0 fun t14 =>
    Loop1 (.int .i64 0) w fun _ t15 w next =>
      binQ Try.prog w .lss 3 false t15 t14 fun t16 =>
      condW t16 (
        iaS 4 t0 t15 fun t18 =>
        ldN 4 w t18 fun t19 =>
        boxW 32 (.agg #[(.int .i64 0), (.int .i64 0), (.int .i64 0), (.int .i64 0)]) w fun t4 w =>
        stW Try.prog 32 t4 t19 w fun w =>
        Drew w fun w =>
        fa1 t4 0 fun t20 =>
        ld1 w t20 fun t21 =>
        callW Try.prog (.func (.func 56) #[] #[]) [t21] w <| keepB w fun t22 w =>
        unQ .not t22 fun t23 =>
        gdQ t23 false (fun k => fa1 t4 1 k) fun t25 =>
        gdQ t23 false (fun k => ld1 w t25 k) fun t26 =>
        gd t23 false (fun k => callW Try.prog (.func (.func 56) #[] #[]) [t26] w k) w fun t27 w =>
        gdQ t23 false (fun k => unQ .not t27 k) fun t28 =>
        pickQ t23 (.bool true) t28 fun t29 =>
        gdQ t29 false (fun k => fa1 t4 2 k) fun t31 =>
        gdQ t29 false (fun k => ld1 w t31 k) fun t32 =>
        gd t29 false (fun k => callW Try.prog (.func (.func 56) #[] #[]) [t32] w k) w fun t33 w =>
        gdQ t29 false (fun k => unQ .not t33 k) fun t34 =>
        pickQ t29 (.bool true) t34 fun t35 =>
        gdQ t35 false (fun k => fa1 t4 3 k) fun t37 =>
        gdQ t35 false (fun k => ld1 w t37 k) fun t38 =>
        gd t35 false (fun k => callW Try.prog (.func (.func 56) #[] #[]) [t38] w k) w <| keepB w fun t39 w =>
        gdQ t35 false (fun k => unQ .not t39 k) fun t40 =>
        pickQ t35 (.bool true) t40 fun t41 =>
        gdQ t41 false (fun k => k t0) fun t43 =>
        gdQ t41 false (fun k => k t15) fun t44 =>
        gdQ t41 false (fun k => slS 4 t43 none (some t44) k) fun t45 =>
        gdQ t41 false (fun k => ldN 4 w t4 k) fun t46 =>
        gd t41 false (fun k => callW Try.prog (.func (.func 100) #[] #[]) [t45, t46] w k) w <| keepB w fun t47 w =>
        pickQ t41 (.bool true) t47 fun t48 =>
        condW t48 (
          R (.returned (.bool false)) w
        ) (
          binQ Try.prog w .add 3 true t15 (.int .i64 1) fun t49 =>
          next t49 w
        )
      ) (
        R (.returned (.bool true)) w
      )
  )

def A65 : Ann where
  live := fun
    | 0 => [15]
    | _ => []
  wr := fun
    | 0 => fun i => (Nat.ble 2 i && Nat.ble i 4) || (Nat.ble 15 i && Nat.ble i 49)
    | _ => fun _ => false
  sched := fun
    | 6 => (.take 0 (.take 1 (.eff 2 (.take 3 (.take 4 (.take 5 (.take 6 (.bar 7 (.take 8 (.take 9 (.take 10 (.take 11 (.take 12 (.bar 13 (.take 14 (.take 15 (.take 16 (.take 17 (.take 18 (.eff 19 (.take 20 (.take 21 (.take 22 (.take 23 (.take 24 (.take 25 (.take 26 (.eff 27 (.take 28 .done)))))))))))))))))))))))))))))
    | _ => .done

set_option maxRecDepth 100000 in
theorem ok65 : (codeOk Try.f65.ntmps A65 (Try.f65.body.getD .skip) 0 && Nat.ble 1 Try.f65.ntmps) = true := by kernel_rfl
set_option maxRecDepth 100000 in
theorem lift65 {t0 : Value} {w : World} {R : Ending → World → Prop} (h : S65 t0 w R) : Calls Try.prog 65 #[t0] w R :=
  calls_of_cw (fn := Try.f65) (c := Try.f65.body.getD .skip) A65 mixes Try.func65 (by kernel_rfl) ok65
    ((by kernel_rfl : (S65 t0 w R) = cw Try.prog A65 (Try.f65.body.getD .skip) 0 (bodyQ Try.prog Try.f65 R) (frOf #[t0]) w).mp h)

def S35 (t0 : Value) (w : World) (R : Ending → World → Prop) : Prop :=
  ln1 t0 fun t7 =>
  binQ Try.prog w .lss 3 true t7 (.int .i64 1) fun t8 =>
  gd t8 false (fun k => k t0 w) w fun t10 w =>
  gd t8 false (fun k => ln1 t10 fun v => k v w) w fun t11 w =>
  gd t8 false (fun k => binQ Try.prog w .gtr 3 true t11 (.int .i64 16) fun v => k v w) w fun t12 w =>
  pickQ t8 (.bool true) t12 fun t13 =>
  condW t13 (
    R (.returned (.bool false)) w
  ) (
    Loop1 (.int .i64 0) w fun _ t3 w next =>
      ln1 t0 fun t16 =>
      binQ Try.prog w .lss 3 false t3 t16 fun t17 =>
      condW t17 (
        iaS 4 t0 t3 fun t22 =>
        ldN 4 w t22 fun t23 =>
        boxW 32 (.agg #[(.int .i64 0), (.int .i64 0), (.int .i64 0), (.int .i64 0)]) w fun t4 w =>
        stW Try.prog 32 t4 t23 w fun w =>
        fa1 t4 0 fun t24 =>
        ld1 w t24 fun t25 =>
        callW Try.prog (.func (.func 62) #[] #[]) [t25] w fun t26 w =>
        unQ .not t26 fun t27 =>
        gd t27 false (fun k => fa1 t4 1 fun v => k v w) w fun t29 w =>
        gd t27 false (fun k => ld1 w t29 fun v => k v w) w fun t30 w =>
        gd t27 false (fun k => callW Try.prog (.func (.func 62) #[] #[]) [t30] w k) w fun t31 w =>
        gd t27 false (fun k => unQ .not t31 fun v => k v w) w fun t32 w =>
        pickQ t27 (.bool true) t32 fun t33 =>
        gd t33 false (fun k => fa1 t4 2 fun v => k v w) w fun t35 w =>
        gd t33 false (fun k => ld1 w t35 fun v => k v w) w fun t36 w =>
        gd t33 false (fun k => callW Try.prog (.func (.func 62) #[] #[]) [t36] w k) w fun t37 w =>
        gd t33 false (fun k => unQ .not t37 fun v => k v w) w fun t38 w =>
        pickQ t33 (.bool true) t38 fun t39 =>
        gd t39 false (fun k => fa1 t4 3 fun v => k v w) w fun t41 w =>
        gd t39 false (fun k => ld1 w t41 fun v => k v w) w fun t42 w =>
        gd t39 false (fun k => callW Try.prog (.func (.func 62) #[] #[]) [t42] w k) w fun t43 w =>
        gd t39 false (fun k => unQ .not t43 fun v => k v w) w fun t44 w =>
        pickQ t39 (.bool true) t44 fun t45 =>
        condW t45 (
          R (.returned (.bool false)) w
        ) (
          Loop1 (.int .i64 0) w fun _ t5 w next_2 =>
            binQ Try.prog w .lss 3 false t5 t3 fun t48 =>
            condW t48 (
              Drew w fun w =>
              iaS 4 t0 t5 fun t53 =>
              ldN 4 w t53 fun t54 =>
              ldN 4 w t4 fun t55 =>
              binQ Try.prog w .eql 32 false t54 t55 fun t56 =>
              condW t56 (
                R (.returned (.bool false)) w
              ) (
                binQ Try.prog w .add 3 true t5 (.int .i64 1) fun t50 =>
                next_2 t50 w
              )
            ) (
              binQ Try.prog w .add 3 true t3 (.int .i64 1) fun t19 =>
              next t19 w
            )
        )
      ) (
        R (.returned (.bool true)) w
      )
  )

def A35 : Ann where
  live := fun
    | 0 => [3]
    | 2 => [5]
    | _ => []
  wr := fun
    | 0 => fun i => (Nat.ble 2 i && Nat.ble i 5) || (Nat.ble 14 i && Nat.ble i 56)
    | 2 => fun i => Nat.beq i 2 || Nat.beq i 5 || (Nat.ble 46 i && Nat.ble i 56)
    | _ => fun _ => false
  sched := fun
    | 12 => (.take 0 (.take 1 (.take 2 (.take 3 (.take 4 (.take 5 .done))))))
    | _ => .done

set_option maxRecDepth 100000 in
theorem ok35 : (codeOk Try.f35.ntmps A35 (Try.f35.body.getD .skip) 0 && Nat.ble 1 Try.f35.ntmps) = true := by kernel_rfl
set_option maxRecDepth 100000 in
theorem lift35 {t0 : Value} {w : World} {R : Ending → World → Prop} (h : S35 t0 w R) : Calls Try.prog 35 #[t0] w R :=
  calls_of_cw (fn := Try.f35) (c := Try.f35.body.getD .skip) A35 mixes Try.func35 (by kernel_rfl) ok35
    ((by kernel_rfl : (S35 t0 w R) = cw Try.prog A35 (Try.f35.body.getD .skip) 0 (bodyQ Try.prog Try.f35 R) (frOf #[t0]) w).mp h)

def S53 (t0 t1 t2 : Value) (w : World) (R : Ending → World → Prop) : Prop :=
  callW Try.prog (.func (.func 65) #[] #[]) [t0] w fun t8 w =>
  unQ .not t8 fun t9 =>
  gd t9 false (fun k => k t1 w) w fun t11 w =>
  gd t9 false (fun k => callW Try.prog (.func (.func 66) #[] #[]) [t11] w k) w fun t12 w =>
  gd t9 false (fun k => unQ .not t12 fun v => k v w) w fun t13 w =>
  pickQ t9 (.bool true) t13 fun t14 =>
  gd t14 false (fun k => k t2 w) w fun t16 w =>
  gd t14 false (fun k => callW Try.prog (.func (.func 66) #[] #[]) [t16] w k) w fun t17 w =>
  gd t14 false (fun k => unQ .not t17 fun v => k v w) w fun t18 w =>
  pickQ t14 (.bool true) t18 fun t19 =>
  condW t19 (
    R (.returned (.int .i64 2)) w
  ) (
    R (.returned (.int .i64 0)) w
  )

def A53 : Ann where
  live := fun _ => []
  wr := fun _ _ => false
  sched := fun _ => .done

set_option maxRecDepth 100000 in
theorem ok53 : (codeOk Try.f53.ntmps A53 (Try.f53.body.getD .skip) 0 && Nat.ble 3 Try.f53.ntmps) = true := by kernel_rfl
set_option maxRecDepth 100000 in
theorem lift53 {t0 t1 t2 : Value} {w : World} {R : Ending → World → Prop} (h : S53 t0 t1 t2 w R) : Calls Try.prog 53 #[t0, t1, t2] w R :=
  calls_of_cw (fn := Try.f53) (c := Try.f53.body.getD .skip) A53 mixes Try.func53 (by kernel_rfl) ok53
    ((by kernel_rfl : (S53 t0 t1 t2 w R) = cw Try.prog A53 (Try.f53.body.getD .skip) 0 (bodyQ Try.prog Try.f53 R) (frOf #[t0, t1, t2]) w).mp h)

def S23 (t0 t1 t2 : Value) (w : World) (R : Ending → World → Prop) : Prop :=
  callW Try.prog (.func (.func 35) #[] #[]) [t0] w fun t8 w =>
  unQ .not t8 fun t9 =>
  gd t9 false (fun k => k t1 w) w fun t11 w =>
  gd t9 false (fun k => callW Try.prog (.func (.func 68) #[] #[]) [t11] w k) w fun t12 w =>
  gd t9 false (fun k => unQ .not t12 fun v => k v w) w fun t13 w =>
  pickQ t9 (.bool true) t13 fun t14 =>
  gd t14 false (fun k => k t2 w) w fun t16 w =>
  gd t14 false (fun k => callW Try.prog (.func (.func 68) #[] #[]) [t16] w k) w fun t17 w =>
  gd t14 false (fun k => unQ .not t17 fun v => k v w) w fun t18 w =>
  pickQ t14 (.bool true) t18 fun t19 =>
  condW t19 (
    R (.returned (.int .i64 2)) w
  ) (
    R (.returned (.int .i64 0)) w
  )

def A23 : Ann where
  live := fun _ => []
  wr := fun _ _ => false
  sched := fun _ => .done

set_option maxRecDepth 100000 in
theorem ok23 : (codeOk Try.f23.ntmps A23 (Try.f23.body.getD .skip) 0 && Nat.ble 3 Try.f23.ntmps) = true := by kernel_rfl
set_option maxRecDepth 100000 in
theorem lift23 {t0 t1 t2 : Value} {w : World} {R : Ending → World → Prop} (h : S23 t0 t1 t2 w R) : Calls Try.prog 23 #[t0, t1, t2] w R :=
  calls_of_cw (fn := Try.f23) (c := Try.f23.body.getD .skip) A23 mixes Try.func23 (by kernel_rfl) ok23
    ((by kernel_rfl : (S23 t0 t1 t2 w R) = cw Try.prog A23 (Try.f23.body.getD .skip) 0 (bodyQ Try.prog Try.f23 R) (frOf #[t0, t1, t2]) w).mp h)

def S73 (t0 : Value) (w : World) (R : Ending → World → Prop) : Prop :=
  Loop2 (.int .i64 1) (.int .i64 0) w fun _ t3 t5 w next =>
    binQ Try.prog w .lss 3 false t5 t0 fun t6 =>
    condW t6 (
      binQ Try.prog w .mul 3 true t3 (.int .i64 8) fun t8 =>
      binQ Try.prog w .add 3 true t5 (.int .i64 1) fun t9 =>
      next t8 t9 w
    ) (
      R (.returned t3) w
    )

def A73 : Ann where
  live := fun
    | 0 => [3, 5]
    | _ => []
  wr := fun
    | 0 => fun i => Nat.beq i 3 || (Nat.ble 5 i && Nat.ble i 9)
    | _ => fun _ => false
  sched := fun _ => .done

set_option maxRecDepth 100000 in
theorem ok73 : (codeOk Try.f73.ntmps A73 (Try.f73.body.getD .skip) 0 && Nat.ble 1 Try.f73.ntmps) = true := by kernel_rfl
set_option maxRecDepth 100000 in
theorem lift73 {t0 : Value} {w : World} {R : Ending → World → Prop} (h : S73 t0 w R) : Calls Try.prog 73 #[t0] w R :=
  calls_of_cw (fn := Try.f73) (c := Try.f73.body.getD .skip) A73 mixes Try.func73 (by kernel_rfl) ok73
    ((by kernel_rfl : (S73 t0 w R) = cw Try.prog A73 (Try.f73.body.getD .skip) 0 (bodyQ Try.prog Try.f73 R) (frOf #[t0]) w).mp h)

def S58 (t0 : Value) (w : World) (R : Ending → World → Prop) : Prop :=
  ln1 t0 fun t7 =>
  Loop2 (.int .i64 0) (.int .i64 0) w fun _ t3 t8 w next =>
    binQ Try.prog w .lss 3 false t8 t7 fun t9 =>
    condW t9 (
      iaS 1 t0 t8 fun t10 =>
      ld1 w t10 fun t11 =>
      binQ Try.prog w .mul 3 true t3 (.int .i64 8) fun t13 =>
      binQ Try.prog w .add 3 false t13 t11 fun t15 =>
      binQ Try.prog w .add 3 true t8 (.int .i64 1) fun t16 =>
      next t15 t16 w
    ) (
      R (.returned t3) w
    )

def A58 : Ann where
  live := fun
    | 0 => [3, 8]
    | _ => []
  wr := fun
    | 0 => fun i => Nat.beq i 3 || Nat.beq i 5 || (Nat.ble 8 i && Nat.ble i 16)
    | _ => fun _ => false
  sched := fun _ => .done

set_option maxRecDepth 100000 in
theorem ok58 : (codeOk Try.f58.ntmps A58 (Try.f58.body.getD .skip) 0 && Nat.ble 1 Try.f58.ntmps) = true := by kernel_rfl
set_option maxRecDepth 100000 in
theorem lift58 {t0 : Value} {w : World} {R : Ending → World → Prop} (h : S58 t0 w R) : Calls Try.prog 58 #[t0] w R :=
  calls_of_cw (fn := Try.f58) (c := Try.f58.body.getD .skip) A58 mixes Try.func58 (by kernel_rfl) ok58
    ((by kernel_rfl : (S58 t0 w R) = cw Try.prog A58 (Try.f58.body.getD .skip) 0 (bodyQ Try.prog Try.f58 R) (frOf #[t0]) w).mp h)

def S102 (t0 t1 : Value) (w : World) (R : Ending → World → Prop) : Prop :=
  ln1 t0 fun t7 =>
  Loop1 (.int .i64 0) w fun _ t8 w next =>
    binQ Try.prog w .lss 3 false t8 t7 fun t9 =>
    condW t9 (
      iaS 1 t0 t8 fun t14 =>
      ld1 w t14 fun t15 =>
      callW Try.prog t1 [t15] w fun t16 w =>
      condW t16 (
        R (.returned t8) w
      ) (
        binQ Try.prog w .add 3 true t8 (.int .i64 1) fun t18 =>
        next t18 w
      )
    ) (
      R (.returned (.int .i64 (-1))) w
    )

def A102 : Ann where
  live := fun
    | 0 => [8]
    | _ => []
  wr := fun
    | 0 => fun i => (Nat.ble 4 i && Nat.ble i 5) || (Nat.ble 8 i && Nat.ble i 18)
    | _ => fun _ => false
  sched := fun _ => .done

set_option maxRecDepth 100000 in
theorem ok102 : (codeOk Try.f102.ntmps A102 (Try.f102.body.getD .skip) 0 && Nat.ble 2 Try.f102.ntmps) = true := by kernel_rfl
set_option maxRecDepth 100000 in
theorem lift102 {t0 t1 : Value} {w : World} {R : Ending → World → Prop} (h : S102 t0 t1 w R) : Calls Try.prog 102 #[t0, t1] w R :=
  calls_of_cw (fn := Try.f102) (c := Try.f102.body.getD .skip) A102 mixes Try.func102 (by kernel_rfl) ok102
    ((by kernel_rfl : (S102 t0 t1 w R) = cw Try.prog A102 (Try.f102.body.getD .skip) 0 (bodyQ Try.prog Try.f102 R) (frOf #[t0, t1]) w).mp h)

def S54 (t0 t1 : Value) (w : World) (R : Ending → World → Prop) : Prop :=
  callW Try.prog (.func (.func 102) #[] #[]) [t0, t1] w fun t7 w =>
  binQ Try.prog w .geq 3 true t7 (.int .i64 0) fun t8 =>
  R (.returned t8) w

def A54 : Ann where
  live := fun _ => []
  wr := fun _ _ => false
  sched := fun _ => .done

set_option maxRecDepth 100000 in
theorem ok54 : (codeOk Try.f54.ntmps A54 (Try.f54.body.getD .skip) 0 && Nat.ble 2 Try.f54.ntmps) = true := by kernel_rfl
set_option maxRecDepth 100000 in
theorem lift54 {t0 t1 : Value} {w : World} {R : Ending → World → Prop} (h : S54 t0 t1 w R) : Calls Try.prog 54 #[t0, t1] w R :=
  calls_of_cw (fn := Try.f54) (c := Try.f54.body.getD .skip) A54 mixes Try.func54 (by kernel_rfl) ok54
    ((by kernel_rfl : (S54 t0 t1 w R) = cw Try.prog A54 (Try.f54.body.getD .skip) 0 (bodyQ Try.prog Try.f54 R) (frOf #[t0, t1]) w).mp h)

def S55 (t0 : Value) (w : World) (R : Ending → World → Prop) : Prop :=
  callW Try.prog (.func (.func 56) #[] #[]) [t0] w fun t4 w =>
  unQ .not t4 fun t5 =>
  R (.returned t5) w

def A55 : Ann where
  live := fun _ => []
  wr := fun _ _ => false
  sched := fun _ => .done

set_option maxRecDepth 100000 in
theorem ok55 : (codeOk Try.f55.ntmps A55 (Try.f55.body.getD .skip) 0 && Nat.ble 1 Try.f55.ntmps) = true := by kernel_rfl
set_option maxRecDepth 100000 in
theorem lift55 {t0 : Value} {w : World} {R : Ending → World → Prop} (h : S55 t0 w R) : Calls Try.prog 55 #[t0] w R :=
  calls_of_cw (fn := Try.f55) (c := Try.f55.body.getD .skip) A55 mixes Try.func55 (by kernel_rfl) ok55
    ((by kernel_rfl : (S55 t0 w R) = cw Try.prog A55 (Try.f55.body.getD .skip) 0 (bodyQ Try.prog Try.f55 R) (frOf #[t0]) w).mp h)

def S118 (t0 : Value) (w : World) (R : Ending → World → Prop) : Prop :=
  binQ Try.prog w .neq 3 false t0 t0 fun t5 =>
  R (.returned t5) w

def A118 : Ann where
  live := fun _ => []
  wr := fun _ _ => false
  sched := fun _ => .done

set_option maxRecDepth 100000 in
theorem ok118 : (codeOk Try.f118.ntmps A118 (Try.f118.body.getD .skip) 0 && Nat.ble 1 Try.f118.ntmps) = true := by kernel_rfl
set_option maxRecDepth 100000 in
theorem lift118 {t0 : Value} {w : World} {R : Ending → World → Prop} (h : S118 t0 w R) : Calls Try.prog 118 #[t0] w R :=
  calls_of_cw (fn := Try.f118) (c := Try.f118.body.getD .skip) A118 mixes Try.func118 (by kernel_rfl) ok118
    ((by kernel_rfl : (S118 t0 w R) = cw Try.prog A118 (Try.f118.body.getD .skip) 0 (bodyQ Try.prog Try.f118 R) (frOf #[t0]) w).mp h)

def S103 (t0 t1 : Value) (w : World) (R : Ending → World → Prop) : Prop :=
  callW Try.prog (.func (.func 118) #[] #[]) [t0] w fun t8 w =>
  callW Try.prog (.func (.func 118) #[] #[]) [t1] w fun t10 w =>
  condW t8 (
    condW t10 (
      R (.returned (.int .i64 0)) w
    ) (
      R (.returned (.int .i64 (-1))) w
    )
  ) (
    condW t10 (
      R (.returned (.int .i64 1)) w
    ) (
      binQ Try.prog w .lss 3 false t0 t1 fun t16 =>
      condW t16 (
        R (.returned (.int .i64 (-1))) w
      ) (
        binQ Try.prog w .gtr 3 false t0 t1 fun t19 =>
        condW t19 (
          R (.returned (.int .i64 1)) w
        ) (
          R (.returned (.int .i64 0)) w
        )
      )
    )
  )

def A103 : Ann where
  live := fun _ => []
  wr := fun _ _ => false
  sched := fun _ => .done

set_option maxRecDepth 100000 in
theorem ok103 : (codeOk Try.f103.ntmps A103 (Try.f103.body.getD .skip) 0 && Nat.ble 2 Try.f103.ntmps) = true := by kernel_rfl
set_option maxRecDepth 100000 in
theorem lift103 {t0 t1 : Value} {w : World} {R : Ending → World → Prop} (h : S103 t0 t1 w R) : Calls Try.prog 103 #[t0, t1] w R :=
  calls_of_cw (fn := Try.f103) (c := Try.f103.body.getD .skip) A103 mixes Try.func103 (by kernel_rfl) ok103
    ((by kernel_rfl : (S103 t0 t1 w R) = cw Try.prog A103 (Try.f103.body.getD .skip) 0 (bodyQ Try.prog Try.f103 R) (frOf #[t0, t1]) w).mp h)

def S57 (t0 t1 : Value) (w : World) (R : Ending → World → Prop) : Prop :=
  ln1 t0 fun t10 =>
  Loop1 (.int .i64 0) w fun _ t11 w next =>
    binQ Try.prog w .lss 3 false t11 t10 fun t12 =>
    condW t12 (
      iaS 1 t0 t11 fun t14 =>
      ld1 w t14 fun t15 =>
      ln1 t1 fun t18 =>
      binQ Try.prog w .geq 3 false t11 t18 fun t19 =>
      condW t19 (
        R (.returned (.int .i64 1)) w
      ) (
        iaS 1 t1 t11 fun t22 =>
        ld1 w t22 fun t23 =>
        callW Try.prog (.func (.func 103) #[] #[]) [t15, t23] w fun t26 w =>
        binQ Try.prog w .neq 3 true t26 (.int .i64 0) fun t28 =>
        condW t28 (
          R (.returned t26) w
        ) (
          binQ Try.prog w .add 3 true t11 (.int .i64 1) fun t30 =>
          next t30 w
        )
      )
    ) (
      ln1 t0 fun t32 =>
      ln1 t1 fun t34 =>
      binQ Try.prog w .lss 3 false t32 t34 fun t35 =>
      condW t35 (
        R (.returned (.int .i64 (-1))) w
      ) (
        R (.returned (.int .i64 0)) w
      )
    )

def A57 : Ann where
  live := fun
    | 0 => [11]
    | _ => []
  wr := fun
    | 0 => fun i => (Nat.ble 4 i && Nat.ble i 8) || (Nat.ble 11 i && Nat.ble i 30)
    | _ => fun _ => false
  sched := fun _ => .done

set_option maxRecDepth 100000 in
theorem ok57 : (codeOk Try.f57.ntmps A57 (Try.f57.body.getD .skip) 0 && Nat.ble 2 Try.f57.ntmps) = true := by kernel_rfl
set_option maxRecDepth 100000 in
theorem lift57 {t0 t1 : Value} {w : World} {R : Ending → World → Prop} (h : S57 t0 t1 w R) : Calls Try.prog 57 #[t0, t1] w R :=
  calls_of_cw (fn := Try.f57) (c := Try.f57.body.getD .skip) A57 mixes Try.func57 (by kernel_rfl) ok57
    ((by kernel_rfl : (S57 t0 t1 w R) = cw Try.prog A57 (Try.f57.body.getD .skip) 0 (bodyQ Try.prog Try.f57 R) (frOf #[t0, t1]) w).mp h)

theorem fok56 : fnOk Try.prog 56 = true := by kernel_rfl
theorem fok62 : fnOk Try.prog 62 = true := by kernel_rfl
theorem fok66 : fnOk Try.prog 66 = true := by kernel_rfl
theorem fok68 : fnOk Try.prog 68 = true := by kernel_rfl
theorem fok117 : fnOk Try.prog 117 = true := by kernel_rfl
theorem fok100 : fnOk Try.prog 100 = true := by kernel_rfl
theorem fok65 : fnOk Try.prog 65 = true := by kernel_rfl
theorem fok35 : fnOk Try.prog 35 = true := by kernel_rfl
theorem fok53 : fnOk Try.prog 53 = true := by kernel_rfl
theorem fok23 : fnOk Try.prog 23 = true := by kernel_rfl
theorem fok73 : fnOk Try.prog 73 = true := by kernel_rfl
theorem fok58 : fnOk Try.prog 58 = true := by kernel_rfl
theorem fok102 : fnOk Try.prog 102 = true := by kernel_rfl
theorem fok54 : fnOk Try.prog 54 = true := by kernel_rfl
theorem fok55 : fnOk Try.prog 55 = true := by kernel_rfl
theorem fok118 : fnOk Try.prog 118 = true := by kernel_rfl
theorem fok103 : fnOk Try.prog 103 = true := by kernel_rfl
theorem fok57 : fnOk Try.prog 57 = true := by kernel_rfl
end Go.Proofs.Ytgalbokmgffhkaa

/- Contracts: colours, sides, sets of tiles, their errors. -/
namespace Go.Proofs.Ytgalbokmgffhkaa
open Go.Lf Go.RowKit Go.Wg

def tlC (t : Tile) : List Value := [.int .i64 t.1, .int .i64 t.2.1, .int .i64 t.2.2.1, .int .i64 t.2.2.2]
abbrev tlV (t : Tile) : Value := .agg #[.int .i64 t.1, .int .i64 t.2.1, .int .i64 t.2.2.1, .int .i64 t.2.2.2]
theorem tlC_len (t : Tile) : (tlC t).length = 4 := rfl
/-- The slice v reads as the tiles l. -/
abbrev RdT (w : World) (v : Value) (l : List Tile) : Prop := Rd 4 tlC w v l

theorem RdT.tile {w : World} {v : Value} {l : List Tile} (h : RdT w v l) {i : Nat} (hi : i < l.length) :
    ∃ b off cap, v = .slice (some ⟨b, off, none⟩) l.length cap ∧ (∀ K : Value → Prop, ldN 4 w (.pointer (some ⟨b, off + i * 4, none⟩)) K = K (tlV (tl l i))) ∧
      w.cell? ⟨b, off + i * 4, none⟩ = some (.int .i64 (tN (tl l i))) ∧ w.cell? ⟨b, off + i * 4 + 1, none⟩ = some (.int .i64 (tE (tl l i))) ∧ w.cell? ⟨b, off + i * 4 + 2, none⟩ = some (.int .i64 (tS (tl l i))) ∧ w.cell? ⟨b, off + i * 4 + 3, none⟩ = some (.int .i64 (tW (tl l i))) := by
  have hx := tl_get hi
  obtain ⟨b, off, cap, e, _, hc⟩ := h.at hx
  refine ⟨b, off, cap, e, fun K => ?_, by simpa using hc 0 _ rfl, hc 1 _ rfl, hc 2 _ rfl, hc 3 _ rfl⟩
  exact r_ldCells (l := tlC (tl l i)) rfl hc

theorem colour_calls (n : Int) (w : World) : Calls Try.prog 56 #[.int .i64 n] w fun e w' => e = .returned (.bool (colB n)) ∧ w = w' := by
  refine lift56 ?_
  unfold S56
  by_cases h0 : 0 ≤ n
  · simp only [r_ln, r_pick, r_pickT, r_pickF, r_condT, r_condF, r_gdTT, r_gdFF, r_gdTF, r_gdFT, r_gqTT, r_gqFF, r_gqTF, r_gqFT, r_not, r_lss, r_leq, r_gtr, r_geq, r_eql, r_neq, r_add, r_sub, r_min2, r_max2, r_min3, r_max3, r_fa, r_iaS, r_iaA, r_ex2a, r_ex2b, r_ex3a, r_ex3b, r_ex3c, r_nc, r_keepE, Nat.zero_add, Nat.add_zero, Nat.mul_one, Int.toNat_natCast, toNat_sub1, toNat_add1, decide_true, decide_false, Bool.not_true, Bool.not_false, if_true, if_false, Bool.false_eq_true, reduceCtorEq, h0]
    exact ⟨ret_bool (by simp [colB, h0]), trivial⟩
  · simp only [r_ln, r_pick, r_pickT, r_pickF, r_condT, r_condF, r_gdTT, r_gdFF, r_gdTF, r_gdFT, r_gqTT, r_gqFF, r_gqTF, r_gqFT, r_not, r_lss, r_leq, r_gtr, r_geq, r_eql, r_neq, r_add, r_sub, r_min2, r_max2, r_min3, r_max3, r_fa, r_iaS, r_iaA, r_ex2a, r_ex2b, r_ex3a, r_ex3b, r_ex3c, r_nc, r_keepE, Nat.zero_add, Nat.add_zero, Nat.mul_one, Int.toNat_natCast, toNat_sub1, toNat_add1, decide_true, decide_false, Bool.not_true, Bool.not_false, if_true, if_false, Bool.false_eq_true, reduceCtorEq, h0]
    exact ⟨ret_bool (by simp [colB, h0]), trivial⟩
theorem refcolour_calls (n : Int) (w : World) : Calls Try.prog 62 #[.int .i64 n] w fun e w' => e = .returned (.bool (colB n)) ∧ w = w' := by
  refine lift62 ?_
  unfold S62
  by_cases h0 : 0 ≤ n
  · simp only [r_ln, r_pick, r_pickT, r_pickF, r_condT, r_condF, r_gdTT, r_gdFF, r_gdTF, r_gdFT, r_gqTT, r_gqFF, r_gqTF, r_gqFT, r_not, r_lss, r_leq, r_gtr, r_geq, r_eql, r_neq, r_add, r_sub, r_min2, r_max2, r_min3, r_max3, r_fa, r_iaS, r_iaA, r_ex2a, r_ex2b, r_ex3a, r_ex3b, r_ex3c, r_nc, r_keepE, Nat.zero_add, Nat.add_zero, Nat.mul_one, Int.toNat_natCast, toNat_sub1, toNat_add1, decide_true, decide_false, Bool.not_true, Bool.not_false, if_true, if_false, Bool.false_eq_true, reduceCtorEq, h0]
    exact ⟨ret_bool (by simp [colB, h0]), trivial⟩
  · simp only [r_ln, r_pick, r_pickT, r_pickF, r_condT, r_condF, r_gdTT, r_gdFF, r_gdTF, r_gdFT, r_gqTT, r_gqFF, r_gqTF, r_gqFT, r_not, r_lss, r_leq, r_gtr, r_geq, r_eql, r_neq, r_add, r_sub, r_min2, r_max2, r_min3, r_max3, r_fa, r_iaS, r_iaA, r_ex2a, r_ex2b, r_ex3a, r_ex3b, r_ex3c, r_nc, r_keepE, Nat.zero_add, Nat.add_zero, Nat.mul_one, Int.toNat_natCast, toNat_sub1, toNat_add1, decide_true, decide_false, Bool.not_true, Bool.not_false, if_true, if_false, Bool.false_eq_true, reduceCtorEq, h0]
    exact ⟨ret_bool (by simp [colB, h0]), trivial⟩
theorem side_calls (n : Int) (w : World) : Calls Try.prog 66 #[.int .i64 n] w fun e w' => e = .returned (.bool (sideB n)) ∧ w = w' := by
  refine lift66 ?_
  unfold S66
  by_cases h0 : 1 ≤ n
  · simp only [r_ln, r_pick, r_pickT, r_pickF, r_condT, r_condF, r_gdTT, r_gdFF, r_gdTF, r_gdFT, r_gqTT, r_gqFF, r_gqTF, r_gqFT, r_not, r_lss, r_leq, r_gtr, r_geq, r_eql, r_neq, r_add, r_sub, r_min2, r_max2, r_min3, r_max3, r_fa, r_iaS, r_iaA, r_ex2a, r_ex2b, r_ex3a, r_ex3b, r_ex3c, r_nc, r_keepE, Nat.zero_add, Nat.add_zero, Nat.mul_one, Int.toNat_natCast, toNat_sub1, toNat_add1, decide_true, decide_false, Bool.not_true, Bool.not_false, if_true, if_false, Bool.false_eq_true, reduceCtorEq, h0]
    exact ⟨ret_bool (by simp [sideB, h0]), trivial⟩
  · simp only [r_ln, r_pick, r_pickT, r_pickF, r_condT, r_condF, r_gdTT, r_gdFF, r_gdTF, r_gdFT, r_gqTT, r_gqFF, r_gqTF, r_gqFT, r_not, r_lss, r_leq, r_gtr, r_geq, r_eql, r_neq, r_add, r_sub, r_min2, r_max2, r_min3, r_max3, r_fa, r_iaS, r_iaA, r_ex2a, r_ex2b, r_ex3a, r_ex3b, r_ex3c, r_nc, r_keepE, Nat.zero_add, Nat.add_zero, Nat.mul_one, Int.toNat_natCast, toNat_sub1, toNat_add1, decide_true, decide_false, Bool.not_true, Bool.not_false, if_true, if_false, Bool.false_eq_true, reduceCtorEq, h0]
    exact ⟨ret_bool (by simp [sideB, h0]), trivial⟩
theorem size_calls (n : Int) (w : World) : Calls Try.prog 68 #[.int .i64 n] w fun e w' => e = .returned (.bool (sideB n)) ∧ w = w' := by
  refine lift68 ?_
  unfold S68
  by_cases h0 : 1 ≤ n
  · simp only [r_ln, r_pick, r_pickT, r_pickF, r_condT, r_condF, r_gdTT, r_gdFF, r_gdTF, r_gdFT, r_gqTT, r_gqFF, r_gqTF, r_gqFT, r_not, r_lss, r_leq, r_gtr, r_geq, r_eql, r_neq, r_add, r_sub, r_min2, r_max2, r_min3, r_max3, r_fa, r_iaS, r_iaA, r_ex2a, r_ex2b, r_ex3a, r_ex3b, r_ex3c, r_nc, r_keepE, Nat.zero_add, Nat.add_zero, Nat.mul_one, Int.toNat_natCast, toNat_sub1, toNat_add1, decide_true, decide_false, Bool.not_true, Bool.not_false, if_true, if_false, Bool.false_eq_true, reduceCtorEq, h0]
    exact ⟨ret_bool (by simp [sideB, h0]), trivial⟩
  · simp only [r_ln, r_pick, r_pickT, r_pickF, r_condT, r_condF, r_gdTT, r_gdFF, r_gdTF, r_gdFT, r_gqTT, r_gqFF, r_gqTF, r_gqFT, r_not, r_lss, r_leq, r_gtr, r_geq, r_eql, r_neq, r_add, r_sub, r_min2, r_max2, r_min3, r_max3, r_fa, r_iaS, r_iaA, r_ex2a, r_ex2b, r_ex3a, r_ex3b, r_ex3c, r_nc, r_keepE, Nat.zero_add, Nat.add_zero, Nat.mul_one, Int.toNat_natCast, toNat_sub1, toNat_add1, decide_true, decide_false, Bool.not_true, Bool.not_false, if_true, if_false, Bool.false_eq_true, reduceCtorEq, h0]
    exact ⟨ret_bool (by simp [sideB, h0]), trivial⟩

/-! ### equality of tiles -/

theorem eq32 (a b c d a' b' c' d' : Int) (w : World) : (Op.equalIn 10000 32 (tlV (a, b, c, d)) (tlV (a', b', c', d'))).run Try.prog w = .ok (a == a' && (b == b' && (c == c' && d == d'))) w := by
  have u3 := Try.underlying3
  have a3 := Try.isAgg3
  have z3 := Try.sizeOf3
  have hS : Try.prog.underlying 32 = some (.struct (Try.prog.fieldsOf 32)) := by kernel_rfl
  have hp : Try.prog.stoodInHeld 32 = false := by kernel_rfl
  rw [show (10000 : Nat) = 9999 + 1 from rfl, run_equalIn_agg w 9999 32 _ _ hS hp]
  simp only [Program.fieldsOf, Try.underlying32]
  go_simp
  by_cases h1 : a = a' <;> by_cases h2 : b = b' <;> by_cases h3 : c = c' <;> by_cases h4 : d = d' <;> simp [h1, h2, h3, h4]
theorem eq32_bool (p q : Tile) : (p.1 == q.1 && (p.2.1 == q.2.1 && (p.2.2.1 == q.2.2.1 && p.2.2.2 == q.2.2.2))) = decide (p = q) := by
  obtain ⟨a, b, c, d⟩ := p
  obtain ⟨a', b', c', d'⟩ := q
  by_cases h1 : a = a' <;> by_cases h2 : b = b' <;> by_cases h3 : c = c' <;> by_cases h4 : d = d' <;> simp [h1, h2, h3, h4]
theorem r_eq32 {w : World} {lit : Bool} (p q : Tile) (K : Value → Prop) : binQ Try.prog w .eql 32 lit (tlV p) (tlV q) K = K (.bool (decide (p = q))) := by
  have hg : Try.prog.eqGuardType Try.prog.depth 32 = false := by kernel_rfl
  have hrun : ∀ w, (semBin .eql 32 lit (tlV p) (tlV q)).run Try.prog w = .ok (.value (.bool (decide (p = q)))) w := fun w => by
    unfold semBin
    have := eq32 p.1 p.2.1 p.2.2.1 p.2.2.2 q.1 q.2.1 q.2.2.1 q.2.2.2 w
    rw [eq32_bool] at this
    simp [run_eqGuard_agg w _ _ _ _ _ _ hg, run_eql_struct, this]
  refine propext ⟨?_, fun h => ⟨_, fun w' _ => hrun w', h⟩⟩
  rintro ⟨v, hv, hk⟩
  have h1 := hv w (Below.refl _ _)
  rw [hrun] at h1
  injection h1 with h1 _
  injection h1 with h1
  rw [h1]; exact hk
theorem r_ne32 {w : World} {lit : Bool} (p q : Tile) (K : Value → Prop) : binQ Try.prog w .neq 32 lit (tlV p) (tlV q) K = K (.bool (!decide (p = q))) := by
  have hg : Try.prog.eqGuardType Try.prog.depth 32 = false := by kernel_rfl
  have hrun : ∀ w, (semBin .neq 32 lit (tlV p) (tlV q)).run Try.prog w = .ok (.value (.bool (!decide (p = q)))) w := fun w => by
    unfold semBin
    have := eq32 p.1 p.2.1 p.2.2.1 p.2.2.2 q.1 q.2.1 q.2.2.1 q.2.2.2 w
    rw [eq32_bool] at this
    simp [run_eqGuard_agg w _ _ _ _ _ _ hg, run_neq_struct, this]
  refine propext ⟨?_, fun h => ⟨_, fun w' _ => hrun w', h⟩⟩
  rintro ⟨v, hv, hk⟩
  have h1 := hv w (Below.refl _ _)
  rw [hrun] at h1
  injection h1 with h1 _
  injection h1 with h1
  rw [h1]; exact hk

/-! ### lists that are looked through -/

/-- The place of the first one, or -1. -/
def idxI {α : Type} [DecidableEq α] (l : List α) (x : α) : Int := if x ∈ l then ((l.idxOf x : Nat) : Int) else -1
theorem idx_first {α : Type} [DecidableEq α] {l : List α} {i : Nat} {x : α} (h : l[i]? = some x) (hn : x ∉ l.take i) : idxI l x = i := by
  have hm : x ∈ l := List.mem_of_getElem? h
  have hi : i < l.length := (List.getElem?_eq_some_iff.1 h).1
  have hlt := List.idxOf_lt_length_iff.2 hm
  have hg : l[l.idxOf x] = x := List.getElem_idxOf hlt
  rw [idxI, if_pos hm]
  congr 1
  rcases Nat.lt_trichotomy (l.idxOf x) i with h1 | h1 | h1
  · exact absurd (by rw [List.mem_take_iff_getElem]; exact ⟨l.idxOf x, by omega, hg⟩) hn
  · exact h1
  · have hx : l[i] = x := (List.getElem?_eq_some_iff.1 h).2
    have := List.not_of_lt_findIdx (p := fun y => y == x) (xs := l) (i := i) h1
    simp [hx] at this
theorem idx_nonneg {α : Type} [DecidableEq α] (l : List α) (x : α) : decide (0 ≤ idxI l x) = decide (x ∈ l) := by
  unfold idxI
  split
  · rename_i h; simp [h]
  · rename_i h; simp [h]

set_option maxRecDepth 100000 in
theorem index_calls {v : Value} {l : List Tile} (t : Tile) (w : World) (hr : RdT w v l) (hl : l.length ≤ 1000000) : Calls Try.prog 117 #[v, tlV t] w fun e w' => e = .returned (.int .i64 (idxI l t)) ∧ Kp w w' := by
  obtain ⟨a, cap, rfl, hcap⟩ := hr.len
  refine lift117 ?_
  unfold S117
  refine r_box fun b w1 hbw hsz hb hk => ?_
  simp only [r_ln, r_pick, r_pickT, r_pickF, r_condT, r_condF, r_gdTT, r_gdFF, r_gdTF, r_gdFT, r_gqTT, r_gqFF, r_gqTF, r_gqFT, r_not, r_lss, r_leq, r_gtr, r_geq, r_eql, r_neq, r_add, r_sub, r_min2, r_max2, r_min3, r_max3, r_fa, r_iaS, r_iaA, r_ex2a, r_ex2b, r_ex3a, r_ex3b, r_ex3c, r_nc, r_keepE, Nat.zero_add, Nat.add_zero, Nat.mul_one, Int.toNat_natCast, toNat_sub1, toNat_add1, decide_true, decide_false, Bool.not_true, Bool.not_false, if_true, if_false, Bool.false_eq_true, reduceCtorEq]
  refine ⟨fun t8 wr => ∃ i : Nat, i ≤ l.length ∧ t8 = .int .i64 i ∧ t ∉ l.take i ∧ Kp w1 wr, fun t8 _ => l.length - (intOf t8).toNat, ⟨0, by omega, rfl, by simp, Kp.refl _⟩, ?_⟩
  rintro _ _ wr ⟨i, hi, rfl, hn, hkr⟩
  by_cases hlt : i < l.length
  case neg =>
    have hlt' : ¬ (i : Int) < (l.length : Int) := by omega
    simp (disch := omega) only [r_ln, r_pick, r_pickT, r_pickF, r_condT, r_condF, r_gdTT, r_gdFF, r_gdTF, r_gdFT, r_gqTT, r_gqFF, r_gqTF, r_gqFT, r_not, r_lss, r_leq, r_gtr, r_geq, r_eql, r_neq, r_add, r_sub, r_min2, r_max2, r_min3, r_max3, r_fa, r_iaS, r_iaA, r_ex2a, r_ex2b, r_ex3a, r_ex3b, r_ex3c, r_nc, r_keepE, Nat.zero_add, Nat.add_zero, Nat.mul_one, Int.toNat_natCast, toNat_sub1, toNat_add1, decide_true, decide_false, Bool.not_true, Bool.not_false, if_true, if_false, Bool.false_eq_true, reduceCtorEq, hlt']
    rw [List.take_of_length_le (by omega)] at hn
    exact ⟨by rw [idxI, if_neg hn], Kp.trans hk hkr⟩
  have hlt' : (i : Int) < (l.length : Int) := by omega
  simp (disch := omega) only [r_ln, r_pick, r_pickT, r_pickF, r_condT, r_condF, r_gdTT, r_gdFF, r_gdTF, r_gdFT, r_gqTT, r_gqFF, r_gqTF, r_gqFT, r_not, r_lss, r_leq, r_gtr, r_geq, r_eql, r_neq, r_add, r_sub, r_min2, r_max2, r_min3, r_max3, r_fa, r_iaS, r_iaA, r_ex2a, r_ex2b, r_ex3a, r_ex3b, r_ex3c, r_nc, r_keepE, Nat.zero_add, Nat.add_zero, Nat.mul_one, Int.toNat_natCast, toNat_sub1, toNat_add1, decide_true, decide_false, Bool.not_true, Bool.not_false, if_true, if_false, Bool.false_eq_true, reduceCtorEq, hlt']
  refine r_drew fun wx kx _ => ?_
  have hkx := Kp.trans hkr kx
  obtain ⟨b1, o1, _, e1, hld, _⟩ := RdT.tile (hr.kp (Kp.trans hk hkx)) hlt
  cases e1
  have hb' := block_below hb hkx
  have hx := tl_get hlt
  have e4 : ∀ K : Value → Prop, ldN 4 wx (.pointer (some ⟨b, 0, none⟩)) K = K (tlV t) := fun K => r_ldRow (n := 4) hb' rfl
  by_cases he : t = tl l i
  · simp (disch := omega) only [r_ln, r_pick, r_pickT, r_pickF, r_condT, r_condF, r_gdTT, r_gdFF, r_gdTF, r_gdFT, r_gqTT, r_gqFF, r_gqTF, r_gqFT, r_not, r_lss, r_leq, r_gtr, r_geq, r_eql, r_neq, r_add, r_sub, r_min2, r_max2, r_min3, r_max3, r_fa, r_iaS, r_iaA, r_ex2a, r_ex2b, r_ex3a, r_ex3b, r_ex3c, r_nc, r_keepE, Nat.zero_add, Nat.add_zero, Nat.mul_one, Int.toNat_natCast, toNat_sub1, toNat_add1, decide_true, decide_false, Bool.not_true, Bool.not_false, if_true, if_false, Bool.false_eq_true, reduceCtorEq, hld, e4, r_eq32, decide_eq_true he]
    rw [← he] at hx
    exact ⟨by rw [idx_first hx hn], Kp.trans hk hkx⟩
  · simp (disch := omega) only [r_ln, r_pick, r_pickT, r_pickF, r_condT, r_condF, r_gdTT, r_gdFF, r_gdTF, r_gdFT, r_gqTT, r_gqFF, r_gqTF, r_gqFT, r_not, r_lss, r_leq, r_gtr, r_geq, r_eql, r_neq, r_add, r_sub, r_min2, r_max2, r_min3, r_max3, r_fa, r_iaS, r_iaA, r_ex2a, r_ex2b, r_ex3a, r_ex3b, r_ex3c, r_nc, r_keepE, Nat.zero_add, Nat.add_zero, Nat.mul_one, Int.toNat_natCast, toNat_sub1, toNat_add1, decide_true, decide_false, Bool.not_true, Bool.not_false, if_true, if_false, Bool.false_eq_true, reduceCtorEq, hld, e4, r_eq32, decide_eq_false he]
    refine ⟨⟨i + 1, by omega, by go_num, ?_, hkx⟩, by simp only [intOf]; omega⟩
    rw [List.take_add_one, hx]
    simp [hn, he]

set_option maxRecDepth 100000 in
theorem contains_calls {v : Value} {l : List Tile} (t : Tile) (w : World) (hr : RdT w v l) (hl : l.length ≤ 1000000) : Calls Try.prog 100 #[v, tlV t] w fun e w' => e = .returned (.bool (decide (t ∈ l))) ∧ Kp w w' := by
  refine lift100 ?_
  unfold S100
  refine r_box fun b w1 hbw hsz hb hk => ?_
  rw [r_ldRow (n := 4) hb rfl]
  refine r_use fok117 (index_calls t w1 (hr.kp hk) hl) rfl ?_
  rintro _ w2 ⟨rfl, k2⟩
  refine ⟨_, rfl, ?_⟩
  simp only [r_ln, r_pick, r_pickT, r_pickF, r_condT, r_condF, r_gdTT, r_gdFF, r_gdTF, r_gdFT, r_gqTT, r_gqFF, r_gqTF, r_gqFT, r_not, r_lss, r_leq, r_gtr, r_geq, r_eql, r_neq, r_add, r_sub, r_min2, r_max2, r_min3, r_max3, r_fa, r_iaS, r_iaA, r_ex2a, r_ex2b, r_ex3a, r_ex3b, r_ex3c, r_nc, r_keepE, Nat.zero_add, Nat.add_zero, Nat.mul_one, Int.toNat_natCast, toNat_sub1, toNat_add1, decide_true, decide_false, Bool.not_true, Bool.not_false, if_true, if_false, Bool.false_eq_true, reduceCtorEq, idx_nonneg]
  exact ⟨ret_bool (decide_eq_decide.2 Iff.rfl), Kp.trans hk k2⟩

theorem addr_add0 (a : Addr) : a.add 0 = a := by
  cases a with
  | mk b o h => cases h <;> rfl
/-- s[:j] -/
theorem r_slTo {sz : Nat} {a : Option Addr} {n c : Nat} {j : Int} {k : IntKind} {K : Value → Prop} (h0 : 0 ≤ j) (h1 : j ≤ c) : slS sz (.slice a n c) none (some (.int k j)) K = K (.slice a j.toNat c) := by
  have e : (if c = 0 then a else a.map fun x => x.add (0 * sz)) = a := by
    split
    · rfl
    · cases a with
      | none => rfl
      | some x => simp [addr_add0]
  simp only [slS, cutQ, bnd, h0, h1, and_self, if_true, Nat.sub_zero, e]
/-- s[j:] -/
theorem r_slFrom {sz : Nat} {a : Option Addr} {n c : Nat} {j : Int} {k : IntKind} {K : Value → Prop} (h0 : 0 ≤ j) (h1 : j ≤ n) : slS sz (.slice a n c) (some (.int k j)) none K = K (.slice (if c = j.toNat then a else a.map fun x => x.add (j.toNat * sz)) (n - j.toNat) (c - j.toNat)) := by
  simp only [slS, cutQ, bnd, h0, h1, and_self, if_true]

set_option maxRecDepth 100000 in
/-- valid: are tiles a set? -/
theorem valid_calls {v : Value} {l : List Tile} (w : World) (hr : RdT w v l) : Calls Try.prog 65 #[v] w fun e w' => e = .returned (.bool (setB l)) ∧ Kp w w' := by
  obtain ⟨a, cap, rfl, hcap⟩ := hr.len
  refine lift65 ?_
  unfold S65
  by_cases h1 : (l.length : Int) < 1
  · simp (disch := omega) only [r_ln, r_pick, r_pickT, r_pickF, r_condT, r_condF, r_gdTT, r_gdFF, r_gdTF, r_gdFT, r_gqTT, r_gqFF, r_gqTF, r_gqFT, r_not, r_lss, r_leq, r_gtr, r_geq, r_eql, r_neq, r_add, r_sub, r_min2, r_max2, r_min3, r_max3, r_fa, r_iaS, r_iaA, r_ex2a, r_ex2b, r_ex3a, r_ex3b, r_ex3c, r_nc, r_keepE, Nat.zero_add, Nat.add_zero, Nat.mul_one, Int.toNat_natCast, toNat_sub1, toNat_add1, decide_true, decide_false, Bool.not_true, Bool.not_false, if_true, if_false, Bool.false_eq_true, reduceCtorEq, h1]
    exact ⟨ret_bool (by have : l.length = 0 := by omega
                        simp [setB, this]), Kp.refl _⟩
  by_cases h2 : (16 : Int) < l.length
  · simp (disch := omega) only [r_ln, r_pick, r_pickT, r_pickF, r_condT, r_condF, r_gdTT, r_gdFF, r_gdTF, r_gdFT, r_gqTT, r_gqFF, r_gqTF, r_gqFT, r_not, r_lss, r_leq, r_gtr, r_geq, r_eql, r_neq, r_add, r_sub, r_min2, r_max2, r_min3, r_max3, r_fa, r_iaS, r_iaA, r_ex2a, r_ex2b, r_ex3a, r_ex3b, r_ex3c, r_nc, r_keepE, Nat.zero_add, Nat.add_zero, Nat.mul_one, Int.toNat_natCast, toNat_sub1, toNat_add1, decide_true, decide_false, Bool.not_true, Bool.not_false, if_true, if_false, Bool.false_eq_true, reduceCtorEq, h1, h2]
    exact ⟨ret_bool (by have : ¬ l.length ≤ 16 := by omega
                        simp [setB, this]), Kp.refl _⟩
  simp (disch := omega) only [r_ln, r_pick, r_pickT, r_pickF, r_condT, r_condF, r_gdTT, r_gdFF, r_gdTF, r_gdFT, r_gqTT, r_gqFF, r_gqTF, r_gqFT, r_not, r_lss, r_leq, r_gtr, r_geq, r_eql, r_neq, r_add, r_sub, r_min2, r_max2, r_min3, r_max3, r_fa, r_iaS, r_iaA, r_ex2a, r_ex2b, r_ex3a, r_ex3b, r_ex3c, r_nc, r_keepE, Nat.zero_add, Nat.add_zero, Nat.mul_one, Int.toNat_natCast, toNat_sub1, toNat_add1, decide_true, decide_false, Bool.not_true, Bool.not_false, if_true, if_false, Bool.false_eq_true, reduceCtorEq, h1, h2]
  refine ⟨fun t15 wr => ∃ i : Nat, i ≤ l.length ∧ t15 = .int .i64 i ∧ (∀ k, k < i → (colsB (tl l k) && !decide (tl l k ∈ l.take k)) = true) ∧ Kp w wr, fun t15 _ => l.length - (intOf t15).toNat, ⟨0, by omega, rfl, fun k hk => absurd hk (by omega), Kp.refl _⟩, ?_⟩
  rintro _ _ wr ⟨i, hi, rfl, hn, hkr⟩
  by_cases hlt : i < l.length
  case neg =>
    have hlt' : ¬ (i : Int) < (l.length : Int) := by omega
    simp (disch := omega) only [r_ln, r_pick, r_pickT, r_pickF, r_condT, r_condF, r_gdTT, r_gdFF, r_gdTF, r_gdFT, r_gqTT, r_gqFF, r_gqTF, r_gqFT, r_not, r_lss, r_leq, r_gtr, r_geq, r_eql, r_neq, r_add, r_sub, r_min2, r_max2, r_min3, r_max3, r_fa, r_iaS, r_iaA, r_ex2a, r_ex2b, r_ex3a, r_ex3b, r_ex3c, r_nc, r_keepE, Nat.zero_add, Nat.add_zero, Nat.mul_one, Int.toNat_natCast, toNat_sub1, toNat_add1, decide_true, decide_false, Bool.not_true, Bool.not_false, if_true, if_false, Bool.false_eq_true, reduceCtorEq, hlt']
    refine ⟨ret_bool ?_, hkr⟩
    symm
    simp only [setB, freshB, Bool.and_eq_true, decide_eq_true_eq, List.all_eq_true, List.mem_range]
    exact ⟨⟨by omega, by omega⟩, fun k hk => by have := hn k (by omega); simpa using this⟩
  have hlt' : (i : Int) < (l.length : Int) := by omega
  obtain ⟨b1, o1, _, e1, hld, _⟩ := RdT.tile (hr.kp hkr) hlt
  cases e1
  simp (disch := omega) only [r_ln, r_pick, r_pickT, r_pickF, r_condT, r_condF, r_gdTT, r_gdFF, r_gdTF, r_gdFT, r_gqTT, r_gqFF, r_gqTF, r_gqFT, r_not, r_lss, r_leq, r_gtr, r_geq, r_eql, r_neq, r_add, r_sub, r_min2, r_max2, r_min3, r_max3, r_fa, r_iaS, r_iaA, r_ex2a, r_ex2b, r_ex3a, r_ex3b, r_ex3c, r_nc, r_keepE, Nat.zero_add, Nat.add_zero, Nat.mul_one, Int.toNat_natCast, toNat_sub1, toNat_add1, decide_true, decide_false, Bool.not_true, Bool.not_false, if_true, if_false, Bool.false_eq_true, reduceCtorEq, hlt', hld]
  refine r_box fun b4 w1 e4 s4 h4 k4 => ?_
  refine r_stAll (n := 4) (ty := 32) (by kernel_rfl) rfl (by intro u hu; simp [Value.cells] at hu; rcases hu with rfl | rfl | rfl | rfl <;> rfl) h4 rfl fun w2 c2 s2 h2' => ?_
  have k02 : Kp wr w2 := Kp.of_chg k4 c2 fun i e => by omega
  refine r_drew fun w3 k3 _ => ?_
  have k03 := Kp.trans k02 k3
  have h3 := block_below h2' k3
  have cN : w3.cell? ⟨b4, 0, none⟩ = some (.int .i64 (tN (tl l i))) := by rw [cell_row h3]; rfl
  have cE : w3.cell? ⟨b4, 1, none⟩ = some (.int .i64 (tE (tl l i))) := by rw [cell_row h3]; rfl
  have cS : w3.cell? ⟨b4, 2, none⟩ = some (.int .i64 (tS (tl l i))) := by rw [cell_row h3]; rfl
  have cW : w3.cell? ⟨b4, 3, none⟩ = some (.int .i64 (tW (tl l i))) := by rw [cell_row h3]; rfl
  have bad : (colsB (tl l i) && !decide (tl l i ∈ l.take i)) = false → (setB l) = false := fun hb => by
    cases hs : setB l
    · rfl
    · simp only [setB, freshB, Bool.and_eq_true, decide_eq_true_eq, List.all_eq_true, List.mem_range] at hs
      have := hs.2 i hlt
      rw [this.1, this.2] at hb
      cases hb
  simp (disch := omega) only [r_ln, r_pick, r_pickT, r_pickF, r_condT, r_condF, r_gdTT, r_gdFF, r_gdTF, r_gdFT, r_gqTT, r_gqFF, r_gqTF, r_gqFT, r_not, r_lss, r_leq, r_gtr, r_geq, r_eql, r_neq, r_add, r_sub, r_min2, r_max2, r_min3, r_max3, r_fa, r_iaS, r_iaA, r_ex2a, r_ex2b, r_ex3a, r_ex3b, r_ex3c, r_nc, r_keepE, Nat.zero_add, Nat.add_zero, Nat.mul_one, Int.toNat_natCast, toNat_sub1, toNat_add1, decide_true, decide_false, Bool.not_true, Bool.not_false, if_true, if_false, Bool.false_eq_true, reduceCtorEq, r_ld cN]
  refine r_use fok56 (colour_calls _ w3) rfl ?_
  rintro _ _ ⟨rfl, rfl⟩
  refine ⟨_, rfl, Below.refl _ _, ?_⟩
  have hcols : colsB (tl l i) = (colB (tN (tl l i)) && colB (tE (tl l i)) && colB (tS (tl l i)) && colB (tW (tl l i))) := rfl
  have kall : Kp w w3 := Kp.trans hkr k03
  cases b1 : colB (tN (tl l i)) with
  | false =>
    simp (disch := omega) only [r_ln, r_pick, r_pickT, r_pickF, r_condT, r_condF, r_gdTT, r_gdFF, r_gdTF, r_gdFT, r_gqTT, r_gqFF, r_gqTF, r_gqFT, r_not, r_lss, r_leq, r_gtr, r_geq, r_eql, r_neq, r_add, r_sub, r_min2, r_max2, r_min3, r_max3, r_fa, r_iaS, r_iaA, r_ex2a, r_ex2b, r_ex3a, r_ex3b, r_ex3c, r_nc, r_keepE, Nat.zero_add, Nat.add_zero, Nat.mul_one, Int.toNat_natCast, toNat_sub1, toNat_add1, decide_true, decide_false, Bool.not_true, Bool.not_false, if_true, if_false, Bool.false_eq_true, reduceCtorEq]
    exact ⟨Below.refl _ _, Below.refl _ _, ret_bool (bad (by simp [hcols, b1])).symm, kall⟩
  | true =>
  simp (disch := omega) only [r_ln, r_pick, r_pickT, r_pickF, r_condT, r_condF, r_gdTT, r_gdFF, r_gdTF, r_gdFT, r_gqTT, r_gqFF, r_gqTF, r_gqFT, r_not, r_lss, r_leq, r_gtr, r_geq, r_eql, r_neq, r_add, r_sub, r_min2, r_max2, r_min3, r_max3, r_fa, r_iaS, r_iaA, r_ex2a, r_ex2b, r_ex3a, r_ex3b, r_ex3c, r_nc, r_keepE, Nat.zero_add, Nat.add_zero, Nat.mul_one, Int.toNat_natCast, toNat_sub1, toNat_add1, decide_true, decide_false, Bool.not_true, Bool.not_false, if_true, if_false, Bool.false_eq_true, reduceCtorEq, r_ld cE]
  refine r_use fok56 (colour_calls _ w3) rfl ?_
  rintro _ _ ⟨rfl, rfl⟩
  refine ⟨_, rfl, ?_⟩
  cases b2 : colB (tE (tl l i)) with
  | false =>
    simp (disch := omega) only [r_ln, r_pick, r_pickT, r_pickF, r_condT, r_condF, r_gdTT, r_gdFF, r_gdTF, r_gdFT, r_gqTT, r_gqFF, r_gqTF, r_gqFT, r_not, r_lss, r_leq, r_gtr, r_geq, r_eql, r_neq, r_add, r_sub, r_min2, r_max2, r_min3, r_max3, r_fa, r_iaS, r_iaA, r_ex2a, r_ex2b, r_ex3a, r_ex3b, r_ex3c, r_nc, r_keepE, Nat.zero_add, Nat.add_zero, Nat.mul_one, Int.toNat_natCast, toNat_sub1, toNat_add1, decide_true, decide_false, Bool.not_true, Bool.not_false, if_true, if_false, Bool.false_eq_true, reduceCtorEq]
    exact ⟨Below.refl _ _, Below.refl _ _, ret_bool (bad (by simp [hcols, b2])).symm, kall⟩
  | true =>
  simp (disch := omega) only [r_ln, r_pick, r_pickT, r_pickF, r_condT, r_condF, r_gdTT, r_gdFF, r_gdTF, r_gdFT, r_gqTT, r_gqFF, r_gqTF, r_gqFT, r_not, r_lss, r_leq, r_gtr, r_geq, r_eql, r_neq, r_add, r_sub, r_min2, r_max2, r_min3, r_max3, r_fa, r_iaS, r_iaA, r_ex2a, r_ex2b, r_ex3a, r_ex3b, r_ex3c, r_nc, r_keepE, Nat.zero_add, Nat.add_zero, Nat.mul_one, Int.toNat_natCast, toNat_sub1, toNat_add1, decide_true, decide_false, Bool.not_true, Bool.not_false, if_true, if_false, Bool.false_eq_true, reduceCtorEq, r_ld cS]
  refine r_use fok56 (colour_calls _ w3) rfl ?_
  rintro _ _ ⟨rfl, rfl⟩
  refine ⟨_, rfl, ?_⟩
  cases b3 : colB (tS (tl l i)) with
  | false =>
    simp (disch := omega) only [r_ln, r_pick, r_pickT, r_pickF, r_condT, r_condF, r_gdTT, r_gdFF, r_gdTF, r_gdFT, r_gqTT, r_gqFF, r_gqTF, r_gqFT, r_not, r_lss, r_leq, r_gtr, r_geq, r_eql, r_neq, r_add, r_sub, r_min2, r_max2, r_min3, r_max3, r_fa, r_iaS, r_iaA, r_ex2a, r_ex2b, r_ex3a, r_ex3b, r_ex3c, r_nc, r_keepE, Nat.zero_add, Nat.add_zero, Nat.mul_one, Int.toNat_natCast, toNat_sub1, toNat_add1, decide_true, decide_false, Bool.not_true, Bool.not_false, if_true, if_false, Bool.false_eq_true, reduceCtorEq]
    exact ⟨Below.refl _ _, Below.refl _ _, ret_bool (bad (by simp [hcols, b3])).symm, kall⟩
  | true =>
  simp (disch := omega) only [r_ln, r_pick, r_pickT, r_pickF, r_condT, r_condF, r_gdTT, r_gdFF, r_gdTF, r_gdFT, r_gqTT, r_gqFF, r_gqTF, r_gqFT, r_not, r_lss, r_leq, r_gtr, r_geq, r_eql, r_neq, r_add, r_sub, r_min2, r_max2, r_min3, r_max3, r_fa, r_iaS, r_iaA, r_ex2a, r_ex2b, r_ex3a, r_ex3b, r_ex3c, r_nc, r_keepE, Nat.zero_add, Nat.add_zero, Nat.mul_one, Int.toNat_natCast, toNat_sub1, toNat_add1, decide_true, decide_false, Bool.not_true, Bool.not_false, if_true, if_false, Bool.false_eq_true, reduceCtorEq, r_ld cW]
  refine r_use fok56 (colour_calls _ w3) rfl ?_
  rintro _ _ ⟨rfl, rfl⟩
  refine ⟨_, rfl, Below.refl _ _, ?_⟩
  cases b4' : colB (tW (tl l i)) with
  | false =>
    simp (disch := omega) only [r_ln, r_pick, r_pickT, r_pickF, r_condT, r_condF, r_gdTT, r_gdFF, r_gdTF, r_gdFT, r_gqTT, r_gqFF, r_gqTF, r_gqFT, r_not, r_lss, r_leq, r_gtr, r_geq, r_eql, r_neq, r_add, r_sub, r_min2, r_max2, r_min3, r_max3, r_fa, r_iaS, r_iaA, r_ex2a, r_ex2b, r_ex3a, r_ex3b, r_ex3c, r_nc, r_keepE, Nat.zero_add, Nat.add_zero, Nat.mul_one, Int.toNat_natCast, toNat_sub1, toNat_add1, decide_true, decide_false, Bool.not_true, Bool.not_false, if_true, if_false, Bool.false_eq_true, reduceCtorEq]
    exact ⟨Below.refl _ _, ret_bool (bad (by simp [hcols, b4'])).symm, kall⟩
  | true =>
  simp (disch := omega) only [r_ln, r_pick, r_pickT, r_pickF, r_condT, r_condF, r_gdTT, r_gdFF, r_gdTF, r_gdFT, r_gqTT, r_gqFF, r_gqTF, r_gqFT, r_not, r_lss, r_leq, r_gtr, r_geq, r_eql, r_neq, r_add, r_sub, r_min2, r_max2, r_min3, r_max3, r_fa, r_iaS, r_iaA, r_ex2a, r_ex2b, r_ex3a, r_ex3b, r_ex3c, r_nc, r_keepE, Nat.zero_add, Nat.add_zero, Nat.mul_one, Int.toNat_natCast, toNat_sub1, toNat_add1, decide_true, decide_false, Bool.not_true, Bool.not_false, if_true, if_false, Bool.false_eq_true, reduceCtorEq, r_slTo, r_ldRow (n := 4) h3 rfl]
  refine r_use fok100 (contains_calls (l := l.take i) (tl l i) w3 ((hr.kp (Kp.trans hkr k03)).take hi) (by rw [List.length_take]; omega)) rfl ?_
  rintro _ w5 ⟨rfl, k5⟩
  refine ⟨_, rfl, k5, ?_⟩
  have kall5 := Kp.trans kall k5
  cases b5 : decide (tl l i ∈ l.take i) with
  | true =>
    simp (disch := omega) only [r_ln, r_pick, r_pickT, r_pickF, r_condT, r_condF, r_gdTT, r_gdFF, r_gdTF, r_gdFT, r_gqTT, r_gqFF, r_gqTF, r_gqFT, r_not, r_lss, r_leq, r_gtr, r_geq, r_eql, r_neq, r_add, r_sub, r_min2, r_max2, r_min3, r_max3, r_fa, r_iaS, r_iaA, r_ex2a, r_ex2b, r_ex3a, r_ex3b, r_ex3c, r_nc, r_keepE, Nat.zero_add, Nat.add_zero, Nat.mul_one, Int.toNat_natCast, toNat_sub1, toNat_add1, decide_true, decide_false, Bool.not_true, Bool.not_false, if_true, if_false, Bool.false_eq_true, reduceCtorEq]
    exact ⟨ret_bool (bad (by simp [b5])).symm, kall5⟩
  | false =>
  simp (disch := omega) only [r_ln, r_pick, r_pickT, r_pickF, r_condT, r_condF, r_gdTT, r_gdFF, r_gdTF, r_gdFT, r_gqTT, r_gqFF, r_gqTF, r_gqFT, r_not, r_lss, r_leq, r_gtr, r_geq, r_eql, r_neq, r_add, r_sub, r_min2, r_max2, r_min3, r_max3, r_fa, r_iaS, r_iaA, r_ex2a, r_ex2b, r_ex3a, r_ex3b, r_ex3c, r_nc, r_keepE, Nat.zero_add, Nat.add_zero, Nat.mul_one, Int.toNat_natCast, toNat_sub1, toNat_add1, decide_true, decide_false, Bool.not_true, Bool.not_false, if_true, if_false, Bool.false_eq_true, reduceCtorEq]
  refine ⟨⟨i + 1, by omega, by go_num, fun k hk => ?_, kall5⟩, by simp only [intOf]; omega⟩
  by_cases hki : k < i
  · exact hn k hki
  · have : k = i := by omega
    subst this
    simp [hcols, b1, b2, b3, b4', b5]

end Go.Proofs.Ytgalbokmgffhkaa
