/- Texts of my own, merged by program: Wa Lift7. -/
import Derived.Test.YtfmppkplmfbjpaaGreatDoorM02
import Derived.Scope
set_option linter.all false
/- Wang tiles, plainly: sets, rows of tiles, their colours as numbers. No program. -/
namespace Go.Wg

/-- North, East, South, West. -/
abbrev Tile := Int × Int × Int × Int
abbrev tN (t : Tile) : Int := t.1
abbrev tE (t : Tile) : Int := t.2.1
abbrev tS (t : Tile) : Int := t.2.2.1
abbrev tW (t : Tile) : Int := t.2.2.2
abbrev t0 : Tile := (0, 0, 0, 0)

/-- The tile at a place of a set. -/
def tl (l : List Tile) (i : Nat) : Tile := l.getD i t0
theorem tl_get {l : List Tile} {i : Nat} (h : i < l.length) : l[i]? = some (tl l i) := by
  simp [tl, List.getD_eq_getElem?_getD, h]

def colB (n : Int) : Bool := decide (0 ≤ n ∧ n ≤ 7)
def colsB (t : Tile) : Bool := colB (tN t) && colB (tE t) && colB (tS t) && colB (tW t)
/-- Tiles from place i on are well coloured and none of them stands before. -/
def freshB (l : List Tile) : Bool := (List.range l.length).all fun i => colsB (tl l i) && !decide (tl l i ∈ l.take i)
def setB (l : List Tile) : Bool := decide (1 ≤ l.length ∧ l.length ≤ 16) && freshB l
def sideB (n : Int) : Bool := decide (1 ≤ n ∧ n ≤ 4)

structure IsSet (l : List Tile) : Prop where
  pos : 1 ≤ l.length
  most : l.length ≤ 16
  cols : ∀ t ∈ l, colsB t = true
  nodup : l.Nodup

theorem getD_mem {α : Type} {l : List α} {i : Nat} {d : α} (h : i < l.length) : l.getD i d ∈ l := by
  rw [List.getD_eq_getElem?_getD, List.getElem?_eq_getElem h]
  exact List.getElem_mem h

theorem nodup_take {α : Type} {d : α} : ∀ {l : List α}, (∀ i, i < l.length → l.getD i d ∉ l.take i) → l.Nodup := by
  intro l h
  rw [List.nodup_iff_pairwise_ne] at *
  rw [List.pairwise_iff_getElem]
  intro i j hi hj hij e
  refine h j hj ?_
  rw [List.getD_eq_getElem?_getD, List.getElem?_eq_getElem hj, Option.getD_some, ← e, List.mem_take_iff_getElem]
  exact ⟨i, by omega, rfl⟩

theorem isSet_of {l : List Tile} (h : setB l = true) : IsSet l := by
  simp only [setB, freshB, Bool.and_eq_true, decide_eq_true_eq, List.all_eq_true, List.mem_range, Bool.not_eq_true', decide_eq_false_iff_not] at h
  obtain ⟨⟨h1, h2⟩, h3⟩ := h
  refine ⟨h1, h2, fun t ht => ?_, nodup_take (d := t0) fun i hi => (h3 i hi).2⟩
  obtain ⟨i, hi, rfl⟩ := List.getElem_of_mem ht
  have := (h3 i hi).1
  rwa [tl, List.getD_eq_getElem?_getD, List.getElem?_eq_getElem hi] at this

theorem cols_range {t : Tile} (h : colsB t = true) : (0 ≤ tN t ∧ tN t ≤ 7) ∧ (0 ≤ tE t ∧ tE t ≤ 7) ∧ (0 ≤ tS t ∧ tS t ≤ 7) ∧ (0 ≤ tW t ∧ tW t ≤ 7) := by
  simp only [colsB, colB, Bool.and_eq_true, decide_eq_true_eq] at h
  exact ⟨h.1.1.1, h.1.1.2, h.1.2, h.2⟩

/-! ### rows -/

theorem tl_cols {l : List Tile} (hs : IsSet l) {i : Nat} (hi : i < l.length) : (0 ≤ tN (tl l i) ∧ tN (tl l i) ≤ 7) ∧ (0 ≤ tE (tl l i) ∧ tE (tl l i) ≤ 7) ∧ (0 ≤ tS (tl l i) ∧ tS (tl l i) ≤ 7) ∧ (0 ≤ tW (tl l i) ∧ tW (tl l i) ≤ 7) :=
  cols_range (hs.cols _ (by unfold tl; exact getD_mem hi))

/-- May tile i come behind the row r? -/
def fits (l : List Tile) (r : List Nat) (i : Nat) : Bool := decide (r = []) || decide (tE (tl l (r.getLastD 0)) = tW (tl l i))
/-- All rows that go on from r by n tiles. -/
def exts (l : List Tile) : Nat → List Nat → List (List Nat)
  | 0, r => [r]
  | n + 1, r => (List.range l.length).flatMap fun i => if fits l r i = true then exts l n (r ++ [i]) else []
def rowsL (l : List Tile) (w : Nat) : List (List Nat) := exts l w []

/-- Colours as a number to the base 8. -/
def code (c : List Int) : Int := c.foldl (fun n x => n * 8 + x) 0
theorem code_push (c : List Int) (x : Int) : code (c ++ [x]) = code c * 8 + x := by simp [code]
theorem code_nil : code [] = 0 := rfl
def norths (l : List Tile) (r : List Nat) : List Int := r.map fun i => tN (tl l i)
def souths (l : List Tile) (r : List Nat) : List Int := r.map fun i => tS (tl l i)

/-- A row's record: tiles (four of them, those behind the row are 0), North and South as numbers, whether it closes. -/
abbrev Line := List Int × Int × Int × Bool
def pad4 (r : List Nat) : List Int := (List.range 4).map fun k => ((r.getD k 0 : Nat) : Int)
def partOf (l : List Tile) (r : List Nat) : Line := (pad4 r, code (norths l r), code (souths l r), false)
def closes (l : List Tile) (r : List Nat) : Bool := decide (tW (tl l (r.getD 0 0)) = tE (tl l (r.getLastD 0)))
def lineOf (l : List Tile) (r : List Nat) : Line := (pad4 r, code (norths l r), code (souths l r), closes l r)

theorem pad4_len (r : List Nat) : (pad4 r).length = 4 := by simp [pad4]
theorem pad4_at (r : List Nat) {k : Nat} (hk : k < 4) : (pad4 r).getD k 0 = ((r.getD k 0 : Nat) : Int) := by
  simp [pad4, List.getD_eq_getElem?_getD, hk]
theorem pad4_push {r : List Nat} {i : Nat} (h : r.length < 4) : pad4 (r ++ [i]) = (pad4 r).set r.length (i : Int) := by
  refine List.ext_getElem (by simp [pad4]) fun k h1 h2 => ?_
  have hk : k < 4 := by simpa [pad4] using h1
  by_cases e : k = r.length
  · subst e
    simp [pad4]
  · rw [List.getElem_set_ne (by omega)]
    simp only [pad4, List.getElem_map, List.getElem_range, List.getD_eq_getElem?_getD]
    congr 2
    by_cases hlt : k < r.length
    · rw [List.getElem?_append_left hlt]
    · rw [List.getElem?_eq_none (by simp; omega), List.getElem?_eq_none (by omega)]

theorem code_bound {c : List Int} (h : ∀ x ∈ c, 0 ≤ x ∧ x ≤ 7) : 0 ≤ code c ∧ code c < 8 ^ c.length := by
  have key : ∀ (c : List Int) (n : Int), (∀ x ∈ c, 0 ≤ x ∧ x ≤ 7) → 0 ≤ n → 0 ≤ c.foldl (fun n x => n * 8 + x) n ∧ c.foldl (fun n x => n * 8 + x) n < (n + 1) * 8 ^ c.length := by
    intro c
    induction c with
    | nil => intro n _ hn; simp; omega
    | cons y c ih =>
      intro n h hn
      have hy := h y (by simp)
      have := ih (n * 8 + y) (fun x hx => h x (by simp [hx])) (by omega)
      simp only [List.foldl_cons, List.length_cons]
      refine ⟨this.1, Int.lt_of_lt_of_le this.2 ?_⟩
      rw [Int.pow_succ, Int.mul_comm (8 ^ c.length) 8, ← Int.mul_assoc]
      exact Int.mul_le_mul_of_nonneg_right (by omega) (Int.pow_nonneg (by omega))
  have := key c 0 h (Int.le_refl 0)
  simpa [code] using this

/-- What a row of the list is. -/
structure IsRow (l : List Tile) (r : List Nat) : Prop where
  lt : ∀ i ∈ r, i < l.length
  chain : ∀ k, k + 1 < r.length → tE (tl l (r.getD k 0)) = tW (tl l (r.getD (k + 1) 0))

theorem mem_exts {l : List Tile} : ∀ (n : Nat) (r q : List Nat), q ∈ exts l n r ↔ ∃ s, q = r ++ s ∧ s.length = n ∧ (∀ i ∈ s, i < l.length) ∧ ∀ k, k < n → fits l (r ++ s.take k) (s.getD k 0) = true
  | 0, r, q => by
    simp only [exts, List.mem_singleton]
    constructor
    · rintro rfl
      exact ⟨[], by simp, rfl, by simp, fun k hk => absurd hk (by omega)⟩
    · rintro ⟨s, rfl, hs, _⟩
      have : s = [] := List.length_eq_zero_iff.1 hs
      simp [this]
  | n + 1, r, q => by
    simp only [exts, List.mem_flatMap, List.mem_range]
    constructor
    · rintro ⟨i, hi, hq⟩
      split at hq
      case isFalse => cases hq
      rename_i hf
      obtain ⟨s, rfl, hs, hlt, hk⟩ := (mem_exts n (r ++ [i]) q).1 hq
      refine ⟨i :: s, by simp, by simp [hs], fun j hj => ?_, fun k hkn => ?_⟩
      · rcases List.mem_cons.1 hj with rfl | hj
        · exact hi
        · exact hlt j hj
      · cases k with
        | zero => simpa using hf
        | succ k =>
          have := hk k (by omega)
          simpa using this
    · rintro ⟨s, rfl, hs, hlt, hk⟩
      cases s with
      | nil => simp at hs
      | cons i s =>
        refine ⟨i, hlt i (by simp), ?_⟩
        have h0 := hk 0 (by omega)
        simp at h0
        rw [if_pos h0]
        refine (mem_exts n (r ++ [i]) _).2 ⟨s, by simp, by simpa using hs, fun j hj => hlt j (by simp [hj]), fun k hkn => ?_⟩
        have := hk (k + 1) (by omega)
        simpa using this

theorem mem_rowsL {l : List Tile} {w : Nat} {r : List Nat} : r ∈ rowsL l w ↔ r.length = w ∧ IsRow l r := by
  unfold rowsL
  rw [mem_exts]
  constructor
  · rintro ⟨s, e, hs, hlt, hk⟩
    simp only [List.nil_append] at e
    subst e
    refine ⟨hs, hlt, fun k hkl => ?_⟩
    have := hk (k + 1) (by omega)
    simp only [List.nil_append, fits, Bool.or_eq_true, decide_eq_true_eq] at this
    rcases this with h | h
    · have := congrArg List.length h
      rw [List.length_take, List.length_nil] at this
      omega
    · rw [List.take_add_one, List.getElem?_eq_getElem (by omega)] at h
      simp only [Option.toList_some, List.getLastD_concat] at h
      rw [List.getD_eq_getElem?_getD, List.getElem?_eq_getElem (by omega)]
      exact h
  · rintro ⟨hl, hr⟩
    refine ⟨r, by simp, hl, hr.lt, fun k hk => ?_⟩
    simp only [List.nil_append, fits, Bool.or_eq_true, decide_eq_true_eq]
    cases k with
    | zero => left; simp
    | succ k =>
      right
      have := hr.chain k (by omega)
      rw [List.take_add_one, List.getElem?_eq_getElem (by omega)]
      simp only [Option.toList_some, List.getLastD_concat]
      rw [List.getD_eq_getElem?_getD, List.getElem?_eq_getElem (by omega)] at this
      exact this

theorem exts_length_le {l : List Tile} (hl : l.length ≤ 16) : ∀ (n : Nat) (r : List Nat), (exts l n r).length ≤ 16 ^ n
  | 0, _ => by simp [exts]
  | n + 1, r => by
    have key : ∀ L : List Nat, (L.flatMap fun i => if fits l r i = true then exts l n (r ++ [i]) else []).length ≤ L.length * 16 ^ n := by
      intro L
      induction L with
      | nil => simp
      | cons i L ih =>
        rw [List.flatMap_cons, List.length_append, List.length_cons, Nat.add_mul, Nat.one_mul]
        have h1 : (if fits l r i = true then exts l n (r ++ [i]) else []).length ≤ 16 ^ n := by
          split
          · exact exts_length_le hl n _
          · simp
        omega
    have := key (List.range l.length)
    rw [List.length_range] at this
    rw [exts, Nat.pow_succ, Nat.mul_comm]
    exact Nat.le_trans this (Nat.mul_le_mul_right _ hl)

end Go.Wg

/- Lifting: a function whose body is a scope that no jump goes back in. By the prover. -/
namespace Go.Lf
open Go.RowKit

def cwS (P : Program) (A : Ann) : Code → Nat → (Exit → Fr → World → Prop) → Fr → World → Prop
  | .seq x y, b, Q, fr, w => cw P A x b (thn (fun fr w => cwS P A y b Q fr w) Q) fr w
  | .scope c, b, Q, fr, w => cw P A c b Q fr w
  | c, b, Q, fr, w => cw P A c b Q fr w
def dstsS : Code → List Nat
  | .seq x y => dstsC x ++ dstsS y
  | .scope c => dstsC c
  | c => dstsC c
def codeOkS (n : Nat) (A : Ann) : Code → Nat → Bool
  | .seq x y, b => codeOk n A x b && codeOkS n A y b
  | .scope c, b => codeOk n A c b
  | c, b => codeOk n A c b

theorem cwS_wp {P : Program} {A : Ann} {n : Nat} (hmix : P.follows .mixedOrders = true) {Q : Exit → Fr → World → Prop} (hQ : ∀ l fr w, ¬ Q (.goto l) fr w) :
    ∀ (c : Code) (b : Nat) (fr : Fr) (w : World) (a : Act), codeOkS n A c b = true → Mt n fr a → cwS P A c b Q fr w → c.wp P (fun e a' w' => Post n (dstsS c) fr (Q e) a' w') a w := by
  intro c
  induction c with
  | seq x y ihx ihy =>
    intro b fr w a hok hm h
    simp only [codeOkS, Bool.and_eq_true] at hok
    refine wp_seq (wp_mono (cw_wp hmix x b _ fr w a hok.1 hm h) fun e a' w' hp => ?_)
    cases e with
    | normal =>
      obtain ⟨fr', hm', hs', hk⟩ := hp
      refine wp_mono (ihy b fr' w' a' hok.2 hm' hk) fun e a'' w'' ⟨fr'', hm'', hs'', hk''⟩ => ⟨fr'', hm'', fun i hi => ?_, hk''⟩
      simp only [dstsS, List.mem_append, not_or] at hi
      rw [hs'' i hi.2, hs' i hi.1]
    | _ => exact hp.mono (fun i hi => by simp [dstsS, hi]) fun _ _ h => h
  | scope c ih =>
    intro b fr w a hok hm h
    refine wp_scope_straight (wp_mono (cw_wp hmix c b _ fr w a hok hm h) fun e a' w' hp => ?_)
    cases e with
    | goto l => exact (let ⟨fr', _, _, hk⟩ := hp; hQ l fr' w' hk)
    | _ => exact hp
  | _ => exact fun b fr w a hok hm h => cw_wp hmix _ b _ fr w a hok hm h

/-- **A CALL, BY THE LIFTED TEXT OF ITS BODY**: the body ends in a scope. -/
theorem calls_of_cwS {P : Program} {f : FuncId} {fn : Func} {c : Code} {args : Array Value} {w : World} {R : Ending → World → Prop} (A : Ann) (hmix : P.follows .mixedOrders = true)
    (hf : P.funcs[f]? = some fn) (hb : fn.body = some c) (hok : (codeOkS fn.ntmps A c 0 && Nat.ble args.size fn.ntmps) = true)
    (h : cwS P A c 0 (bodyQ P fn R) (frOf args) w) : Calls P f args w R := by
  simp only [Bool.and_eq_true, Nat.ble_eq] at hok
  have hm : Mt fn.ntmps (frOf args) { tmps := args ++ Array.replicate (fn.ntmps - args.size) undef, defers := [] } := by
    refine ⟨rfl, by simp; omega, fun i => ?_⟩
    simp only [frOf]
    rcases Nat.lt_or_ge i args.size with hi | hi
    · simp [Array.getElem?_append, hi]
    · simp only [Array.getD_eq_getD_getElem?, Array.getElem?_append_right hi, Array.getElem?_replicate, Array.getElem?_eq_none hi]
      split <;> rfl
  refine calls_of_wp hf hb (wp_mono (cwS_wp hmix (fun l fr w h => h) c 0 _ _ _ hok.1 hm h) fun e a' w' hp => ?_)
  obtain ⟨fr, hm', _, hk⟩ := hp
  cases e with
  | normal => exact ⟨hm'.defers, bodyQ_post hm' hk⟩
  | ret => exact ⟨hm'.defers, bodyQ_post hm' hk⟩
  | _ => exact hk.elim

end Go.Lf
