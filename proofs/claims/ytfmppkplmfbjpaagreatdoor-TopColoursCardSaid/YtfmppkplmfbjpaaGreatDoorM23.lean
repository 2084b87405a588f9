/- Texts of my own, merged by program: Wc Wd. -/
import Derived.Test.YtfmppkplmfbjpaaGreatDoorM22
set_option linter.all false
/- Contracts: sets in the specification, the errors of a set and measures; colours as numbers. -/
namespace Go.Proofs.YtfmppkplmfbjpaaGreatDoor
open Go.Lf Go.RowKit Go.Wg

/-- The error of a set and measures. -/
def ordErr (l : List Tile) (w h : Int) : Int := if setB l = true ∧ sideB w = true ∧ sideB h = true then 0 else 2
theorem ordErr_cases (l : List Tile) (w h : Int) : ordErr l w h = 0 ∨ ordErr l w h = 2 := by
  unfold ordErr; split
  · exact .inl rfl
  · exact .inr rfl
theorem ord_ok {l : List Tile} {w h : Int} (e : ordErr l w h = 0) : IsSet l ∧ ∃ a b : Nat, w = a ∧ h = b ∧ (1 ≤ a ∧ a ≤ 4) ∧ (1 ≤ b ∧ b ≤ 4) := by
  unfold ordErr at e
  split at e
  · rename_i q
    obtain ⟨q1, q2, q3⟩ := q
    simp only [sideB, decide_eq_true_eq] at q2 q3
    exact ⟨isSet_of q1, w.toNat, h.toNat, by omega, by omega, by omega, by omega⟩
  · cases e

set_option maxRecDepth 100000 in
theorem board_calls {v : Value} {l : List Tile} (a b : Int) (w : World) (hr : RdT w v l) : Calls Tryz.prog 22 #[v, .int .i64 a, .int .i64 b] w fun e w' => e = .returned (.int .i64 (ordErr l a b)) ∧ Kp w w' := by
  refine lift22 ?_
  unfold S22
  refine r_use fok12 (valid_calls w hr) rfl ?_
  rintro _ w1 ⟨rfl, k1⟩
  refine ⟨_, rfl, ?_⟩
  unfold ordErr
  cases b1 : setB l with
  | false =>
    simp (disch := omega) only [r_ln, r_pick, r_pickT, r_pickF, r_condT, r_condF, r_gdTT, r_gdFF, r_gdTF, r_gdFT, r_gqTT, r_gqFF, r_gqTF, r_gqFT, r_not, r_lss, r_leq, r_gtr, r_geq, r_eql, r_neq, r_add, r_sub, r_min2, r_max2, r_min3, r_max3, r_fa, r_iaS, r_iaA, r_ex2a, r_ex2b, r_ex3a, r_ex3b, r_ex3c, r_nc, r_keepE, Nat.zero_add, Nat.add_zero, Nat.mul_one, Int.toNat_natCast, toNat_sub1, toNat_add1, decide_true, decide_false, Bool.not_true, Bool.not_false, if_true, if_false, Bool.false_eq_true, reduceCtorEq, false_and]
    exact ⟨trivial, k1⟩
  | true =>
  simp (disch := omega) only [r_ln, r_pick, r_pickT, r_pickF, r_condT, r_condF, r_gdTT, r_gdFF, r_gdTF, r_gdFT, r_gqTT, r_gqFF, r_gqTF, r_gqFT, r_not, r_lss, r_leq, r_gtr, r_geq, r_eql, r_neq, r_add, r_sub, r_min2, r_max2, r_min3, r_max3, r_fa, r_iaS, r_iaA, r_ex2a, r_ex2b, r_ex3a, r_ex3b, r_ex3c, r_nc, r_keepE, Nat.zero_add, Nat.add_zero, Nat.mul_one, Int.toNat_natCast, toNat_sub1, toNat_add1, decide_true, decide_false, Bool.not_true, Bool.not_false, if_true, if_false, Bool.false_eq_true, reduceCtorEq]
  refine r_use fok13 (side_calls a w1) rfl ?_
  rintro _ _ ⟨rfl, rfl⟩
  refine ⟨_, rfl, ?_⟩
  cases b2 : sideB a with
  | false =>
    simp (disch := omega) only [r_ln, r_pick, r_pickT, r_pickF, r_condT, r_condF, r_gdTT, r_gdFF, r_gdTF, r_gdFT, r_gqTT, r_gqFF, r_gqTF, r_gqFT, r_not, r_lss, r_leq, r_gtr, r_geq, r_eql, r_neq, r_add, r_sub, r_min2, r_max2, r_min3, r_max3, r_fa, r_iaS, r_iaA, r_ex2a, r_ex2b, r_ex3a, r_ex3b, r_ex3c, r_nc, r_keepE, Nat.zero_add, Nat.add_zero, Nat.mul_one, Int.toNat_natCast, toNat_sub1, toNat_add1, decide_true, decide_false, Bool.not_true, Bool.not_false, if_true, if_false, Bool.false_eq_true, reduceCtorEq, false_and, and_false]
    exact ⟨trivial, k1⟩
  | true =>
  simp (disch := omega) only [r_ln, r_pick, r_pickT, r_pickF, r_condT, r_condF, r_gdTT, r_gdFF, r_gdTF, r_gdFT, r_gqTT, r_gqFF, r_gqTF, r_gqFT, r_not, r_lss, r_leq, r_gtr, r_geq, r_eql, r_neq, r_add, r_sub, r_min2, r_max2, r_min3, r_max3, r_fa, r_iaS, r_iaA, r_ex2a, r_ex2b, r_ex3a, r_ex3b, r_ex3c, r_nc, r_keepE, Nat.zero_add, Nat.add_zero, Nat.mul_one, Int.toNat_natCast, toNat_sub1, toNat_add1, decide_true, decide_false, Bool.not_true, Bool.not_false, if_true, if_false, Bool.false_eq_true, reduceCtorEq]
  refine r_use fok13 (side_calls b w1) rfl ?_
  rintro _ _ ⟨rfl, rfl⟩
  refine ⟨_, rfl, ?_⟩
  cases b3 : sideB b with
  | false =>
    simp (disch := omega) only [r_ln, r_pick, r_pickT, r_pickF, r_condT, r_condF, r_gdTT, r_gdFF, r_gdTF, r_gdFT, r_gqTT, r_gqFF, r_gqTF, r_gqFT, r_not, r_lss, r_leq, r_gtr, r_geq, r_eql, r_neq, r_add, r_sub, r_min2, r_max2, r_min3, r_max3, r_fa, r_iaS, r_iaA, r_ex2a, r_ex2b, r_ex3a, r_ex3b, r_ex3c, r_nc, r_keepE, Nat.zero_add, Nat.add_zero, Nat.mul_one, Int.toNat_natCast, toNat_sub1, toNat_add1, decide_true, decide_false, Bool.not_true, Bool.not_false, if_true, if_false, Bool.false_eq_true, reduceCtorEq, false_and, and_false]
    exact ⟨trivial, k1⟩
  | true =>
    simp (disch := omega) only [r_ln, r_pick, r_pickT, r_pickF, r_condT, r_condF, r_gdTT, r_gdFF, r_gdTF, r_gdFT, r_gqTT, r_gqFF, r_gqTF, r_gqFT, r_not, r_lss, r_leq, r_gtr, r_geq, r_eql, r_neq, r_add, r_sub, r_min2, r_max2, r_min3, r_max3, r_fa, r_iaS, r_iaA, r_ex2a, r_ex2b, r_ex3a, r_ex3b, r_ex3c, r_nc, r_keepE, Nat.zero_add, Nat.add_zero, Nat.mul_one, Int.toNat_natCast, toNat_sub1, toNat_add1, decide_true, decide_false, Bool.not_true, Bool.not_false, if_true, if_false, Bool.false_eq_true, reduceCtorEq, and_self]
    exact ⟨trivial, k1⟩

/-! ### numbers -/

theorem pow8_le {a : Nat} (h : a ≤ 4) : (8 : Int) ^ a ≤ 4096 := by
  have : a = 0 ∨ a = 1 ∨ a = 2 ∨ a = 3 ∨ a = 4 := by omega
  rcases this with rfl | rfl | rfl | rfl | rfl <;> decide
theorem pow8N_le {a : Nat} (h : a ≤ 4) : 8 ^ a ≤ 4096 := by
  have : a = 0 ∨ a = 1 ∨ a = 2 ∨ a = 3 ∨ a = 4 := by omega
  rcases this with rfl | rfl | rfl | rfl | rfl <;> decide

set_option maxRecDepth 100000 in
theorem codes_calls {a : Nat} (w : World) (ha : a ≤ 4) : Calls Tryz.prog 25 #[.int .i64 a] w fun e w' => e = .returned (.int .i64 ((8 ^ a : Nat) : Int)) ∧ w = w' := by
  refine lift25 ?_
  unfold S25
  refine ⟨fun t3 t5 wr => ∃ i : Nat, i ≤ a ∧ t5 = .int .i64 i ∧ t3 = .int .i64 ((8 ^ i : Nat) : Int) ∧ w = wr, fun _ t5 _ => a - (intOf t5).toNat, ⟨0, by omega, rfl, rfl, rfl⟩, ?_⟩
  rintro _ _ _ _ ⟨i, hi, rfl, rfl, rfl⟩
  by_cases hlt : i < a
  case neg =>
    have hlt' : ¬ (i : Int) < (a : Int) := by omega
    have : i = a := by omega
    subst this
    simp (disch := omega) only [r_ln, r_pick, r_pickT, r_pickF, r_condT, r_condF, r_gdTT, r_gdFF, r_gdTF, r_gdFT, r_gqTT, r_gqFF, r_gqTF, r_gqFT, r_not, r_lss, r_leq, r_gtr, r_geq, r_eql, r_neq, r_add, r_sub, r_min2, r_max2, r_min3, r_max3, r_fa, r_iaS, r_iaA, r_ex2a, r_ex2b, r_ex3a, r_ex3b, r_ex3c, r_nc, r_keepE, Nat.zero_add, Nat.add_zero, Nat.mul_one, Int.toNat_natCast, toNat_sub1, toNat_add1, decide_true, decide_false, Bool.not_true, Bool.not_false, if_true, if_false, Bool.false_eq_true, reduceCtorEq, hlt']
    exact ⟨by first | rfl | trivial, by first | rfl | trivial⟩
  have hlt' : (i : Int) < (a : Int) := by omega
  have hp := pow8N_le (show i ≤ 4 by omega)
  generalize hN : 8 ^ i = N at *
  simp (disch := omega) only [r_ln, r_pick, r_pickT, r_pickF, r_condT, r_condF, r_gdTT, r_gdFF, r_gdTF, r_gdFT, r_gqTT, r_gqFF, r_gqTF, r_gqFT, r_not, r_lss, r_leq, r_gtr, r_geq, r_eql, r_neq, r_add, r_sub, r_min2, r_max2, r_min3, r_max3, r_fa, r_iaS, r_iaA, r_ex2a, r_ex2b, r_ex3a, r_ex3b, r_ex3c, r_nc, r_keepE, Nat.zero_add, Nat.add_zero, Nat.mul_one, Int.toNat_natCast, toNat_sub1, toNat_add1, decide_true, decide_false, Bool.not_true, Bool.not_false, if_true, if_false, Bool.false_eq_true, reduceCtorEq, hlt', r_mul]
  exact ⟨⟨i + 1, by omega, by go_num, by rw [Nat.pow_succ, hN, Int.natCast_mul]; rfl, trivial⟩, by simp only [intOf]; omega⟩

/-- Numbers that are colours. -/
def Cols (c : List Int) : Prop := ∀ x ∈ c, 0 ≤ x ∧ x ≤ 7
theorem code_range {c : List Int} (h : Cols c) (hl : c.length ≤ 4) : 0 ≤ code c ∧ code c < 8 ^ c.length ∧ code c ≤ 4095 := by
  have h1 := code_bound h
  have h2 := pow8_le hl
  exact ⟨h1.1, h1.2, by omega⟩

end Go.Proofs.YtfmppkplmfbjpaaGreatDoor

/- Contract: rows of tiles. -/
namespace Go.Proofs.YtfmppkplmfbjpaaGreatDoor
open Go.Lf Go.RowKit Go.Wg

def lnC (x : Line) : List Value := [.int .i64 (x.1.getD 0 0), .int .i64 (x.1.getD 1 0), .int .i64 (x.1.getD 2 0), .int .i64 (x.1.getD 3 0), .int .i64 x.2.1, .int .i64 x.2.2.1, .bool x.2.2.2]
abbrev lnV (x : Line) : Value := .agg #[.int .i64 (x.1.getD 0 0), .int .i64 (x.1.getD 1 0), .int .i64 (x.1.getD 2 0), .int .i64 (x.1.getD 3 0), .int .i64 x.2.1, .int .i64 x.2.2.1, .bool x.2.2.2]
theorem lnC_len (x : Line) : (lnC x).length = 7 := rfl
abbrev RdL (w : World) (v : Value) (L : List Line) : Prop := Rd 7 lnC w v L
abbrev LnAt (base : Nat) (w : World) (v : Value) (L : List Line) : Prop := RecAt 89 7 lnC base w v L

theorem slt73 : SlT 76 89 7 56 := SlT.mk' (z := lnV ([0, 0, 0, 0], 0, 0, false)) (by kernel_rfl) (by kernel_rfl) rfl (by decide)
theorem bs73 (a b c d x y : Int) (z : Bool) (w : World) (K : Value → World → Prop) : bsW Tryz.prog 76 1 [(0, .agg #[.int .i64 a, .int .i64 b, .int .i64 c, .int .i64 d, .int .i64 x, .int .i64 y, .bool z])] w K = K (.slice (some ⟨w.heap.size, 0, none⟩) 1 1) (w.alloc (.cells (Value.agg #[.int .i64 a, .int .i64 b, .int .i64 c, .int .i64 d, .int .i64 x, .int .i64 y, .bool z]).cells 89)) := by kernel_rfl

/-- A store of one boolean. -/
theorem st4 {w : World} {a : Addr} {n : Bool} {v : Value} {K : World → Prop} (hc : w.cell? a = some v) (hf : w.frozen? a = false) : stW Tryz.prog 4 (.pointer (some a)) (.bool n) w K = K (w.setCell a (.bool n)) := by
  have e : stW Tryz.prog 4 (.pointer (some a)) (.bool n) w K = ((w.cell? (a.add 0)).isSome = true ∧ w.frozen? (a.add 0) = false ∧ true = true ∧ K (w.setCell (a.add 0) (.bool n))) := by kernel_rfl
  rw [e]
  have ha : a.add 0 = a := rfl
  simp [ha, hc, hf]
/-- A store of one slice. -/
theorem st73 {w : World} {a : Addr} {x : Option Addr} {n c : Nat} {v : Value} {K : World → Prop} (hc : w.cell? a = some v) (hf : w.frozen? a = false) : stW Tryz.prog 76 (.pointer (some a)) (.slice x n c) w K = K (w.setCell a (.slice x n c)) := by
  have e : stW Tryz.prog 76 (.pointer (some a)) (.slice x n c) w K = ((w.cell? (a.add 0)).isSome = true ∧ w.frozen? (a.add 0) = false ∧ true = true ∧ K (w.setCell (a.add 0) (.slice x n c))) := by kernel_rfl
  rw [e]
  have ha : a.add 0 = a := rfl
  simp [ha, hc, hf]

abbrev atF (bw bs bo ba : Nat) : Value := .func (.func 45) #[] #[.pointer (some ⟨bw, 0, none⟩), .pointer (some ⟨bs, 0, none⟩), .pointer (some ⟨bo, 0, none⟩), .pointer (some ⟨ba, 0, none⟩)]

/-- What the rows' closure finds in memory. -/
structure RowsMem (l : List Tile) (W : Nat) (sv : Value) (bw bs bo ba base : Nat) (w : World) : Prop where
  hw : w.heap[bw]? = some (.cells #[.int .i64 W] 3 (0, 0))
  hs : w.heap[bs]? = some (.cells #[sv] 22 (0, 0))
  ha : w.heap[ba]? = some (.cells #[atF bw bs bo ba] 105 (0, 0))
  rd : RdT w sv l
  ltw : bw < base ∧ bw ≠ bo
  lts : bs < base ∧ bs ≠ bo
  lta : ba < base ∧ ba ≠ bo
  lto : bo < base
  ltv : ∀ b off n cap, sv = .slice (some ⟨b, off, none⟩) n cap → b < base ∧ b ≠ bo
  bas : base ≤ w.heap.size

theorem RowsMem.chg {l : List Tile} {W : Nat} {sv : Value} {bw bs bo ba base : Nat} {w w' : World} (h : RowsMem l W sv bw bs bo ba base w) (hc : Chg (fun k => k = bo ∨ base ≤ k) w w') : RowsMem l W sv bw bs bo ba base w' where
  hw := hc.at h.hw (by have := h.ltw; omega)
  hs := hc.at h.hs (by have := h.lts; omega)
  ha := hc.at h.ha (by have := h.lta; omega)
  rd := h.rd.chg hc fun b off n cap e => by have := h.ltv b off n cap e; omega
  ltw := h.ltw
  lts := h.lts
  lta := h.lta
  lto := h.lto
  ltv := h.ltv
  bas := Nat.le_trans h.bas hc.size

def part (l : List Tile) (n : Nat) (r : List Nat) (i : Nat) : List (List Nat) := if fits l r i = true then exts l n (r ++ [i]) else []

theorem cols_norths {l : List Tile} (hs : IsSet l) {r : List Nat} (hr : ∀ i ∈ r, i < l.length) : Cols (norths l r) ∧ Cols (souths l r) := by
  constructor
  · intro x hx
    simp only [norths, List.mem_map] at hx
    obtain ⟨i, hi, rfl⟩ := hx
    exact (tl_cols hs (hr i hi)).1
  · intro x hx
    simp only [souths, List.mem_map] at hx
    obtain ⟨i, hi, rfl⟩ := hx
    exact (tl_cols hs (hr i hi)).2.2.1

theorem pow16_le {a : Nat} (h : a ≤ 4) : 16 ^ a ≤ 65536 := by
  have : a = 0 ∨ a = 1 ∨ a = 2 ∨ a = 3 ∨ a = 4 := by omega
  rcases this with rfl | rfl | rfl | rfl | rfl <;> decide

theorem last_get {r : List Nat} {n : Nat} (h : r.length = n + 1) : r.getLastD 0 = r.getD n 0 := by
  rw [List.getLastD_eq_getLast?, List.getLast?_eq_getElem?, List.getD_eq_getElem?_getD, h]
  rfl

theorem line_cell {l : List Tile} {r : List Nat} {w : World} {b : Nat} (h : w.heap[b]? = some (.cells (lnV (partOf l r)).cells 89 (0, 0))) :
    (∀ k, k < 4 → w.cell? ⟨b, k, none⟩ = some (.int .i64 ((r.getD k 0 : Nat) : Int))) ∧ w.cell? ⟨b, 4, none⟩ = some (.int .i64 (code (norths l r))) ∧ w.cell? ⟨b, 5, none⟩ = some (.int .i64 (code (souths l r))) := by
  refine ⟨fun k hk => ?_, by rw [cell_row h]; rfl, by rw [cell_row h]; rfl⟩
  rw [cell_row h, ← pad4_at r hk]
  match k, hk with
  | 0, _ => rfl
  | 1, _ => rfl
  | 2, _ => rfl
  | 3, _ => rfl

theorem BX.of_chgW {X : Nat → Prop} {w w' : World} (h : Chg X w w') : BX X w w' := ⟨h.os, h.tape, h.output, h.size, h.block⟩

theorem next_line {l : List Tile} {r : List Nat} {i : Nat} (hr : r.length < 4) :
    Value.agg (((((lnV (partOf l r)).cells.setIfInBounds r.length (.int .i64 i)).setIfInBounds 4 (.int .i64 (code (norths l r) * 8 + tN (tl l i)))).setIfInBounds 5 (.int .i64 (code (souths l r) * 8 + tS (tl l i))))) = lnV (partOf l (r ++ [i])) := by
  have h1 : code (norths l (r ++ [i])) = code (norths l r) * 8 + tN (tl l i) := by rw [norths, List.map_append, List.map_singleton, code_push]; rfl
  have h2 : code (souths l (r ++ [i])) = code (souths l r) * 8 + tS (tl l i) := by rw [souths, List.map_append, List.map_singleton, code_push]; rfl
  have h3 := pad4_push (i := i) hr
  simp only [partOf, h1, h2, h3]
  have h4 := pad4_len r
  generalize pad4 r = p at *
  match p, h4 with
  | [a, b, c, d], _ =>
    match hk : r.length, hr with
    | 0, _ => rfl
    | 1, _ => rfl
    | 2, _ => rfl
    | 3, _ => rfl

set_option maxRecDepth 100000 in
set_option maxHeartbeats 2000000 in
theorem at_calls {l : List Tile} (hs : IsSet l) {W : Nat} (hW : 1 ≤ W ∧ W ≤ 4) {sv : Value} {bw bs bo ba base : Nat} : ∀ (m : Nat) (r : List Nat) (P : List Line) (ov : Value) (w : World), r.length + m = W → (∀ i ∈ r, i < l.length) → RowsMem l W sv bw bs bo ba base w →
    w.heap[bo]? = some (.cells #[ov] 76 (0, 0)) → LnAt base w ov P → P.length + 16 ^ m ≤ 100000 →
    Calls Tryz.prog 45 #[lnV (partOf l r), .int .i64 r.length, .pointer (some ⟨bw, 0, none⟩), .pointer (some ⟨bs, 0, none⟩), .pointer (some ⟨bo, 0, none⟩), .pointer (some ⟨ba, 0, none⟩)] w fun e w' => e = .returned (.tuple #[]) ∧ ∃ ov',
      LnAt base w' ov' (P ++ (exts l m r).map (lineOf l)) ∧ w'.heap[bo]? = some (.cells #[ov'] 76 (0, 0)) ∧ Chg (fun k => k = bo ∨ ov.ownBlock = some k) w w' ∧ ∀ k, ov'.ownBlock = some k → ov.ownBlock = some k ∨ w.heap.size ≤ k := by
  intro m
  induction m with
  | zero =>
    intro r P ov w hm hr M ho hL hP
    refine lift45 ?_
    unfold S45
    refine r_box fun b6 w1 e6 s6 h6 k6 => ?_
    have M1 := M.chg (Chg.of_kp k6)
    have eW : r.length = W := by omega
    obtain ⟨n, hn⟩ : ∃ n, r.length = n + 1 := ⟨r.length - 1, by omega⟩
    have c2 : w1.cell? ⟨bw, 0, none⟩ = some (.int .i64 W) := by rw [cell_row M1.hw]; rfl
    simp (disch := omega) only [r_ln, r_pick, r_pickT, r_pickF, r_condT, r_condF, r_gdTT, r_gdFF, r_gdTF, r_gdFT, r_gqTT, r_gqFF, r_gqTF, r_gqFT, r_not, r_lss, r_leq, r_gtr, r_geq, r_eql, r_neq, r_add, r_sub, r_min2, r_max2, r_min3, r_max3, r_fa, r_iaS, r_iaA, r_ex2a, r_ex2b, r_ex3a, r_ex3b, r_ex3c, r_nc, r_keepE, Nat.zero_add, Nat.add_zero, Nat.mul_one, Int.toNat_natCast, toNat_sub1, toNat_add1, decide_true, decide_false, Bool.not_true, Bool.not_false, if_true, if_false, Bool.false_eq_true, reduceCtorEq, r_ld c2, eW, decide_eq_true (rfl : (W : Int) = W)]
    refine r_drew fun w2 k2 _ => ?_
    have k02 := Kp.trans k6 k2
    have M2 := M1.chg (Chg.of_kp k2)
    have c3 : w2.cell? ⟨bs, 0, none⟩ = some sv := by rw [cell_row M2.hs]; rfl
    have h62 := block_below h6 k2
    obtain ⟨hc4, _, _⟩ := line_cell h62
    have f0 := hc4 0 (by omega)
    have fn := hc4 n (by omega)
    have r0 : r.getD 0 0 < l.length := hr _ (getD_mem (by omega))
    have rn : r.getD n 0 < l.length := hr _ (getD_mem (by omega))
    obtain ⟨vb, vo, vc, ev, _, _, _, _, t03⟩ := RdT.tile M2.rd r0
    obtain ⟨vb', vo', vc', ev', _, _, tn1, _, _⟩ := RdT.tile M2.rd rn
    rw [ev] at ev'
    cases ev'
    have hWn : W = n + 1 := by omega
    rw [ev] at c3
    have i0 : ((0 : Int).toNat) = 0 := rfl
    have eWn : W - 1 = n := by omega
    simp (disch := omega) only [r_ln, r_pick, r_pickT, r_pickF, r_condT, r_condF, r_gdTT, r_gdFF, r_gdTF, r_gdFT, r_gqTT, r_gqFF, r_gqTF, r_gqFT, r_not, r_lss, r_leq, r_gtr, r_geq, r_eql, r_neq, r_add, r_sub, r_min2, r_max2, r_min3, r_max3, r_fa, r_iaS, r_iaA, r_ex2a, r_ex2b, r_ex3a, r_ex3b, r_ex3c, r_nc, r_keepE, Nat.zero_add, Nat.add_zero, Nat.mul_one, Int.toNat_natCast, toNat_sub1, toNat_add1, decide_true, decide_false, Bool.not_true, Bool.not_false, if_true, if_false, Bool.false_eq_true, reduceCtorEq, r_ld c3, i0, Nat.zero_mul, r_ld f0, r_ld t03, eWn, r_ld fn, r_ld tn1]
    have hc6 : ∃ x, w2.cell? ⟨b6, 6, none⟩ = some x := ⟨_, by rw [cell_row h62]; rfl⟩
    obtain ⟨x6, hc6⟩ := hc6
    rw [st4 hc6 (frozen_row h62)]
    have eb : decide (tW (tl l (r.getD 0 0)) = tE (tl l (r.getD n 0))) = closes l r := by
      unfold closes
      rw [last_get hn]
    rw [eb]
    have h63 := setCell_block (o := 6) (v := .bool (closes l r)) h62 rfl
    have cg3 : Chg (fun k => k = b6) w2 (w2.setCell ⟨b6, 6, none⟩ (.bool (closes l r))) := Chg.setCell _ _ rfl
    generalize w2.setCell ⟨b6, 6, none⟩ (.bool (closes l r)) = w3 at *
    have hlo := M.lto
    have hbas := M.bas
    have hob : ∀ k, ov.ownBlock = some k → base ≤ k ∧ k < w.heap.size := fun k hk => hL.lt hk
    have ho3 : w3.heap[bo]? = some (.cells #[ov] 76 (0, 0)) := cg3.at (block_below ho k02) (by omega)
    have hL3 : LnAt base w3 ov P := (hL.kp k02).chg cg3 fun k hk e => by have := hob k hk; omega
    have c4 : w3.cell? ⟨bo, 0, none⟩ = some ov := by rw [cell_row ho3]; rfl
    rw [r_ld c4, r_ldRow (n := 7) h63 rfl]
    have elv : Value.agg ((lnV (partOf l r)).cells.setIfInBounds 6 (.bool (closes l r))) = lnV (lineOf l r) := rfl
    rw [elv]
    have s2 := k02.size
    have s3 := cg3.size
    refine r_pushRec (x := lineOf l r) slt73 lnC_len rfl (bs73 _ _ _ _ _ _ _ _) (by intro u hu; simp [lnC] at hu; rcases hu with rfl | rfl | rfl | rfl | rfl | rfl | rfl <;> rfl) (by omega) hL3 (by omega) (by omega) fun v' w4 hL4 cg4 hv4 => ?_
    obtain ⟨a4, cap4, rfl, _⟩ := hL4.len
    have ho4 : w4.heap[bo]? = some (.cells #[ov] 76 (0, 0)) := cg4.at ho3 fun hk => by have := hob _ hk; omega
    have c5 : w4.cell? ⟨bo, 0, none⟩ = some ov := by rw [cell_row ho4]; rfl
    rw [st73 c5 (frozen_row ho4)]
    have ho5 := setCell_block (o := 0) (v := .slice a4 (P ++ [lineOf l r]).length cap4) ho4 rfl
    have cg5 : Chg (fun k => k = bo) w4 (w4.setCell ⟨bo, 0, none⟩ (.slice a4 (P ++ [lineOf l r]).length cap4)) := Chg.setCell _ _ rfl
    generalize w4.setCell ⟨bo, 0, none⟩ (.slice a4 (P ++ [lineOf l r]).length cap4) = w5 at *
    have s4 := cg4.size
    refine ⟨trivial, _, hL4.chg cg5 fun k hk e => ?_, ho5, ?_, fun k hk => ?_⟩
    · rcases hv4 k hk with h | h
      · have := hob _ h; omega
      · omega
    · have t : Chg (fun k => k = bo ∨ ov.ownBlock = some k ∨ w.heap.size ≤ k) w w5 :=
        (((Chg.of_kp k02).trans (cg3.mono fun k _ e => .inr (.inr (by omega)))).trans (cg4.mono fun k _ e => .inr (.inl e))).trans (cg5.mono fun k _ e => .inl e)
      exact t.mono fun k hk e => by
        rcases e with e | e | e
        · exact .inl e
        · exact .inr e
        · omega
    · rcases hv4 k hk with h | h
      · exact .inl h
      · exact .inr (by omega)
  | succ m ih =>
    intro r P ov w hm hr M ho hL hP
    refine lift45 ?_
    unfold S45
    refine r_box fun b6 w1 e6 s6 h6 k6 => ?_
    have M1 := M.chg (Chg.of_kp k6)
    have c2 : w1.cell? ⟨bw, 0, none⟩ = some (.int .i64 W) := by rw [cell_row M1.hw]; rfl
    have c3 : w1.cell? ⟨bs, 0, none⟩ = some sv := by rw [cell_row M1.hs]; rfl
    have hne : ¬ (r.length : Int) = (W : Int) := by omega
    obtain ⟨sa, scap, rfl, hscap⟩ := M1.rd.len
    have hl16 := hs.most
    have hlo := M.lto
    have hbas := M.bas
    have hob : ∀ k, ov.ownBlock = some k → base ≤ k ∧ k < w.heap.size := fun k hk => hL.lt hk
    simp (disch := omega) only [r_ln, r_pick, r_pickT, r_pickF, r_condT, r_condF, r_gdTT, r_gdFF, r_gdTF, r_gdFT, r_gqTT, r_gqFF, r_gqTF, r_gqFT, r_not, r_lss, r_leq, r_gtr, r_geq, r_eql, r_neq, r_add, r_sub, r_min2, r_max2, r_min3, r_max3, r_fa, r_iaS, r_iaA, r_ex2a, r_ex2b, r_ex3a, r_ex3b, r_ex3c, r_nc, r_keepE, Nat.zero_add, Nat.add_zero, Nat.mul_one, Int.toNat_natCast, toNat_sub1, toNat_add1, decide_true, decide_false, Bool.not_true, Bool.not_false, if_true, if_false, Bool.false_eq_true, reduceCtorEq, r_ld c2, hne, r_ld c3]
    have hexl : ∀ i, (exts l m (r ++ [i])).length ≤ 16 ^ m := fun i => exts_length_le hl16 m _
    have hpl : ∀ i, ((List.range i).flatMap (part l m r)).length ≤ i * 16 ^ m := fun i => by
      induction i with
      | zero => simp
      | succ i ihi =>
        rw [List.range_succ, List.flatMap_append, List.length_append, Nat.add_mul, Nat.one_mul]
        have : (part l m r i).length ≤ 16 ^ m := by
          unfold part; split
          · exact hexl i
          · simp
        simp only [List.flatMap_cons, List.flatMap_nil, List.append_nil]
        omega
    have hp16 : 16 ^ (m + 1) = 16 ^ m * 16 := Nat.pow_succ _ _
    refine ⟨fun t38 wr => ∃ (i : Nat) (oi : Value), i ≤ l.length ∧ t38 = .int .i64 i ∧ wr.heap[bo]? = some (.cells #[oi] 76 (0, 0)) ∧ LnAt base wr oi (P ++ ((List.range i).flatMap (part l m r)).map (lineOf l)) ∧
        Chg (fun k => k = bo ∨ ov.ownBlock = some k) w1 wr ∧ ∀ k, oi.ownBlock = some k → ov.ownBlock = some k ∨ w1.heap.size ≤ k, fun t38 _ => l.length - (intOf t38).toNat,
      ⟨0, ov, by omega, rfl, block_below ho k6, by simpa using hL.kp k6, Chg.refl _ _, fun k hk => .inl hk⟩, ?_⟩
    rintro _ _ wr ⟨i, oi, hi, rfl, hor, hLr, hcr, hov⟩
    have Mr := M1.chg (hcr.mono (S' := fun k => k = bo ∨ base ≤ k) fun k _ e => e.imp id fun e => (hob k e).1)
    have hpli := hpl i
    by_cases hlt : i < l.length
    case neg =>
      have hlt' : ¬ (i : Int) < (l.length : Int) := by omega
      have ei : i = l.length := by omega
      subst ei
      simp (disch := omega) only [r_ln, r_pick, r_pickT, r_pickF, r_condT, r_condF, r_gdTT, r_gdFF, r_gdTF, r_gdFT, r_gqTT, r_gqFF, r_gqTF, r_gqFT, r_not, r_lss, r_leq, r_gtr, r_geq, r_eql, r_neq, r_add, r_sub, r_min2, r_max2, r_min3, r_max3, r_fa, r_iaS, r_iaA, r_ex2a, r_ex2b, r_ex3a, r_ex3b, r_ex3c, r_nc, r_keepE, Nat.zero_add, Nat.add_zero, Nat.mul_one, Int.toNat_natCast, toNat_sub1, toNat_add1, decide_true, decide_false, Bool.not_true, Bool.not_false, if_true, if_false, Bool.false_eq_true, reduceCtorEq, hlt']
      refine ⟨trivial, oi, hLr, hor, ?_, fun k hk => (hov k hk).imp id fun h => by omega⟩
      exact (((Chg.of_kp (S := fun k => k = bo ∨ ov.ownBlock = some k) k6).trans hcr))
    have hlt' : (i : Int) < (l.length : Int) := by omega
    have hmul : i * 16 ^ m + 16 ^ m ≤ 16 ^ m * 16 := by
      have : (i + 1) * 16 ^ m ≤ 16 * 16 ^ m := Nat.mul_le_mul_right _ (by omega)
      rw [Nat.add_mul, Nat.one_mul, Nat.mul_comm 16] at this
      exact this
    simp (disch := omega) only [r_ln, r_pick, r_pickT, r_pickF, r_condT, r_condF, r_gdTT, r_gdFF, r_gdTF, r_gdFT, r_gqTT, r_gqFF, r_gqTF, r_gqFT, r_not, r_lss, r_leq, r_gtr, r_geq, r_eql, r_neq, r_add, r_sub, r_min2, r_max2, r_min3, r_max3, r_fa, r_iaS, r_iaA, r_ex2a, r_ex2b, r_ex3a, r_ex3b, r_ex3c, r_nc, r_keepE, Nat.zero_add, Nat.add_zero, Nat.mul_one, Int.toNat_natCast, toNat_sub1, toNat_add1, decide_true, decide_false, Bool.not_true, Bool.not_false, if_true, if_false, Bool.false_eq_true, reduceCtorEq, decide_eq_true hlt']
    have hsucc : (List.range (i + 1)).flatMap (part l m r) = (List.range i).flatMap (part l m r) ++ part l m r i := by
      rw [List.range_succ, List.flatMap_append]
      simp
    refine r_join0 (fun w' => ∃ oj, w'.heap[bo]? = some (.cells #[oj] 76 (0, 0)) ∧ LnAt base w' oj (P ++ ((List.range (i + 1)).flatMap (part l m r)).map (lineOf l)) ∧
        Chg (fun k => k = bo ∨ ov.ownBlock = some k) w1 w' ∧ ∀ k, oj.ownBlock = some k → ov.ownBlock = some k ∨ w1.heap.size ≤ k) ?_ ?_
    · rintro w' ⟨oj, q1, q2, q3, q4⟩
      try simp (disch := omega) only [r_ln, r_pick, r_pickT, r_pickF, r_condT, r_condF, r_gdTT, r_gdFF, r_gdTF, r_gdFT, r_gqTT, r_gqFF, r_gqTF, r_gqFT, r_not, r_lss, r_leq, r_gtr, r_geq, r_eql, r_neq, r_add, r_sub, r_min2, r_max2, r_min3, r_max3, r_fa, r_iaS, r_iaA, r_ex2a, r_ex2b, r_ex3a, r_ex3b, r_ex3c, r_nc, r_keepE, Nat.zero_add, Nat.add_zero, Nat.mul_one, Int.toNat_natCast, toNat_sub1, toNat_add1, decide_true, decide_false, Bool.not_true, Bool.not_false, if_true, if_false, Bool.false_eq_true, reduceCtorEq]
      exact ⟨⟨i + 1, oj, by omega, by go_num, q1, q2, q3, q4⟩, by simp only [intOf]; omega⟩
    intro kk hkk
    obtain ⟨vb, vo, vc, ev, hld, _⟩ := RdT.tile Mr.rd hlt
    cases ev
    simp (disch := omega) only [r_ln, r_pick, r_pickT, r_pickF, r_condT, r_condF, r_gdTT, r_gdFF, r_gdTF, r_gdFT, r_gqTT, r_gqFF, r_gqTF, r_gqFT, r_not, r_lss, r_leq, r_gtr, r_geq, r_eql, r_neq, r_add, r_sub, r_min2, r_max2, r_min3, r_max3, r_fa, r_iaS, r_iaA, r_ex2a, r_ex2b, r_ex3a, r_ex3b, r_ex3c, r_nc, r_keepE, Nat.zero_add, Nat.add_zero, Nat.mul_one, Int.toNat_natCast, toNat_sub1, toNat_add1, decide_true, decide_false, Bool.not_true, Bool.not_false, if_true, if_false, Bool.false_eq_true, reduceCtorEq, hld]
    refine r_box fun b9 w2 e9 s9 h9 k9 => ?_
    refine r_stAll (n := 4) (ty := 25) (by kernel_rfl) rfl (by intro u hu; simp [Value.cells] at hu; rcases hu with rfl | rfl | rfl | rfl <;> rfl) h9 rfl fun w3 cg3 s3 h93 => ?_
    have k03 : Kp wr w3 := Kp.of_chg k9 cg3 fun i e => by omega
    refine r_drew fun w4 k4 _ => ?_
    have kr4 := Kp.trans k03 k4
    have M4 := Mr.chg (Chg.of_kp kr4)
    have h94 := block_below h93 k4
    have scr := hcr.size
    have sr4 := kr4.size
    have h6r : wr.heap[b6]? = some (.cells (lnV (partOf l r)).cells 89 (0, 0)) := hcr.at h6 fun hk => by
      rcases hk with e | e
      · omega
      · have := hob _ e; omega
    have h64 := block_below h6r kr4
    obtain ⟨hc4, g4, g5⟩ := line_cell h64
    have c3' : w4.cell? ⟨bs, 0, none⟩ = some (.slice (some ⟨vb, vo, none⟩) l.length scap) := by rw [cell_row M4.hs]; rfl
    have d0 : w4.cell? ⟨b9, 0, none⟩ = some (.int .i64 (tN (tl l i))) := by rw [cell_row h94]; rfl
    have d2 : w4.cell? ⟨b9, 2, none⟩ = some (.int .i64 (tS (tl l i))) := by rw [cell_row h94]; rfl
    have d3 : w4.cell? ⟨b9, 3, none⟩ = some (.int .i64 (tW (tl l i))) := by rw [cell_row h94]; rfl
    have skip : fits l r i = false → kk w4 := fun hf => hkk _ ⟨oi, block_below hor kr4, by
      rw [hsucc]
      have : part l m r i = [] := by unfold part; rw [hf]; rfl
      rw [this, List.append_nil]
      exact hLr.kp kr4, hcr.trans (Chg.of_kp kr4), hov⟩
    have hcase : (r.length = 0 ∧ fits l r i = true) ∨ ∃ n, r.length = n + 1 ∧ fits l r i = decide (tE (tl l (r.getD n 0)) = tW (tl l i)) := by
      cases hk : r.length with
      | zero =>
        have : r = [] := List.length_eq_zero_iff.1 hk
        exact .inl ⟨rfl, by simp [fits, this]⟩
      | succ n =>
        have : ¬ r = [] := fun e => by rw [e] at hk; simp at hk
        exact .inr ⟨n, rfl, by simp only [fits, this, decide_false, Bool.false_or, last_get hk]⟩
    by_cases hff : fits l r i = true
    case neg =>
      have hff' : fits l r i = false := by simpa using hff
      rcases hcase with ⟨_, hf⟩ | ⟨n, hn, hf⟩
      · rw [hf] at hff'; cases hff'
      rw [hf] at hff'
      have hff2 : ¬ tE (tl l (r.getD n 0)) = tW (tl l i) := by simpa using hff'
      have rn : r.getD n 0 < l.length := hr _ (getD_mem (by omega))
      obtain ⟨vb', vo', vc', ev', _, _, tn1, _, _⟩ := RdT.tile M4.rd rn
      cases ev'
      have hn0 : (0 : Int) < (r.length : Int) := by omega
      have e1 : r.length - 1 = n := by omega
      simp (disch := omega) only [r_ln, r_pick, r_pickT, r_pickF, r_condT, r_condF, r_gdTT, r_gdFF, r_gdTF, r_gdFT, r_gqTT, r_gqFF, r_gqTF, r_gqFT, r_not, r_lss, r_leq, r_gtr, r_geq, r_eql, r_neq, r_add, r_sub, r_min2, r_max2, r_min3, r_max3, r_fa, r_iaS, r_iaA, r_ex2a, r_ex2b, r_ex3a, r_ex3b, r_ex3c, r_nc, r_keepE, Nat.zero_add, Nat.add_zero, Nat.mul_one, Int.toNat_natCast, toNat_sub1, toNat_add1, decide_true, decide_false, Bool.not_true, Bool.not_false, if_true, if_false, Bool.false_eq_true, reduceCtorEq, decide_eq_true hn0, r_ld c3', e1, r_ld (hc4 n (by omega)), r_ld tn1, r_ld d3, hff2]
      exact skip (by rw [hf]; exact hff')
    have hr4 : r.length < 4 := by omega
    rcases hcase with ⟨h0, _⟩ | ⟨n, hn, hf⟩
    have h0' : ¬ (0 : Int) < (r.length : Int) := by omega
    simp (disch := omega) only [r_ln, r_pick, r_pickT, r_pickF, r_condT, r_condF, r_gdTT, r_gdFF, r_gdTF, r_gdFT, r_gqTT, r_gqFF, r_gqTF, r_gqFT, r_not, r_lss, r_leq, r_gtr, r_geq, r_eql, r_neq, r_add, r_sub, r_min2, r_max2, r_min3, r_max3, r_fa, r_iaS, r_iaA, r_ex2a, r_ex2b, r_ex3a, r_ex3b, r_ex3c, r_nc, r_keepE, Nat.zero_add, Nat.add_zero, Nat.mul_one, Int.toNat_natCast, toNat_sub1, toNat_add1, decide_true, decide_false, Bool.not_true, Bool.not_false, if_true, if_false, Bool.false_eq_true, reduceCtorEq, h0']
    rotate_left
    rw [hf] at hff
    have hff2 : tE (tl l (r.getD n 0)) = tW (tl l i) := by simpa using hff
    rw [← hf] at hff
    have rn : r.getD n 0 < l.length := hr _ (getD_mem (by omega))
    obtain ⟨vb', vo', vc', ev', _, _, tn1, _, _⟩ := RdT.tile M4.rd rn
    cases ev'
    have hn0 : (0 : Int) < (r.length : Int) := by omega
    have e1 : r.length - 1 = n := by omega
    simp (disch := omega) only [r_ln, r_pick, r_pickT, r_pickF, r_condT, r_condF, r_gdTT, r_gdFF, r_gdTF, r_gdFT, r_gqTT, r_gqFF, r_gqTF, r_gqFT, r_not, r_lss, r_leq, r_gtr, r_geq, r_eql, r_neq, r_add, r_sub, r_min2, r_max2, r_min3, r_max3, r_fa, r_iaS, r_iaA, r_ex2a, r_ex2b, r_ex3a, r_ex3b, r_ex3c, r_nc, r_keepE, Nat.zero_add, Nat.add_zero, Nat.mul_one, Int.toNat_natCast, toNat_sub1, toNat_add1, decide_true, decide_false, Bool.not_true, Bool.not_false, if_true, if_false, Bool.false_eq_true, reduceCtorEq, decide_eq_true hn0, r_ld c3', e1, r_ld (hc4 n (by omega)), r_ld tn1, r_ld d3, decide_eq_true hff2]
    rotate_left
    all_goals
      rw [r_ldRow (n := 7) h64 rfl]
      refine r_box fun b10 w5 e10 s10 h10 k10 => ?_
      refine r_stAll (n := 7) (ty := 89) (by kernel_rfl) rfl (by intro u hu; simp [Value.cells] at hu; rcases hu with rfl | rfl | rfl | rfl | rfl | rfl | rfl <;> rfl) h10 rfl fun w6 cg6 s6' h106 => ?_
      have k46 : Kp w4 w6 := Kp.of_chg k10 cg6 fun i e => by omega
      refine r_drew fun w7 k7 _ => ?_
      have k47 := Kp.trans k46 k7
      have h107 : w7.heap[b10]? = some (.cells (lnV (partOf l r)).cells 89 (0, 0)) := block_below h106 k7
      have h67 := block_below h64 k47
      have h97 := block_below h94 k47
      obtain ⟨_, g4', g5'⟩ := line_cell h67
      obtain ⟨z4, _, _⟩ := line_cell h107
      have d0' := cell_later k47 d0
      have d2' := cell_later k47 d2
      have b6lt := block_lt h64
      have b9lt := block_lt h94
      have s47 := k47.size
      have s46 := k46.size
      have n6 : ¬ (fun k => k = b10) b6 := by dsimp only; omega
      have n9 : ¬ (fun k => k = b10) b9 := by dsimp only; omega
      obtain ⟨q1, q2⟩ := cols_norths hs hr
      have q3 := code_range q1 (by simp [norths]; omega)
      have q4 := code_range q2 (by simp [souths]; omega)
      obtain ⟨t1, _, t3, _⟩ := tl_cols hs hlt
      refine ⟨fun k => k = b10, ?_⟩
      simp (disch := omega) only [r_ln, r_pick, r_pickT, r_pickF, r_condT, r_condF, r_gdTT, r_gdFF, r_gdTF, r_gdFT, r_gqTT, r_gqFF, r_gqTF, r_gqFT, r_not, r_lss, r_leq, r_gtr, r_geq, r_eql, r_neq, r_add, r_sub, r_min2, r_max2, r_min3, r_max3, r_fa, r_iaS, r_iaA, r_ex2a, r_ex2b, r_ex3a, r_ex3b, r_ex3c, r_nc, r_keepE, Nat.zero_add, Nat.add_zero, Nat.mul_one, Int.toNat_natCast, toNat_sub1, toNat_add1, decide_true, decide_false, Bool.not_true, Bool.not_false, if_true, if_false, Bool.false_eq_true, reduceCtorEq, r_tx, r_txl (X := fun k => k = b10) g4' n6, r_txl (X := fun k => k = b10) g5' n6, r_txl (X := fun k => k = b10) d0' n9, r_txl (X := fun k => k = b10) d2' n9, r_mul]
      rw [st3 (z4 r.length hr4) (frozen_row h107), r_keepWE]
      have x1 := setCell_block (o := r.length) (v := .int .i64 i) h107 rfl
      have cx1 : Chg (fun k => k = b10) w7 (w7.setCell ⟨b10, r.length, none⟩ (.int .i64 i)) := Chg.setCell _ _ rfl
      refine ⟨BX.of_chgW cx1, ?_⟩
      generalize w7.setCell ⟨b10, r.length, none⟩ (.int .i64 i) = w8 at *
      have y4 : ∃ x, w8.cell? ⟨b10, 4, none⟩ = some x := ⟨_, by rw [cell_row x1, Array.getElem?_setIfInBounds_ne (by omega)]; rfl⟩
      obtain ⟨_, y4⟩ := y4
      try simp only [r_ln, r_pick, r_pickT, r_pickF, r_condT, r_condF, r_gdTT, r_gdFF, r_gdTF, r_gdFT, r_gqTT, r_gqFF, r_gqTF, r_gqFT, r_not, r_lss, r_leq, r_gtr, r_geq, r_eql, r_neq, r_add, r_sub, r_min2, r_max2, r_min3, r_max3, r_fa, r_iaS, r_iaA, r_ex2a, r_ex2b, r_ex3a, r_ex3b, r_ex3c, r_nc, r_keepE, Nat.zero_add, Nat.add_zero, Nat.mul_one, Int.toNat_natCast, toNat_sub1, toNat_add1, decide_true, decide_false, Bool.not_true, Bool.not_false, if_true, if_false, Bool.false_eq_true, reduceCtorEq, r_tx]
      rw [st3 y4 (frozen_row x1), r_keepWE]
      have x2 := setCell_block (o := 4) (v := .int .i64 (code (norths l r) * 8 + tN (tl l i))) x1 rfl
      have cx2 : Chg (fun k => k = b10) w8 (w8.setCell ⟨b10, 4, none⟩ (.int .i64 (code (norths l r) * 8 + tN (tl l i)))) := Chg.setCell _ _ rfl
      refine ⟨BX.of_chgW cx2, ?_⟩
      generalize w8.setCell ⟨b10, 4, none⟩ (.int .i64 (code (norths l r) * 8 + tN (tl l i))) = w9 at *
      have y5 : ∃ x, w9.cell? ⟨b10, 5, none⟩ = some x := ⟨_, by rw [cell_row x2, Array.getElem?_setIfInBounds_ne (by omega), Array.getElem?_setIfInBounds_ne (by omega)]; rfl⟩
      obtain ⟨_, y5⟩ := y5
      try simp only [r_ln, r_pick, r_pickT, r_pickF, r_condT, r_condF, r_gdTT, r_gdFF, r_gdTF, r_gdFT, r_gqTT, r_gqFF, r_gqTF, r_gqFT, r_not, r_lss, r_leq, r_gtr, r_geq, r_eql, r_neq, r_add, r_sub, r_min2, r_max2, r_min3, r_max3, r_fa, r_iaS, r_iaA, r_ex2a, r_ex2b, r_ex3a, r_ex3b, r_ex3c, r_nc, r_keepE, Nat.zero_add, Nat.add_zero, Nat.mul_one, Int.toNat_natCast, toNat_sub1, toNat_add1, decide_true, decide_false, Bool.not_true, Bool.not_false, if_true, if_false, Bool.false_eq_true, reduceCtorEq, r_tx]
      rw [st3 y5 (frozen_row x2)]
      have x3 := setCell_block (o := 5) (v := .int .i64 (code (souths l r) * 8 + tS (tl l i))) x2 rfl
      have cx3 : Chg (fun k => k = b10) w9 (w9.setCell ⟨b10, 5, none⟩ (.int .i64 (code (souths l r) * 8 + tS (tl l i)))) := Chg.setCell _ _ rfl
      generalize w9.setCell ⟨b10, 5, none⟩ (.int .i64 (code (souths l r) * 8 + tS (tl l i))) = wa at *
      have cxx : Chg (fun k => k = b10) w7 wa := (cx1.trans cx2).trans cx3
      have k4a : Kp w4 wa := Kp.of_chg k47 cxx fun k e => by omega
      have kra := Kp.trans kr4 k4a
      have Ma := M4.chg (Chg.of_kp k4a)
      have ca : wa.cell? ⟨ba, 0, none⟩ = some (atF bw bs bo ba) := by rw [cell_row Ma.ha]; rfl
      rw [r_ld ca, r_ldRow (n := 7) x3 (by simp [Value.cells]), next_line hr4]
      try simp (disch := omega) only [r_ln, r_pick, r_pickT, r_pickF, r_condT, r_condF, r_gdTT, r_gdFF, r_gdTF, r_gdFT, r_gqTT, r_gqFF, r_gqTF, r_gqFT, r_not, r_lss, r_leq, r_gtr, r_geq, r_eql, r_neq, r_add, r_sub, r_min2, r_max2, r_min3, r_max3, r_fa, r_iaS, r_iaA, r_ex2a, r_ex2b, r_ex3a, r_ex3b, r_ex3c, r_nc, r_keepE, Nat.zero_add, Nat.add_zero, Nat.mul_one, Int.toNat_natCast, toNat_sub1, toNat_add1, decide_true, decide_false, Bool.not_true, Bool.not_false, if_true, if_false, Bool.false_eq_true, reduceCtorEq]
      have eargs : ((r.length : Int) + 1) = ((r ++ [i]).length : Nat) := by simp
      rw [eargs]
      have hbound : (P ++ ((List.range i).flatMap (part l m r)).map (lineOf l)).length + 16 ^ m ≤ 100000 := by
        rw [List.length_append, List.length_map]
        omega
      refine r_use fok45 (ih (r ++ [i]) _ oi wa (by simp; omega) (fun k hk => by
        rcases List.mem_append.1 hk with hk | hk
        · exact hr k hk
        · rw [List.mem_singleton.1 hk]; exact hlt) Ma (block_below hor kra) (hLr.kp kra) hbound) rfl ?_
      rintro _ wb ⟨rfl, oj, p1, p2, p3, p4⟩
      refine ⟨_, rfl, hkk _ ⟨oj, p2, ?_, ?_, fun k hk => ?_⟩⟩
      · rw [hsucc]
        have : part l m r i = exts l m (r ++ [i]) := by unfold part; rw [if_pos hff]
        rw [this, List.map_append, ← List.append_assoc]
        exact p1
      · have t : Chg (fun k => k = bo ∨ ov.ownBlock = some k ∨ w1.heap.size ≤ k) w1 wb := ((hcr.mono fun k _ e => e.imp id .inl).trans (Chg.of_kp kra)).trans (p3.mono fun k _ e => e.imp id fun e => hov k e)
        exact t.mono fun k hk e => by
          rcases e with e | e | e
          · exact .inl e
          · exact .inr e
          · omega
      · rcases p4 k hk with h | h
        · exact hov k h
        · have := kra.size
          exact .inr (by omega)

set_option maxRecDepth 100000 in
theorem rows_calls {l : List Tile} (hs : IsSet l) {W : Nat} (hW : 1 ≤ W ∧ W ≤ 4) {sv : Value} (w : World) (hr : RdT w sv l) :
    Calls Tryz.prog 24 #[sv, .int .i64 W] w fun e w' => ∃ v', e = .returned v' ∧ Kp w w' ∧ LnAt w.heap.size w' v' ((rowsL l W).map (lineOf l)) := by
  obtain ⟨sa, scap, rfl, _⟩ := hr.len
  refine lift24 ?_
  unfold S24
  refine r_box fun b2 w1 e2 s2 h2 k2 => ?_
  refine r_box fun b3 w3 e3 s3 h3 k3 => ?_
  refine r_box fun b5 w5 e5 s5 h5 k5 => ?_
  refine r_box fun b6 w6 e6 s6 h6 k6 => ?_
  refine r_stAll (n := 1) (ty := 105) (cs := #[.nilFunc]) (by kernel_rfl) rfl (by intro u hu; simp [Value.cells] at hu; subst hu; rfl) h6 rfl fun w7 c7 s7 h7 => ?_
  have k06 : Kp w w6 := Kp.trans (Kp.trans k2 k3) (Kp.trans k5 k6)
  have k07 : Kp w w7 := Kp.of_chg k06 c7 fun i e => by omega
  have cf : w7.cell? ⟨b6, 0, none⟩ = some (atF b3 b2 b5 b6) := by rw [cell_row h7]; rfl
  have hz : ∀ K : Value → Prop, bdQ Tryz.prog 89 [] K = K (lnV (partOf l [])) := fun K => by kernel_rfl
  rw [r_ld cf, hz]
  have hl1 := hs.pos
  have M : RowsMem l W (.slice sa l.length scap) b3 b2 b5 b6 w7.heap.size w7 := by
    refine ⟨c7.at (block_below h3 (Kp.trans k5 k6)) (by omega), c7.at (block_below h2 (Kp.trans k3 (Kp.trans k5 k6))) (by omega), h7, hr.kp k07, ⟨by omega, by omega⟩, ⟨by omega, by omega⟩, ⟨by omega, by omega⟩, by omega, fun b off n cap e => ?_, Nat.le_refl _⟩
    have := hr.block (fun x => by rw [tlC_len]; omega) e (by omega)
    omega
  have ho : w7.heap[b5]? = some (.cells #[.slice none 0 0] 76 (0, 0)) := c7.at (block_below h5 k6) (by omega)
  have h16 := pow16_le hW.2
  refine r_use fok45 (at_calls hs hW W [] [] _ w7 (by simp) (by simp) M ho RecAt.nil (by simp; omega)) rfl ?_
  rintro _ w8 ⟨rfl, v, hL, ho8, hch, hv⟩
  refine ⟨_, rfl, ?_⟩
  have cv : w8.cell? ⟨b5, 0, none⟩ = some v := by rw [cell_row ho8]; rfl
  rw [r_ld cv]
  refine ⟨v, rfl, Kp.of_chg k07 hch fun k e => ?_, ?_⟩
  · rcases e with e | e
    · omega
    · cases e
  · rw [List.nil_append] at hL
    exact hL.down (by have := k07.size; omega)

end Go.Proofs.YtfmppkplmfbjpaaGreatDoor
