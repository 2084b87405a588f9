/- Texts of my own, merged by program: A3 A4 A5. -/
import Derived.Test.YtgalbokmgffhkaaN05
import Derived.Laws.CopyRow
set_option linter.all false
/- Contract: rows of tiles. -/
namespace Go.Proofs.Ytgalbokmgffhkaa
open Go.Lf Go.RowKit Go.Wg

def lnC (x : Line) : List Value := [.int .i64 (x.1.getD 0 0), .int .i64 (x.1.getD 1 0), .int .i64 (x.1.getD 2 0), .int .i64 (x.1.getD 3 0), .int .i64 x.2.1, .int .i64 x.2.2.1, .bool x.2.2.2]
abbrev lnV (x : Line) : Value := .agg #[.int .i64 (x.1.getD 0 0), .int .i64 (x.1.getD 1 0), .int .i64 (x.1.getD 2 0), .int .i64 (x.1.getD 3 0), .int .i64 x.2.1, .int .i64 x.2.2.1, .bool x.2.2.2]
theorem lnC_len (x : Line) : (lnC x).length = 7 := rfl
abbrev RdL (w : World) (v : Value) (L : List Line) : Prop := Rd 7 lnC w v L
abbrev LnAt (base : Nat) (w : World) (v : Value) (L : List Line) : Prop := RecAt 78 7 lnC base w v L

theorem slt73 : SlT 73 78 7 56 := SlT.mk' (z := lnV ([0, 0, 0, 0], 0, 0, false)) (by kernel_rfl) (by kernel_rfl) rfl (by decide)
theorem bs73 (a b c d x y : Int) (z : Bool) (w : World) (K : Value → World → Prop) : bsW Try.prog 73 1 [(0, .agg #[.int .i64 a, .int .i64 b, .int .i64 c, .int .i64 d, .int .i64 x, .int .i64 y, .bool z])] w K = K (.slice (some ⟨w.heap.size, 0, none⟩) 1 1) (w.alloc (.cells (Value.agg #[.int .i64 a, .int .i64 b, .int .i64 c, .int .i64 d, .int .i64 x, .int .i64 y, .bool z]).cells 78)) := by kernel_rfl

/-- A store of one boolean. -/
theorem st4 {w : World} {a : Addr} {n : Bool} {v : Value} {K : World → Prop} (hc : w.cell? a = some v) (hf : w.frozen? a = false) : stW Try.prog 4 (.pointer (some a)) (.bool n) w K = K (w.setCell a (.bool n)) := by
  have e : stW Try.prog 4 (.pointer (some a)) (.bool n) w K = ((w.cell? (a.add 0)).isSome = true ∧ w.frozen? (a.add 0) = false ∧ true = true ∧ K (w.setCell (a.add 0) (.bool n))) := by kernel_rfl
  rw [e]
  have ha : a.add 0 = a := rfl
  simp [ha, hc, hf]
/-- A store of one slice. -/
theorem st73 {w : World} {a : Addr} {x : Option Addr} {n c : Nat} {v : Value} {K : World → Prop} (hc : w.cell? a = some v) (hf : w.frozen? a = false) : stW Try.prog 73 (.pointer (some a)) (.slice x n c) w K = K (w.setCell a (.slice x n c)) := by
  have e : stW Try.prog 73 (.pointer (some a)) (.slice x n c) w K = ((w.cell? (a.add 0)).isSome = true ∧ w.frozen? (a.add 0) = false ∧ true = true ∧ K (w.setCell (a.add 0) (.slice x n c))) := by kernel_rfl
  rw [e]
  have ha : a.add 0 = a := rfl
  simp [ha, hc, hf]

abbrev atF (bw bs bo ba : Nat) : Value := .func (.func 104) #[] #[.pointer (some ⟨bw, 0, none⟩), .pointer (some ⟨bs, 0, none⟩), .pointer (some ⟨bo, 0, none⟩), .pointer (some ⟨ba, 0, none⟩)]

/-- What the rows' closure finds in memory. -/
structure RowsMem (l : List Tile) (W : Nat) (sv : Value) (bw bs bo ba base : Nat) (w : World) : Prop where
  hw : w.heap[bw]? = some (.cells #[.int .i64 W] 3 (0, 0))
  hs : w.heap[bs]? = some (.cells #[sv] 22 (0, 0))
  ha : w.heap[ba]? = some (.cells #[atF bw bs bo ba] 108 (0, 0))
  rd : RdT w sv l
  ltw : bw < base ∧ bw ≠ bo
  lts : bs < base ∧ bs ≠ bo
  lta : ba < base ∧ ba ≠ bo
  lto : bo < base
  ltv : ∀ b off n cap, sv = .slice (some ⟨b, off, none⟩) n cap → b < base ∧ b ≠ bo
  bas : base ≤ w.heap.size

theorem RowsMem.chg {l : List Tile} {W : Nat} {sv : Value} {bw bs bo ba base : Nat} {w w' : World} (h : RowsMem l W sv bw bs bo ba base w) (hc : Chg (fun k => k = bo ∨ base ≤ k) w w') : RowsMem l W sv bw bs bo ba base w' where
  hw := hc.at h.hw (by have := h.ltw; omega)
  hs := hc.at h.hs (by have := h.lts; omega)
  ha := hc.at h.ha (by have := h.lta; omega)
  rd := h.rd.chg hc fun b off n cap e => by have := h.ltv b off n cap e; omega
  ltw := h.ltw
  lts := h.lts
  lta := h.lta
  lto := h.lto
  ltv := h.ltv
  bas := Nat.le_trans h.bas hc.size

def part (l : List Tile) (n : Nat) (r : List Nat) (i : Nat) : List (List Nat) := if fits l r i = true then exts l n (r ++ [i]) else []

theorem cols_norths {l : List Tile} (hs : IsSet l) {r : List Nat} (hr : ∀ i ∈ r, i < l.length) : Cols (norths l r) ∧ Cols (souths l r) := by
  constructor
  · intro x hx
    simp only [norths, List.mem_map] at hx
    obtain ⟨i, hi, rfl⟩ := hx
    exact (tl_cols hs (hr i hi)).1
  · intro x hx
    simp only [souths, List.mem_map] at hx
    obtain ⟨i, hi, rfl⟩ := hx
    exact (tl_cols hs (hr i hi)).2.2.1

theorem pow16_le {a : Nat} (h : a ≤ 4) : 16 ^ a ≤ 65536 := by
  have : a = 0 ∨ a = 1 ∨ a = 2 ∨ a = 3 ∨ a = 4 := by omega
  rcases this with rfl | rfl | rfl | rfl | rfl <;> decide

theorem last_get {r : List Nat} {n : Nat} (h : r.length = n + 1) : r.getLastD 0 = r.getD n 0 := by
  rw [List.getLastD_eq_getLast?, List.getLast?_eq_getElem?, List.getD_eq_getElem?_getD, h]
  rfl

theorem line_cell {l : List Tile} {r : List Nat} {w : World} {b : Nat} (h : w.heap[b]? = some (.cells (lnV (partOf l r)).cells 78 (0, 0))) :
    (∀ k, k < 4 → w.cell? ⟨b, k, none⟩ = some (.int .i64 ((r.getD k 0 : Nat) : Int))) ∧ w.cell? ⟨b, 4, none⟩ = some (.int .i64 (code (norths l r))) ∧ w.cell? ⟨b, 5, none⟩ = some (.int .i64 (code (souths l r))) := by
  refine ⟨fun k hk => ?_, by rw [cell_row h]; rfl, by rw [cell_row h]; rfl⟩
  rw [cell_row h, ← pad4_at r hk]
  match k, hk with
  | 0, _ => rfl
  | 1, _ => rfl
  | 2, _ => rfl
  | 3, _ => rfl

theorem BX.of_chg {X : Nat → Prop} {w w' : World} (h : Chg X w w') : BX X w w' := ⟨h.os, h.tape, h.output, h.size, h.block⟩

theorem next_line {l : List Tile} {r : List Nat} {i : Nat} (hr : r.length < 4) :
    Value.agg (((((lnV (partOf l r)).cells.setIfInBounds r.length (.int .i64 i)).setIfInBounds 4 (.int .i64 (code (norths l r) * 8 + tN (tl l i)))).setIfInBounds 5 (.int .i64 (code (souths l r) * 8 + tS (tl l i))))) = lnV (partOf l (r ++ [i])) := by
  have h1 : code (norths l (r ++ [i])) = code (norths l r) * 8 + tN (tl l i) := by rw [norths, List.map_append, List.map_singleton, code_push]; rfl
  have h2 : code (souths l (r ++ [i])) = code (souths l r) * 8 + tS (tl l i) := by rw [souths, List.map_append, List.map_singleton, code_push]; rfl
  have h3 := pad4_push (i := i) hr
  simp only [partOf, h1, h2, h3]
  have h4 := pad4_len r
  generalize pad4 r = p at *
  match p, h4 with
  | [a, b, c, d], _ =>
    match hk : r.length, hr with
    | 0, _ => rfl
    | 1, _ => rfl
    | 2, _ => rfl
    | 3, _ => rfl

set_option maxRecDepth 100000 in
set_option maxHeartbeats 2000000 in
theorem at_calls {l : List Tile} (hs : IsSet l) {W : Nat} (hW : 1 ≤ W ∧ W ≤ 4) {sv : Value} {bw bs bo ba base : Nat} : ∀ (m : Nat) (r : List Nat) (P : List Line) (ov : Value) (w : World), r.length + m = W → (∀ i ∈ r, i < l.length) → RowsMem l W sv bw bs bo ba base w →
    w.heap[bo]? = some (.cells #[ov] 73 (0, 0)) → LnAt base w ov P → P.length + 16 ^ m ≤ 100000 →
    Calls Try.prog 104 #[lnV (partOf l r), .int .i64 r.length, .pointer (some ⟨bw, 0, none⟩), .pointer (some ⟨bs, 0, none⟩), .pointer (some ⟨bo, 0, none⟩), .pointer (some ⟨ba, 0, none⟩)] w fun e w' => e = .returned (.tuple #[]) ∧ ∃ ov',
      LnAt base w' ov' (P ++ (exts l m r).map (lineOf l)) ∧ w'.heap[bo]? = some (.cells #[ov'] 73 (0, 0)) ∧ Chg (fun k => k = bo ∨ ov.ownBlock = some k) w w' ∧ ∀ k, ov'.ownBlock = some k → ov.ownBlock = some k ∨ w.heap.size ≤ k := by
  intro m
  induction m with
  | zero =>
    intro r P ov w hm hr M ho hL hP
    refine lift104 ?_
    unfold S104
    refine r_box fun b6 w1 e6 s6 h6 k6 => ?_
    have M1 := M.chg (Chg.of_kp k6)
    have eW : r.length = W := by omega
    obtain ⟨n, hn⟩ : ∃ n, r.length = n + 1 := ⟨r.length - 1, by omega⟩
    have c2 : w1.cell? ⟨bw, 0, none⟩ = some (.int .i64 W) := by rw [cell_row M1.hw]; rfl
    simp (disch := omega) only [r_ln, r_pick, r_pickT, r_pickF, r_condT, r_condF, r_gdTT, r_gdFF, r_gdTF, r_gdFT, r_gqTT, r_gqFF, r_gqTF, r_gqFT, r_not, r_lss, r_leq, r_gtr, r_geq, r_eql, r_neq, r_add, r_sub, r_min2, r_max2, r_min3, r_max3, r_fa, r_iaS, r_iaA, r_ex2a, r_ex2b, r_ex3a, r_ex3b, r_ex3c, r_nc, r_keepE, Nat.zero_add, Nat.add_zero, Nat.mul_one, Int.toNat_natCast, toNat_sub1, toNat_add1, decide_true, decide_false, Bool.not_true, Bool.not_false, if_true, if_false, Bool.false_eq_true, reduceCtorEq, r_ld c2, eW, decide_eq_true (rfl : (W : Int) = W)]
    refine r_drew fun w2 k2 _ => ?_
    have k02 := Kp.trans k6 k2
    have M2 := M1.chg (Chg.of_kp k2)
    have c3 : w2.cell? ⟨bs, 0, none⟩ = some sv := by rw [cell_row M2.hs]; rfl
    have h62 := block_below h6 k2
    obtain ⟨hc4, _, _⟩ := line_cell h62
    have f0 := hc4 0 (by omega)
    have fn := hc4 n (by omega)
    have r0 : r.getD 0 0 < l.length := hr _ (getD_mem (by omega))
    have rn : r.getD n 0 < l.length := hr _ (getD_mem (by omega))
    obtain ⟨vb, vo, vc, ev, _, _, _, _, t03⟩ := RdT.tile M2.rd r0
    obtain ⟨vb', vo', vc', ev', _, _, tn1, _, _⟩ := RdT.tile M2.rd rn
    rw [ev] at ev'
    cases ev'
    have hWn : W = n + 1 := by omega
    rw [ev] at c3
    have i0 : ((0 : Int).toNat) = 0 := rfl
    have eWn : W - 1 = n := by omega
    simp (disch := omega) only [r_ln, r_pick, r_pickT, r_pickF, r_condT, r_condF, r_gdTT, r_gdFF, r_gdTF, r_gdFT, r_gqTT, r_gqFF, r_gqTF, r_gqFT, r_not, r_lss, r_leq, r_gtr, r_geq, r_eql, r_neq, r_add, r_sub, r_min2, r_max2, r_min3, r_max3, r_fa, r_iaS, r_iaA, r_ex2a, r_ex2b, r_ex3a, r_ex3b, r_ex3c, r_nc, r_keepE, Nat.zero_add, Nat.add_zero, Nat.mul_one, Int.toNat_natCast, toNat_sub1, toNat_add1, decide_true, decide_false, Bool.not_true, Bool.not_false, if_true, if_false, Bool.false_eq_true, reduceCtorEq, r_ld c3, i0, Nat.zero_mul, r_ld f0, r_ld t03, eWn, r_ld fn, r_ld tn1]
    have hc6 : ∃ x, w2.cell? ⟨b6, 6, none⟩ = some x := ⟨_, by rw [cell_row h62]; rfl⟩
    obtain ⟨x6, hc6⟩ := hc6
    rw [st4 hc6 (frozen_row h62)]
    have eb : decide (tW (tl l (r.getD 0 0)) = tE (tl l (r.getD n 0))) = closes l r := by
      unfold closes
      rw [last_get hn]
    rw [eb]
    have h63 := setCell_block (o := 6) (v := .bool (closes l r)) h62 rfl
    have cg3 : Chg (fun k => k = b6) w2 (w2.setCell ⟨b6, 6, none⟩ (.bool (closes l r))) := Chg.setCell _ _ rfl
    generalize w2.setCell ⟨b6, 6, none⟩ (.bool (closes l r)) = w3 at *
    have hlo := M.lto
    have hbas := M.bas
    have hob : ∀ k, ov.ownBlock = some k → base ≤ k ∧ k < w.heap.size := fun k hk => hL.lt hk
    have ho3 : w3.heap[bo]? = some (.cells #[ov] 73 (0, 0)) := cg3.at (block_below ho k02) (by omega)
    have hL3 : LnAt base w3 ov P := (hL.kp k02).chg cg3 fun k hk e => by have := hob k hk; omega
    have c4 : w3.cell? ⟨bo, 0, none⟩ = some ov := by rw [cell_row ho3]; rfl
    rw [r_ld c4, r_ldRow (n := 7) h63 rfl]
    have elv : Value.agg ((lnV (partOf l r)).cells.setIfInBounds 6 (.bool (closes l r))) = lnV (lineOf l r) := rfl
    rw [elv]
    have s2 := k02.size
    have s3 := cg3.size
    refine r_pushRec (x := lineOf l r) slt73 lnC_len rfl (bs73 _ _ _ _ _ _ _ _) (by intro u hu; simp [lnC] at hu; rcases hu with rfl | rfl | rfl | rfl | rfl | rfl | rfl <;> rfl) (by omega) hL3 (by omega) (by omega) fun v' w4 hL4 cg4 hv4 => ?_
    obtain ⟨a4, cap4, rfl, _⟩ := hL4.len
    have ho4 : w4.heap[bo]? = some (.cells #[ov] 73 (0, 0)) := cg4.at ho3 fun hk => by have := hob _ hk; omega
    have c5 : w4.cell? ⟨bo, 0, none⟩ = some ov := by rw [cell_row ho4]; rfl
    rw [st73 c5 (frozen_row ho4)]
    have ho5 := setCell_block (o := 0) (v := .slice a4 (P ++ [lineOf l r]).length cap4) ho4 rfl
    have cg5 : Chg (fun k => k = bo) w4 (w4.setCell ⟨bo, 0, none⟩ (.slice a4 (P ++ [lineOf l r]).length cap4)) := Chg.setCell _ _ rfl
    generalize w4.setCell ⟨bo, 0, none⟩ (.slice a4 (P ++ [lineOf l r]).length cap4) = w5 at *
    have s4 := cg4.size
    refine ⟨trivial, _, hL4.chg cg5 fun k hk e => ?_, ho5, ?_, fun k hk => ?_⟩
    · rcases hv4 k hk with h | h
      · have := hob _ h; omega
      · omega
    · have t : Chg (fun k => k = bo ∨ ov.ownBlock = some k ∨ w.heap.size ≤ k) w w5 :=
        (((Chg.of_kp k02).trans (cg3.mono fun k _ e => .inr (.inr (by omega)))).trans (cg4.mono fun k _ e => .inr (.inl e))).trans (cg5.mono fun k _ e => .inl e)
      exact t.mono fun k hk e => by
        rcases e with e | e | e
        · exact .inl e
        · exact .inr e
        · omega
    · rcases hv4 k hk with h | h
      · exact .inl h
      · exact .inr (by omega)
  | succ m ih =>
    intro r P ov w hm hr M ho hL hP
    refine lift104 ?_
    unfold S104
    refine r_box fun b6 w1 e6 s6 h6 k6 => ?_
    have M1 := M.chg (Chg.of_kp k6)
    have c2 : w1.cell? ⟨bw, 0, none⟩ = some (.int .i64 W) := by rw [cell_row M1.hw]; rfl
    have c3 : w1.cell? ⟨bs, 0, none⟩ = some sv := by rw [cell_row M1.hs]; rfl
    have hne : ¬ (r.length : Int) = (W : Int) := by omega
    obtain ⟨sa, scap, rfl, hscap⟩ := M1.rd.len
    have hl16 := hs.most
    have hlo := M.lto
    have hbas := M.bas
    have hob : ∀ k, ov.ownBlock = some k → base ≤ k ∧ k < w.heap.size := fun k hk => hL.lt hk
    simp (disch := omega) only [r_ln, r_pick, r_pickT, r_pickF, r_condT, r_condF, r_gdTT, r_gdFF, r_gdTF, r_gdFT, r_gqTT, r_gqFF, r_gqTF, r_gqFT, r_not, r_lss, r_leq, r_gtr, r_geq, r_eql, r_neq, r_add, r_sub, r_min2, r_max2, r_min3, r_max3, r_fa, r_iaS, r_iaA, r_ex2a, r_ex2b, r_ex3a, r_ex3b, r_ex3c, r_nc, r_keepE, Nat.zero_add, Nat.add_zero, Nat.mul_one, Int.toNat_natCast, toNat_sub1, toNat_add1, decide_true, decide_false, Bool.not_true, Bool.not_false, if_true, if_false, Bool.false_eq_true, reduceCtorEq, r_ld c2, hne, r_ld c3]
    have hexl : ∀ i, (exts l m (r ++ [i])).length ≤ 16 ^ m := fun i => exts_length_le hl16 m _
    have hpl : ∀ i, ((List.range i).flatMap (part l m r)).length ≤ i * 16 ^ m := fun i => by
      induction i with
      | zero => simp
      | succ i ihi =>
        rw [List.range_succ, List.flatMap_append, List.length_append, Nat.add_mul, Nat.one_mul]
        have : (part l m r i).length ≤ 16 ^ m := by
          unfold part; split
          · exact hexl i
          · simp
        simp only [List.flatMap_cons, List.flatMap_nil, List.append_nil]
        omega
    have hp16 : 16 ^ (m + 1) = 16 ^ m * 16 := Nat.pow_succ _ _
    refine ⟨fun t38 wr => ∃ (i : Nat) (oi : Value), i ≤ l.length ∧ t38 = .int .i64 i ∧ wr.heap[bo]? = some (.cells #[oi] 73 (0, 0)) ∧ LnAt base wr oi (P ++ ((List.range i).flatMap (part l m r)).map (lineOf l)) ∧
        Chg (fun k => k = bo ∨ ov.ownBlock = some k) w1 wr ∧ ∀ k, oi.ownBlock = some k → ov.ownBlock = some k ∨ w1.heap.size ≤ k, fun t38 _ => l.length - (intOf t38).toNat,
      ⟨0, ov, by omega, rfl, block_below ho k6, by simpa using hL.kp k6, Chg.refl _ _, fun k hk => .inl hk⟩, ?_⟩
    rintro _ _ wr ⟨i, oi, hi, rfl, hor, hLr, hcr, hov⟩
    have Mr := M1.chg (hcr.mono (S' := fun k => k = bo ∨ base ≤ k) fun k _ e => e.imp id fun e => (hob k e).1)
    have hpli := hpl i
    by_cases hlt : i < l.length
    case neg =>
      have hlt' : ¬ (i : Int) < (l.length : Int) := by omega
      have ei : i = l.length := by omega
      subst ei
      simp (disch := omega) only [r_ln, r_pick, r_pickT, r_pickF, r_condT, r_condF, r_gdTT, r_gdFF, r_gdTF, r_gdFT, r_gqTT, r_gqFF, r_gqTF, r_gqFT, r_not, r_lss, r_leq, r_gtr, r_geq, r_eql, r_neq, r_add, r_sub, r_min2, r_max2, r_min3, r_max3, r_fa, r_iaS, r_iaA, r_ex2a, r_ex2b, r_ex3a, r_ex3b, r_ex3c, r_nc, r_keepE, Nat.zero_add, Nat.add_zero, Nat.mul_one, Int.toNat_natCast, toNat_sub1, toNat_add1, decide_true, decide_false, Bool.not_true, Bool.not_false, if_true, if_false, Bool.false_eq_true, reduceCtorEq, hlt']
      refine ⟨trivial, oi, hLr, hor, ?_, fun k hk => (hov k hk).imp id fun h => by omega⟩
      exact (((Chg.of_kp (S := fun k => k = bo ∨ ov.ownBlock = some k) k6).trans hcr))
    have hlt' : (i : Int) < (l.length : Int) := by omega
    have hmul : i * 16 ^ m + 16 ^ m ≤ 16 ^ m * 16 := by
      have : (i + 1) * 16 ^ m ≤ 16 * 16 ^ m := Nat.mul_le_mul_right _ (by omega)
      rw [Nat.add_mul, Nat.one_mul, Nat.mul_comm 16] at this
      exact this
    simp (disch := omega) only [r_ln, r_pick, r_pickT, r_pickF, r_condT, r_condF, r_gdTT, r_gdFF, r_gdTF, r_gdFT, r_gqTT, r_gqFF, r_gqTF, r_gqFT, r_not, r_lss, r_leq, r_gtr, r_geq, r_eql, r_neq, r_add, r_sub, r_min2, r_max2, r_min3, r_max3, r_fa, r_iaS, r_iaA, r_ex2a, r_ex2b, r_ex3a, r_ex3b, r_ex3c, r_nc, r_keepE, Nat.zero_add, Nat.add_zero, Nat.mul_one, Int.toNat_natCast, toNat_sub1, toNat_add1, decide_true, decide_false, Bool.not_true, Bool.not_false, if_true, if_false, Bool.false_eq_true, reduceCtorEq, decide_eq_true hlt']
    have hsucc : (List.range (i + 1)).flatMap (part l m r) = (List.range i).flatMap (part l m r) ++ part l m r i := by
      rw [List.range_succ, List.flatMap_append]
      simp
    refine r_join0 (fun w' => ∃ oj, w'.heap[bo]? = some (.cells #[oj] 73 (0, 0)) ∧ LnAt base w' oj (P ++ ((List.range (i + 1)).flatMap (part l m r)).map (lineOf l)) ∧
        Chg (fun k => k = bo ∨ ov.ownBlock = some k) w1 w' ∧ ∀ k, oj.ownBlock = some k → ov.ownBlock = some k ∨ w1.heap.size ≤ k) ?_ ?_
    · rintro w' ⟨oj, q1, q2, q3, q4⟩
      try simp (disch := omega) only [r_ln, r_pick, r_pickT, r_pickF, r_condT, r_condF, r_gdTT, r_gdFF, r_gdTF, r_gdFT, r_gqTT, r_gqFF, r_gqTF, r_gqFT, r_not, r_lss, r_leq, r_gtr, r_geq, r_eql, r_neq, r_add, r_sub, r_min2, r_max2, r_min3, r_max3, r_fa, r_iaS, r_iaA, r_ex2a, r_ex2b, r_ex3a, r_ex3b, r_ex3c, r_nc, r_keepE, Nat.zero_add, Nat.add_zero, Nat.mul_one, Int.toNat_natCast, toNat_sub1, toNat_add1, decide_true, decide_false, Bool.not_true, Bool.not_false, if_true, if_false, Bool.false_eq_true, reduceCtorEq]
      exact ⟨⟨i + 1, oj, by omega, by go_num, q1, q2, q3, q4⟩, by simp only [intOf]; omega⟩
    intro kk hkk
    obtain ⟨vb, vo, vc, ev, hld, _⟩ := RdT.tile Mr.rd hlt
    cases ev
    simp (disch := omega) only [r_ln, r_pick, r_pickT, r_pickF, r_condT, r_condF, r_gdTT, r_gdFF, r_gdTF, r_gdFT, r_gqTT, r_gqFF, r_gqTF, r_gqFT, r_not, r_lss, r_leq, r_gtr, r_geq, r_eql, r_neq, r_add, r_sub, r_min2, r_max2, r_min3, r_max3, r_fa, r_iaS, r_iaA, r_ex2a, r_ex2b, r_ex3a, r_ex3b, r_ex3c, r_nc, r_keepE, Nat.zero_add, Nat.add_zero, Nat.mul_one, Int.toNat_natCast, toNat_sub1, toNat_add1, decide_true, decide_false, Bool.not_true, Bool.not_false, if_true, if_false, Bool.false_eq_true, reduceCtorEq, hld]
    refine r_box fun b9 w2 e9 s9 h9 k9 => ?_
    refine r_stAll (n := 4) (ty := 32) (by kernel_rfl) rfl (by intro u hu; simp [Value.cells] at hu; rcases hu with rfl | rfl | rfl | rfl <;> rfl) h9 rfl fun w3 cg3 s3 h93 => ?_
    have k03 : Kp wr w3 := Kp.of_chg k9 cg3 fun i e => by omega
    refine r_drew fun w4 k4 _ => ?_
    have kr4 := Kp.trans k03 k4
    have M4 := Mr.chg (Chg.of_kp kr4)
    have h94 := block_below h93 k4
    have scr := hcr.size
    have sr4 := kr4.size
    have h6r : wr.heap[b6]? = some (.cells (lnV (partOf l r)).cells 78 (0, 0)) := hcr.at h6 fun hk => by
      rcases hk with e | e
      · omega
      · have := hob _ e; omega
    have h64 := block_below h6r kr4
    obtain ⟨hc4, g4, g5⟩ := line_cell h64
    have c3' : w4.cell? ⟨bs, 0, none⟩ = some (.slice (some ⟨vb, vo, none⟩) l.length scap) := by rw [cell_row M4.hs]; rfl
    have d0 : w4.cell? ⟨b9, 0, none⟩ = some (.int .i64 (tN (tl l i))) := by rw [cell_row h94]; rfl
    have d2 : w4.cell? ⟨b9, 2, none⟩ = some (.int .i64 (tS (tl l i))) := by rw [cell_row h94]; rfl
    have d3 : w4.cell? ⟨b9, 3, none⟩ = some (.int .i64 (tW (tl l i))) := by rw [cell_row h94]; rfl
    have skip : fits l r i = false → kk w4 := fun hf => hkk _ ⟨oi, block_below hor kr4, by
      rw [hsucc]
      have : part l m r i = [] := by unfold part; rw [hf]; rfl
      rw [this, List.append_nil]
      exact hLr.kp kr4, hcr.trans (Chg.of_kp kr4), hov⟩
    have hcase : (r.length = 0 ∧ fits l r i = true) ∨ ∃ n, r.length = n + 1 ∧ fits l r i = decide (tE (tl l (r.getD n 0)) = tW (tl l i)) := by
      cases hk : r.length with
      | zero =>
        have : r = [] := List.length_eq_zero_iff.1 hk
        exact .inl ⟨rfl, by simp [fits, this]⟩
      | succ n =>
        have : ¬ r = [] := fun e => by rw [e] at hk; simp at hk
        exact .inr ⟨n, rfl, by simp only [fits, this, decide_false, Bool.false_or, last_get hk]⟩
    by_cases hff : fits l r i = true
    case neg =>
      have hff' : fits l r i = false := by simpa using hff
      rcases hcase with ⟨_, hf⟩ | ⟨n, hn, hf⟩
      · rw [hf] at hff'; cases hff'
      rw [hf] at hff'
      have hff2 : ¬ tE (tl l (r.getD n 0)) = tW (tl l i) := by simpa using hff'
      have rn : r.getD n 0 < l.length := hr _ (getD_mem (by omega))
      obtain ⟨vb', vo', vc', ev', _, _, tn1, _, _⟩ := RdT.tile M4.rd rn
      cases ev'
      have hn0 : (0 : Int) < (r.length : Int) := by omega
      have e1 : r.length - 1 = n := by omega
      simp (disch := omega) only [r_ln, r_pick, r_pickT, r_pickF, r_condT, r_condF, r_gdTT, r_gdFF, r_gdTF, r_gdFT, r_gqTT, r_gqFF, r_gqTF, r_gqFT, r_not, r_lss, r_leq, r_gtr, r_geq, r_eql, r_neq, r_add, r_sub, r_min2, r_max2, r_min3, r_max3, r_fa, r_iaS, r_iaA, r_ex2a, r_ex2b, r_ex3a, r_ex3b, r_ex3c, r_nc, r_keepE, Nat.zero_add, Nat.add_zero, Nat.mul_one, Int.toNat_natCast, toNat_sub1, toNat_add1, decide_true, decide_false, Bool.not_true, Bool.not_false, if_true, if_false, Bool.false_eq_true, reduceCtorEq, decide_eq_true hn0, r_ld c3', e1, r_ld (hc4 n (by omega)), r_ld tn1, r_ld d3, hff2]
      exact skip (by rw [hf]; exact hff')
    have hr4 : r.length < 4 := by omega
    rcases hcase with ⟨h0, _⟩ | ⟨n, hn, hf⟩
    have h0' : ¬ (0 : Int) < (r.length : Int) := by omega
    simp (disch := omega) only [r_ln, r_pick, r_pickT, r_pickF, r_condT, r_condF, r_gdTT, r_gdFF, r_gdTF, r_gdFT, r_gqTT, r_gqFF, r_gqTF, r_gqFT, r_not, r_lss, r_leq, r_gtr, r_geq, r_eql, r_neq, r_add, r_sub, r_min2, r_max2, r_min3, r_max3, r_fa, r_iaS, r_iaA, r_ex2a, r_ex2b, r_ex3a, r_ex3b, r_ex3c, r_nc, r_keepE, Nat.zero_add, Nat.add_zero, Nat.mul_one, Int.toNat_natCast, toNat_sub1, toNat_add1, decide_true, decide_false, Bool.not_true, Bool.not_false, if_true, if_false, Bool.false_eq_true, reduceCtorEq, h0']
    rotate_left
    rw [hf] at hff
    have hff2 : tE (tl l (r.getD n 0)) = tW (tl l i) := by simpa using hff
    rw [← hf] at hff
    have rn : r.getD n 0 < l.length := hr _ (getD_mem (by omega))
    obtain ⟨vb', vo', vc', ev', _, _, tn1, _, _⟩ := RdT.tile M4.rd rn
    cases ev'
    have hn0 : (0 : Int) < (r.length : Int) := by omega
    have e1 : r.length - 1 = n := by omega
    simp (disch := omega) only [r_ln, r_pick, r_pickT, r_pickF, r_condT, r_condF, r_gdTT, r_gdFF, r_gdTF, r_gdFT, r_gqTT, r_gqFF, r_gqTF, r_gqFT, r_not, r_lss, r_leq, r_gtr, r_geq, r_eql, r_neq, r_add, r_sub, r_min2, r_max2, r_min3, r_max3, r_fa, r_iaS, r_iaA, r_ex2a, r_ex2b, r_ex3a, r_ex3b, r_ex3c, r_nc, r_keepE, Nat.zero_add, Nat.add_zero, Nat.mul_one, Int.toNat_natCast, toNat_sub1, toNat_add1, decide_true, decide_false, Bool.not_true, Bool.not_false, if_true, if_false, Bool.false_eq_true, reduceCtorEq, decide_eq_true hn0, r_ld c3', e1, r_ld (hc4 n (by omega)), r_ld tn1, r_ld d3, decide_eq_true hff2]
    rotate_left
    all_goals
      rw [r_ldRow (n := 7) h64 rfl]
      refine r_box fun b10 w5 e10 s10 h10 k10 => ?_
      refine r_stAll (n := 7) (ty := 78) (by kernel_rfl) rfl (by intro u hu; simp [Value.cells] at hu; rcases hu with rfl | rfl | rfl | rfl | rfl | rfl | rfl <;> rfl) h10 rfl fun w6 cg6 s6' h106 => ?_
      have k46 : Kp w4 w6 := Kp.of_chg k10 cg6 fun i e => by omega
      refine r_drew fun w7 k7 _ => ?_
      have k47 := Kp.trans k46 k7
      have h107 : w7.heap[b10]? = some (.cells (lnV (partOf l r)).cells 78 (0, 0)) := block_below h106 k7
      have h67 := block_below h64 k47
      have h97 := block_below h94 k47
      obtain ⟨_, g4', g5'⟩ := line_cell h67
      obtain ⟨z4, _, _⟩ := line_cell h107
      have d0' := cell_later k47 d0
      have d2' := cell_later k47 d2
      have b6lt := block_lt h64
      have b9lt := block_lt h94
      have s47 := k47.size
      have s46 := k46.size
      have n6 : ¬ (fun k => k = b10) b6 := by dsimp only; omega
      have n9 : ¬ (fun k => k = b10) b9 := by dsimp only; omega
      obtain ⟨q1, q2⟩ := cols_norths hs hr
      have q3 := code_range q1 (by simp [norths]; omega)
      have q4 := code_range q2 (by simp [souths]; omega)
      obtain ⟨t1, _, t3, _⟩ := tl_cols hs hlt
      refine ⟨fun k => k = b10, ?_⟩
      simp (disch := omega) only [r_ln, r_pick, r_pickT, r_pickF, r_condT, r_condF, r_gdTT, r_gdFF, r_gdTF, r_gdFT, r_gqTT, r_gqFF, r_gqTF, r_gqFT, r_not, r_lss, r_leq, r_gtr, r_geq, r_eql, r_neq, r_add, r_sub, r_min2, r_max2, r_min3, r_max3, r_fa, r_iaS, r_iaA, r_ex2a, r_ex2b, r_ex3a, r_ex3b, r_ex3c, r_nc, r_keepE, Nat.zero_add, Nat.add_zero, Nat.mul_one, Int.toNat_natCast, toNat_sub1, toNat_add1, decide_true, decide_false, Bool.not_true, Bool.not_false, if_true, if_false, Bool.false_eq_true, reduceCtorEq, r_tx, r_txl (X := fun k => k = b10) g4' n6, r_txl (X := fun k => k = b10) g5' n6, r_txl (X := fun k => k = b10) d0' n9, r_txl (X := fun k => k = b10) d2' n9, r_mul]
      rw [st3 (z4 r.length hr4) (frozen_row h107), r_keepWE]
      have x1 := setCell_block (o := r.length) (v := .int .i64 i) h107 rfl
      have cx1 : Chg (fun k => k = b10) w7 (w7.setCell ⟨b10, r.length, none⟩ (.int .i64 i)) := Chg.setCell _ _ rfl
      refine ⟨BX.of_chg cx1, ?_⟩
      generalize w7.setCell ⟨b10, r.length, none⟩ (.int .i64 i) = w8 at *
      have y4 : ∃ x, w8.cell? ⟨b10, 4, none⟩ = some x := ⟨_, by rw [cell_row x1, Array.getElem?_setIfInBounds_ne (by omega)]; rfl⟩
      obtain ⟨_, y4⟩ := y4
      try simp only [r_ln, r_pick, r_pickT, r_pickF, r_condT, r_condF, r_gdTT, r_gdFF, r_gdTF, r_gdFT, r_gqTT, r_gqFF, r_gqTF, r_gqFT, r_not, r_lss, r_leq, r_gtr, r_geq, r_eql, r_neq, r_add, r_sub, r_min2, r_max2, r_min3, r_max3, r_fa, r_iaS, r_iaA, r_ex2a, r_ex2b, r_ex3a, r_ex3b, r_ex3c, r_nc, r_keepE, Nat.zero_add, Nat.add_zero, Nat.mul_one, Int.toNat_natCast, toNat_sub1, toNat_add1, decide_true, decide_false, Bool.not_true, Bool.not_false, if_true, if_false, Bool.false_eq_true, reduceCtorEq, r_tx]
      rw [st3 y4 (frozen_row x1), r_keepWE]
      have x2 := setCell_block (o := 4) (v := .int .i64 (code (norths l r) * 8 + tN (tl l i))) x1 rfl
      have cx2 : Chg (fun k => k = b10) w8 (w8.setCell ⟨b10, 4, none⟩ (.int .i64 (code (norths l r) * 8 + tN (tl l i)))) := Chg.setCell _ _ rfl
      refine ⟨BX.of_chg cx2, ?_⟩
      generalize w8.setCell ⟨b10, 4, none⟩ (.int .i64 (code (norths l r) * 8 + tN (tl l i))) = w9 at *
      have y5 : ∃ x, w9.cell? ⟨b10, 5, none⟩ = some x := ⟨_, by rw [cell_row x2, Array.getElem?_setIfInBounds_ne (by omega), Array.getElem?_setIfInBounds_ne (by omega)]; rfl⟩
      obtain ⟨_, y5⟩ := y5
      try simp only [r_ln, r_pick, r_pickT, r_pickF, r_condT, r_condF, r_gdTT, r_gdFF, r_gdTF, r_gdFT, r_gqTT, r_gqFF, r_gqTF, r_gqFT, r_not, r_lss, r_leq, r_gtr, r_geq, r_eql, r_neq, r_add, r_sub, r_min2, r_max2, r_min3, r_max3, r_fa, r_iaS, r_iaA, r_ex2a, r_ex2b, r_ex3a, r_ex3b, r_ex3c, r_nc, r_keepE, Nat.zero_add, Nat.add_zero, Nat.mul_one, Int.toNat_natCast, toNat_sub1, toNat_add1, decide_true, decide_false, Bool.not_true, Bool.not_false, if_true, if_false, Bool.false_eq_true, reduceCtorEq, r_tx]
      rw [st3 y5 (frozen_row x2)]
      have x3 := setCell_block (o := 5) (v := .int .i64 (code (souths l r) * 8 + tS (tl l i))) x2 rfl
      have cx3 : Chg (fun k => k = b10) w9 (w9.setCell ⟨b10, 5, none⟩ (.int .i64 (code (souths l r) * 8 + tS (tl l i)))) := Chg.setCell _ _ rfl
      generalize w9.setCell ⟨b10, 5, none⟩ (.int .i64 (code (souths l r) * 8 + tS (tl l i))) = wa at *
      have cxx : Chg (fun k => k = b10) w7 wa := (cx1.trans cx2).trans cx3
      have k4a : Kp w4 wa := Kp.of_chg k47 cxx fun k e => by omega
      have kra := Kp.trans kr4 k4a
      have Ma := M4.chg (Chg.of_kp k4a)
      have ca : wa.cell? ⟨ba, 0, none⟩ = some (atF bw bs bo ba) := by rw [cell_row Ma.ha]; rfl
      rw [r_ld ca, r_ldRow (n := 7) x3 (by simp [Value.cells]), next_line hr4]
      try simp (disch := omega) only [r_ln, r_pick, r_pickT, r_pickF, r_condT, r_condF, r_gdTT, r_gdFF, r_gdTF, r_gdFT, r_gqTT, r_gqFF, r_gqTF, r_gqFT, r_not, r_lss, r_leq, r_gtr, r_geq, r_eql, r_neq, r_add, r_sub, r_min2, r_max2, r_min3, r_max3, r_fa, r_iaS, r_iaA, r_ex2a, r_ex2b, r_ex3a, r_ex3b, r_ex3c, r_nc, r_keepE, Nat.zero_add, Nat.add_zero, Nat.mul_one, Int.toNat_natCast, toNat_sub1, toNat_add1, decide_true, decide_false, Bool.not_true, Bool.not_false, if_true, if_false, Bool.false_eq_true, reduceCtorEq]
      have eargs : ((r.length : Int) + 1) = ((r ++ [i]).length : Nat) := by simp
      rw [eargs]
      have hbound : (P ++ ((List.range i).flatMap (part l m r)).map (lineOf l)).length + 16 ^ m ≤ 100000 := by
        rw [List.length_append, List.length_map]
        omega
      refine r_use fok104 (ih (r ++ [i]) _ oi wa (by simp; omega) (fun k hk => by
        rcases List.mem_append.1 hk with hk | hk
        · exact hr k hk
        · rw [List.mem_singleton.1 hk]; exact hlt) Ma (block_below hor kra) (hLr.kp kra) hbound) rfl ?_
      rintro _ wb ⟨rfl, oj, p1, p2, p3, p4⟩
      refine ⟨_, rfl, hkk _ ⟨oj, p2, ?_, ?_, fun k hk => ?_⟩⟩
      · rw [hsucc]
        have : part l m r i = exts l m (r ++ [i]) := by unfold part; rw [if_pos hff]
        rw [this, List.map_append, ← List.append_assoc]
        exact p1
      · have t : Chg (fun k => k = bo ∨ ov.ownBlock = some k ∨ w1.heap.size ≤ k) w1 wb := ((hcr.mono fun k _ e => e.imp id .inl).trans (Chg.of_kp kra)).trans (p3.mono fun k _ e => e.imp id fun e => hov k e)
        exact t.mono fun k hk e => by
          rcases e with e | e | e
          · exact .inl e
          · exact .inr e
          · omega
      · rcases p4 k hk with h | h
        · exact hov k h
        · have := kra.size
          exact .inr (by omega)

set_option maxRecDepth 100000 in
theorem rows_calls {l : List Tile} (hs : IsSet l) {W : Nat} (hW : 1 ≤ W ∧ W ≤ 4) {sv : Value} (w : World) (hr : RdT w sv l) :
    Calls Try.prog 59 #[sv, .int .i64 W] w fun e w' => ∃ v', e = .returned v' ∧ Kp w w' ∧ LnAt w.heap.size w' v' ((rowsL l W).map (lineOf l)) := by
  obtain ⟨sa, scap, rfl, _⟩ := hr.len
  refine lift59 ?_
  unfold S59
  refine r_box fun b2 w1 e2 s2 h2 k2 => ?_
  refine r_box fun b3 w3 e3 s3 h3 k3 => ?_
  refine r_box fun b5 w5 e5 s5 h5 k5 => ?_
  refine r_box fun b6 w6 e6 s6 h6 k6 => ?_
  refine r_stAll (n := 1) (ty := 108) (cs := #[.nilFunc]) (by kernel_rfl) rfl (by intro u hu; simp [Value.cells] at hu; subst hu; rfl) h6 rfl fun w7 c7 s7 h7 => ?_
  have k06 : Kp w w6 := Kp.trans (Kp.trans k2 k3) (Kp.trans k5 k6)
  have k07 : Kp w w7 := Kp.of_chg k06 c7 fun i e => by omega
  have cf : w7.cell? ⟨b6, 0, none⟩ = some (atF b3 b2 b5 b6) := by rw [cell_row h7]; rfl
  have hz : ∀ K : Value → Prop, bdQ Try.prog 78 [] K = K (lnV (partOf l [])) := fun K => by kernel_rfl
  rw [r_ld cf, hz]
  have hl1 := hs.pos
  have M : RowsMem l W (.slice sa l.length scap) b3 b2 b5 b6 w7.heap.size w7 := by
    refine ⟨c7.at (block_below h3 (Kp.trans k5 k6)) (by omega), c7.at (block_below h2 (Kp.trans k3 (Kp.trans k5 k6))) (by omega), h7, hr.kp k07, ⟨by omega, by omega⟩, ⟨by omega, by omega⟩, ⟨by omega, by omega⟩, by omega, fun b off n cap e => ?_, Nat.le_refl _⟩
    have := hr.block (fun x => by rw [tlC_len]; omega) e (by omega)
    omega
  have ho : w7.heap[b5]? = some (.cells #[.slice none 0 0] 73 (0, 0)) := c7.at (block_below h5 k6) (by omega)
  have h16 := pow16_le hW.2
  refine r_use fok104 (at_calls hs hW W [] [] _ w7 (by simp) (by simp) M ho RecAt.nil (by simp; omega)) rfl ?_
  rintro _ w8 ⟨rfl, v, hL, ho8, hch, hv⟩
  refine ⟨_, rfl, ?_⟩
  have cv : w8.cell? ⟨b5, 0, none⟩ = some v := by rw [cell_row ho8]; rfl
  rw [r_ld cv]
  refine ⟨v, rfl, Kp.of_chg k07 hch fun k e => ?_, ?_⟩
  · rcases e with e | e
    · omega
    · cases e
  · rw [List.nil_append] at hL
    exact hL.down (by have := k07.size; omega)

end Go.Proofs.Ytgalbokmgffhkaa

/- Lists of integers and of booleans of one's own; copy; slices.Repeat of one element. -/
namespace Go.Proofs.Ytgalbokmgffhkaa
open Go.Lf Go.RowKit Go.Wg

def iC (n : Int) : List Value := [.int .i64 n]
def bC (b : Bool) : List Value := [.bool b]
theorem iC_len (n : Int) : (iC n).length = 1 := rfl
theorem bC_len (b : Bool) : (bC b).length = 1 := rfl
abbrev IntsAt (base : Nat) (w : World) (v : Value) (l : List Int) : Prop := RecAt 3 1 iC base w v l
abbrev BoolsAt (base : Nat) (w : World) (v : Value) (l : List Bool) : Prop := RecAt 4 1 bC base w v l
theorem rec_ints : ∀ l : List Int, recCells iC l = l.map (.int .i64)
  | [] => rfl
  | a :: l => by
    have := rec_ints l
    simp only [recCells, List.flatMap_cons, List.map_cons] at this ⊢
    rw [this]; rfl
theorem rec_bools : ∀ l : List Bool, recCells bC l = l.map .bool
  | [] => rfl
  | a :: l => by
    have := rec_bools l
    simp only [recCells, List.flatMap_cons, List.map_cons] at this ⊢
    rw [this]; rfl

theorem Rd.ints {w : World} {v : Value} {l : List Int} (h : Rd 1 iC w v l) (hl : l.length ≤ 1000000) : RdInts w v l := by
  obtain ⟨a, cap, rfl, hlc, hh⟩ := h
  refine ⟨a, cap, rfl, by omega, fun h0 => ?_⟩
  obtain ⟨b, off, rfl, hc⟩ := hh h0
  refine ⟨b, off, rfl, fun i hi => ?_⟩
  have := hc i l[i] (List.getElem?_eq_getElem hi) 0 _ rfl
  rw [getD_lt _ _ _ hi]
  simpa using this

theorem slt91 : SlT 91 4 1 1 := SlT.mk' (z := .bool false) (by kernel_rfl) (by kernel_rfl) rfl (by decide)
theorem bs91 (b : Bool) (w : World) (K : Value → World → Prop) : bsW Try.prog 91 1 [(0, .bool b)] w K = K (.slice (some ⟨w.heap.size, 0, none⟩) 1 1) (w.alloc (.cells #[.bool b] 4)) := by kernel_rfl
theorem slt88 : SlT 88 91 1 24 := SlT.mk' (z := .slice none 0 0) (by kernel_rfl) (by kernel_rfl) rfl (by decide)
theorem bs88 (a : Option Addr) (n c : Nat) (w : World) (K : Value → World → Prop) : bsW Try.prog 88 1 [(0, .slice a n c)] w K = K (.slice (some ⟨w.heap.size, 0, none⟩) 1 1) (w.alloc (.cells #[.slice a n c] 91)) := by kernel_rfl

/-- A block that was made holds so many of one. -/
theorem made_rec {α : Type} {e : TypeId} {enc : α → List Value} {x : α} {z : Value} (hz : enc x = [z]) {n : Nat} (hn : n ≤ 1000000) (w : World) : RecAt e 1 enc w.heap.size (w.alloc (.cells (Array.replicate n z) e)) (.slice (some ⟨w.heap.size, 0, none⟩) n n) (List.replicate n x) := by
  have e1 : recCells enc (List.replicate n x) = List.replicate n z := by
    unfold recCells
    induction n with
    | zero => rfl
    | succ n ih => rw [List.replicate_succ, List.flatMap_cons, ih (by omega), hz]; rfl
  refine ⟨by rw [e1]; simp, .inr ⟨w.heap.size, n, _, by simp, Nat.le_refl _, heap_alloc_new w _, by simp, by unfold maxLen; omega, by simp, ?_⟩⟩
  rw [e1]
  simp

/-- make([]bool, n) -/
theorem mk91 {n : Nat} {w : World} {K : Value → World → Prop} (hn : n ≤ 1000000) (h : ∀ v w', BoolsAt w.heap.size w' v (List.replicate n false) → Kp w w' → v.ownBlock = some w.heap.size → K v w') :
    mkW Try.prog 91 (.int .i64 n) (.int .i64 n) w K := by
  have e : ∀ (l : Int) (K : Value → World → Prop), mkW Try.prog 91 (.int .i64 l) (.int .i64 l) w K = (0 ≤ l ∧ l ≤ l ∧ l ≤ 4611686018427387904 ∧ ((1 : Nat) : Int) * l ≤ 281474976710656 ∧ 0 < 1 ∧
      K (.slice (some ⟨w.heap.size, 0, none⟩) l.toNat l.toNat) (w.alloc (.cells (mkCells #[.bool false] (l.toNat * 1)) 4))) := fun l K => by kernel_rfl
  rw [e]
  refine ⟨by omega, by omega, by omega, by omega, by omega, ?_⟩
  rw [Nat.mul_one, mkCells_one, Int.toNat_natCast]
  exact h _ _ (made_rec (x := false) (enc := bC) rfl hn w) (below_alloc _) rfl
set_option maxRecDepth 100000 in
/-- make([]int, n) -/
theorem mk30' {n : Nat} {w : World} {K : Value → World → Prop} (hn : n ≤ 1000000) (h : ∀ v w', IntsAt w.heap.size w' v (List.replicate n 0) → Kp w w' → v.ownBlock = some w.heap.size → K v w') :
    mkW Try.prog 30 (.int .i64 n) (.int .i64 n) w K :=
  mk30 (by omega) (h _ _ (made_rec (x := (0 : Int)) (enc := iC) rfl hn w) (below_alloc _) rfl)

set_option maxRecDepth 100000 in
/-- copy(d, s) at elements of one cell. -/
theorem r_cp {t elem : TypeId} {bytes : Nat} (T : SlT t elem 1 bytes) {w : World} {g o dLen dCap : Nat} {a : Addr} {sLen sCap : Nat} {cur : Array Value} {ty : TypeId} {cs : List Value} {K : Value → World → Prop}
    (hg : w.heap[g]? = some (.cells cur ty (0, 0))) (hn : cs.length = min sLen dLen) (hsrc : ∀ j v, cs[j]? = some v → w.cell? (a.add j) = some v) (hfit : o + cs.length ≤ cur.size) (h1 : ∀ v ∈ cs, v.oneCell' = true)
    (hk : ∀ w', Chg (fun k => k = g) w w' → w'.heap.size = w.heap.size → w'.heap[g]? = some (.cells (cur.toList.take o ++ cs ++ cur.toList.drop (o + cs.length)).toArray ty (0, 0)) → K (.int .i64 cs.length) w') :
    semW Try.prog (cpS [t, t] 3 [.slice (some ⟨g, o, none⟩) dLen dCap, .slice (some a) sLen sCap]) w K := by
  obtain ⟨i, z, i1, i2, i3, i4, i5⟩ := T.info
  have hr := run_copy_row (P := Try.prog) w t t 3 elem g o dLen dCap a sLen sCap cur ty cs T.und (by simp [i1, i3]) hg hn hsrc hfit h1
  refine semW_of_run (v := goInt cs.length) (w' := w.setRow g (cur.toList.take o ++ cs ++ cur.toList.drop (o + cs.length)).toArray) (by simp [cpS, hr]) (hk _ ⟨rfl, rfl, rfl, by simp [World.setRow], fun k _ hne => by simp [World.setRow, Array.getElem?_modify, Ne.symm hne]⟩ (by simp [World.setRow]) (setRow_heap _ _ _ _ _ _ hg))

/-! ### slices.Repeat -/

abbrev MulOk (n : Nat) : Prop := n = 8 ∨ n = 64 ∨ n = 512 ∨ n = 4096
theorem mulOk {a : Nat} (h : 1 ≤ a ∧ a ≤ 4) : MulOk (8 ^ a) := by
  have : a = 1 ∨ a = 2 ∨ a = 3 ∨ a = 4 := by omega
  rcases this with rfl | rfl | rfl | rfl <;> decide
theorem b_gen {op : BinOp} {t : TypeId} {lit : Bool} {k : IntKind} {x y : Int} {v : Value} {w : World} {K : Value → Prop} (h : ∀ w', (semBin op t lit (.int k x) (.int k y)).run Try.prog w' = .ok (.value v) w') (hn : intBin op k x y = none) (hk : K v) : binQ Try.prog w op t lit (.int k x) (.int k y) K := by
  have e : binQ Try.prog w op t lit (.int k x) (.int k y) K = genQ Try.prog w (semBin op t lit (.int k x) (.int k y)) K := by
    simp [binQ, hn]
  rw [e]
  exact ⟨v, fun w' _ => h w', hk⟩
theorem b_int {op : BinOp} {t : TypeId} {lit : Bool} {k : IntKind} {x y : Int} {v : Value} {w : World} {K : Value → Prop} (h : intBin op k x y = some v) (hk : K v) : binQ Try.prog w op t lit (.int k x) (.int k y) K := by
  rw [r_bin h]; exact hk
set_option maxRecDepth 100000 in
theorem mul64_calls {n : Nat} (hn : MulOk n) (w : World) : Calls Try.prog 120 #[.int .u64 1, .int .u64 n] w fun e w' => e = .returned (.tuple #[.int .u64 0, .int .u64 n]) ∧ w = w' := by
  have hand : ∀ w', (semBin .and 125 true (.int .u64 n) (.int .u64 4294967295)).run Try.prog w' = .ok (.value (.int .u64 n)) w' := fun w' => by
    rcases hn with rfl | rfl | rfl | rfl <;> kernel_rfl
  have hshr : ∀ w', (semBin .shr 125 true (.int .u64 n) (.int .u64 32)).run Try.prog w' = .ok (.value (.int .u64 0)) w' := fun w' => by
    rcases hn with rfl | rfl | rfl | rfl <;> kernel_rfl
  have h4 : n ≤ 4096 := by omega
  have hmul : intBin .mul .u64 1 n = some (.int .u64 n) := by
    show some (Value.int .u64 (IntKind.u64.wrap (1 * (n : Int)))) = _
    rw [IntWalk.u64_in _ (by omega), Int.one_mul]
  have hmul0 : intBin .mul .u64 0 n = some (.int .u64 0) := by
    show some (Value.int .u64 (IntKind.u64.wrap (0 * (n : Int)))) = _
    rw [Int.zero_mul]; rfl
  refine lift120 ?_
  unfold S120
  refine b_gen (v := .int .u64 1) (fun _ => by kernel_rfl) rfl ?_
  refine b_gen (v := .int .u64 0) (fun _ => by kernel_rfl) rfl ?_
  refine b_gen hand rfl ?_
  refine b_gen hshr rfl ?_
  refine b_int hmul ?_
  refine b_int hmul0 ?_
  refine b_gen hshr rfl ?_
  refine b_int (v := .int .u64 0) rfl ?_
  refine b_gen (v := .int .u64 0) (fun _ => by kernel_rfl) rfl ?_
  refine b_gen (v := .int .u64 0) (fun _ => by kernel_rfl) rfl ?_
  refine b_int (v := .int .u64 0) rfl ?_
  refine b_int (v := .int .u64 0) rfl ?_
  refine b_int (v := .int .u64 0) rfl ?_
  refine b_int (v := .int .u64 0) rfl ?_
  refine b_gen (v := .int .u64 0) (fun _ => by kernel_rfl) rfl ?_
  refine b_int (v := .int .u64 0) rfl ?_
  refine b_int hmul ?_
  exact ⟨rfl, rfl⟩
theorem mul_calls {n : Nat} (hn : MulOk n) (w : World) : Calls Try.prog 105 #[.int .u64 1, .int .u64 n] w fun e w' => e = .returned (.tuple #[.int .u64 0, .int .u64 n]) ∧ w = w' := by
  refine lift105 ?_
  unfold S105
  simp only [r_ln, r_pick, r_pickT, r_pickF, r_condT, r_condF, r_gdTT, r_gdFF, r_gdTF, r_gdFT, r_gqTT, r_gqFF, r_gqTF, r_gqFT, r_not, r_lss, r_leq, r_gtr, r_geq, r_eql, r_neq, r_add, r_sub, r_min2, r_max2, r_min3, r_max3, r_fa, r_iaS, r_iaA, r_ex2a, r_ex2b, r_ex3a, r_ex3b, r_ex3c, r_nc, r_keepE, Nat.zero_add, Nat.add_zero, Nat.mul_one, Int.toNat_natCast, toNat_sub1, toNat_add1, decide_true, decide_false, Bool.not_true, Bool.not_false, if_true, if_false, Bool.false_eq_true, reduceCtorEq]
  refine r_use fok120 (mul64_calls hn w) rfl ?_
  rintro _ _ ⟨rfl, rfl⟩
  refine ⟨_, rfl, ?_⟩
  simp only [r_ln, r_pick, r_pickT, r_pickF, r_condT, r_condF, r_gdTT, r_gdFF, r_gdTF, r_gdFT, r_gqTT, r_gqFF, r_gqTF, r_gqFT, r_not, r_lss, r_leq, r_gtr, r_geq, r_eql, r_neq, r_add, r_sub, r_min2, r_max2, r_min3, r_max3, r_fa, r_iaS, r_iaA, r_ex2a, r_ex2b, r_ex3a, r_ex3b, r_ex3c, r_nc, r_keepE, Nat.zero_add, Nat.add_zero, Nat.mul_one, Int.toNat_natCast, toNat_sub1, toNat_add1, decide_true, decide_false, Bool.not_true, Bool.not_false, if_true, if_false, Bool.false_eq_true, reduceCtorEq]
  exact ⟨by first | rfl | trivial, by first | rfl | trivial⟩


set_option maxRecDepth 100000 in
set_option maxHeartbeats 400000 in
/-- slices.Repeat of one boolean. -/
theorem repeatB_calls {n b off c : Nat} {x : Bool} (hn : MulOk n) (w : World) (hc : w.cell? ⟨b, off, none⟩ = some (.bool x)) : Calls Try.prog 106 #[.slice (some ⟨b, off, none⟩) 1 c, .int .i64 n] w fun e w' => ∃ v, e = .returned v ∧ Kp w w' ∧ BoolsAt w.heap.size w' v (List.replicate n x) := by
  have h4 : 8 ≤ n ∧ n ≤ 4096 := by omega
  refine lift106 ?_
  unfold S106
  have n0 : ¬ (n : Int) < 0 := by omega
  simp (disch := omega) only [r_ln, r_pick, r_pickT, r_pickF, r_condT, r_condF, r_gdTT, r_gdFF, r_gdTF, r_gdFT, r_gqTT, r_gqFF, r_gqTF, r_gqFT, r_not, r_lss, r_leq, r_gtr, r_geq, r_eql, r_neq, r_add, r_sub, r_min2, r_max2, r_min3, r_max3, r_fa, r_iaS, r_iaA, r_ex2a, r_ex2b, r_ex3a, r_ex3b, r_ex3c, r_nc, r_keepE, Nat.zero_add, Nat.add_zero, Nat.mul_one, Int.toNat_natCast, toNat_sub1, toNat_add1, decide_true, decide_false, Bool.not_true, Bool.not_false, if_true, if_false, Bool.false_eq_true, reduceCtorEq, n0]
  refine r_join0 (fun w' => w = w') ?_ fun kk hkk => hkk w rfl
  rintro _ rfl
  simp (disch := omega) only [r_ln, r_pick, r_pickT, r_pickF, r_condT, r_condF, r_gdTT, r_gdFF, r_gdTF, r_gdFT, r_gqTT, r_gqFF, r_gqTF, r_gqFT, r_not, r_lss, r_leq, r_gtr, r_geq, r_eql, r_neq, r_add, r_sub, r_min2, r_max2, r_min3, r_max3, r_fa, r_iaS, r_iaA, r_ex2a, r_ex2b, r_ex3a, r_ex3b, r_ex3c, r_nc, r_keepE, Nat.zero_add, Nat.add_zero, Nat.mul_one, Int.toNat_natCast, toNat_sub1, toNat_add1, decide_true, decide_false, Bool.not_true, Bool.not_false, if_true, if_false, Bool.false_eq_true, reduceCtorEq, r_cv]
  have e1 : IntKind.u64.wrap ((1 : Nat) : Int) = 1 := rfl
  rw [e1, IntWalk.u64_in _ (by omega)]
  refine r_use fok105 (mul_calls hn w) rfl ?_
  rintro _ _ ⟨rfl, rfl⟩
  refine ⟨_, rfl, ?_⟩
  clear hn
  have g1 : ¬ (9223372036854775807 : Int) < (n : Int) := by omega
  have g0 : ¬ (0 : Int) < 0 := by omega
  simp (disch := omega) only [r_ln, r_pick, r_pickT, r_pickF, r_condT, r_condF, r_gdTT, r_gdFF, r_gdTF, r_gdFT, r_gqTT, r_gqFF, r_gqTF, r_gqFT, r_not, r_lss, r_leq, r_gtr, r_geq, r_eql, r_neq, r_add, r_sub, r_min2, r_max2, r_min3, r_max3, r_fa, r_iaS, r_iaA, r_ex2a, r_ex2b, r_ex3a, r_ex3b, r_ex3c, r_nc, r_keepE, Nat.zero_add, Nat.add_zero, Nat.mul_one, Int.toNat_natCast, toNat_sub1, toNat_add1, decide_true, decide_false, Bool.not_true, Bool.not_false, if_true, if_false, Bool.false_eq_true, reduceCtorEq, g0, g1]
  refine r_join0 (fun w' => w = w') ?_ fun kk hkk => hkk w rfl
  rintro _ rfl
  simp (disch := omega) only [r_ln, r_pick, r_pickT, r_pickF, r_condT, r_condF, r_gdTT, r_gdFF, r_gdTF, r_gdFT, r_gqTT, r_gqFF, r_gqTF, r_gqFT, r_not, r_lss, r_leq, r_gtr, r_geq, r_eql, r_neq, r_add, r_sub, r_min2, r_max2, r_min3, r_max3, r_fa, r_iaS, r_iaA, r_ex2a, r_ex2b, r_ex3a, r_ex3b, r_ex3c, r_nc, r_keepE, Nat.zero_add, Nat.add_zero, Nat.mul_one, Int.toNat_natCast, toNat_sub1, toNat_add1, decide_true, decide_false, Bool.not_true, Bool.not_false, if_true, if_false, Bool.false_eq_true, reduceCtorEq, r_cv]
  rw [IntWalk.i64_in _ (by omega)]
  refine mk91 (by omega) fun v w1 hv k1 hvb => ?_
  have hv0 := hv.lt hvb
  obtain ⟨g, cap, cur, rfl, hgb, hg, hle, hcm, hsz, _⟩ := hv.blk (by rw [List.length_replicate]; omega)
  rw [List.length_replicate] at hle
  have hlr : (List.replicate n false).length = n := List.length_replicate
  rw [hlr]
  have fin : ∀ (w' : World) (cur' : Array Value), w'.heap[g]? = some (.cells cur' 4 (0, 0)) → cur'.size = cur.size → (∀ j, j < n → cur'[j]? = some (.bool x)) → BoolsAt w.heap.size w' (.slice (some ⟨g, 0, none⟩) n cap) (List.replicate n x) := fun w' cur' h1 h2 h3 => by
    refine ⟨by rw [rec_bools]; simp, .inr ⟨g, cap, cur', by simp, hgb, h1, by simpa using hle, hcm, by omega, ?_⟩⟩
    rw [rec_bools]
    refine List.ext_getElem? fun j => ?_
    rw [List.getElem?_take]
    simp only [List.length_replicate, Nat.mul_one, List.map_replicate, List.getElem?_replicate]
    split
    · rename_i hj
      have := h3 j hj
      simpa using this
    · rfl
  have k1s := k1.size
  have hcw1 := cell_later k1 hc
  have ea : ∀ j (u : Value), [Value.bool x][j]? = some u → w1.cell? ((⟨b, off, none⟩ : Addr).add j) = some u := fun j u hj => by
    cases j with
    | zero => cases hj; simpa [r_addr] using hcw1
    | succ j => simp at hj
  refine r_cp (cs := [.bool x]) slt91 hg (by simp; omega) ea (by simp; omega) (by intro u hu; simp at hu; subst hu; rfl) fun w2 c2 s2 h2 => ?_
  refine ⟨fun t8 wr => ∃ (m : Nat) (cur' : Array Value), 1 ≤ m ∧ m ≤ n ∧ t8 = .int .i64 m ∧ wr.heap[g]? = some (.cells cur' 4 (0, 0)) ∧ cur'.size = cur.size ∧ (∀ j, j < m → cur'[j]? = some (.bool x)) ∧ Chg (fun k => k = g) w1 wr, fun t8 _ => n - (intOf t8).toNat,
    ⟨1, _, by omega, by omega, rfl, h2, by simp; omega, fun j hj => by
      have : j = 0 := by omega
      subst this
      simp, c2⟩, ?_⟩
  rintro _ _ wr ⟨m, cur', hm1, hmn, rfl, hgr, hsr, hxr, hcr⟩
  by_cases hlt : m < n
  case neg =>
    have hlt' : ¬ (m : Int) < (n : Int) := by omega
    have em : m = n := by omega
    subst em
    simp (disch := omega) only [r_ln, r_pick, r_pickT, r_pickF, r_condT, r_condF, r_gdTT, r_gdFF, r_gdTF, r_gdFT, r_gqTT, r_gqFF, r_gqTF, r_gqFT, r_not, r_lss, r_leq, r_gtr, r_geq, r_eql, r_neq, r_add, r_sub, r_min2, r_max2, r_min3, r_max3, r_fa, r_iaS, r_iaA, r_ex2a, r_ex2b, r_ex3a, r_ex3b, r_ex3c, r_nc, r_keepE, Nat.zero_add, Nat.add_zero, Nat.mul_one, Int.toNat_natCast, toNat_sub1, toNat_add1, decide_true, decide_false, Bool.not_true, Bool.not_false, if_true, if_false, Bool.false_eq_true, reduceCtorEq, hlt']
    exact ⟨_, rfl, Kp.of_chg k1 hcr fun k e => by omega, fin _ _ hgr hsr hxr⟩
  have hlt' : (m : Int) < (n : Int) := by omega
  simp (disch := omega) only [r_ln, r_pick, r_pickT, r_pickF, r_condT, r_condF, r_gdTT, r_gdFF, r_gdTF, r_gdFT, r_gqTT, r_gqFF, r_gqTF, r_gqFT, r_not, r_lss, r_leq, r_gtr, r_geq, r_eql, r_neq, r_add, r_sub, r_min2, r_max2, r_min3, r_max3, r_fa, r_iaS, r_iaA, r_ex2a, r_ex2b, r_ex3a, r_ex3b, r_ex3c, r_nc, r_keepE, Nat.zero_add, Nat.add_zero, Nat.mul_one, Int.toNat_natCast, toNat_sub1, toNat_add1, decide_true, decide_false, Bool.not_true, Bool.not_false, if_true, if_false, Bool.false_eq_true, reduceCtorEq, decide_eq_true hlt']
  refine r_drew fun wx kx _ => ?_
  refine ⟨fun k => k = g, ?_⟩
  have hcm' : ¬ cap = m := by omega
  simp (disch := omega) only [r_ln, r_pick, r_pickT, r_pickF, r_condT, r_condF, r_gdTT, r_gdFF, r_gdTF, r_gdFT, r_gqTT, r_gqFF, r_gqTF, r_gqFT, r_not, r_lss, r_leq, r_gtr, r_geq, r_eql, r_neq, r_add, r_sub, r_min2, r_max2, r_min3, r_max3, r_fa, r_iaS, r_iaA, r_ex2a, r_ex2b, r_ex3a, r_ex3b, r_ex3c, r_nc, r_keepE, Nat.zero_add, Nat.add_zero, Nat.mul_one, Int.toNat_natCast, toNat_sub1, toNat_add1, decide_true, decide_false, Bool.not_true, Bool.not_false, if_true, if_false, Bool.false_eq_true, reduceCtorEq, r_tx, r_slTo, r_slFrom, hcm']
  have hgx := block_below hgr kx
  have ead : (⟨g, 0, none⟩ : Addr).add m = ⟨g, m, none⟩ := by rw [r_addr, Nat.zero_add]
  have hmin : min m (n - m) ≤ m ∧ m + min m (n - m) ≤ n ∧ 1 ≤ min m (n - m) := by omega
  have hexp : (((n : Int) - (m : Int)).toNat) = n - m := by omega
  simp only [Option.map_some, ead]
  generalize hq : min m (n - m) = q at *
  have hlq : (List.replicate q (Value.bool x)).length = q := List.length_replicate
  refine r_cp (cs := List.replicate q (.bool x)) slt91 hgx (by rw [hlq, hq]) (fun j u hj => ?_) (by rw [hlq]; omega) (by intro u hu; rw [List.eq_of_mem_replicate hu]; rfl) fun w3 c3 s3 h3 => ?_
  · rw [List.getElem?_replicate] at hj
    split at hj
    · rename_i hjq
      cases hj
      rw [r_addr, Nat.zero_add, cell_row hgx]
      exact hxr j (by omega)
    · cases hj
  rw [hlq, r_keepXE]
  refine ⟨BX.of_chg c3, ?_⟩
  try simp (disch := omega) only [r_ln, r_pick, r_pickT, r_pickF, r_condT, r_condF, r_gdTT, r_gdFF, r_gdTF, r_gdFT, r_gqTT, r_gqFF, r_gqTF, r_gqFT, r_not, r_lss, r_leq, r_gtr, r_geq, r_eql, r_neq, r_add, r_sub, r_min2, r_max2, r_min3, r_max3, r_fa, r_iaS, r_iaA, r_ex2a, r_ex2b, r_ex3a, r_ex3b, r_ex3c, r_nc, r_keepE, Nat.zero_add, Nat.add_zero, Nat.mul_one, Int.toNat_natCast, toNat_sub1, toNat_add1, decide_true, decide_false, Bool.not_true, Bool.not_false, if_true, if_false, Bool.false_eq_true, reduceCtorEq, r_tx]
  refine ⟨⟨m + q, _, by omega, by omega, by go_num, h3, ?_, fun j hj => ?_, (hcr.trans (Chg.of_kp kx)).trans c3⟩, by simp only [intOf]; omega⟩
  · simp only [hlq, List.size_toArray, List.length_append, List.length_take, List.length_drop, Array.length_toList, List.length_replicate]
    omega
  · have hcs : cur'.toList.length = cur.size := by simpa using hsr
    simp only [List.getElem?_toArray]
    by_cases hjm : j < m
    · rw [List.append_assoc, List.getElem?_append_left (by rw [List.length_take]; omega), List.getElem?_take, if_pos hjm]
      have := hxr j hjm
      simpa using this
    · rw [List.getElem?_append_left (by rw [List.length_append, List.length_take, hlq]; omega), List.getElem?_append_right (by rw [List.length_take]; omega), List.length_take, List.getElem?_replicate, if_pos (by omega)]

set_option maxRecDepth 100000 in
set_option maxHeartbeats 400000 in
/-- slices.Repeat of one integer. -/
theorem repeatI_calls {n b off c : Nat} {x : Int} (hn : MulOk n) (w : World) (hc : w.cell? ⟨b, off, none⟩ = some (.int .i64 x)) : Calls Try.prog 72 #[.slice (some ⟨b, off, none⟩) 1 c, .int .i64 n] w fun e w' => ∃ v, e = .returned v ∧ Kp w w' ∧ IntsAt w.heap.size w' v (List.replicate n x) := by
  have h4 : 8 ≤ n ∧ n ≤ 4096 := by omega
  refine lift72 ?_
  unfold S72
  have n0 : ¬ (n : Int) < 0 := by omega
  simp (disch := omega) only [r_ln, r_pick, r_pickT, r_pickF, r_condT, r_condF, r_gdTT, r_gdFF, r_gdTF, r_gdFT, r_gqTT, r_gqFF, r_gqTF, r_gqFT, r_not, r_lss, r_leq, r_gtr, r_geq, r_eql, r_neq, r_add, r_sub, r_min2, r_max2, r_min3, r_max3, r_fa, r_iaS, r_iaA, r_ex2a, r_ex2b, r_ex3a, r_ex3b, r_ex3c, r_nc, r_keepE, Nat.zero_add, Nat.add_zero, Nat.mul_one, Int.toNat_natCast, toNat_sub1, toNat_add1, decide_true, decide_false, Bool.not_true, Bool.not_false, if_true, if_false, Bool.false_eq_true, reduceCtorEq, n0]
  refine r_join0 (fun w' => w = w') ?_ fun kk hkk => hkk w rfl
  rintro _ rfl
  simp (disch := omega) only [r_ln, r_pick, r_pickT, r_pickF, r_condT, r_condF, r_gdTT, r_gdFF, r_gdTF, r_gdFT, r_gqTT, r_gqFF, r_gqTF, r_gqFT, r_not, r_lss, r_leq, r_gtr, r_geq, r_eql, r_neq, r_add, r_sub, r_min2, r_max2, r_min3, r_max3, r_fa, r_iaS, r_iaA, r_ex2a, r_ex2b, r_ex3a, r_ex3b, r_ex3c, r_nc, r_keepE, Nat.zero_add, Nat.add_zero, Nat.mul_one, Int.toNat_natCast, toNat_sub1, toNat_add1, decide_true, decide_false, Bool.not_true, Bool.not_false, if_true, if_false, Bool.false_eq_true, reduceCtorEq, r_cv]
  have e1 : IntKind.u64.wrap ((1 : Nat) : Int) = 1 := rfl
  rw [e1, IntWalk.u64_in _ (by omega)]
  refine r_use fok105 (mul_calls hn w) rfl ?_
  rintro _ _ ⟨rfl, rfl⟩
  refine ⟨_, rfl, ?_⟩
  clear hn
  have g1 : ¬ (9223372036854775807 : Int) < (n : Int) := by omega
  have g0 : ¬ (0 : Int) < 0 := by omega
  simp (disch := omega) only [r_ln, r_pick, r_pickT, r_pickF, r_condT, r_condF, r_gdTT, r_gdFF, r_gdTF, r_gdFT, r_gqTT, r_gqFF, r_gqTF, r_gqFT, r_not, r_lss, r_leq, r_gtr, r_geq, r_eql, r_neq, r_add, r_sub, r_min2, r_max2, r_min3, r_max3, r_fa, r_iaS, r_iaA, r_ex2a, r_ex2b, r_ex3a, r_ex3b, r_ex3c, r_nc, r_keepE, Nat.zero_add, Nat.add_zero, Nat.mul_one, Int.toNat_natCast, toNat_sub1, toNat_add1, decide_true, decide_false, Bool.not_true, Bool.not_false, if_true, if_false, Bool.false_eq_true, reduceCtorEq, g0, g1]
  refine r_join0 (fun w' => w = w') ?_ fun kk hkk => hkk w rfl
  rintro _ rfl
  simp (disch := omega) only [r_ln, r_pick, r_pickT, r_pickF, r_condT, r_condF, r_gdTT, r_gdFF, r_gdTF, r_gdFT, r_gqTT, r_gqFF, r_gqTF, r_gqFT, r_not, r_lss, r_leq, r_gtr, r_geq, r_eql, r_neq, r_add, r_sub, r_min2, r_max2, r_min3, r_max3, r_fa, r_iaS, r_iaA, r_ex2a, r_ex2b, r_ex3a, r_ex3b, r_ex3c, r_nc, r_keepE, Nat.zero_add, Nat.add_zero, Nat.mul_one, Int.toNat_natCast, toNat_sub1, toNat_add1, decide_true, decide_false, Bool.not_true, Bool.not_false, if_true, if_false, Bool.false_eq_true, reduceCtorEq, r_cv]
  rw [IntWalk.i64_in _ (by omega)]
  refine mk30' (by omega) fun v w1 hv k1 hvb => ?_
  have hv0 := hv.lt hvb
  obtain ⟨g, cap, cur, rfl, hgb, hg, hle, hcm, hsz, _⟩ := hv.blk (by rw [List.length_replicate]; omega)
  rw [List.length_replicate] at hle
  have hlr : (List.replicate n (0 : Int)).length = n := List.length_replicate
  rw [hlr]
  have fin : ∀ (w' : World) (cur' : Array Value), w'.heap[g]? = some (.cells cur' 3 (0, 0)) → cur'.size = cur.size → (∀ j, j < n → cur'[j]? = some (.int .i64 x)) → IntsAt w.heap.size w' (.slice (some ⟨g, 0, none⟩) n cap) (List.replicate n x) := fun w' cur' h1 h2 h3 => by
    refine ⟨by rw [rec_ints]; simp, .inr ⟨g, cap, cur', by simp, hgb, h1, by simpa using hle, hcm, by omega, ?_⟩⟩
    rw [rec_ints]
    refine List.ext_getElem? fun j => ?_
    rw [List.getElem?_take]
    simp only [List.length_replicate, Nat.mul_one, List.map_replicate, List.getElem?_replicate]
    split
    · rename_i hj
      have := h3 j hj
      simpa using this
    · rfl
  have k1s := k1.size
  have hcw1 := cell_later k1 hc
  have ea : ∀ j (u : Value), [Value.int .i64 x][j]? = some u → w1.cell? ((⟨b, off, none⟩ : Addr).add j) = some u := fun j u hj => by
    cases j with
    | zero => cases hj; simpa [r_addr] using hcw1
    | succ j => simp at hj
  refine r_cp (cs := [.int .i64 x]) slt30 hg (by simp; omega) ea (by simp; omega) (by intro u hu; simp at hu; subst hu; rfl) fun w2 c2 s2 h2 => ?_
  refine ⟨fun t8 wr => ∃ (m : Nat) (cur' : Array Value), 1 ≤ m ∧ m ≤ n ∧ t8 = .int .i64 m ∧ wr.heap[g]? = some (.cells cur' 3 (0, 0)) ∧ cur'.size = cur.size ∧ (∀ j, j < m → cur'[j]? = some (.int .i64 x)) ∧ Chg (fun k => k = g) w1 wr, fun t8 _ => n - (intOf t8).toNat,
    ⟨1, _, by omega, by omega, rfl, h2, by simp; omega, fun j hj => by
      have : j = 0 := by omega
      subst this
      simp, c2⟩, ?_⟩
  rintro _ _ wr ⟨m, cur', hm1, hmn, rfl, hgr, hsr, hxr, hcr⟩
  by_cases hlt : m < n
  case neg =>
    have hlt' : ¬ (m : Int) < (n : Int) := by omega
    have em : m = n := by omega
    subst em
    simp (disch := omega) only [r_ln, r_pick, r_pickT, r_pickF, r_condT, r_condF, r_gdTT, r_gdFF, r_gdTF, r_gdFT, r_gqTT, r_gqFF, r_gqTF, r_gqFT, r_not, r_lss, r_leq, r_gtr, r_geq, r_eql, r_neq, r_add, r_sub, r_min2, r_max2, r_min3, r_max3, r_fa, r_iaS, r_iaA, r_ex2a, r_ex2b, r_ex3a, r_ex3b, r_ex3c, r_nc, r_keepE, Nat.zero_add, Nat.add_zero, Nat.mul_one, Int.toNat_natCast, toNat_sub1, toNat_add1, decide_true, decide_false, Bool.not_true, Bool.not_false, if_true, if_false, Bool.false_eq_true, reduceCtorEq, hlt']
    exact ⟨_, rfl, Kp.of_chg k1 hcr fun k e => by omega, fin _ _ hgr hsr hxr⟩
  have hlt' : (m : Int) < (n : Int) := by omega
  simp (disch := omega) only [r_ln, r_pick, r_pickT, r_pickF, r_condT, r_condF, r_gdTT, r_gdFF, r_gdTF, r_gdFT, r_gqTT, r_gqFF, r_gqTF, r_gqFT, r_not, r_lss, r_leq, r_gtr, r_geq, r_eql, r_neq, r_add, r_sub, r_min2, r_max2, r_min3, r_max3, r_fa, r_iaS, r_iaA, r_ex2a, r_ex2b, r_ex3a, r_ex3b, r_ex3c, r_nc, r_keepE, Nat.zero_add, Nat.add_zero, Nat.mul_one, Int.toNat_natCast, toNat_sub1, toNat_add1, decide_true, decide_false, Bool.not_true, Bool.not_false, if_true, if_false, Bool.false_eq_true, reduceCtorEq, decide_eq_true hlt']
  refine r_drew fun wx kx _ => ?_
  refine ⟨fun k => k = g, ?_⟩
  have hcm' : ¬ cap = m := by omega
  simp (disch := omega) only [r_ln, r_pick, r_pickT, r_pickF, r_condT, r_condF, r_gdTT, r_gdFF, r_gdTF, r_gdFT, r_gqTT, r_gqFF, r_gqTF, r_gqFT, r_not, r_lss, r_leq, r_gtr, r_geq, r_eql, r_neq, r_add, r_sub, r_min2, r_max2, r_min3, r_max3, r_fa, r_iaS, r_iaA, r_ex2a, r_ex2b, r_ex3a, r_ex3b, r_ex3c, r_nc, r_keepE, Nat.zero_add, Nat.add_zero, Nat.mul_one, Int.toNat_natCast, toNat_sub1, toNat_add1, decide_true, decide_false, Bool.not_true, Bool.not_false, if_true, if_false, Bool.false_eq_true, reduceCtorEq, r_tx, r_slTo, r_slFrom, hcm']
  have hgx := block_below hgr kx
  have ead : (⟨g, 0, none⟩ : Addr).add m = ⟨g, m, none⟩ := by rw [r_addr, Nat.zero_add]
  have hmin : min m (n - m) ≤ m ∧ m + min m (n - m) ≤ n ∧ 1 ≤ min m (n - m) := by omega
  have hexp : (((n : Int) - (m : Int)).toNat) = n - m := by omega
  simp only [Option.map_some, ead]
  generalize hq : min m (n - m) = q at *
  have hlq : (List.replicate q (Value.int .i64 x)).length = q := List.length_replicate
  refine r_cp (cs := List.replicate q (.int .i64 x)) slt30 hgx (by rw [hlq, hq]) (fun j u hj => ?_) (by rw [hlq]; omega) (by intro u hu; rw [List.eq_of_mem_replicate hu]; rfl) fun w3 c3 s3 h3 => ?_
  · rw [List.getElem?_replicate] at hj
    split at hj
    · rename_i hjq
      cases hj
      rw [r_addr, Nat.zero_add, cell_row hgx]
      exact hxr j (by omega)
    · cases hj
  rw [hlq, r_keepXE]
  refine ⟨BX.of_chg c3, ?_⟩
  try simp (disch := omega) only [r_ln, r_pick, r_pickT, r_pickF, r_condT, r_condF, r_gdTT, r_gdFF, r_gdTF, r_gdFT, r_gqTT, r_gqFF, r_gqTF, r_gqFT, r_not, r_lss, r_leq, r_gtr, r_geq, r_eql, r_neq, r_add, r_sub, r_min2, r_max2, r_min3, r_max3, r_fa, r_iaS, r_iaA, r_ex2a, r_ex2b, r_ex3a, r_ex3b, r_ex3c, r_nc, r_keepE, Nat.zero_add, Nat.add_zero, Nat.mul_one, Int.toNat_natCast, toNat_sub1, toNat_add1, decide_true, decide_false, Bool.not_true, Bool.not_false, if_true, if_false, Bool.false_eq_true, reduceCtorEq, r_tx]
  refine ⟨⟨m + q, _, by omega, by omega, by go_num, h3, ?_, fun j hj => ?_, (hcr.trans (Chg.of_kp kx)).trans c3⟩, by simp only [intOf]; omega⟩
  · simp only [hlq, List.size_toArray, List.length_append, List.length_take, List.length_drop, Array.length_toList, List.length_replicate]
    omega
  · have hcs : cur'.toList.length = cur.size := by simpa using hsr
    simp only [List.getElem?_toArray]
    by_cases hjm : j < m
    · rw [List.append_assoc, List.getElem?_append_left (by rw [List.length_take]; omega), List.getElem?_take, if_pos hjm]
      have := hxr j hjm
      simpa using this
    · rw [List.getElem?_append_left (by rw [List.length_append, List.length_take, hlq]; omega), List.getElem?_append_right (by rw [List.length_take]; omega), List.length_take, List.getElem?_replicate, if_pos (by omega)]

end Go.Proofs.Ytgalbokmgffhkaa

/- Contracts: steps, Count of the program. -/
namespace Go.Proofs.Ytgalbokmgffhkaa
open Go.Lf Go.RowKit Go.Wg

theorem IntsAt.put {base : Nat} {w : World} {v : Value} {l : List Int} (h : IntsAt base w v l) {q : Nat} (hq : q < l.length) (x : Int) :
    ∃ g cap, v = .slice (some ⟨g, 0, none⟩) l.length cap ∧ base ≤ g ∧ w.cell? ⟨g, q, none⟩ = some (.int .i64 (l.getD q 0)) ∧ w.frozen? ⟨g, q, none⟩ = false ∧ IntsAt base (w.setCell ⟨g, q, none⟩ (.int .i64 x)) v (l.set q x) := by
  obtain ⟨g, cap, e, hb, _, hf, hr⟩ := RecAt.set (j := 0) (p' := x) (u := .int .i64 x) iC_len h (List.getElem?_eq_getElem hq) (by omega) rfl
  simp only [Nat.mul_one, Nat.add_zero] at hf hr
  refine ⟨g, cap, e, hb, ?_, hf, hr⟩
  obtain ⟨b, off, _, e2, _, hc⟩ := (h.rd iC_len).at (List.getElem?_eq_getElem hq)
  rw [e] at e2
  cases e2
  have := hc 0 _ rfl
  rw [getD_lt _ _ _ hq]
  simpa using this
theorem BoolsAt.put {base : Nat} {w : World} {v : Value} {l : List Bool} (h : BoolsAt base w v l) {q : Nat} (hq : q < l.length) (x : Bool) :
    ∃ g cap, v = .slice (some ⟨g, 0, none⟩) l.length cap ∧ base ≤ g ∧ w.cell? ⟨g, q, none⟩ = some (.bool (l.getD q false)) ∧ w.frozen? ⟨g, q, none⟩ = false ∧ BoolsAt base (w.setCell ⟨g, q, none⟩ (.bool x)) v (l.set q x) := by
  obtain ⟨g, cap, e, hb, _, hf, hr⟩ := RecAt.set (j := 0) (p' := x) (u := .bool x) bC_len h (List.getElem?_eq_getElem hq) (by omega) rfl
  simp only [Nat.mul_one, Nat.add_zero] at hf hr
  refine ⟨g, cap, e, hb, ?_, hf, hr⟩
  obtain ⟨b, off, _, e2, _, hc⟩ := (h.rd bC_len).at (List.getElem?_eq_getElem hq)
  rw [e] at e2
  cases e2
  have := hc 0 _ rfl
  rw [getD_lt _ _ _ hq]
  simpa using this

theorem RdL.line {w : World} {v : Value} {L : List Line} (h : RdL w v L) {i : Nat} {x : Line} (hi : L[i]? = some x) :
    ∃ b off cap, v = .slice (some ⟨b, off, none⟩) L.length cap ∧ i < L.length ∧ ∀ K : Value → Prop, ldN 7 w (.pointer (some ⟨b, off + i * 7, none⟩)) K = K (lnV x) := by
  obtain ⟨b, off, cap, e, hlt, hc⟩ := h.at hi
  exact ⟨b, off, cap, e, hlt, fun K => r_ldCells (l := lnC x) rfl hc⟩

/-- Lines whose numbers are below N. -/
def LnOk (N : Nat) (L : List Line) : Prop := ∀ x ∈ L, (0 ≤ x.2.1 ∧ x.2.1 < N) ∧ 0 ≤ x.2.2.1 ∧ x.2.2.1 < N
def Rng (l : List Int) : Prop := ∀ x ∈ l, 0 ≤ x ∧ x ≤ 1099511627777

def stepF (fr nx : List Int) (x : Line) : List Int := nx.set x.2.2.1.toNat (min (nx.getD x.2.2.1.toNat 0 + fr.getD x.2.1.toNat 0) 1099511627777)
def stepL (L : List Line) (fr : List Int) : List Int := L.foldl (stepF fr) (List.replicate fr.length 0)
def stepsL (L : List Line) (fr : List Int) : Nat → List Int
  | 0 => fr
  | k + 1 => stepL L (stepsL L fr k)

theorem rng_getD {l : List Int} (h : Rng l) (i : Nat) : 0 ≤ l.getD i 0 ∧ l.getD i 0 ≤ 1099511627777 := by
  by_cases hi : i < l.length
  · exact h _ (getD_mem hi)
  · rw [List.getD_eq_getElem?_getD, List.getElem?_eq_none (by omega)]
    exact ⟨Int.le_refl _, by decide⟩
theorem stepF_rng {fr nx : List Int} (h1 : Rng fr) (h2 : Rng nx) (x : Line) : Rng (stepF fr nx x) ∧ (stepF fr nx x).length = nx.length := by
  refine ⟨fun y hy => ?_, by simp [stepF]⟩
  rcases List.mem_or_eq_of_mem_set hy with h | rfl
  · exact h2 y h
  · have := rng_getD h1 x.2.1.toNat
    have := rng_getD h2 x.2.2.1.toNat
    omega
theorem fold_rng {fr : List Int} (h1 : Rng fr) : ∀ (L : List Line) (nx : List Int), Rng nx → Rng (L.foldl (stepF fr) nx) ∧ (L.foldl (stepF fr) nx).length = nx.length
  | [], nx, h => ⟨h, rfl⟩
  | x :: L, nx, h => by
    have h2 := stepF_rng h1 h x
    have h3 := fold_rng h1 L _ h2.1
    exact ⟨h3.1, by rw [List.foldl_cons, h3.2, h2.2]⟩
theorem rng_zero (n : Nat) : Rng (List.replicate n 0) := fun x hx => by rw [List.eq_of_mem_replicate hx]; decide
theorem steps_rng {L : List Line} {fr : List Int} (h : Rng fr) : ∀ k, Rng (stepsL L fr k) ∧ (stepsL L fr k).length = fr.length
  | 0 => ⟨h, rfl⟩
  | k + 1 => by
    have h1 := steps_rng (L := L) h k
    have h2 := fold_rng h1.1 L _ (rng_zero (stepsL L fr k).length)
    refine ⟨h2.1, ?_⟩
    rw [stepsL, stepL, h2.2, List.length_replicate, h1.2]

set_option maxRecDepth 100000 in
set_option maxHeartbeats 400000 in
theorem steps_calls {lv fv : Value} {L : List Line} {fr : List Int} {h : Nat} (w : World) (hL : RdL w lv L) (hok : LnOk fr.length L) (hf : RdInts w fv fr) (hr : Rng fr) (hLl : L.length ≤ 1000000) (hfl : fr.length ≤ 1000000) (hh : h ≤ 4) :
    Calls Try.prog 71 #[lv, fv, .int .i64 h] w fun e w' => ∃ v', e = .returned v' ∧ Kp w w' ∧ RdInts w' v' (stepsL L fr h) := by
  obtain ⟨la, lcap, rfl, hlc⟩ := hL.len
  refine lift71 ?_
  unfold S71
  refine ⟨fun t1 t11 wr => ∃ k : Nat, k ≤ h ∧ t11 = .int .i64 k ∧ Kp w wr ∧ RdInts wr t1 (stepsL L fr k), fun _ t11 _ => h - (intOf t11).toNat, ⟨0, by omega, rfl, Kp.refl _, hf⟩, ?_⟩
  rintro _ t1 _ wr ⟨k, hk, rfl, hkr, hfr⟩
  have hrk := steps_rng (L := L) hr k
  have hnext : stepsL L fr (k + 1) = stepL L (stepsL L fr k) := rfl
  by_cases hlt : k < h
  case neg =>
    have hlt' : ¬ (k : Int) < (h : Int) := by omega
    have : k = h := by omega
    subst this
    simp (disch := omega) only [r_ln, r_pick, r_pickT, r_pickF, r_condT, r_condF, r_gdTT, r_gdFF, r_gdTF, r_gdFT, r_gqTT, r_gqFF, r_gqTF, r_gqFT, r_not, r_lss, r_leq, r_gtr, r_geq, r_eql, r_neq, r_add, r_sub, r_min2, r_max2, r_min3, r_max3, r_fa, r_iaS, r_iaA, r_ex2a, r_ex2b, r_ex3a, r_ex3b, r_ex3c, r_nc, r_keepE, Nat.zero_add, Nat.add_zero, Nat.mul_one, Int.toNat_natCast, toNat_sub1, toNat_add1, decide_true, decide_false, Bool.not_true, Bool.not_false, if_true, if_false, Bool.false_eq_true, reduceCtorEq, hlt']
    exact ⟨_, rfl, hkr, hfr⟩
  have hlt' : (k : Int) < (h : Int) := by omega
  generalize stepsL L fr k = F at *
  obtain ⟨hrF, hlF⟩ := hrk
  obtain ⟨fa, fcap, rfl, _⟩ := hfr.len
  simp (disch := omega) only [r_ln, r_pick, r_pickT, r_pickF, r_condT, r_condF, r_gdTT, r_gdFF, r_gdTF, r_gdFT, r_gqTT, r_gqFF, r_gqTF, r_gqFT, r_not, r_lss, r_leq, r_gtr, r_geq, r_eql, r_neq, r_add, r_sub, r_min2, r_max2, r_min3, r_max3, r_fa, r_iaS, r_iaA, r_ex2a, r_ex2b, r_ex3a, r_ex3b, r_ex3c, r_nc, r_keepE, Nat.zero_add, Nat.add_zero, Nat.mul_one, Int.toNat_natCast, toNat_sub1, toNat_add1, decide_true, decide_false, Bool.not_true, Bool.not_false, if_true, if_false, Bool.false_eq_true, reduceCtorEq, hlt']
  refine mk30' (by omega) fun v w1 hv k1 hvb => ?_
  have k1s := k1.size
  refine ⟨fun t18 wq => ∃ i : Nat, i ≤ L.length ∧ t18 = .int .i64 i ∧ Kp wr wq ∧ IntsAt wr.heap.size wq v ((L.take i).foldl (stepF F) (List.replicate F.length 0)), fun t18 _ => L.length - (intOf t18).toNat,
    ⟨0, by omega, rfl, k1, by simpa using hv⟩, ?_⟩
  rintro _ _ wq ⟨i, hi, rfl, hkq, hvq⟩
  by_cases hil : i < L.length
  case neg =>
    have hil' : ¬ (i : Int) < (L.length : Int) := by omega
    rw [List.take_of_length_le (by omega)] at hvq
    simp (disch := omega) only [r_ln, r_pick, r_pickT, r_pickF, r_condT, r_condF, r_gdTT, r_gdFF, r_gdTF, r_gdFT, r_gqTT, r_gqFF, r_gqTF, r_gqFT, r_not, r_lss, r_leq, r_gtr, r_geq, r_eql, r_neq, r_add, r_sub, r_min2, r_max2, r_min3, r_max3, r_fa, r_iaS, r_iaA, r_ex2a, r_ex2b, r_ex3a, r_ex3b, r_ex3c, r_nc, r_keepE, Nat.zero_add, Nat.add_zero, Nat.mul_one, Int.toNat_natCast, toNat_sub1, toNat_add1, decide_true, decide_false, Bool.not_true, Bool.not_false, if_true, if_false, Bool.false_eq_true, reduceCtorEq, hil']
    refine ⟨⟨k + 1, by omega, by go_num, Kp.trans hkr hkq, ?_⟩, by simp only [intOf]; omega⟩
    rw [hnext]
    refine (hvq.rd iC_len).ints ?_
    have := (fold_rng hrF L _ (rng_zero F.length)).2
    rw [this, List.length_replicate]
    omega
  have hil' : (i : Int) < (L.length : Int) := by omega
  obtain ⟨x, hx⟩ : ∃ x, L[i]? = some x := ⟨_, List.getElem?_eq_getElem hil⟩
  obtain ⟨lb, lo, lc, el, _, hld⟩ := RdL.line (hL.kp (Kp.trans hkr hkq)) hx
  cases el
  simp (disch := omega) only [r_ln, r_pick, r_pickT, r_pickF, r_condT, r_condF, r_gdTT, r_gdFF, r_gdTF, r_gdFT, r_gqTT, r_gqFF, r_gqTF, r_gqFT, r_not, r_lss, r_leq, r_gtr, r_geq, r_eql, r_neq, r_add, r_sub, r_min2, r_max2, r_min3, r_max3, r_fa, r_iaS, r_iaA, r_ex2a, r_ex2b, r_ex3a, r_ex3b, r_ex3c, r_nc, r_keepE, Nat.zero_add, Nat.add_zero, Nat.mul_one, Int.toNat_natCast, toNat_sub1, toNat_add1, decide_true, decide_false, Bool.not_true, Bool.not_false, if_true, if_false, Bool.false_eq_true, reduceCtorEq, decide_eq_true hil', hld]
  refine r_box fun b9 w2 e9 s9 h9 k9 => ?_
  refine r_stAll (n := 7) (ty := 78) (by kernel_rfl) rfl (by intro u hu; simp [Value.cells] at hu; rcases hu with rfl | rfl | rfl | rfl | rfl | rfl | rfl <;> rfl) h9 rfl fun w3 cg3 s3 h93 => ?_
  have k03 : Kp wq w3 := Kp.of_chg k9 cg3 fun i e => by omega
  refine r_drew fun w4 k4 _ => ?_
  have kq4 := Kp.trans k03 k4
  have h94 := block_below h93 k4
  have c4 : w4.cell? ⟨b9, 4, none⟩ = some (.int .i64 x.2.1) := by rw [cell_row h94]; rfl
  have c5 : w4.cell? ⟨b9, 5, none⟩ = some (.int .i64 x.2.2.1) := by rw [cell_row h94]; rfl
  obtain ⟨⟨x1, x2⟩, x3, x4⟩ := hok x (List.mem_of_getElem? hx)
  have hNx := fold_rng hrF (L.take i) _ (rng_zero F.length)
  rw [List.length_replicate] at hNx
  have htake : (L.take (i + 1)).foldl (stepF F) (List.replicate F.length 0) = stepF F ((L.take i).foldl (stepF F) (List.replicate F.length 0)) x := by
    rw [List.take_add_one, hx]
    simp
  obtain ⟨hrN, hlN⟩ := hNx
  generalize (L.take i).foldl (stepF F) (List.replicate F.length 0) = N at *
  obtain ⟨g, cap, ev, hgb, gc, gf, gset⟩ := IntsAt.put (hvq.kp kq4) (q := x.2.2.1.toNat) (by omega) (min (N.getD x.2.2.1.toNat 0 + F.getD x.2.1.toNat 0) 1099511627777)
  have hF4 := hfr.below (Kp.trans hkq kq4)
  obtain ⟨fb, fo, _, ef, fc⟩ := hF4.at (j := x.2.1.toNat) (by omega)
  cases ef
  have y1 := rng_getD hrN x.2.2.1.toNat
  have y2 := rng_getD hrF x.2.1.toNat
  subst ev
  simp (disch := omega) only [r_ln, r_pick, r_pickT, r_pickF, r_condT, r_condF, r_gdTT, r_gdFF, r_gdTF, r_gdFT, r_gqTT, r_gqFF, r_gqTF, r_gqFT, r_not, r_lss, r_leq, r_gtr, r_geq, r_eql, r_neq, r_add, r_sub, r_min2, r_max2, r_min3, r_max3, r_fa, r_iaS, r_iaA, r_ex2a, r_ex2b, r_ex3a, r_ex3b, r_ex3c, r_nc, r_keepE, Nat.zero_add, Nat.add_zero, Nat.mul_one, Int.toNat_natCast, toNat_sub1, toNat_add1, decide_true, decide_false, Bool.not_true, Bool.not_false, if_true, if_false, Bool.false_eq_true, reduceCtorEq, r_ld c4, r_ld c5, r_ld gc, r_ld fc]
  rw [st3 gc gf]
  try simp (disch := omega) only [r_ln, r_pick, r_pickT, r_pickF, r_condT, r_condF, r_gdTT, r_gdFF, r_gdTF, r_gdFT, r_gqTT, r_gqFF, r_gqTF, r_gqFT, r_not, r_lss, r_leq, r_gtr, r_geq, r_eql, r_neq, r_add, r_sub, r_min2, r_max2, r_min3, r_max3, r_fa, r_iaS, r_iaA, r_ex2a, r_ex2b, r_ex3a, r_ex3b, r_ex3c, r_nc, r_keepE, Nat.zero_add, Nat.add_zero, Nat.mul_one, Int.toNat_natCast, toNat_sub1, toNat_add1, decide_true, decide_false, Bool.not_true, Bool.not_false, if_true, if_false, Bool.false_eq_true, reduceCtorEq]
  refine ⟨⟨i + 1, by omega, by go_num, Kp.of_chg (Kp.trans hkq kq4) (Chg.setCell (S := fun k => k = g) _ _ rfl) fun k e => by omega, ?_⟩, by simp only [intOf]; omega⟩
  rw [htake]
  exact gset

def sumC (fr : List Int) : Int := fr.foldl (fun s n => min (s + n) 1099511627777) 0
def linesL (l : List Tile) (w : Nat) : List Line := (rowsL l w).map (lineOf l)
def limV (n : Int) : Value := if 1099511627776 < n then .tuple #[.int .i64 0, .int .i64 8] else .tuple #[.int .i64 n, .int .i64 0]

theorem lines_ok {l : List Tile} (hs : IsSet l) {a : Nat} (ha : a ≤ 4) : LnOk (8 ^ a) (linesL l a) := by
  intro x hx
  simp only [linesL, List.mem_map] at hx
  obtain ⟨r, hr, rfl⟩ := hx
  obtain ⟨hl, hrow⟩ := mem_rowsL.1 hr
  obtain ⟨q1, q2⟩ := cols_norths hs hrow.lt
  have q3 := code_range q1 (by simp [norths]; omega)
  have q4 := code_range q2 (by simp [souths]; omega)
  have e1 : (norths l r).length = a := by simp [norths, hl]
  have e2 : (souths l r).length = a := by simp [souths, hl]
  rw [e1] at q3
  rw [e2] at q4
  have e3 : ((8 ^ a : Nat) : Int) = 8 ^ a := by simp
  rw [e3]
  exact ⟨⟨q3.1, q3.2.1⟩, q4.1, q4.2.1⟩
theorem lines_len {l : List Tile} (hs : IsSet l) {a : Nat} (ha : a ≤ 4) : (linesL l a).length ≤ 65536 := by
  rw [linesL, List.length_map]
  exact Nat.le_trans (exts_length_le hs.most a []) (pow16_le ha)

theorem limited_calls (n : Int) (w : World) : Calls Try.prog 74 #[.int .i64 n] w fun e w' => e = .returned (limV n) ∧ w = w' := by
  refine lift74 ?_
  unfold S74 limV
  by_cases h : (1099511627776 : Int) < n
  · simp only [r_ln, r_pick, r_pickT, r_pickF, r_condT, r_condF, r_gdTT, r_gdFF, r_gdTF, r_gdFT, r_gqTT, r_gqFF, r_gqTF, r_gqFT, r_not, r_lss, r_leq, r_gtr, r_geq, r_eql, r_neq, r_add, r_sub, r_min2, r_max2, r_min3, r_max3, r_fa, r_iaS, r_iaA, r_ex2a, r_ex2b, r_ex3a, r_ex3b, r_ex3c, r_nc, r_keepE, Nat.zero_add, Nat.add_zero, Nat.mul_one, Int.toNat_natCast, toNat_sub1, toNat_add1, decide_true, decide_false, Bool.not_true, Bool.not_false, if_true, if_false, Bool.false_eq_true, reduceCtorEq, h]
    exact ⟨by first | rfl | trivial, by first | rfl | trivial⟩
  · simp only [r_ln, r_pick, r_pickT, r_pickF, r_condT, r_condF, r_gdTT, r_gdFF, r_gdTF, r_gdFT, r_gqTT, r_gqFF, r_gqTF, r_gqFT, r_not, r_lss, r_leq, r_gtr, r_geq, r_eql, r_neq, r_add, r_sub, r_min2, r_max2, r_min3, r_max3, r_fa, r_iaS, r_iaA, r_ex2a, r_ex2b, r_ex3a, r_ex3b, r_ex3c, r_nc, r_keepE, Nat.zero_add, Nat.add_zero, Nat.mul_one, Int.toNat_natCast, toNat_sub1, toNat_add1, decide_true, decide_false, Bool.not_true, Bool.not_false, if_true, if_false, Bool.false_eq_true, reduceCtorEq, h]
    exact ⟨by first | rfl | trivial, by first | rfl | trivial⟩

/-- What Count returns. -/
def countV (l : List Tile) (w h : Int) : Value := if ordErr l w h = 0 then limV (sumC (stepsL (linesL l w.toNat) (List.replicate (8 ^ w.toNat) 1) h.toNat)) else .tuple #[.int .i64 0, .int .i64 2]

theorem sum_rng {l : List Int} (h : Rng l) (i : Nat) : 0 ≤ sumC (l.take i) ∧ sumC (l.take i) ≤ 1099511627777 := by
  have key : ∀ (l : List Int) (s : Int), Rng l → 0 ≤ s → s ≤ 1099511627777 → 0 ≤ l.foldl (fun s n => min (s + n) 1099511627777) s ∧ l.foldl (fun s n => min (s + n) 1099511627777) s ≤ 1099511627777 := by
    intro l
    induction l with
    | nil => intro s _ h1 h2; exact ⟨h1, h2⟩
    | cons x l ih =>
      intro s h h1 h2
      have := h x (by simp)
      exact ih _ (fun y hy => h y (by simp [hy])) (by show 0 ≤ min (s + x) 1099511627777; omega) (by show min (s + x) 1099511627777 ≤ 1099511627777; omega)
  exact key _ 0 (fun x hx => h x (List.mem_of_mem_take hx)) (by decide) (by decide)

set_option maxRecDepth 100000 in
set_option maxHeartbeats 400000 in
theorem count_calls {v : Value} {l : List Tile} (a b : Int) (w : World) (hr : RdT w v l) : Calls Try.prog 25 #[v, .int .i64 a, .int .i64 b] w fun e w' => e = .returned (countV l a b) ∧ Kp w w' := by
  refine lift25 ?_
  unfold S25
  refine r_use fok53 (board_calls a b w hr) rfl ?_
  rintro _ w1 ⟨rfl, k1⟩
  refine ⟨_, rfl, ?_⟩
  unfold countV
  have h20 : ¬ ((2 : Int) = 0) := by decide
  rcases ordErr_cases l a b with he | he
  rotate_left
  · simp (disch := omega) only [r_ln, r_pick, r_pickT, r_pickF, r_condT, r_condF, r_gdTT, r_gdFF, r_gdTF, r_gdFT, r_gqTT, r_gqFF, r_gqTF, r_gqFT, r_not, r_lss, r_leq, r_gtr, r_geq, r_eql, r_neq, r_add, r_sub, r_min2, r_max2, r_min3, r_max3, r_fa, r_iaS, r_iaA, r_ex2a, r_ex2b, r_ex3a, r_ex3b, r_ex3c, r_nc, r_keepE, Nat.zero_add, Nat.add_zero, Nat.mul_one, Int.toNat_natCast, toNat_sub1, toNat_add1, decide_true, decide_false, Bool.not_true, Bool.not_false, if_true, if_false, Bool.false_eq_true, reduceCtorEq, he, h20]
    exact ⟨by first | rfl | trivial, k1⟩
  obtain ⟨hs, a, b, rfl, rfl, ha, hb⟩ := ord_ok he
  simp (disch := omega) only [r_ln, r_pick, r_pickT, r_pickF, r_condT, r_condF, r_gdTT, r_gdFF, r_gdTF, r_gdFT, r_gqTT, r_gqFF, r_gqTF, r_gqFT, r_not, r_lss, r_leq, r_gtr, r_geq, r_eql, r_neq, r_add, r_sub, r_min2, r_max2, r_min3, r_max3, r_fa, r_iaS, r_iaA, r_ex2a, r_ex2b, r_ex3a, r_ex3b, r_ex3c, r_nc, r_keepE, Nat.zero_add, Nat.add_zero, Nat.mul_one, Int.toNat_natCast, toNat_sub1, toNat_add1, decide_true, decide_false, Bool.not_true, Bool.not_false, if_true, if_false, Bool.false_eq_true, reduceCtorEq, he, decide_eq_true (rfl : (0 : Int) = 0)]
  refine r_use fok59 (rows_calls hs ha w1 (hr.kp k1)) rfl ?_
  rintro _ w2 ⟨lv, rfl, k2, hL⟩
  refine ⟨_, rfl, ?_⟩
  rw [bs30]
  have k3 : Kp w2 (w2.alloc (.cells #[.int .i64 1] 3)) := below_alloc _
  have n3 := heap_alloc_new w2 (.cells #[.int .i64 1] 3)
  generalize w2.alloc (.cells #[.int .i64 1] 3) = w3 at *
  refine r_use fok73 (codes_calls w3 ha.2) rfl ?_
  rintro _ _ ⟨rfl, rfl⟩
  refine ⟨_, rfl, ?_⟩
  have h8 := pow8N_le ha.2
  have hm := mulOk ha
  have hlo := lines_ok hs ha.2
  have hll := lines_len hs ha.2
  change LnAt _ _ _ (linesL l a) at hL
  generalize 8 ^ a = N at *
  refine r_use fok72 (repeatI_calls (b := w2.heap.size) (off := 0) (x := 1) hm w3 (by rw [cell_row n3]; rfl)) rfl ?_
  rintro _ w4 ⟨rv, rfl, k4, hrv⟩
  refine ⟨_, rfl, ?_⟩
  have k24 := Kp.trans k3 k4
  have hone : Rng (List.replicate N (1 : Int)) := fun x hx => by rw [List.eq_of_mem_replicate hx]; decide
  refine r_use fok71 (steps_calls (h := b) w4 ((hL.rd lnC_len).kp k24) (by rw [List.length_replicate]; exact hlo) ((hrv.rd iC_len).ints (by rw [List.length_replicate]; omega)) hone (by omega) (by rw [List.length_replicate]; omega) hb.2) rfl ?_
  rintro _ w5 ⟨sv, rfl, k5, hsv⟩
  refine ⟨_, rfl, ?_⟩
  obtain ⟨hr5, hl5⟩ := steps_rng (L := linesL l a) hone b
  try simp only [Int.toNat_natCast]
  rw [List.length_replicate] at hl5
  generalize stepsL (linesL l a) (List.replicate N 1) b = F at *
  obtain ⟨sa, scap, rfl, _⟩ := hsv.len
  have kall := Kp.trans (Kp.trans k1 k2) (Kp.trans k24 k5)
  try simp only [r_ln, r_pick, r_pickT, r_pickF, r_condT, r_condF, r_gdTT, r_gdFF, r_gdTF, r_gdFT, r_gqTT, r_gqFF, r_gqTF, r_gqFT, r_not, r_lss, r_leq, r_gtr, r_geq, r_eql, r_neq, r_add, r_sub, r_min2, r_max2, r_min3, r_max3, r_fa, r_iaS, r_iaA, r_ex2a, r_ex2b, r_ex3a, r_ex3b, r_ex3c, r_nc, r_keepE, Nat.zero_add, Nat.add_zero, Nat.mul_one, Int.toNat_natCast, toNat_sub1, toNat_add1, decide_true, decide_false, Bool.not_true, Bool.not_false, if_true, if_false, Bool.false_eq_true, reduceCtorEq]
  refine ⟨fun t9 t29 wr => ∃ i : Nat, i ≤ F.length ∧ t29 = .int .i64 i ∧ t9 = .int .i64 (sumC (F.take i)) ∧ w5 = wr, fun _ t29 _ => F.length - (intOf t29).toNat, ⟨0, by omega, rfl, rfl, rfl⟩, ?_⟩
  rintro _ _ _ _ ⟨i, hi, rfl, rfl, rfl⟩
  by_cases hlt : i < F.length
  case neg =>
    have hlt' : ¬ (i : Int) < (F.length : Int) := by omega
    rw [List.take_of_length_le (by omega)]
    simp (disch := omega) only [r_ln, r_pick, r_pickT, r_pickF, r_condT, r_condF, r_gdTT, r_gdFF, r_gdTF, r_gdFT, r_gqTT, r_gqFF, r_gqTF, r_gqFT, r_not, r_lss, r_leq, r_gtr, r_geq, r_eql, r_neq, r_add, r_sub, r_min2, r_max2, r_min3, r_max3, r_fa, r_iaS, r_iaA, r_ex2a, r_ex2b, r_ex3a, r_ex3b, r_ex3c, r_nc, r_keepE, Nat.zero_add, Nat.add_zero, Nat.mul_one, Int.toNat_natCast, toNat_sub1, toNat_add1, decide_true, decide_false, Bool.not_true, Bool.not_false, if_true, if_false, Bool.false_eq_true, reduceCtorEq, hlt']
    refine r_use fok74 (limited_calls _ w5) rfl ?_
    rintro _ _ ⟨rfl, rfl⟩
    refine ⟨_, rfl, ?_⟩
    unfold limV
    by_cases hc : (1099511627776 : Int) < sumC F
    · rw [if_pos hc]
      simp only [r_ln, r_pick, r_pickT, r_pickF, r_condT, r_condF, r_gdTT, r_gdFF, r_gdTF, r_gdFT, r_gqTT, r_gqFF, r_gqTF, r_gqFT, r_not, r_lss, r_leq, r_gtr, r_geq, r_eql, r_neq, r_add, r_sub, r_min2, r_max2, r_min3, r_max3, r_fa, r_iaS, r_iaA, r_ex2a, r_ex2b, r_ex3a, r_ex3b, r_ex3c, r_nc, r_keepE, Nat.zero_add, Nat.add_zero, Nat.mul_one, Int.toNat_natCast, toNat_sub1, toNat_add1, decide_true, decide_false, Bool.not_true, Bool.not_false, if_true, if_false, Bool.false_eq_true, reduceCtorEq]
      exact ⟨by first | rfl | trivial, kall⟩
    · rw [if_neg hc]
      simp only [r_ln, r_pick, r_pickT, r_pickF, r_condT, r_condF, r_gdTT, r_gdFF, r_gdTF, r_gdFT, r_gqTT, r_gqFF, r_gqTF, r_gqFT, r_not, r_lss, r_leq, r_gtr, r_geq, r_eql, r_neq, r_add, r_sub, r_min2, r_max2, r_min3, r_max3, r_fa, r_iaS, r_iaA, r_ex2a, r_ex2b, r_ex3a, r_ex3b, r_ex3c, r_nc, r_keepE, Nat.zero_add, Nat.add_zero, Nat.mul_one, Int.toNat_natCast, toNat_sub1, toNat_add1, decide_true, decide_false, Bool.not_true, Bool.not_false, if_true, if_false, Bool.false_eq_true, reduceCtorEq]
      exact ⟨by first | rfl | trivial, kall⟩
  have hlt' : (i : Int) < (F.length : Int) := by omega
  obtain ⟨fb, fo, _, ef, fc⟩ := hsv.at hlt
  cases ef
  have y1 := sum_rng hr5 i
  have y2 := rng_getD hr5 i
  simp (disch := omega) only [r_ln, r_pick, r_pickT, r_pickF, r_condT, r_condF, r_gdTT, r_gdFF, r_gdTF, r_gdFT, r_gqTT, r_gqFF, r_gqTF, r_gqFT, r_not, r_lss, r_leq, r_gtr, r_geq, r_eql, r_neq, r_add, r_sub, r_min2, r_max2, r_min3, r_max3, r_fa, r_iaS, r_iaA, r_ex2a, r_ex2b, r_ex3a, r_ex3b, r_ex3c, r_nc, r_keepE, Nat.zero_add, Nat.add_zero, Nat.mul_one, Int.toNat_natCast, toNat_sub1, toNat_add1, decide_true, decide_false, Bool.not_true, Bool.not_false, if_true, if_false, Bool.false_eq_true, reduceCtorEq, decide_eq_true hlt', r_ld fc]
  refine ⟨⟨i + 1, by omega, by go_num, ?_, by first | rfl | trivial⟩, by simp only [intOf]; omega⟩
  rw [take_succ' _ _ hlt, sumC, sumC, List.foldl_append, ← getD_lt F i 0 hlt]
  rfl

end Go.Proofs.Ytgalbokmgffhkaa
