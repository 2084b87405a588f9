/- Contract: levels of the program. -/
import Derived.Test.YtkdcldbedbagjaaDoorMb
set_option linter.all false
namespace Go.Proofs.YtkdcldbedbagjaaDoor
open Go.Lf Go.RowKit Go.Dt

def sidesL (L : List T3) : List T3 := L.flatMap fun s => [(s.2.1, s.1, s.1 + s.2.2), (s.2.1 + s.2.2, s.1, s.1 + s.2.2)]
/-- A side comes to the levels so far. -/
def mstep (out : List T3) (l : T3) : List T3 :=
  match out.getLast? with
  | some m => if m.1 = l.1 ∧ l.2.1 ≤ m.2.2 then out.dropLast ++ [(m.1, m.2.1, max m.2.2 l.2.2)] else out ++ [l]
  | none => [l]
def mergeL (S : List T3) : List T3 := S.foldl mstep []
theorem sides_snoc (L : List T3) (s : T3) : sidesL (L ++ [s]) = sidesL L ++ [(s.2.1, s.1, s.1 + s.2.2), (s.2.1 + s.2.2, s.1, s.1 + s.2.2)] := by simp [sidesL]
theorem sides_len (L : List T3) : (sidesL L).length = 2 * L.length := by
  induction L with
  | nil => rfl
  | cons s L ih => simp only [sidesL, List.flatMap_cons, List.length_append, List.length_cons, List.length_nil] at ih ⊢; omega
theorem mstep_len (out : List T3) (l : T3) : (mstep out l).length ≤ out.length + 1 := by
  unfold mstep
  split
  · rename_i m hm
    have : out ≠ [] := fun h => by rw [h] at hm; cases hm
    have := List.length_pos_iff.2 this
    split
    · rw [List.length_append, List.length_dropLast, List.length_singleton]; omega
    · rw [List.length_append, List.length_singleton]; exact Nat.le_refl _
  · rw [List.length_singleton]; omega
theorem fold_len (S : List T3) : ∀ out : List T3, (S.foldl mstep out).length ≤ out.length + S.length := by
  induction S with
  | nil => intro out; simp
  | cons l S ih => intro out; have h1 := ih (mstep out l); have h2 := mstep_len out l; simp only [List.foldl_cons, List.length_cons]; omega

set_option maxRecDepth 100000 in
theorem bd71 {x y z : Int} {K : Value → Prop} : bdQ Tryd.prog 71 [(0, .int .i64 x), (1, .int .i64 y), (2, .int .i64 z)] K = K (t3V (x, y, z)) := by kernel_rfl
set_option maxRecDepth 100000 in
theorem bd44 {x y z : Int} {K : Value → Prop} : bdQ Tryd.prog 44 [(0, .int .i64 x), (1, .int .i64 y), (2, .int .i64 z)] K = K (t3V (x, y, z)) := by kernel_rfl
set_option maxRecDepth 100000 in
theorem bs68_2 (p q : T3) (w : World) (K : Value → World → Prop) : bsW Tryd.prog 68 2 [(0, t3V p), (1, t3V q)] w K = K (.slice (some ⟨w.heap.size, 0, none⟩) 2 2) (w.alloc (.cells #[.int .i64 p.1, .int .i64 p.2.1, .int .i64 p.2.2, .int .i64 q.1, .int .i64 q.2.1, .int .i64 q.2.2] 71)) := by kernel_rfl
set_option maxRecDepth 100000 in
theorem bs68 (p : T3) (w : World) (K : Value → World → Prop) : bsW Tryd.prog 68 1 [(0, t3V p)] w K = K (.slice (some ⟨w.heap.size, 0, none⟩) 1 1) (w.alloc (.cells (t3V p).cells 71)) := by kernel_rfl
set_option maxRecDepth 100000 in
theorem bs22 (p : T3) (w : World) (K : Value → World → Prop) : bsW Tryd.prog 22 1 [(0, t3V p)] w K = K (.slice (some ⟨w.heap.size, 0, none⟩) 1 1) (w.alloc (.cells (t3V p).cells 44)) := by kernel_rfl

set_option maxRecDepth 100000 in
/-- append(out, p, q) -/
theorem r_push2L {base : Nat} {w : World} {v : Value} {P : List T3} {p q : T3} {K : Value → World → Prop} (h : LvAt base w v P) (hn : P.length + 2 ≤ 1000000) (hb : base ≤ w.heap.size)
    (hk : ∀ v' w', LvAt base w' v' (P ++ [p, q]) → Chg (fun k => v.ownBlock = some k) w w' → K v' w') :
    bsW Tryd.prog 68 2 [(0, t3V p), (1, t3V q)] w fun s w => semW Tryd.prog (apS [68, 68] 68 [v, s]) w K := by
  rw [bs68_2]
  have k1 : Kp w (w.alloc (.cells #[.int .i64 p.1, .int .i64 p.2.1, .int .i64 p.2.2, .int .i64 q.1, .int .i64 q.2.1, .int .i64 q.2.2] 71)) := below_alloc _
  have hnew := heap_alloc_new w (.cells #[.int .i64 p.1, .int .i64 p.2.1, .int .i64 p.2.2, .int .i64 q.1, .int .i64 q.2.1, .int .i64 q.2.2] 71)
  have hsz := k1.size
  generalize w.alloc (.cells #[.int .i64 p.1, .int .i64 p.2.1, .int .i64 p.2.2, .int .i64 q.1, .int .i64 q.2.1, .int .i64 q.2.2] 71) = w1 at *
  refine r_apAt (m := 2) (news := t3C p ++ t3C q) slt68 (h.kp k1) rfl (cells_at_row hnew) (fun u hu => ?_) (by omega) (by omega) (by omega) fun v' w' ho c1 _ => ?_
  · rcases List.mem_append.1 hu with h | h
    · exact t3C_one p u h
    · exact t3C_one q u h
  · refine hk v' w' ?_ ((Chg.of_kp k1).trans c1)
    unfold LvAt RecAt
    rw [recCells_append, List.length_append]
    simpa [recCells] using ho

/-- Sides lie within a rectangle. -/
def SmallT (p : T3) : Prop := (-5000 ≤ p.1 ∧ p.1 ≤ 5000) ∧ (-5000 ≤ p.2.1 ∧ p.2.1 ≤ 5000) ∧ -5000 ≤ p.2.2 ∧ p.2.2 ≤ 5000

set_option maxRecDepth 100000 in
set_option maxHeartbeats 2000000 in
/-- The merging loop. -/
theorem r46_1 {base : Nat} {t3 : Value} {S : List T3} {w0 : World} {R : Ending → World → Prop} (hS : LvAt base w0 t3 S) (hl : S.length ≤ 1000)
    (hR : ∀ v w', LvAt w0.heap.size w' v (mergeL S) → Kp w0 w' → R (.returned v) w') : S46L1 t3 (.int .i64 S.length) R w0 := by
  unfold S46L1
  refine ⟨fun t6 t47 wr => ∃ (i : Nat) (P : List T3), i ≤ S.length ∧ t47 = .int .i64 i ∧ P = (S.take i).foldl mstep [] ∧ LvAt w0.heap.size wr t6 P ∧ Kp w0 wr, fun _ t47 _ => S.length - (intOf t47).toNat, ⟨0, [], by omega, rfl, rfl, RecAt.nil, Kp.refl _⟩, ?_⟩
  rintro _ t6 _ wr ⟨i, P, hi, rfl, hP, hO, kr⟩
  have hPl : P.length ≤ i := by
    have := fold_len (S.take i) []
    rw [← hP, List.length_take] at this
    simp only [List.length_nil] at this
    omega
  have hsz := kr.size
  by_cases hlt : i < S.length
  case neg =>
    have hlt' : ¬ (i : Int) < (S.length : Int) := by omega
    rw [List.take_of_length_le (by omega)] at hP
    simp only [r_lss, hlt', decide_false, r_condF]
    refine hR t6 wr ?_ kr
    unfold mergeL
    rw [← hP]; exact hO
  have hlt' : (i : Int) < (S.length : Int) := by omega
  simp only [r_lss, decide_eq_true hlt', r_condT]
  have hnext : (S.take (i + 1)).foldl mstep [] = mstep P (S.getD i (0, 0, 0)) := by
    rw [take_succ' _ _ hlt, List.foldl_append, ← hP, ← getD_lt _ _ (0, 0, 0) hlt]; rfl
  refine r_join1 (fun v w' => LvAt w0.heap.size w' v (mstep P (S.getD i (0, 0, 0))) ∧ Kp w0 w') ?_ fun kk hkk => ?_
  · rintro v w' ⟨o1, k1⟩
    rw [r_add _ _ (by omega) (by omega)]
    exact ⟨⟨i + 1, _, by omega, by go_num, rfl, by rw [hnext]; exact o1, k1⟩, by simp only [intOf]; omega⟩
  have rdS := (hS.kp kr).rd t3C_len
  rw [tri_at rdS hlt]
  generalize S.getD i (0, 0, 0) = l at *
  refine r_box fun b8 w1 e8 s8 h8 k1 => ?_
  have h8' : w1.heap[b8]? = some (.cells #[.int .i64 0, .int .i64 0, .int .i64 0] 71 (0, 0)) := h8
  refine st71 h8' fun w2 c2 s2 h82 => ?_
  have k2 : Kp wr w2 := Kp.of_chg k1 c2 fun q e => by omega
  have hO2 := hO.kp k2
  obtain ⟨pa, pc, ep, _⟩ := hO2.len
  have ln6 : ∀ K : Value → Prop, ln1 t6 K = K (.int .i64 P.length) := fun K => by rw [ep]; rfl
  rw [ln6]
  refine r_drew fun w3 k3 _ => ?_
  have k23 := Kp.trans k2 k3
  have k03 := Kp.trans kr k23
  have hO3 := hO2.kp k3
  have h83 := block_below h82 k3
  obtain ⟨l0, l1, l2⟩ := tri_cells (p := l) h83
  -- the side stands for itself
  have fresh : ∀ w' : World, Kp w3 w' → mstep P l = P ++ [l] → ldN 3 w' (ptrV b8) fun t92 => bsW Tryd.prog 68 1 [(0, t92)] w' fun t93 w => semW Tryd.prog (apS [68, 68] 68 [t6, t93]) w fun t94 w => kk t94 w := fun w' k hm => by
    rw [tri_box (block_below h83 k)]
    have hsz' := (Kp.trans k03 k).size
    refine r_pushRec (x := l) slt68 t3C_len rfl (bs68 l _) (t3C_one l) (by omega) (hO3.kp k) (by omega) (by omega) fun v' w'' o1 c1 _ => ?_
    refine hkk v' w'' ⟨by rw [hm]; exact o1, Kp.of_chg (Kp.trans k03 k) c1 fun q hq => ((hO3.kp k).lt hq).1⟩
  by_cases hpos : 0 < P.length
  case neg =>
    have hP0 : P = [] := List.length_eq_zero_iff.1 (by omega)
    have hm : mstep P l = P ++ [l] := by rw [hP0]; rfl
    have := fresh w3 (Kp.refl _) hm
    have hn0 : ¬ (0 : Int) < (P.length : Int) := by omega
    simp (disch := omega) only [r_ln, r_pick, r_pickT, r_pickF, r_condT, r_condF, r_gdTT, r_gdFF, r_gdTF, r_gdFT, r_gqTT, r_gqFF, r_gqTF, r_gqFT, r_not, r_lss, r_leq, r_gtr, r_geq, r_eql, r_neq, r_add, r_sub, r_min2, r_max2, r_min3, r_max3, r_fa, r_iaS, r_iaA, r_ex2a, r_ex2b, r_ex3a, r_ex3b, r_ex3c, r_nc, r_keepE, Nat.zero_add, Nat.add_zero, Nat.mul_one, Int.toNat_natCast, toNat_sub1, toNat_add1, decide_true, decide_false, Bool.not_true, Bool.not_false, if_true, if_false, Bool.false_eq_true, reduceCtorEq, r_gqU, hn0]
    exact this
  have hn0 : (0 : Int) < (P.length : Int) := by omega
  have hne : P ≠ [] := List.length_pos_iff.1 hpos
  obtain ⟨m, hm⟩ : ∃ m, P[P.length - 1]? = some m := ⟨_, List.getElem?_eq_getElem (by omega)⟩
  have hlast : P.getLast? = some m := by rw [List.getLast?_eq_getElem?]; exact hm
  have hms : mstep P l = if m.1 = l.1 ∧ l.2.1 ≤ m.2.2 then P.dropLast ++ [(m.1, m.2.1, max m.2.2 l.2.2)] else P ++ [l] := by unfold mstep; rw [hlast]
  obtain ⟨g, cap, ev, hbg, hc⟩ := own_at t3C_len hO3 hm
  have m0 : w3.cell? ⟨g, (P.length - 1) * 3, none⟩ = some (.int .i64 m.1) := hc 0 _ rfl
  have m2 := hc 2 _ rfl
  have hidx : ((P.length : Int) - 1).toNat = P.length - 1 := by omega
  have ia : ∀ K : Value → Prop, iaS 3 t6 (.int .i64 ((P.length : Int) - 1)) K = K (.pointer (some ⟨g, (P.length - 1) * 3, none⟩)) := fun K => by
    rw [ev, r_iaS _ _ _ _ _ _ _ (by omega) (by omega), hidx, Nat.zero_add]
  by_cases g1 : m.1 = l.1
  case neg =>
    have := fresh w3 (Kp.refl _) (by rw [hms, if_neg fun h => g1 h.1])
    simp (disch := omega) only [r_ln, r_pick, r_pickT, r_pickF, r_condT, r_condF, r_gdTT, r_gdFF, r_gdTF, r_gdFT, r_gqTT, r_gqFF, r_gqTF, r_gqFT, r_not, r_lss, r_leq, r_gtr, r_geq, r_eql, r_neq, r_add, r_sub, r_min2, r_max2, r_min3, r_max3, r_fa, r_iaS, r_iaA, r_ex2a, r_ex2b, r_ex3a, r_ex3b, r_ex3c, r_nc, r_keepE, Nat.zero_add, Nat.add_zero, Nat.mul_one, Int.toNat_natCast, toNat_sub1, toNat_add1, decide_true, decide_false, Bool.not_true, Bool.not_false, if_true, if_false, Bool.false_eq_true, reduceCtorEq, r_gqU, decide_eq_true hn0, ia, r_ld m0, r_ld l0, g1]
    exact this
  by_cases g2 : l.2.1 ≤ m.2.2
  case neg =>
    have := fresh w3 (Kp.refl _) (by rw [hms, if_neg fun h => g2 h.2])
    simp (disch := omega) only [r_ln, r_pick, r_pickT, r_pickF, r_condT, r_condF, r_gdTT, r_gdFF, r_gdTF, r_gdFT, r_gqTT, r_gqFF, r_gqTF, r_gqFT, r_not, r_lss, r_leq, r_gtr, r_geq, r_eql, r_neq, r_add, r_sub, r_min2, r_max2, r_min3, r_max3, r_fa, r_iaS, r_iaA, r_ex2a, r_ex2b, r_ex3a, r_ex3b, r_ex3c, r_nc, r_keepE, Nat.zero_add, Nat.add_zero, Nat.mul_one, Int.toNat_natCast, toNat_sub1, toNat_add1, decide_true, decide_false, Bool.not_true, Bool.not_false, if_true, if_false, Bool.false_eq_true, reduceCtorEq, r_gqU, decide_eq_true hn0, ia, r_ld m0, r_ld l0, decide_eq_true g1, r_ld m2, r_ld l1, g2]
    exact this
  rw [if_pos ⟨g1, g2⟩] at hms
  simp (disch := omega) only [r_ln, r_pick, r_pickT, r_pickF, r_condT, r_condF, r_gdTT, r_gdFF, r_gdTF, r_gdFT, r_gqTT, r_gqFF, r_gqTF, r_gqFT, r_not, r_lss, r_leq, r_gtr, r_geq, r_eql, r_neq, r_add, r_sub, r_min2, r_max2, r_min3, r_max3, r_fa, r_iaS, r_iaA, r_ex2a, r_ex2b, r_ex3a, r_ex3b, r_ex3c, r_nc, r_keepE, Nat.zero_add, Nat.add_zero, Nat.mul_one, Int.toNat_natCast, toNat_sub1, toNat_add1, decide_true, decide_false, Bool.not_true, Bool.not_false, if_true, if_false, Bool.false_eq_true, reduceCtorEq, r_gqU, decide_eq_true hn0, ia, r_ld m0, r_ld l0, decide_eq_true g1, r_ld m2, r_ld l1, decide_eq_true g2]
  refine r_drew fun w4 k4 _ => ?_
  have hO4 := hO3.kp k4
  have m24 := cell_later k4 m2
  have l24 : w4.cell? ⟨b8, 2, none⟩ = some (.int .i64 l.2.2) := cell_later k4 (by simpa using l2)
  obtain ⟨g', cap', ev', _, ⟨x, hx⟩, hfr, hset⟩ := RecAt.set (j := 2) (p' := (m.1, m.2.1, max m.2.2 l.2.2)) (u := .int .i64 (max m.2.2 l.2.2)) t3C_len hO4 hm (by omega) rfl
  rw [ev] at ev'
  cases ev'
  rw [r_ld m24, r_ld l24, r_max2, st3 hx hfr]
  have hch : Chg (fun k => k = g) w4 (w4.setCell ⟨g, (P.length - 1) * 3 + 2, none⟩ (.int .i64 (max m.2.2 l.2.2))) := Chg.setCell _ _ rfl
  refine hkk _ _ ⟨?_, Kp.of_chg (Kp.trans k03 k4) hch fun q e => by omega⟩
  rw [hms]
  have : P.set (P.length - 1) (m.1, m.2.1, max m.2.2 l.2.2) = P.dropLast ++ [(m.1, m.2.1, max m.2.2 l.2.2)] := by
    conv => lhs; rw [← List.dropLast_concat_getLast hne]
    rw [List.set_append]
    simp
  rw [← this]; exact hset

set_option maxRecDepth 100000 in
set_option maxHeartbeats 2000000 in
theorem levels_calls {v : Value} {L : List T3} (w : World) (hr : RdS w v L) (hl0 : 0 < L.length) (hl : L.length ≤ 40) (hs : ∀ s ∈ L, -1000 ≤ s.1 ∧ s.1 ≤ 1000 ∧ -1000 ≤ s.2.1 ∧ s.2.1 ≤ 1000 ∧ -1000 ≤ s.2.2 ∧ s.2.2 ≤ 1000) :
    Calls Tryd.prog 46 #[v] w fun e w' => Kp w w' ∧ ∃ v' S, e = .returned v' ∧ S.Perm (sidesL L) ∧ LvSorted S ∧ LvAt w.heap.size w' v' (mergeL S) := by
  obtain ⟨a, cap, ev, _⟩ := hr.len
  have lnv : ∀ K : Value → Prop, ln1 v K = K (.int .i64 L.length) := fun K => by rw [ev]; rfl
  refine lift46 ?_
  unfold S46
  rw [lnv]
  unfold S46L0
  refine ⟨fun t3 t12 wr => ∃ i : Nat, i ≤ L.length ∧ t12 = .int .i64 i ∧ LvAt w.heap.size wr t3 (sidesL (L.take i)) ∧ Kp w wr, fun _ t12 _ => L.length - (intOf t12).toNat, ⟨0, by omega, rfl, RecAt.nil, Kp.refl _⟩, ?_⟩
  rintro _ t3 _ wr ⟨i, hi, rfl, hO, kr⟩
  have hsl := sides_len (L.take i)
  rw [List.length_take] at hsl
  have hsz := kr.size
  by_cases hlt : i < L.length
  case neg =>
    have hlt' : ¬ (i : Int) < (L.length : Int) := by omega
    rw [List.take_of_length_le (by omega)] at hO hsl
    simp only [r_lss, hlt', decide_false, r_condF]
    obtain ⟨oa, oc, eo, _⟩ := hO.len
    have ln3 : ∀ (n : Nat), n = (sidesL L).length → ∀ K : Value → Prop, ln1 t3 K = K (.int .i64 n) := fun n e K => by rw [eo, e]; rfl
    refine r_use fok65 (sortf_calls hO (by omega) (by omega)) rfl ?_
    rintro _ w2 ⟨rfl, S, hperm, hsort, hS, c2⟩
    refine ⟨_, rfl, ?_⟩
    have k2 : Kp w w2 := Kp.of_chg kr c2 fun k hk => (hO.lt hk).1
    rw [ln3 S.length hperm.length_eq]
    have hSl := hperm.length_eq
    exact r46_1 hS (by omega) fun v' w' o' k' => ⟨Kp.trans k2 k', v', S, rfl, hperm, hsort, o'.down k2.size⟩
  have hlt' : (i : Int) < (L.length : Int) := by omega
  simp only [r_lss, decide_eq_true hlt', r_condT]
  rw [tri_at (hr.kp kr) hlt]
  have hmem := hs _ (getD_mem (d := (0, 0, 0)) hlt)
  have hsn : sidesL (L.take (i + 1)) = sidesL (L.take i) ++ [((L.getD i (0, 0, 0)).2.1, (L.getD i (0, 0, 0)).1, (L.getD i (0, 0, 0)).1 + (L.getD i (0, 0, 0)).2.2), ((L.getD i (0, 0, 0)).2.1 + (L.getD i (0, 0, 0)).2.2, (L.getD i (0, 0, 0)).1, (L.getD i (0, 0, 0)).1 + (L.getD i (0, 0, 0)).2.2)] := by
    rw [take_succ' _ _ hlt, sides_snoc, ← getD_lt _ _ (0, 0, 0) hlt]
  generalize L.getD i (0, 0, 0) = s at *
  refine r_box fun b5 w1 e5 s5 h5 k1 => ?_
  have h5' : w1.heap[b5]? = some (.cells #[.int .i64 0, .int .i64 0, .int .i64 0] 44 (0, 0)) := h5
  refine st44 h5' fun w2 c2 s2 h52 => ?_
  have k2 : Kp wr w2 := Kp.of_chg k1 c2 fun q e => by omega
  obtain ⟨c0, c1, cc⟩ := tri_cells (p := s) h52
  have hsz2 := k2.size
  simp (disch := omega) only [r_ln, r_pick, r_pickT, r_pickF, r_condT, r_condF, r_gdTT, r_gdFF, r_gdTF, r_gdFT, r_gqTT, r_gqFF, r_gqTF, r_gqFT, r_not, r_lss, r_leq, r_gtr, r_geq, r_eql, r_neq, r_add, r_sub, r_min2, r_max2, r_min3, r_max3, r_fa, r_iaS, r_iaA, r_ex2a, r_ex2b, r_ex3a, r_ex3b, r_ex3c, r_nc, r_keepE, Nat.zero_add, Nat.add_zero, Nat.mul_one, Int.toNat_natCast, toNat_sub1, toNat_add1, decide_true, decide_false, Bool.not_true, Bool.not_false, if_true, if_false, Bool.false_eq_true, reduceCtorEq, r_ld c0, r_ld c1, r_ld cc, bd71]
  refine r_push2L (hO.kp k2) (by omega) (by omega) fun v' w' o1 c3 => ?_
  exact ⟨⟨i + 1, by omega, by go_num, by rw [hsn]; exact o1, Kp.of_chg (Kp.trans kr k2) c3 fun k hk => (hO.lt hk).1⟩, by simp only [intOf]; omega⟩

end Go.Proofs.YtkdcldbedbagjaaDoor
