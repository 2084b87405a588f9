/- Texts of my own, merged by program: B9 D14 O4. -/
import Derived.Test.YtgalbokmgffhkaaM16
import Derived.Test.YtgalbokmgffhkaaM23
import Derived.Test.YtgalbokmgffhkaaM22
import Derived.Test.YtgalbokmgffhkaaM18
set_option linter.all false
/- Contract: alive of the statements: what every right program knows of two small sets. -/
namespace Go.Proofs.Ytgalbokmgffhkaa
open Go.Lf Go.RowKit Go.Wg

theorem rec_alloc {α : Type} {e : TypeId} {m : Nat} {enc : α → List Value} (he : ∀ x, (enc x).length = m) (P : List α) (hP : P.length ≤ 1000000) (w : World) : RecAt e m enc w.heap.size (w.alloc (.cells (recCells enc P).toArray e)) (.slice (some ⟨w.heap.size, 0, none⟩) P.length P.length) P := by
  have hl := recCells_length he P
  refine ⟨hl, .inr ⟨w.heap.size, P.length, _, rfl, Nat.le_refl _, heap_alloc_new w _, Nat.le_refl _, by unfold maxLen; omega, by simpa using hl, ?_⟩⟩
  rw [← hl]
  simp

theorem IRows.rd {base : Nat} {w : World} {v : Value} {R : List (List Int)} (h : IRows base w v R) (hR : R.length ≤ 1000000) (hr : ∀ r ∈ R, r.length ≤ 1000000) : RdRows w v R := by
  obtain ⟨vs, h1, h2, h3⟩ := h
  obtain ⟨a, cap, rfl, _⟩ := h1.len
  have hrow : ∀ i, i < R.length → ∃ u, vs[i]? = some u ∧ RdInts w u (R.getD i []) := fun i hi => by
    have e1 : vs[i]? = some (vs[i]'(by omega)) := List.getElem?_eq_getElem (by omega)
    have e2 : R[i]? = some (R.getD i []) := by rw [List.getElem?_eq_getElem hi, getD_lt _ _ _ hi]
    exact ⟨_, e1, ((h3 i _ _ e1 e2).rd iC_len).ints (hr _ (getD_mem hi))⟩
  refine ⟨a, cap, fun i => vs.getD i undef, by rw [h2], by omega, fun h0 => ?_, fun i hi => ?_⟩
  · obtain ⟨b, off, _, e, _, _⟩ := (h1.rd vE_len).at (i := 0) (x := vs[0]'(by omega)) (List.getElem?_eq_getElem (by omega))
    cases e
    refine ⟨b, off, rfl, fun i hi => ?_⟩
    obtain ⟨b', off', _, e', _, hc⟩ := (h1.rd vE_len).at (i := i) (x := vs[i]'(by omega)) (List.getElem?_eq_getElem (by omega))
    cases e'
    have := hc 0 _ rfl
    simp only [Nat.mul_one, Nat.add_zero] at this
    dsimp only
    rw [this, getD_lt _ _ _ (by omega)]
  · obtain ⟨u, q1, q2⟩ := hrow i hi
    have : vs.getD i undef = u := by rw [List.getD_eq_getElem?_getD, q1]; rfl
    dsimp only
    rw [this]
    exact q2

def l2 : List Tile := [(0, 0, 0, 0), (1, 0, 1, 0)]
def l1 : List Tile := [(0, 0, 1, 0)]
theorem lines1 : linesL l1 1 = [([0, 0, 0, 0], 0, 1, true)] := by decide
theorem ord1 : ordErr l1 1 2 = 0 := by decide
set_option maxRecDepth 100000 in
theorem count2 : countV l2 2 3 = .tuple #[.int .i64 4, .int .i64 0] := by kernel_rfl
set_option maxRecDepth 100000 in
theorem dead1 : (alvL (linesL l1 (1 : Int).toNat) (8 ^ (1 : Int).toNat) (2 : Int).toNat).any id = false := by kernel_rfl
theorem ok1 : okP 1 2 [[1, 1]] := fun i hi => by
  have : i = 0 := by simp at hi; omega
  subst this
  exact ⟨by decide, by decide⟩
theorem fin1 : finP (linesL l1 1) (deadL [[1, 1]]) := by
  have hd : ∀ c, deadL [[1, 1]] c = if c = 1 then 1 else 0 := fun c => by
    simp [deadL, deadF, code, upd]
  refine ⟨fun x hx => ?_, fun c hc x hx hxc => ?_⟩
  · rw [lines1] at hx
    simp at hx
    subst hx
    rw [hd]; decide
  · rw [lines1] at hx
    simp at hx
    subst hx
    simp at hxc
    subst hxc
    rw [hd] at hc
    exact absurd rfl hc

theorem bd32a (K : Value → Prop) : bdQ Try.prog 32 [] K = K (tlV (0, 0, 0, 0)) := by kernel_rfl
theorem bd32b (K : Value → Prop) : bdQ Try.prog 32 [(0, (.int .i64 1)), (2, (.int .i64 1))] K = K (tlV (1, 0, 1, 0)) := by kernel_rfl
theorem bd32c (K : Value → Prop) : bdQ Try.prog 32 [(2, (.int .i64 1))] K = K (tlV (0, 0, 1, 0)) := by kernel_rfl
theorem bs22b (w : World) (K : Value → World → Prop) : bsW Try.prog 22 2 [(0, tlV (0, 0, 0, 0)), (1, tlV (1, 0, 1, 0))] w K = K (.slice (some ⟨w.heap.size, 0, none⟩) 2 2) (w.alloc (.cells (recCells tlC l2).toArray 32)) := by kernel_rfl
theorem bs22a (w : World) (K : Value → World → Prop) : bsW Try.prog 22 1 [(0, tlV (0, 0, 1, 0))] w K = K (.slice (some ⟨w.heap.size, 0, none⟩) 1 1) (w.alloc (.cells (recCells tlC l1).toArray 32)) := by kernel_rfl
theorem bs30b (w : World) (K : Value → World → Prop) : bsW Try.prog 30 2 [(0, .int .i64 1), (1, .int .i64 1)] w K = K (.slice (some ⟨w.heap.size, 0, none⟩) 2 2) (w.alloc (.cells (recCells iC [1, 1]).toArray 3)) := by kernel_rfl

set_option maxRecDepth 100000 in
theorem law_alive (w : World) : Calls Try.prog 18 #[] w fun e w' => e = .returned (.bool true) ∧ Kp w w' := by
  refine lift18 ?_
  unfold S18
  rw [bd32a, bd32b, bs22b]
  have o1 := rec_alloc (e := 32) tlC_len l2 (by decide) w
  have k1 : Kp w (w.alloc (.cells (recCells tlC l2).toArray 32)) := below_alloc _
  generalize w.alloc (.cells (recCells tlC l2).toArray 32) = w1 at *
  refine r_use fok25 (count_calls 2 3 w1 (o1.rd tlC_len)) rfl ?_
  rintro _ w2 ⟨rfl, k2⟩
  refine ⟨_, rfl, ?_⟩
  rw [count2]
  simp only [r_ex2a, r_ex2b]
  rw [bd32c, bs22a]
  have o3 := rec_alloc (e := 32) tlC_len l1 (by decide) w2
  have k3 : Kp w2 (w2.alloc (.cells (recCells tlC l1).toArray 32)) := below_alloc _
  generalize hs2 : w2.heap.size = sz2 at *
  generalize w2.alloc (.cells (recCells tlC l1).toArray 32) = w3 at *
  rw [bs30b]
  have o4 := rec_alloc (e := 3) iC_len [1, 1] (by decide) w3
  have k4 : Kp w3 (w3.alloc (.cells (recCells iC [1, 1]).toArray 3)) := below_alloc _
  generalize hs3 : w3.heap.size = sz3 at *
  generalize w3.alloc (.cells (recCells iC [1, 1]).toArray 3) = w4 at *
  rw [bs23]
  have o5 := rec_one (e := 30) (enc := vE) (x := .slice (some ⟨sz3, 0, none⟩) 2 2) rfl w4
  have k5 : Kp w4 (w4.alloc (.cells #[.slice (some ⟨sz3, 0, none⟩) 2 2] 30)) := below_alloc _
  have s4 := k4.size
  generalize hs4 : w4.heap.size = sz4 at *
  generalize w4.alloc (.cells #[.slice (some ⟨sz3, 0, none⟩) 2 2] 30) = w5 at *
  have hIR : IRows sz3 w5 (.slice (some ⟨sz4, 0, none⟩) 1 1) [[1, 1]] := by
    refine ⟨[.slice (some ⟨sz3, 0, none⟩) 2 2], o5.down (by omega), rfl, fun i u r hu hr => ?_⟩
    match i with
    | 0 =>
      cases hu
      cases hr
      exact o4.kp k5
    | i + 1 => simp at hu
  have hset : RdT w5 (.slice (some ⟨sz2, 0, none⟩) 1 1) l1 := (o3.rd tlC_len).kp (Kp.trans k4 k5)
  refine r_use fok19 (refutes_calls 1 2 w5 hset (hIR.rd (by decide) (by simp))) rfl ?_
  rintro _ w6 ⟨k6, hpost⟩
  have hv : ∀ e, RefPost l1 1 2 [[1, 1]] e → e = .returned (.tuple #[.bool true, .int .i64 0]) := fun e he => by
    rcases he with ⟨h, _⟩ | ⟨_, h, _⟩ | ⟨_, _, r, rfl, hr⟩
    · exact absurd ord1 h
    · simp at h
    · have : r = true := hr.2 ⟨ok1, fin1⟩
      rw [this]
  have hv' := hv _ hpost
  subst hv'
  refine ⟨_, rfl, ?_⟩
  simp only [r_ex2a, r_ex2b]
  refine r_use fok32 (refute_calls 1 2 w6 (hset.kp k6)) rfl ?_
  rintro _ w7 ⟨k7, hpost⟩
  rcases hpost with ⟨h, _⟩ | ⟨_, h, _⟩ | ⟨_, _, ov, out, rfl, hI, kO, new, _, hperm, _, _, hnew, _⟩
  · exact absurd ord1 h
  · rw [dead1] at h; cases h
  refine ⟨_, rfl, ?_⟩
  have hlen : 1 ≤ out.length := by
    rw [hperm.length_eq, List.length_map]
    refine List.length_pos_of_mem (hnew ([0, 0, 0, 0], 0, 1, true) ?_)
    rw [show (1 : Int).toNat = 1 from rfl, lines1]
    simp
  obtain ⟨vs, p1, p2, _⟩ := hI
  obtain ⟨va, vcap, rfl, _⟩ := p1.len
  have hlen' : (1 : Int) ≤ (vs.length : Int) := by omega
  simp (disch := omega) only [r_ln, r_pick, r_pickT, r_pickF, r_condT, r_condF, r_gdTT, r_gdFF, r_gdTF, r_gdFT, r_gqTT, r_gqFF, r_gqTF, r_gqFT, r_not, r_lss, r_leq, r_gtr, r_geq, r_eql, r_neq, r_add, r_sub, r_min2, r_max2, r_min3, r_max3, r_fa, r_iaS, r_iaA, r_ex2a, r_ex2b, r_ex3a, r_ex3b, r_ex3c, r_nc, r_keepE, Nat.zero_add, Nat.add_zero, Nat.mul_one, Int.toNat_natCast, toNat_sub1, toNat_add1, decide_true, decide_false, Bool.not_true, Bool.not_false, if_true, if_false, Bool.false_eq_true, reduceCtorEq, decide_eq_true (rfl : (0 : Int) = 0), decide_eq_true (rfl : (4 : Int) = 4), decide_eq_true hlen']
  exact ⟨by first | rfl | trivial, Kp.trans (Kp.trans k1 k2) (Kp.trans (Kp.trans k3 k4) (Kp.trans k5 (Kp.trans k6 k7)))⟩

end Go.Proofs.Ytgalbokmgffhkaa

/- Contract: WangMachines. -/
namespace Go.Proofs.Ytgalbokmgffhkaa
open Go.Lf Go.RowKit Go.Wg

theorem r_ex4a (x y z u : Value) {K : Value → Prop} : exQ (.tuple #[x, y, z, u]) 0 K = K x := rfl
theorem r_ex4b (x y z u : Value) {K : Value → Prop} : exQ (.tuple #[x, y, z, u]) 1 K = K y := rfl
theorem r_ex4c (x y z u : Value) {K : Value → Prop} : exQ (.tuple #[x, y, z, u]) 2 K = K z := rfl
theorem r_ex4d (x y z u : Value) {K : Value → Prop} : exQ (.tuple #[x, y, z, u]) 3 K = K u := rfl
theorem MacPost.form {S : Int} {T : List Ent} {base : Nat} {w : World} {e : Ending} (h : MacPost S T base w e) : ∃ v, e = .returned (.tuple #[v, .int .i64 (if macB S T = true then 0 else 2)]) ∧ Rd 4 tlC w v (if macB S T = true then machT S.toNat T else []) := by
  rcases h with ⟨h, rfl⟩ | ⟨h, v, rfl, ho⟩
  · rw [h]
    exact ⟨_, rfl, Rd.nil⟩
  · rw [h]
    exact ⟨_, rfl, ho.rd tlC_len⟩
theorem RunPost.form {S : Int} {T : List Ent} {tape : List Int} {n : Int} {base : Nat} {w : World} {e : Ending} (h : RunPost S T tape n base w e) :
    ∃ v a q, e = .returned (.tuple #[v, .int .i64 a, .int .i64 q, .int .i64 (if runOk S T tape n = true then 0 else 2)]) ∧
      a = (if runOk S T tape n = true then (runM T (tape, 0, 0) n.toNat).2.1 else 0) ∧ q = (if runOk S T tape n = true then (runM T (tape, 0, 0) n.toNat).2.2 else 0) ∧ Rd 1 iC w v (if runOk S T tape n = true then (runM T (tape, 0, 0) n.toNat).1 else []) := by
  rcases h with ⟨h, rfl⟩ | ⟨h, v, rfl, ho⟩
  · rw [h]
    exact ⟨_, 0, 0, rfl, rfl, rfl, Rd.nil⟩
  · rw [h]
    exact ⟨_, _, _, rfl, rfl, rfl, ho.rd iC_len⟩

theorem machT_le {S : Int} {T : List Ent} (h : macB S T = true) : (machT S.toNat T).length ≤ 100 := by
  obtain ⟨s, rfl, h1, h2, _, _⟩ := mac_of h
  have e1 : ((List.range 2).flatMap (mtA s)).length ≤ 2 * 4 := fl_le _ 4 (fun q => by have := mtA_le s q; omega) 2
  have e2 : ((List.range s).flatMap (mtB s T)).length ≤ s * 2 := fl_le _ 2 (fun q => mtB_le s T q) s
  have e3 : machT ((s : Int).toNat) T = mt1 ++ (List.range 2).flatMap (mtA s) ++ (List.range s).flatMap (mtB s T) := rfl
  rw [e3]
  simp only [List.length_append]
  have : mt1.length = 2 := rfl
  omega

set_option maxRecDepth 100000 in
theorem machines_calls {S n : Int} {tv vt : Value} {T : List Ent} {tape : List Int} (w : World) (hr : RdE w tv T) (ht : RdI w vt tape) : Calls Try.prog 10 #[macV S tv, vt, .int .i64 n] w fun e w' => e = .returned (.bool true) ∧ Kp w w' := by
  obtain ⟨ta, tcap, rfl, _⟩ := hr.len
  have ht' := ht
  obtain ⟨aa, ca, rfl, _, _⟩ := ht'
  refine lift10 ?_
  unfold S10
  refine r_box fun b1 w1 e1 s1 h1 k1 => ?_
  have h1' : w1.heap[b1]? = some (.cells #[.int .i64 S, .slice ta T.length tcap] 51 (0, 0)) := h1
  have cT : w1.cell? ⟨b1, 1, none⟩ = some (.slice ta T.length tcap) := by rw [cell_row h1']; rfl
  have fin : ∀ (w' : World), Kp w w' → Calls Try.prog 18 #[] w' fun e w'' => e = .returned (.bool true) ∧ Kp w w'' := fun w' k => (law_alive w').mono fun e w'' h => ⟨h.1, Kp.trans k h.2⟩
  by_cases hl : (20 : Int) < (T.length : Int)
  · simp (disch := omega) only [r_ln, r_pick, r_pickT, r_pickF, r_condT, r_condF, r_gdTT, r_gdFF, r_gdTF, r_gdFT, r_gqTT, r_gqFF, r_gqTF, r_gqFT, r_not, r_lss, r_leq, r_gtr, r_geq, r_eql, r_neq, r_add, r_sub, r_min2, r_max2, r_min3, r_max3, r_fa, r_iaS, r_iaA, r_ex2a, r_ex2b, r_ex3a, r_ex3b, r_ex3c, r_nc, r_keepE, Nat.zero_add, Nat.add_zero, Nat.mul_one, Int.toNat_natCast, toNat_sub1, toNat_add1, decide_true, decide_false, Bool.not_true, Bool.not_false, if_true, if_false, Bool.false_eq_true, reduceCtorEq, r_ld cT, decide_eq_true hl]
    refine r_use fok18 (fin w1 k1) rfl ?_
    rintro _ w2 ⟨rfl, k2⟩
    exact ⟨_, rfl, by first | rfl | trivial, k2⟩
  by_cases hl2 : (20 : Int) < (tape.length : Int)
  · simp (disch := omega) only [r_ln, r_pick, r_pickT, r_pickF, r_condT, r_condF, r_gdTT, r_gdFF, r_gdTF, r_gdFT, r_gqTT, r_gqFF, r_gqTF, r_gqFT, r_not, r_lss, r_leq, r_gtr, r_geq, r_eql, r_neq, r_add, r_sub, r_min2, r_max2, r_min3, r_max3, r_fa, r_iaS, r_iaA, r_ex2a, r_ex2b, r_ex3a, r_ex3b, r_ex3c, r_nc, r_keepE, Nat.zero_add, Nat.add_zero, Nat.mul_one, Int.toNat_natCast, toNat_sub1, toNat_add1, decide_true, decide_false, Bool.not_true, Bool.not_false, if_true, if_false, Bool.false_eq_true, reduceCtorEq, r_ld cT, hl, decide_eq_true hl2]
    refine r_use fok18 (fin w1 k1) rfl ?_
    rintro _ w2 ⟨rfl, k2⟩
    exact ⟨_, rfl, by first | rfl | trivial, k2⟩
  simp (disch := omega) only [r_ln, r_pick, r_pickT, r_pickF, r_condT, r_condF, r_gdTT, r_gdFF, r_gdTF, r_gdFT, r_gqTT, r_gqFF, r_gqTF, r_gqFT, r_not, r_lss, r_leq, r_gtr, r_geq, r_eql, r_neq, r_add, r_sub, r_min2, r_max2, r_min3, r_max3, r_fa, r_iaS, r_iaA, r_ex2a, r_ex2b, r_ex3a, r_ex3b, r_ex3c, r_nc, r_keepE, Nat.zero_add, Nat.add_zero, Nat.mul_one, Int.toNat_natCast, toNat_sub1, toNat_add1, decide_true, decide_false, Bool.not_true, Bool.not_false, if_true, if_false, Bool.false_eq_true, reduceCtorEq, r_ld cT, hl, hl2]
  have hti : RdInts w (.slice aa tape.length ca) tape := ht.small (by omega)
  refine r_copyI (hti.below k1) (by omega) fun v2 w2 o2 k2 _ => ?_
  have k02 := Kp.trans k1 k2
  rw [r_ldRow (n := 2) (block_below h1' k2) rfl]
  refine r_use fok39 (machine39_calls (T := T) w2 (hr.kp k02) (by omega)) rfl ?_
  rintro _ w3 ⟨k3, p3⟩
  obtain ⟨v3, rfl, r3⟩ := p3.form
  refine ⟨_, rfl, ?_⟩
  have k23 := k3
  have k03 := Kp.trans k02 k3
  simp (disch := omega) only [r_ln, r_pick, r_pickT, r_pickF, r_condT, r_condF, r_gdTT, r_gdFF, r_gdTF, r_gdFT, r_gqTT, r_gqFF, r_gqTF, r_gqFT, r_not, r_lss, r_leq, r_gtr, r_geq, r_eql, r_neq, r_add, r_sub, r_min2, r_max2, r_min3, r_max3, r_fa, r_iaS, r_iaA, r_ex2a, r_ex2b, r_ex3a, r_ex3b, r_ex3c, r_nc, r_keepE, Nat.zero_add, Nat.add_zero, Nat.mul_one, Int.toNat_natCast, toNat_sub1, toNat_add1, decide_true, decide_false, Bool.not_true, Bool.not_false, if_true, if_false, Bool.false_eq_true, reduceCtorEq]
  rw [r_ldRow (n := 2) (block_below (block_below h1' k2) k3) rfl]
  refine r_use fok40 (refmachine_calls (T := T) w3 (hr.kp k03) (by omega)) rfl ?_
  rintro _ w4 ⟨k4, p4⟩
  obtain ⟨v4, rfl, r4⟩ := p4.form
  refine ⟨_, rfl, ?_⟩
  have k04 := Kp.trans k03 k4
  have k24 := Kp.trans k23 k4
  have hself : ∀ x : Int, decide (x = x) = true := fun x => decide_eq_true rfl
  simp (disch := omega) only [r_ln, r_pick, r_pickT, r_pickF, r_condT, r_condF, r_gdTT, r_gdFF, r_gdTF, r_gdFT, r_gqTT, r_gqFF, r_gqTF, r_gqFT, r_not, r_lss, r_leq, r_gtr, r_geq, r_eql, r_neq, r_add, r_sub, r_min2, r_max2, r_min3, r_max3, r_fa, r_iaS, r_iaA, r_ex2a, r_ex2b, r_ex3a, r_ex3b, r_ex3c, r_nc, r_keepE, Nat.zero_add, Nat.add_zero, Nat.mul_one, Int.toNat_natCast, toNat_sub1, toNat_add1, decide_true, decide_false, Bool.not_true, Bool.not_false, if_true, if_false, Bool.false_eq_true, reduceCtorEq, hself]
  have hml : (if macB S T = true then machT S.toNat T else []).length ≤ 1000000 := by
    split
    · rename_i h
      have := machT_le h
      omega
    · simp
  refine r_use fok30 (sets_calls w4 (r3.kp k4) r4 hml) rfl ?_
  rintro _ w5 ⟨rfl, k5⟩
  refine ⟨_, rfl, ?_⟩
  have hselfT : ∀ x : List Tile, decide (x = x) = true := fun x => decide_eq_true rfl
  have hselfI : ∀ x : List Int, decide (x = x) = true := fun x => decide_eq_true rfl
  have k05 := Kp.trans k04 k5
  have k25 := Kp.trans k24 k5
  simp (disch := omega) only [r_ln, r_pick, r_pickT, r_pickF, r_condT, r_condF, r_gdTT, r_gdFF, r_gdTF, r_gdFT, r_gqTT, r_gqFF, r_gqTF, r_gqFT, r_not, r_lss, r_leq, r_gtr, r_geq, r_eql, r_neq, r_add, r_sub, r_min2, r_max2, r_min3, r_max3, r_fa, r_iaS, r_iaA, r_ex2a, r_ex2b, r_ex3a, r_ex3b, r_ex3c, r_nc, r_keepE, Nat.zero_add, Nat.add_zero, Nat.mul_one, Int.toNat_natCast, toNat_sub1, toNat_add1, decide_true, decide_false, Bool.not_true, Bool.not_false, if_true, if_false, Bool.false_eq_true, reduceCtorEq, hselfT]
  have h15 := block_below (block_below h1' k2) k25
  rw [r_ldRow (n := 2) h15 rfl]
  have o5 : IntsAt w1.heap.size w5 v2 tape := o2.kp k25
  have i5 : RdInts w5 v2 tape := Rd.ints (o5.rd iC_len) (by omega)
  refine r_use fok41 (run_calls (T := T) (n := n) w5 (hr.kp k05) (by omega) i5) rfl ?_
  rintro _ w6 ⟨k6, p6⟩
  obtain ⟨v6, a6, q6, rfl, ea6, eq6, r6⟩ := p6.form
  refine ⟨_, rfl, ?_⟩
  have k06 := Kp.trans k05 k6
  simp (disch := omega) only [r_ln, r_pick, r_pickT, r_pickF, r_condT, r_condF, r_gdTT, r_gdFF, r_gdTF, r_gdFT, r_gqTT, r_gqFF, r_gqTF, r_gqFT, r_not, r_lss, r_leq, r_gtr, r_geq, r_eql, r_neq, r_add, r_sub, r_min2, r_max2, r_min3, r_max3, r_fa, r_iaS, r_iaA, r_ex2a, r_ex2b, r_ex3a, r_ex3b, r_ex3c, r_nc, r_keepE, Nat.zero_add, Nat.add_zero, Nat.mul_one, Int.toNat_natCast, toNat_sub1, toNat_add1, decide_true, decide_false, Bool.not_true, Bool.not_false, if_true, if_false, Bool.false_eq_true, reduceCtorEq, r_ex4a, r_ex4b, r_ex4c, r_ex4d]
  rw [r_ldRow (n := 2) (block_below h15 k6) rfl]
  refine r_use fok42 (refrun_calls (T := T) (n := n) w6 (hr.kp k06) (by omega) (hti.below k06)) rfl ?_
  rintro _ w7 ⟨k7, p7⟩
  obtain ⟨v7, a7, q7, rfl, ea7, eq7, r7⟩ := p7.form
  refine ⟨_, rfl, ?_⟩
  have k07 := Kp.trans k06 k7
  have k57 := Kp.trans k6 k7
  subst ea6; subst ea7; subst eq6; subst eq7
  have hlen : (if runOk S T tape n = true then (runM T (tape, 0, 0) n.toNat).1 else []).length ≤ 1000000 := by
    split
    · rename_i h
      obtain ⟨hm, hsd, hbt, _, _⟩ := runOk_iff.1 h
      obtain ⟨s, rfl, hTO⟩ := tOk_of hm
      have := (MOk.run hTO (mOk_start hTO.s1 (bits_iff.1 hbt)) n.toNat).len
      omega
    · simp
  simp (disch := omega) only [r_ln, r_pick, r_pickT, r_pickF, r_condT, r_condF, r_gdTT, r_gdFF, r_gdTF, r_gdFT, r_gqTT, r_gqFF, r_gqTF, r_gqFT, r_not, r_lss, r_leq, r_gtr, r_geq, r_eql, r_neq, r_add, r_sub, r_min2, r_max2, r_min3, r_max3, r_fa, r_iaS, r_iaA, r_ex2a, r_ex2b, r_ex3a, r_ex3b, r_ex3c, r_nc, r_keepE, Nat.zero_add, Nat.add_zero, Nat.mul_one, Int.toNat_natCast, toNat_sub1, toNat_add1, decide_true, decide_false, Bool.not_true, Bool.not_false, if_true, if_false, Bool.false_eq_true, reduceCtorEq, hself, r_ex4a, r_ex4b, r_ex4c, r_ex4d]
  refine r_use fok43 (numbers_calls w7 (Rd.ints (r6.kp k7) hlen) (Rd.ints r7 hlen)) rfl ?_
  rintro _ w8 ⟨rfl, k8⟩
  refine ⟨_, rfl, ?_⟩
  have k08 := Kp.trans k07 k8
  simp (disch := omega) only [r_ln, r_pick, r_pickT, r_pickF, r_condT, r_condF, r_gdTT, r_gdFF, r_gdTF, r_gdFT, r_gqTT, r_gqFF, r_gqTF, r_gqFT, r_not, r_lss, r_leq, r_gtr, r_geq, r_eql, r_neq, r_add, r_sub, r_min2, r_max2, r_min3, r_max3, r_fa, r_iaS, r_iaA, r_ex2a, r_ex2b, r_ex3a, r_ex3b, r_ex3c, r_nc, r_keepE, Nat.zero_add, Nat.add_zero, Nat.mul_one, Int.toNat_natCast, toNat_sub1, toNat_add1, decide_true, decide_false, Bool.not_true, Bool.not_false, if_true, if_false, Bool.false_eq_true, reduceCtorEq, hselfI, hself]
  refine r_use fok43 (numbers_calls w8 (Rd.ints ((o5.kp (Kp.trans k57 k8)).rd iC_len) (by omega)) (hti.below k08)) rfl ?_
  rintro _ w9 ⟨rfl, k9⟩
  refine ⟨_, rfl, ?_⟩
  simp (disch := omega) only [r_ln, r_pick, r_pickT, r_pickF, r_condT, r_condF, r_gdTT, r_gdFF, r_gdTF, r_gdFT, r_gqTT, r_gqFF, r_gqTF, r_gqFT, r_not, r_lss, r_leq, r_gtr, r_geq, r_eql, r_neq, r_add, r_sub, r_min2, r_max2, r_min3, r_max3, r_fa, r_iaS, r_iaA, r_ex2a, r_ex2b, r_ex3a, r_ex3b, r_ex3c, r_nc, r_keepE, Nat.zero_add, Nat.add_zero, Nat.mul_one, Int.toNat_natCast, toNat_sub1, toNat_add1, decide_true, decide_false, Bool.not_true, Bool.not_false, if_true, if_false, Bool.false_eq_true, reduceCtorEq, hselfI]
  refine r_use fok18 (fin w9 (Kp.trans k08 k9)) rfl ?_
  rintro _ w10 ⟨rfl, k10⟩
  refine ⟨_, rfl, ?_⟩
  simp (disch := omega) only [r_ln, r_pick, r_pickT, r_pickF, r_condT, r_condF, r_gdTT, r_gdFF, r_gdTF, r_gdFT, r_gqTT, r_gqFF, r_gqTF, r_gqFT, r_not, r_lss, r_leq, r_gtr, r_geq, r_eql, r_neq, r_add, r_sub, r_min2, r_max2, r_min3, r_max3, r_fa, r_iaS, r_iaA, r_ex2a, r_ex2b, r_ex3a, r_ex3b, r_ex3c, r_nc, r_keepE, Nat.zero_add, Nat.add_zero, Nat.mul_one, Int.toNat_natCast, toNat_sub1, toNat_add1, decide_true, decide_false, Bool.not_true, Bool.not_false, if_true, if_false, Bool.false_eq_true, reduceCtorEq]
  exact ⟨by first | rfl | trivial, k10⟩

end Go.Proofs.Ytgalbokmgffhkaa

/- Contracts: line, rowsOf of the statements. -/
namespace Go.Proofs.Ytgalbokmgffhkaa
open Go.Lf Go.RowKit Go.Wg

/-! ### rows by places -/
def eastR (l : List Tile) (row : List Nat) : Int := if row = [] then 0 else tE (tl l (row.getLastD 0))
def rOf (l : List Tile) (n : List Int) : Nat → List Nat → List (List Nat)
  | 0, row => if eastR l row = 0 then [row] else []
  | k + 1, row => (List.range l.length).flatMap fun i => if tN (tl l i) = n.getD row.length 0 ∧ tW (tl l i) = eastR l row then rOf l n k (row ++ [i]) else []

theorem eastR_snoc (l : List Tile) (row : List Nat) (i : Nat) : eastR l (row ++ [i]) = tE (tl l i) := by
  unfold eastR
  rw [if_neg (by simp), List.getLastD_concat]
theorem mem_rOf {l : List Tile} {n : List Int} : ∀ {k : Nat} {row q : List Nat}, q ∈ rOf l n k row ↔ ∃ s, q = row ++ s ∧ s.length = k ∧ (∀ i ∈ s, i < l.length) ∧ (∀ j, j < k → tN (tl l (s.getD j 0)) = n.getD (row.length + j) 0 ∧ tW (tl l (s.getD j 0)) = eastR l (row ++ s.take j)) ∧ eastR l (row ++ s) = 0
  | 0, row, q => by
    unfold rOf
    constructor
    · intro h
      split at h
      · rename_i h0
        simp at h
        exact ⟨[], by simp [h], rfl, by simp, fun j hj => by omega, by simpa using h0⟩
      · cases h
    · rintro ⟨s, rfl, hs, _, _, he⟩
      have : s = [] := List.length_eq_zero_iff.1 hs
      subst this
      simp at he ⊢
      exact he
  | k + 1, row, q => by
    unfold rOf
    simp only [List.mem_flatMap, List.mem_range]
    constructor
    · rintro ⟨i, hi, h⟩
      split at h
      · rename_i hc
        obtain ⟨s, rfl, h1, h2, h3, h4⟩ := mem_rOf.1 h
        refine ⟨i :: s, by simp, by simp [h1], fun j hj => ?_, fun j hj => ?_, by simpa using h4⟩
        · rcases List.mem_cons.1 hj with rfl | hj
          · exact hi
          · exact h2 j hj
        · cases j with
          | zero => simpa using hc
          | succ j =>
            have := h3 j (by omega)
            simp only [List.length_append, List.length_cons, List.length_nil, Nat.zero_add, List.append_assoc, List.cons_append, List.nil_append] at this
            rw [show row.length + 1 + j = row.length + (j + 1) by omega] at this
            simpa using this
      · cases h
    · rintro ⟨s, rfl, h1, h2, h3, h4⟩
      cases s with
      | nil => simp at h1
      | cons i s =>
        have h0 := h3 0 (by omega)
        refine ⟨i, h2 i (by simp), ?_⟩
        rw [if_pos (by simpa using h0)]
        refine mem_rOf.2 ⟨s, by simp, by simpa using h1, fun j hj => h2 j (by simp [hj]), fun j hj => ?_, by simpa using h4⟩
        have := h3 (j + 1) (by omega)
        simp only [List.length_append, List.length_cons, List.length_nil, Nat.zero_add, List.append_assoc, List.cons_append, List.nil_append]
        rw [show row.length + 1 + j = row.length + (j + 1) by omega]
        simpa using this
theorem rOf_nodup (l : List Tile) (n : List Int) : ∀ (k : Nat) (row : List Nat), (rOf l n k row).Nodup
  | 0, row => by unfold rOf; split <;> simp
  | k + 1, row => by
    unfold rOf
    refine nodup_flat (fun q => q.getD row.length 0) List.nodup_range (fun i _ => ?_) (fun i _ q hq => ?_)
    · split
      · exact rOf_nodup l n k _
      · simp
    · split at hq
      · obtain ⟨s, rfl, _⟩ := mem_rOf.1 hq
        rw [List.getD_eq_getElem?_getD, List.append_assoc, List.getElem?_append_right (Nat.le_refl _), Nat.sub_self]
        rfl
      · cases hq
theorem rOf_len {l : List Tile} {n : List Int} : ∀ (k : Nat) (row : List Nat), (rOf l n k row).length ≤ l.length ^ k
  | 0, row => by unfold rOf; split <;> simp
  | k + 1, row => by
    unfold rOf
    rw [len_flat, Nat.pow_succ, Nat.mul_comm]
    have : tot (fun i => (if tN (tl l i) = n.getD row.length 0 ∧ tW (tl l i) = eastR l row then rOf l n k (row ++ [i]) else []).length) (List.range l.length) ≤ (List.range l.length).length * l.length ^ k := tot_le fun i _ => by
      split
      · exact rOf_len k _
      · simp
    rwa [List.length_range] at this

theorem eastR_at {l : List Tile} {q : List Nat} {j : Nat} (hj : j < q.length) : eastR l (q.take (j + 1)) = tE (tl l (q.getD j 0)) := by
  have e : q.take (j + 1) = q.take j ++ [q[j]] := take_succ' _ _ hj
  rw [e, eastR_snoc, getD_lt _ _ _ hj]
/-- The rows are the rows of tiles. -/
theorem rOf_row {l : List Tile} {n : List Int} {q : List Nat} (hn : 0 < n.length) : q ∈ rOf l n n.length [] ↔ q.length = n.length ∧ (∀ i ∈ q, i < l.length) ∧ RowC l n (q.map (tl l)) := by
  rw [mem_rOf]
  have hat : ∀ j, j < q.length → (q.map (tl l)).getD j t0 = tl l (q.getD j 0) := fun j hj => by
    rw [getD_lt _ _ _ (by simpa using hj), getD_lt _ _ _ hj]; simp
  constructor
  · rintro ⟨s, e, h1, h2, h3, h4⟩
    simp only [List.nil_append] at e h4
    subst e
    refine ⟨h1, h2, by simp [h1], fun j hj => ?_, fun j hj => ?_, fun j hj => ?_, fun _ => ?_, fun _ => ?_⟩
    · rw [hat j (by omega)]; unfold tl; exact getD_mem (h2 _ (getD_mem (by omega)))
    · rw [hat j (by omega), hat (j + 1) (by omega)]
      have := (h3 (j + 1) hj).2
      rw [List.nil_append, eastR_at (by omega)] at this
      exact this.symm
    · rw [hat j (by omega)]
      have := (h3 j hj).1
      simpa using this
    · rw [hat 0 (by omega)]
      have := (h3 0 hn).2
      simpa [eastR] using this
    · rw [hat _ (by omega)]
      have e2 : q.take (n.length - 1 + 1) = q := List.take_of_length_le (by omega)
      have := eastR_at (l := l) (q := q) (j := n.length - 1) (by omega)
      rw [e2, h4] at this
      exact this.symm
  · rintro ⟨h1, h2, hR⟩
    refine ⟨q, by simp, h1, h2, fun j hj => ⟨?_, ?_⟩, ?_⟩
    · have := hR.nor j hj
      rw [hat j (by omega)] at this
      simpa using this
    · rw [List.nil_append]
      cases j with
      | zero =>
        have := hR.west hn
        rw [hat 0 (by omega)] at this
        simpa [eastR] using this
      | succ j =>
        have := hR.chain j hj
        rw [hat j (by omega), hat (j + 1) (by omega)] at this
        rw [eastR_at (by omega)]
        exact this.symm
    · have := hR.east hn
      rw [hat _ (by omega)] at this
      have e2 : q.take (n.length - 1 + 1) = q := List.take_of_length_le (by omega)
      have e3 := eastR_at (l := l) (q := q) (j := n.length - 1) (by omega)
      rw [e2] at e3
      rw [List.nil_append, e3]
      exact this
theorem tl_inj {l : List Tile} (h : l.Nodup) {i j : Nat} (hi : i < l.length) (hj : j < l.length) (e : tl l i = tl l j) : i = j := by
  unfold tl at e
  rw [getD_lt _ _ _ hi, getD_lt _ _ _ hj] at e
  have hp := List.pairwise_iff_getElem.1 (List.nodup_iff_pairwise_ne.1 h)
  rcases Nat.lt_trichotomy i j with h1 | h1 | h1
  · exact absurd e (hp i j hi hj h1)
  · exact h1
  · exact absurd e.symm (hp j i hj hi h1)
theorem nodup_single {α : Type} {L : List α} {x : α} (hn : L.Nodup) (hx : x ∈ L) (h : ∀ y ∈ L, y = x) : L = [x] := by
  cases L with
  | nil => cases hx
  | cons y L =>
    have e := h y (by simp)
    subst e
    cases L with
    | nil => rfl
    | cons z L =>
      have e := h z (by simp)
      rw [e] at hn
      simp at hn
theorem rOf_none {l : List Tile} {n : List Int} (hn : 0 < n.length) (h : ∀ ts, ¬ RowC l n ts) : rOf l n n.length [] = [] := by
  refine List.eq_nil_iff_forall_not_mem.2 fun q hq => h _ ((rOf_row hn).1 hq).2.2
theorem rOf_one {l : List Tile} {n : List Int} {ts : List Tile} (hl : l.Nodup) (hn : 0 < n.length) (h : RowC l n ts) (hu : ∀ us, RowC l n us → us = ts) : ∃ q, rOf l n n.length [] = [q] ∧ q.length = n.length ∧ (∀ i ∈ q, i < l.length) ∧ q.map (tl l) = ts := by
  have hmem : ∀ t ∈ ts, t ∈ l := fun t ht => by
    obtain ⟨j, hj, rfl⟩ := List.getElem_of_mem ht
    have := h.mem j (by have := h.len; omega)
    rwa [getD_lt _ _ _ hj] at this
  have hi : ∀ t ∈ ts, l.idxOf t < l.length ∧ tl l (l.idxOf t) = t := fun t ht => by
    have hlt := List.idxOf_lt_length_iff.2 (hmem t ht)
    refine ⟨hlt, ?_⟩
    unfold tl
    rw [getD_lt _ _ _ hlt]
    exact List.getElem_idxOf hlt
  have hmap : (ts.map fun t => l.idxOf t).map (tl l) = ts := by
    rw [List.map_map]
    conv => rhs; rw [← List.map_id ts]
    exact List.map_congr_left fun t ht => (hi t ht).2
  have hq : ts.map (fun t => l.idxOf t) ∈ rOf l n n.length [] := (rOf_row hn).2 ⟨by simp [h.len], fun i hi' => by
    obtain ⟨t, ht, rfl⟩ := List.mem_map.1 hi'
    exact (hi t ht).1, by rw [hmap]; exact h⟩
  obtain ⟨q1, q2, _⟩ := (rOf_row hn).1 hq
  refine ⟨_, nodup_single (rOf_nodup l n _ _) hq fun p hp => ?_, q1, q2, hmap⟩
  obtain ⟨p1, p2, p3⟩ := (rOf_row hn).1 hp
  have e := hu _ p3
  rw [← hmap] at e
  refine List.ext_getElem (by rw [p1, q1]) fun j j1 j2 => ?_
  have e2 : (p.map (tl l))[j]'(by simpa using j1) = ((ts.map fun t => l.idxOf t).map (tl l))[j]'(by simpa using j2) := by simp only [e]
  simp only [List.getElem_map] at e2 ⊢
  exact tl_inj hl (p2 _ (List.getElem_mem j1)) (by have := q2 _ (List.getElem_mem j2); simpa using this) e2

/-! ### appending behind a view -/
set_option maxRecDepth 100000 in
theorem r_cut {a : Option Addr} {n c x : Nat} {w : World} {K : Value → World → Prop} (hx : x ≤ c) (hk : K (.slice a x x) w) : semW Try.prog (s3S 30 (.slice a n c) none (some (.int .i64 (x : Nat))) (.int .i64 (x : Nat))) w K := by
  obtain ⟨i, z, i1, i2, i3, i4, i5⟩ := slt30.info
  refine semW_of_run (v := .slice a x x) (w' := w) ?_ hk
  have h0 : ¬ ((x : Int) < 0) := by omega
  have h1 : ¬ ((c : Int) < (x : Int)) := by omega
  cases a with
  | none => simp [s3S, Instr.sliceAt, run_underlying slt30.und, Instr.slice, Instr.sliceBounds, Instr.sliceBound, asIntOf, sizeOf, typeInfo, i1, h0, h1, hx, Nat.not_lt.2 hx]
  | some a =>
    have ha : a.add 0 = a := rfl
    simp [s3S, Instr.sliceAt, run_underlying slt30.und, Instr.slice, Instr.sliceBounds, Instr.sliceBound, asIntOf, sizeOf, typeInfo, i1, h0, h1, hx, ha]

set_option maxRecDepth 100000 in
theorem r_pushView {a : Option Addr} {cap : Nat} {w : World} {row : List Int} {x : Int} {K : Value → World → Prop} (h : RdInts w (.slice a row.length cap) row) (h0 : row = [] → a = none) (hl : row.length ≤ 1000)
    (hk : ∀ v' w', RdInts w' v' (row ++ [x]) → Kp w w' → K v' w') :
    bsW Try.prog 30 1 [(0, .int .i64 x)] w fun s w => semW Try.prog (apS [30, 30] 30 [.slice a row.length row.length, s]) w K := by
  by_cases he : row = []
  · have ha := h0 he
    subst ha
    subst he
    refine r_pushRec (x := x) (v := .slice none 0 0) slt30 iC_len rfl (bs30 _ _ _) (by intro u hu; simp [iC] at hu; rw [hu]; rfl) (by omega) (RecAt.nil (base := w.heap.size)) (by simp) (Nat.le_refl _) fun v' w' ho hc _ => ?_
    exact hk v' w' (Rd.ints (ho.rd iC_len) (by simp)) (Kp.of_chg (Kp.refl _) hc fun k e => by cases e)
  have hpos : 0 < row.length := Nat.pos_of_ne_zero fun h => he (List.length_eq_zero_iff.1 h)
  obtain ⟨i, z, i1, i2, i3, i4, i5⟩ := slt30.info
  obtain ⟨b, off, c', e, _⟩ := h.at (j := 0) hpos
  cases e
  rw [bs30]
  have hk1 : Kp w (w.alloc (.cells #[.int .i64 x] 3)) := below_alloc _
  have hnew := heap_alloc_new w (.cells #[.int .i64 x] 3)
  have hsz : (w.alloc (.cells #[.int .i64 x] 3)).heap.size = w.heap.size + 1 := by show (w.heap.push _).size = _; simp
  have h1 := h.below hk1
  generalize w.alloc (.cells #[.int .i64 x] 3) = w1 at *
  have hold : ∀ j v, (row.map (Value.int .i64))[j]? = some v → w1.cell? ((⟨b, off, none⟩ : Addr).add j) = some v := fun j v hv => by
    have hj : j < row.length := by have := (List.getElem?_eq_some_iff.1 hv).1; simpa using this
    obtain ⟨b', off', c'', e', hc⟩ := h1.at hj
    cases e'
    rw [r_addr, hc]
    rw [List.getElem?_map, List.getElem?_eq_getElem hj] at hv
    rw [getD_lt _ _ _ hj]
    simpa using hv
  have hnews : ∀ j v, [Value.int .i64 x][j]? = some v → w1.cell? ((⟨w.heap.size, 0, none⟩ : Addr).add j) = some v := fun j v hv => by
    rw [r_addr, cell_row hnew]
    cases j with
    | zero => simpa using hv
    | succ j => simp at hv
  have hb2 : (row.length + 1) * i.bytes ≤ 140737488355328 := by rw [i4]; omega
  have hrun := run_append_grow (P := Try.prog) (w := w1) 30 30 3 i z slt30.und i1 i2 ⟨b, off, none⟩ row.length row.length (row.map (Value.int .i64)) (by rw [i3]; simp) hold ⟨w.heap.size, 0, none⟩ 1 1 [Value.int .i64 x] (by rw [i3]; rfl) hnews (by omega) (by omega) (growslice_fits (by omega) hb2)
  refine semW_of_run (v := .slice (some ⟨w1.heap.size, 0, none⟩) (row.length + 1) (grownCap w1 (row.length + 1) row.length 3)) (w' := w1.drew.alloc (.cells ((row.map (Value.int .i64)).toArray ++ [Value.int .i64 x].toArray ++ Builtin.zeroCells z.cells (grownCap w1 (row.length + 1) row.length 3 - (row.length + 1))) 3)) (by simp only [apS, Sem.run_bind]; rw [hrun]; rfl) (hk _ _ ?_ ?_)
  · refine ⟨_, _, by rw [List.length_append]; rfl, ⟨by simp; omega, by rw [List.length_append]; exact grownCap_ge _ _ _ _⟩, fun _ => ⟨w1.heap.size, 0, rfl, fun j hj => ?_⟩⟩
    have hcell := cell_row (w := w1.drew.alloc (.cells ((row.map (Value.int .i64)).toArray ++ [Value.int .i64 x].toArray ++ Builtin.zeroCells z.cells (grownCap w1 (row.length + 1) row.length 3 - (row.length + 1))) 3)) (o := 0 + j) (heap_alloc_new w1.drew _)
    rw [List.length_append] at hj
    have hj' : j < row.length + 1 := by simpa using hj
    refine Eq.trans hcell ?_
    rw [Nat.zero_add, getD_lt _ _ _ (by simpa using hj')]
    rw [Array.getElem?_append_left (by simp; omega)]
    simp only [List.append_toArray, List.getElem?_toArray]
    by_cases hjr : j < row.length
    · rw [List.getElem?_append_left (by simpa using hjr), List.getElem?_map, List.getElem?_eq_getElem hjr, List.getElem_append_left hjr]; rfl
    · have : j = row.length := by omega
      subst this
      rw [List.getElem?_append_right (by simp), List.getElem_append_right (by omega)]
      simp
  · exact Kp.trans hk1 ((Below.refl _ _).drew.alloc (Nat.le_refl _) _)

set_option maxRecDepth 100000 in
theorem line_calls {tv : Value} {x : MSt} (w : World) (hr : RdInts w tv x.1) (hg : goes x) (hl : x.1.length ≤ 1000) (hb : 0 ≤ x.1.getD x.2.1.toNat 0 ∧ x.1.getD x.2.1.toNat 0 ≤ 1) (hq : x.2.2 ≤ 1000) :
    Calls Try.prog 44 #[tv, .int .i64 x.2.1, .int .i64 x.2.2] w fun e w' => ∃ v, e = .returned v ∧ Kp w w' ∧ RdInts w' v (lineI x) := by
  obtain ⟨g1, g2, g3⟩ := hg
  refine lift44 ?_
  unfold S44
  refine r_copyI hr (by omega) fun v w1 o1 k1 _ => ?_
  obtain ⟨g, cap, ev, hbg, gc, gf, gset⟩ := IntsAt.put o1 (q := x.2.1.toNat) (by omega) (x.1.getD x.2.1.toNat 0 + (2 + 2 * x.2.2))
  have ia : ∀ K : Value → Prop, iaS 1 v (.int .i64 x.2.1) K = K (.pointer (some ⟨g, x.2.1.toNat, none⟩)) := fun K => by
    rw [ev, r_iaS _ _ _ _ _ _ _ (by omega) (by omega), Nat.mul_one, Nat.zero_add]
  rw [ia, r_ld gc, r_mul _ _ (by omega) (by omega), r_add _ _ (by omega) (by omega), r_add _ _ (by omega) (by omega), ia, st3 gc gf]
  have hch : Chg (fun q => q = g) w1 (w1.setCell ⟨g, x.2.1.toNat, none⟩ (.int .i64 (x.1.getD x.2.1.toNat 0 + (2 + 2 * x.2.2)))) := Chg.setCell _ _ rfl
  exact ⟨_, rfl, Kp.of_chg k1 hch fun q e => by rw [e]; exact hbg, Rd.ints (gset.rd iC_len) (by unfold lineI; rw [List.length_set]; omega)⟩

theorem intsR_len (r : List Nat) : (intsR r).length = r.length := by simp [intsR]
theorem intsR_snoc (r : List Nat) (i : Nat) : intsR (r ++ [i]) = intsR r ++ [(i : Int)] := by simp [intsR]

set_option maxRecDepth 100000 in
set_option maxHeartbeats 1000000 in
theorem rowsOf_calls {sv nv : Value} {l : List Tile} {n : List Int} (hls : l.length ≤ 16) (hn4 : n.length ≤ 4) : ∀ (k : Nat) (w : World) (rv : Value) (row : List Nat), row.length + k = n.length → RdT w sv l → RdInts w nv n → RdInts w rv (intsR row) → (row = [] → rv = nilS) → (∀ i ∈ row, i < l.length) →
    Calls Try.prog 45 #[sv, nv, rv] w fun e w' => ∃ v, e = .returned v ∧ Kp w w' ∧ IRows w.heap.size w' v ((rOf l n k row).map intsR) := by
  intro k
  induction k with
  | zero =>
    intro w rv row hk hr hn hrow h0 hlt
    refine lift45 ?_
    unfold S45
    obtain ⟨ra, rc, erv, _, _⟩ := hrow.len
    rw [intsR_len] at erv
    have lnr : ∀ K : Value → Prop, ln1 rv K = K (.int .i64 row.length) := fun K => by rw [erv]; rfl
    obtain ⟨na, nc, env, _, _⟩ := hn.len
    have lnn : ∀ K : Value → Prop, ln1 nv K = K (.int .i64 n.length) := fun K => by rw [env]; rfl
    rw [lnr, r_gtr]
    refine r_join1 (fun v w' => v = .int .i64 (eastR l row) ∧ w' = w) ?_ fun k' hk' => ?_
    · rintro v w' ⟨rfl, rfl⟩
      rw [lnn]
      have e1 : (row.length : Int) = (n.length : Int) := by omega
      simp only [r_eql, decide_eq_true e1, r_condT]
      unfold rOf
      by_cases he : eastR l row = 0
      · rw [if_pos he]
        simp only [decide_eq_true he, r_condT]
        refine r_copyI hrow (by rw [intsR_len]; omega) fun v2 w2 o2 k2 _ => ?_
        obtain ⟨a2, c2, rfl, _⟩ := o2.len
        rw [bs23]
        exact ⟨_, rfl, Kp.trans k2 (below_alloc _), IRows.one o2 k2.size⟩
      · rw [if_neg he]
        simp only [he, decide_false, r_condF]
        exact ⟨_, rfl, Kp.refl _, IRows.nil⟩
    · by_cases hp : row = []
      · subst hp
        have h00 : ¬ (0 : Int) < (([] : List Nat).length : Int) := by simp
        simp only [h00, decide_false, r_condF]
        exact hk' _ _ ⟨rfl, rfl⟩
      · have hpos : 0 < row.length := Nat.pos_of_ne_zero fun h => hp (List.length_eq_zero_iff.1 h)
        have h00 : (0 : Int) < (row.length : Int) := by omega
        have hlast := hlt (row.getLastD 0) (by rw [List.getLastD_eq_getLast?, List.getLast?_eq_some_getLast hp]; exact List.getLast_mem hp)
        obtain ⟨rb, ro, rcc, erv2, rcell⟩ := hrow.at (j := row.length - 1) (by rw [intsR_len]; omega)
        have hv : (intsR row).getD (row.length - 1) 0 = ((row.getLastD 0 : Nat) : Int) := by
          rw [getD_lt _ _ _ (by rw [intsR_len]; omega), last_get (n := row.length - 1) (by omega), getD_lt _ _ _ (by omega)]
          simp [intsR]
        rw [hv] at rcell
        have hjj : ((row.length - 1 : Nat) : Int).toNat = row.length - 1 := by omega
        obtain ⟨b, off, cap, esv, _, hcell⟩ := hr.at (tl_get hlast)
        have hii : ((row.getLastD 0 : Nat) : Int).toNat = row.getLastD 0 := by omega
        simp only [decide_eq_true h00, r_condT]
        rw [r_sub _ _ (by omega) (by omega), show (row.length : Int) - 1 = ((row.length - 1 : Nat) : Int) by omega, erv2, r_iaS _ _ _ _ _ _ _ (by omega) (by rw [intsR_len]; omega), hjj, Nat.mul_one, r_ld rcell, esv, r_iaS _ _ _ _ _ _ _ (by omega) (by omega), hii, r_fa, r_ld (hcell 1 _ rfl)]
        refine hk' _ _ ⟨?_, rfl⟩
        unfold eastR
        rw [if_neg hp]
  | succ k ih =>
    intro w rv row hk hr hn hrow h0 hlt
    refine lift45 ?_
    unfold S45
    obtain ⟨ra, rc, erv, _, hrcap⟩ := hrow.len
    rw [intsR_len] at erv hrcap
    have lnr : ∀ K : Value → Prop, ln1 rv K = K (.int .i64 row.length) := fun K => by rw [erv]; rfl
    obtain ⟨na, nc, env, _, _⟩ := hn.len
    have lnn : ∀ K : Value → Prop, ln1 nv K = K (.int .i64 n.length) := fun K => by rw [env]; rfl
    obtain ⟨sa, sc, esv0, _⟩ := hr.len
    have lns : ∀ K : Value → Prop, ln1 sv K = K (.int .i64 l.length) := fun K => by rw [esv0]; rfl
    rw [lnr, r_gtr]
    refine r_join1 (fun v w' => v = .int .i64 (eastR l row) ∧ w' = w) ?_ fun k' hk' => ?_
    · rintro v w' ⟨rfl, rfl⟩
      rw [lnn]
      have e1 : ¬ (row.length : Int) = (n.length : Int) := by omega
      simp only [r_eql, e1, decide_false, r_condF]
      unfold S45L0
      have hlenp : ∀ m, m ≤ l.length → ((List.range m).flatMap fun i => if tN (tl l i) = n.getD row.length 0 ∧ tW (tl l i) = eastR l row then rOf l n k (row ++ [i]) else []).length ≤ m * 16 ^ k := fun m _ => by
        rw [len_flat]
        have : tot (fun i => (if tN (tl l i) = n.getD row.length 0 ∧ tW (tl l i) = eastR l row then rOf l n k (row ++ [i]) else []).length) (List.range m) ≤ (List.range m).length * 16 ^ k := tot_le fun i _ => by
          split
          · exact Nat.le_trans (rOf_len k _) (Nat.pow_le_pow_left hls k)
          · simp
        rwa [List.length_range] at this
      have h16 : 16 ^ k ≤ 4096 := Nat.le_trans (Nat.pow_le_pow_right (by omega) (show k ≤ 3 by omega)) (by decide)
      refine ⟨fun t9 t10 wr => ∃ i : Nat, i ≤ l.length ∧ t10 = .int .i64 i ∧ IRows w'.heap.size wr t9 (((List.range i).flatMap fun i => if tN (tl l i) = n.getD row.length 0 ∧ tW (tl l i) = eastR l row then rOf l n k (row ++ [i]) else []).map intsR) ∧ Kp w' wr, fun _ t10 _ => l.length - (intOf t10).toNat, ⟨0, by omega, rfl, IRows.nil, Kp.refl _⟩, ?_⟩
      rintro _ t9 _ wr ⟨i, hi, rfl, hP, kr⟩
      rw [lns]
      by_cases hil : i < l.length
      case neg =>
        have hil' : ¬ (i : Int) < (l.length : Int) := by omega
        have ei : i = l.length := by omega
        subst ei
        simp only [r_lss, hil', decide_false, r_condF]
        exact ⟨_, rfl, kr, hP⟩
      have hil' : (i : Int) < (l.length : Int) := by omega
      simp only [r_lss, decide_eq_true hil', r_condT]
      refine r_drew fun w2 k2 _ => ?_
      have k02 := Kp.trans kr k2
      have hii : (i : Int).toNat = i := by omega
      obtain ⟨b, off, cap, esv, _, hcell⟩ := (hr.kp k02).at (tl_get hil)
      have ia : ∀ K : Value → Prop, iaS 4 sv (.int .i64 i) K = K (.pointer (some ⟨b, off + i * 4, none⟩)) := fun K => by rw [esv, r_iaS _ _ _ _ _ _ _ (by omega) (by omega), hii]
      have c0 : w2.cell? ⟨b, off + i * 4, none⟩ = some (.int .i64 (tN (tl l i))) := hcell 0 _ rfl
      have c3 : w2.cell? ⟨b, off + i * 4 + 3, none⟩ = some (.int .i64 (tW (tl l i))) := hcell 3 _ rfl
      obtain ⟨nb, no, ncc, env2, ncell⟩ := (hn.below k02).at (j := row.length) (by omega)
      have hrr : (row.length : Int).toNat = row.length := by omega
      have ian : ∀ K : Value → Prop, iaS 1 nv (.int .i64 row.length) K = K (.pointer (some ⟨nb, no + row.length, none⟩)) := fun K => by rw [env2, r_iaS _ _ _ _ _ _ _ (by omega) (by omega), hrr, Nat.mul_one]
      simp only [ia, ian, r_fa, Nat.add_zero, r_ld c0, r_ld ncell, r_eql]
      have hfl : ∀ X, ((List.range (i + 1)).flatMap fun i => if tN (tl l i) = n.getD row.length 0 ∧ tW (tl l i) = eastR l row then rOf l n k (row ++ [i]) else []) = X → X = ((List.range i).flatMap fun i => if tN (tl l i) = n.getD row.length 0 ∧ tW (tl l i) = eastR l row then rOf l n k (row ++ [i]) else []) ++ (if tN (tl l i) = n.getD row.length 0 ∧ tW (tl l i) = eastR l row then rOf l n k (row ++ [i]) else []) := fun X e => by
        rw [← e, List.range_succ, List.flatMap_append]; simp
      have hfl := hfl _ rfl
      have hPl := hlenp i hi
      have hmul : i * 16 ^ k ≤ 16 * 4096 := Nat.mul_le_mul (by omega) h16
      generalize hP1 : ((List.range i).flatMap fun i => if tN (tl l i) = n.getD row.length 0 ∧ tW (tl l i) = eastR l row then rOf l n k (row ++ [i]) else []) = P at *
      have nextI : ∀ (v' : Value) (w' : World), v' = v' → ∀ w3 : World, True := fun _ _ _ _ => trivial
      have jn : ∀ tt : Value, (tt = .bool (decide (tN (tl l i) = n.getD row.length 0 ∧ tW (tl l i) = eastR l row))) →
          (Join (fun (k_4 : Value → World → Prop) =>
            condW tt (
              semW Try.prog (s3S 30 rv none (some (.int .i64 row.length)) (.int .i64 row.length)) w2 fun t65_2 w =>
              bsW Try.prog 30 1 [(0, .int .i64 i)] w fun t67_2 w =>
              semW Try.prog (apS [30, 30] 30 [t65_2, t67_2]) w fun t68_2 w =>
              callW Try.prog (.func (.func 45) #[] #[]) [sv, nv, t68_2] w fun t69_2 w =>
              semW Try.prog (apS [23, 23] 23 [t9, t69_2]) w fun t70_2 w =>
              k_4 t70_2 w
            ) (
              k_4 t9 w2
            )
          ) fun t9_4 w =>
          binQ Try.prog w .add 3 true (.int .i64 i) (.int .i64 1) fun t39_4 =>
          (∃ j : Nat, j ≤ l.length ∧ t39_4 = .int .i64 j ∧ IRows w'.heap.size w t9_4 (((List.range j).flatMap fun i => if tN (tl l i) = n.getD row.length 0 ∧ tW (tl l i) = eastR l row then rOf l n k (row ++ [i]) else []).map intsR) ∧ Kp w' w) ∧ l.length - (intOf t39_4).toNat < l.length - (intOf (.int .i64 (i : Int))).toNat) := fun tt ett => by
        subst ett
        refine r_join1 (fun v w3 => IRows w'.heap.size w3 v ((P ++ (if tN (tl l i) = n.getD row.length 0 ∧ tW (tl l i) = eastR l row then rOf l n k (row ++ [i]) else [])).map intsR) ∧ Kp w' w3) ?_ fun k4 hk4 => ?_
        · rintro v w3 ⟨g1, g2⟩
          rw [r_add _ _ (by omega) (by omega)]
          refine ⟨⟨i + 1, by omega, by go_num, ?_, g2⟩, by simp only [intOf]; omega⟩
          rw [hfl]; exact g1
        by_cases hc : tN (tl l i) = n.getD row.length 0 ∧ tW (tl l i) = eastR l row
        case neg =>
          rw [if_neg hc, List.append_nil] at hk4
          simp only [hc, decide_false, r_condF]
          exact hk4 _ _ ⟨hP.kp k2, k02⟩
        rw [if_pos hc] at hk4
        simp only [decide_eq_true hc, r_condT]
        rw [erv]
        refine r_cut hrcap ?_
        have hrow2 := hrow.below k02
        rw [erv] at hrow2
        have hil3 := intsR_len row
        have hpv := r_pushView (a := ra) (cap := rc) (w := w2) (row := intsR row) (x := (i : Int)) (K := fun t68_2 w => callW Try.prog (.func (.func 45) #[] #[]) [sv, nv, t68_2] w fun t69_2 w => semW Try.prog (apS [23, 23] 23 [t9, t69_2]) w fun t70_2 w => k4 t70_2 w) (by rw [hil3]; exact hrow2) (fun e => by
          have : row = [] := by
            have := congrArg List.length e
            rw [hil3] at this
            exact List.length_eq_zero_iff.1 this
          have := h0 this
          rw [erv] at this
          injection this) (by omega) fun v3 w3 hv3 k3 => by
          have k03 := Kp.trans k02 k3
          refine r_use fok45 (ih w3 v3 (row ++ [i]) (by simp; omega) (hr.kp k03) (hn.below k03) (by rw [intsR_snoc]; exact hv3) (fun e => by simp at e) fun j hj => by
            rcases List.mem_append.1 hj with h | h
            · exact hlt j h
            · simp at h; rw [h]; exact hil) rfl ?_
          rintro _ w4 ⟨v4, rfl, k4', o4⟩
          refine ⟨_, rfl, ?_⟩
          have k04 := Kp.trans k03 k4'
          have hP4 := (hP.kp k2).kp (Kp.trans k3 k4')
          have hl4 : (rOf l n k (row ++ [i])).length ≤ 4096 := Nat.le_trans (rOf_len k _) (Nat.le_trans (Nat.pow_le_pow_left hls k) h16)
          refine r_apRows hP4 o4 k03.size (by rw [List.length_map, List.length_map]; omega) k04.size fun v5 w5 o5 c5 => ?_
          obtain ⟨vs, p1, _, _⟩ := hP4
          refine hk4 _ _ ⟨by rw [List.map_append]; exact o5, Kp.of_chg k04 c5 fun q e => (p1.lt e).1⟩
        rw [hil3] at hpv
        exact hpv
      by_cases g1 : tN (tl l i) = n.getD row.length 0
      · simp only [decide_eq_true g1, r_gqTT, ia, r_fa, r_ld c3, r_eql, r_pickT]
        refine jn _ ?_
        by_cases g2 : tW (tl l i) = eastR l row
        · rw [decide_eq_true g2, decide_eq_true ⟨g1, g2⟩]
        · rw [decide_eq_false g2, decide_eq_false fun h => g2 h.2]
      · simp only [g1, decide_false, r_gqFT, r_gqU, r_pickF]
        refine jn _ ?_
        rw [decide_eq_false fun h => g1 h.1]
    · by_cases hp : row = []
      · subst hp
        have h00 : ¬ (0 : Int) < (([] : List Nat).length : Int) := by simp
        simp only [h00, decide_false, r_condF]
        exact hk' _ _ ⟨rfl, rfl⟩
      · have hpos : 0 < row.length := Nat.pos_of_ne_zero fun h => hp (List.length_eq_zero_iff.1 h)
        have h00 : (0 : Int) < (row.length : Int) := by omega
        have hlast := hlt (row.getLastD 0) (by rw [List.getLastD_eq_getLast?, List.getLast?_eq_some_getLast hp]; exact List.getLast_mem hp)
        obtain ⟨rb, ro, rcc, erv2, rcell⟩ := hrow.at (j := row.length - 1) (by rw [intsR_len]; omega)
        have hv : (intsR row).getD (row.length - 1) 0 = ((row.getLastD 0 : Nat) : Int) := by
          rw [getD_lt _ _ _ (by rw [intsR_len]; omega), last_get (n := row.length - 1) (by omega), getD_lt _ _ _ (by omega)]
          simp [intsR]
        rw [hv] at rcell
        have hjj : ((row.length - 1 : Nat) : Int).toNat = row.length - 1 := by omega
        obtain ⟨b, off, cap, esv, _, hcell⟩ := hr.at (tl_get hlast)
        have hii : ((row.getLastD 0 : Nat) : Int).toNat = row.getLastD 0 := by omega
        simp only [decide_eq_true h00, r_condT]
        rw [r_sub _ _ (by omega) (by omega), show (row.length : Int) - 1 = ((row.length - 1 : Nat) : Int) by omega, erv2, r_iaS _ _ _ _ _ _ _ (by omega) (by rw [intsR_len]; omega), hjj, Nat.mul_one, r_ld rcell, esv, r_iaS _ _ _ _ _ _ _ (by omega) (by omega), hii, r_fa, r_ld (hcell 1 _ rfl)]
        refine hk' _ _ ⟨?_, rfl⟩
        unfold eastR
        rw [if_neg hp]

end Go.Proofs.Ytgalbokmgffhkaa
