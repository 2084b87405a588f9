/- Texts of my own, merged by program: D3 Tt D4. -/
import Derived.Test.YtgalbokmgffhkaaN18
import Derived.Test.YtgalbokmgffhkaaN06
set_option linter.all false
/- Contract: Valid of the specification. -/
namespace Go.Proofs.Ytgalbokmgffhkaa
open Go.Lf Go.RowKit Go.Wg

set_option maxRecDepth 100000 in
set_option maxHeartbeats 400000 in
theorem valid2_calls {S : Int} {tv : Value} {T : List Ent} (w : World) (hr : RdE w tv T) (hT : T.length ≤ 1000) : Calls Try.prog 93 #[macV S tv] w fun e w' => e = .returned (.bool (macB S T)) ∧ Kp w w' := by
  obtain ⟨ta, tcap, rfl, _⟩ := hr.len
  refine lift93 ?_
  unfold S93
  refine r_box fun b1 w1 e1 s1 h1 k1 => ?_
  have h1' : w1.heap[b1]? = some (.cells #[.int .i64 S, .slice ta T.length tcap] 51 (0, 0)) := h1
  have cS : w1.cell? ⟨b1, 0, none⟩ = some (.int .i64 S) := by rw [cell_row h1']; rfl
  have cT : w1.cell? ⟨b1, 1, none⟩ = some (.slice ta T.length tcap) := by rw [cell_row h1']; rfl
  have fin : ∀ (r : Bool) (w' : World), r = macB S T → Kp w1 w' → Ending.returned (.bool r) = .returned (.bool (macB S T)) ∧ Kp w w' := fun r w' h k => ⟨by rw [h], Kp.trans k1 k⟩
  by_cases g1 : S < 1
  · simp (disch := omega) only [r_ln, r_pick, r_pickT, r_pickF, r_condT, r_condF, r_gdTT, r_gdFF, r_gdTF, r_gdFT, r_gqTT, r_gqFF, r_gqTF, r_gqFT, r_not, r_lss, r_leq, r_gtr, r_geq, r_eql, r_neq, r_add, r_sub, r_min2, r_max2, r_min3, r_max3, r_fa, r_iaS, r_iaA, r_ex2a, r_ex2b, r_ex3a, r_ex3b, r_ex3c, r_nc, r_keepE, Nat.zero_add, Nat.add_zero, Nat.mul_one, Int.toNat_natCast, toNat_sub1, toNat_add1, decide_true, decide_false, Bool.not_true, Bool.not_false, if_true, if_false, Bool.false_eq_true, reduceCtorEq, r_ld cS, decide_eq_true g1]
    exact fin false w1 (by simp only [macB]; rw [decide_eq_false (show ¬ (1 ≤ S ∧ S ≤ 2) by omega)]; rfl) (Kp.refl _)
  by_cases g2 : 2 < S
  · simp (disch := omega) only [r_ln, r_pick, r_pickT, r_pickF, r_condT, r_condF, r_gdTT, r_gdFF, r_gdTF, r_gdFT, r_gqTT, r_gqFF, r_gqTF, r_gqFT, r_not, r_lss, r_leq, r_gtr, r_geq, r_eql, r_neq, r_add, r_sub, r_min2, r_max2, r_min3, r_max3, r_fa, r_iaS, r_iaA, r_ex2a, r_ex2b, r_ex3a, r_ex3b, r_ex3c, r_nc, r_keepE, Nat.zero_add, Nat.add_zero, Nat.mul_one, Int.toNat_natCast, toNat_sub1, toNat_add1, decide_true, decide_false, Bool.not_true, Bool.not_false, if_true, if_false, Bool.false_eq_true, reduceCtorEq, r_ld cS, g1, decide_eq_true g2]
    exact fin false w1 (by simp only [macB]; rw [decide_eq_false (show ¬ (1 ≤ S ∧ S ≤ 2) by omega)]; rfl) (Kp.refl _)
  by_cases g3 : (T.length : Int) = 2 * S
  case neg =>
    simp (disch := omega) only [r_ln, r_pick, r_pickT, r_pickF, r_condT, r_condF, r_gdTT, r_gdFF, r_gdTF, r_gdFT, r_gqTT, r_gqFF, r_gqTF, r_gqFT, r_not, r_lss, r_leq, r_gtr, r_geq, r_eql, r_neq, r_add, r_sub, r_min2, r_max2, r_min3, r_max3, r_fa, r_iaS, r_iaA, r_ex2a, r_ex2b, r_ex3a, r_ex3b, r_ex3c, r_nc, r_keepE, Nat.zero_add, Nat.add_zero, Nat.mul_one, Int.toNat_natCast, toNat_sub1, toNat_add1, decide_true, decide_false, Bool.not_true, Bool.not_false, if_true, if_false, Bool.false_eq_true, reduceCtorEq, r_ld cS, r_ld cT, g1, g2, r_mul, g3]
    exact fin false w1 (by simp only [macB]; rw [decide_eq_false g3]; simp) (Kp.refl _)
  have hmac : macB S T = T.all (entB S) := by simp only [macB]; rw [decide_eq_true (show 1 ≤ S ∧ S ≤ 2 by omega), decide_eq_true g3]; simp
  have bad : ∀ x ∈ T, entB S x = false → false = macB S T := fun x hx h => by
    rw [hmac]
    cases hB : T.all (entB S) with
    | false => rfl
    | true =>
      have := List.all_eq_true.1 hB x hx
      rw [h] at this; cases this
  simp (disch := omega) only [r_ln, r_pick, r_pickT, r_pickF, r_condT, r_condF, r_gdTT, r_gdFF, r_gdTF, r_gdFT, r_gqTT, r_gqFF, r_gqTF, r_gqFT, r_not, r_lss, r_leq, r_gtr, r_geq, r_eql, r_neq, r_add, r_sub, r_min2, r_max2, r_min3, r_max3, r_fa, r_iaS, r_iaA, r_ex2a, r_ex2b, r_ex3a, r_ex3b, r_ex3c, r_nc, r_keepE, Nat.zero_add, Nat.add_zero, Nat.mul_one, Int.toNat_natCast, toNat_sub1, toNat_add1, decide_true, decide_false, Bool.not_true, Bool.not_false, if_true, if_false, Bool.false_eq_true, reduceCtorEq, r_ld cS, r_ld cT, g1, g2, r_mul, decide_eq_true g3]
  refine ⟨fun t3 wr => ∃ i : Nat, i ≤ T.length ∧ t3 = .int .i64 i ∧ (∀ x ∈ T.take i, entB S x = true) ∧ Kp w1 wr, fun t3 _ => T.length - (intOf t3).toNat, ⟨0, by omega, rfl, by simp, Kp.refl _⟩, ?_⟩
  rintro _ _ wr ⟨i, hi, rfl, hok, kr⟩
  have cTr := cell_later kr cT
  by_cases hlt : i < T.length
  case neg =>
    have hlt' : ¬ (i : Int) < (T.length : Int) := by omega
    rw [List.take_of_length_le (by omega)] at hok
    simp (disch := omega) only [r_ln, r_pick, r_pickT, r_pickF, r_condT, r_condF, r_gdTT, r_gdFF, r_gdTF, r_gdFT, r_gqTT, r_gqFF, r_gqTF, r_gqFT, r_not, r_lss, r_leq, r_gtr, r_geq, r_eql, r_neq, r_add, r_sub, r_min2, r_max2, r_min3, r_max3, r_fa, r_iaS, r_iaA, r_ex2a, r_ex2b, r_ex3a, r_ex3b, r_ex3c, r_nc, r_keepE, Nat.zero_add, Nat.add_zero, Nat.mul_one, Int.toNat_natCast, toNat_sub1, toNat_add1, decide_true, decide_false, Bool.not_true, Bool.not_false, if_true, if_false, Bool.false_eq_true, reduceCtorEq, r_ld cTr, hlt']
    exact fin true wr (by rw [hmac]; exact (List.all_eq_true.2 hok).symm) kr
  have hlt' : (i : Int) < (T.length : Int) := by omega
  obtain ⟨x, hx⟩ : ∃ x, T[i]? = some x := ⟨_, List.getElem?_eq_getElem hlt⟩
  have hxm := List.mem_of_getElem? hx
  obtain ⟨b, off, _, e, _, hld⟩ := RdE.ent (hr.kp (Kp.trans k1 kr)) hx
  cases e
  simp (disch := omega) only [r_ln, r_pick, r_pickT, r_pickF, r_condT, r_condF, r_gdTT, r_gdFF, r_gdTF, r_gdFT, r_gqTT, r_gqFF, r_gqTF, r_gqFT, r_not, r_lss, r_leq, r_gtr, r_geq, r_eql, r_neq, r_add, r_sub, r_min2, r_max2, r_min3, r_max3, r_fa, r_iaS, r_iaA, r_ex2a, r_ex2b, r_ex3a, r_ex3b, r_ex3c, r_nc, r_keepE, Nat.zero_add, Nat.add_zero, Nat.mul_one, Int.toNat_natCast, toNat_sub1, toNat_add1, decide_true, decide_false, Bool.not_true, Bool.not_false, if_true, if_false, Bool.false_eq_true, reduceCtorEq, r_ld cTr, decide_eq_true hlt', hld]
  refine r_box fun b4 w4 e4 s4 h4 k4 => ?_
  refine r_stAll (n := 3) (ty := 102) (by kernel_rfl) rfl (by intro u hu; simp [Value.cells] at hu; rcases hu with rfl | rfl | rfl <;> rfl) h4 rfl fun w5 d5 t5 h5 => ?_
  have k5 : Kp wr w5 := Kp.of_chg k4 d5 fun i e => by omega
  have k15 := Kp.trans kr k5
  have c0 : w5.cell? ⟨b4, 0, none⟩ = some (.int .i64 x.1) := by rw [cell_row h5]; rfl
  have c2 : w5.cell? ⟨b4, 2, none⟩ = some (.int .i64 x.2.2) := by rw [cell_row h5]; rfl
  have cS5 := cell_later k15 cS
  by_cases q1 : x.1 < 0
  · simp (disch := omega) only [r_ln, r_pick, r_pickT, r_pickF, r_condT, r_condF, r_gdTT, r_gdFF, r_gdTF, r_gdFT, r_gqTT, r_gqFF, r_gqTF, r_gqFT, r_not, r_lss, r_leq, r_gtr, r_geq, r_eql, r_neq, r_add, r_sub, r_min2, r_max2, r_min3, r_max3, r_fa, r_iaS, r_iaA, r_ex2a, r_ex2b, r_ex3a, r_ex3b, r_ex3c, r_nc, r_keepE, Nat.zero_add, Nat.add_zero, Nat.mul_one, Int.toNat_natCast, toNat_sub1, toNat_add1, decide_true, decide_false, Bool.not_true, Bool.not_false, if_true, if_false, Bool.false_eq_true, reduceCtorEq, r_ld c0, decide_eq_true q1]
    exact fin false w5 (bad x hxm (by simp only [entB]; rw [decide_eq_false (show ¬ (0 ≤ x.1 ∧ x.1 ≤ 1) by omega)]; rfl)) k15
  by_cases q2 : 1 < x.1
  · simp (disch := omega) only [r_ln, r_pick, r_pickT, r_pickF, r_condT, r_condF, r_gdTT, r_gdFF, r_gdTF, r_gdFT, r_gqTT, r_gqFF, r_gqTF, r_gqFT, r_not, r_lss, r_leq, r_gtr, r_geq, r_eql, r_neq, r_add, r_sub, r_min2, r_max2, r_min3, r_max3, r_fa, r_iaS, r_iaA, r_ex2a, r_ex2b, r_ex3a, r_ex3b, r_ex3c, r_nc, r_keepE, Nat.zero_add, Nat.add_zero, Nat.mul_one, Int.toNat_natCast, toNat_sub1, toNat_add1, decide_true, decide_false, Bool.not_true, Bool.not_false, if_true, if_false, Bool.false_eq_true, reduceCtorEq, r_ld c0, q1, decide_eq_true q2]
    exact fin false w5 (bad x hxm (by simp only [entB]; rw [decide_eq_false (show ¬ (0 ≤ x.1 ∧ x.1 ≤ 1) by omega)]; rfl)) k15
  by_cases q3 : x.2.2 < -1
  · simp (disch := omega) only [r_ln, r_pick, r_pickT, r_pickF, r_condT, r_condF, r_gdTT, r_gdFF, r_gdTF, r_gdFT, r_gqTT, r_gqFF, r_gqTF, r_gqFT, r_not, r_lss, r_leq, r_gtr, r_geq, r_eql, r_neq, r_add, r_sub, r_min2, r_max2, r_min3, r_max3, r_fa, r_iaS, r_iaA, r_ex2a, r_ex2b, r_ex3a, r_ex3b, r_ex3c, r_nc, r_keepE, Nat.zero_add, Nat.add_zero, Nat.mul_one, Int.toNat_natCast, toNat_sub1, toNat_add1, decide_true, decide_false, Bool.not_true, Bool.not_false, if_true, if_false, Bool.false_eq_true, reduceCtorEq, r_ld c0, r_ld c2, q1, q2, decide_eq_true q3]
    exact fin false w5 (bad x hxm (by simp only [entB]; rw [decide_eq_false (show ¬ (-1 ≤ x.2.2 ∧ x.2.2 < S) by omega), Bool.and_false])) k15
  by_cases q4 : S ≤ x.2.2
  · simp (disch := omega) only [r_ln, r_pick, r_pickT, r_pickF, r_condT, r_condF, r_gdTT, r_gdFF, r_gdTF, r_gdFT, r_gqTT, r_gqFF, r_gqTF, r_gqFT, r_not, r_lss, r_leq, r_gtr, r_geq, r_eql, r_neq, r_add, r_sub, r_min2, r_max2, r_min3, r_max3, r_fa, r_iaS, r_iaA, r_ex2a, r_ex2b, r_ex3a, r_ex3b, r_ex3c, r_nc, r_keepE, Nat.zero_add, Nat.add_zero, Nat.mul_one, Int.toNat_natCast, toNat_sub1, toNat_add1, decide_true, decide_false, Bool.not_true, Bool.not_false, if_true, if_false, Bool.false_eq_true, reduceCtorEq, r_ld c0, r_ld c2, r_ld cS5, q1, q2, q3, decide_eq_true q4]
    exact fin false w5 (bad x hxm (by simp only [entB]; rw [decide_eq_false (show ¬ (-1 ≤ x.2.2 ∧ x.2.2 < S) by omega), Bool.and_false])) k15
  simp (disch := omega) only [r_ln, r_pick, r_pickT, r_pickF, r_condT, r_condF, r_gdTT, r_gdFF, r_gdTF, r_gdFT, r_gqTT, r_gqFF, r_gqTF, r_gqFT, r_not, r_lss, r_leq, r_gtr, r_geq, r_eql, r_neq, r_add, r_sub, r_min2, r_max2, r_min3, r_max3, r_fa, r_iaS, r_iaA, r_ex2a, r_ex2b, r_ex3a, r_ex3b, r_ex3c, r_nc, r_keepE, Nat.zero_add, Nat.add_zero, Nat.mul_one, Int.toNat_natCast, toNat_sub1, toNat_add1, decide_true, decide_false, Bool.not_true, Bool.not_false, if_true, if_false, Bool.false_eq_true, reduceCtorEq, r_ld c0, r_ld c2, r_ld cS5, q1, q2, q3, q4]
  refine ⟨⟨i + 1, by omega, by go_num, fun y hy => ?_, k15⟩, by simp only [intOf]; omega⟩
  rw [List.take_add_one, hx] at hy
  rcases List.mem_append.1 hy with h | h
  · exact hok y h
  · simp at h
    rw [h]
    simp only [entB]
    rw [decide_eq_true (show 0 ≤ x.1 ∧ x.1 ≤ 1 by omega), decide_eq_true (show -1 ≤ x.2.2 ∧ x.2.2 < S by omega)]
    rfl

end Go.Proofs.Ytgalbokmgffhkaa

/- Tiles of one's own. -/
namespace Go.Proofs.Ytgalbokmgffhkaa
open Go.Lf Go.RowKit Go.Wg

abbrev TlAt (base : Nat) (w : World) (v : Value) (l : List Tile) : Prop := RecAt 32 4 tlC base w v l
theorem slt22 : SlT 22 32 4 32 := SlT.mk' (z := tlV (0, 0, 0, 0)) (by kernel_rfl) (by kernel_rfl) rfl (by decide)
theorem bs22 (a b c d : Int) (w : World) (K : Value → World → Prop) : bsW Try.prog 22 1 [(0, tlV (a, b, c, d))] w K = K (.slice (some ⟨w.heap.size, 0, none⟩) 1 1) (w.alloc (.cells (Value.agg #[.int .i64 a, .int .i64 b, .int .i64 c, .int .i64 d]).cells 32)) := by kernel_rfl
theorem tlC_one (t : Tile) : ∀ u ∈ tlC t, u.oneCell' = true := by
  intro u hu
  simp [tlC] at hu
  rcases hu with rfl | rfl | rfl | rfl <;> rfl


end Go.Proofs.Ytgalbokmgffhkaa

/- Contract: Machine of the specification: the tiles of a machine. -/
namespace Go.Proofs.Ytgalbokmgffhkaa
open Go.Lf Go.RowKit Go.Wg

set_option maxRecDepth 100000 in
/-- append(out, tile) -/
theorem r_pushT {w1 w : World} {v : Value} {P : List Tile} {t : Tile} {K : Value → World → Prop} (h : TlAt w1.heap.size w v P) (hn : P.length + 1 ≤ 1000000) (h1 : Kp w1 w)
    (hk : ∀ v' w', TlAt w1.heap.size w' v' (P ++ [t]) → Kp w1 w' → K v' w') :
    bsW Try.prog 22 1 [(0, tlV t)] w fun s w => semW Try.prog (apS [22, 22] 22 [v, s]) w K :=
  r_pushRec (x := t) slt22 tlC_len rfl (bs22 _ _ _ _ _) (tlC_one t) (by omega) h hn h1.size fun v' w' ho hc _ => hk v' w' ho (Kp.of_chg h1 hc fun k e => (h.lt e).1)

/-- The tiles of a machine. -/
def mt1 : List Tile := [(0, 0, 0, 0), (1, 0, 1, 0)]
def mt2 (S : Nat) (s : Nat) (q : Nat) : List Tile := [((s : Int), 0, 2 + 2 * (q : Int) + s, 1 + (q : Int)), ((s : Int), 1 + (S : Int) + q, 2 + 2 * (q : Int) + s, 0)]
def mt3 (S : Nat) (T : List Ent) (q s : Nat) : List Tile :=
  let e := T.getD (2 * q + s) (0, false, 0)
  if e.2.2 < 0 then [] else if e.2.1 = true then [(2 + 2 * (q : Int) + s, 1 + e.2.2, e.1, 0)] else [(2 + 2 * (q : Int) + s, 0, e.1, 1 + (S : Int) + e.2.2)]
def machT (S : Nat) (T : List Ent) : List Tile :=
  mt1 ++ (List.range 2).flatMap (fun s => (List.range S).flatMap (mt2 S s)) ++ (List.range S).flatMap (fun q => (List.range 2).flatMap (mt3 S T q))

theorem fl_succ {α : Type} (f : Nat → List α) (n : Nat) : (List.range (n + 1)).flatMap f = (List.range n).flatMap f ++ f n := by
  rw [List.range_succ, List.flatMap_append]; simp

end Go.Proofs.Ytgalbokmgffhkaa
