/- Texts of my own, merged by program: O5 Opens2. -/
import Derived.Test.YtgalbokmgffhkaaM24
import Derived.Test.YtgalbokmgffhkaaM08
import Derived.Test.YtgalbokmgffhkaaM09
set_option linter.all false
/- Contract: WangComputes. -/
namespace Go.Proofs.Ytgalbokmgffhkaa
open Go.Lf Go.RowKit Go.Wg

theorem setB_ofC {l : List Tile} (h : IsSet l) : setB l = true := by
  simp only [setB, freshB, Bool.and_eq_true, decide_eq_true_eq, List.all_eq_true, List.mem_range, Bool.not_eq_true', decide_eq_false_iff_not]
  refine ⟨⟨h.pos, h.most⟩, fun i hi => ⟨h.cols _ (by unfold tl; exact getD_mem hi), fun hm => ?_⟩⟩
  obtain ⟨j, hj, e⟩ := List.mem_take_iff_getElem.1 hm
  unfold tl at e
  rw [getD_lt _ _ _ hi] at e
  exact List.pairwise_iff_getElem.1 (List.nodup_iff_pairwise_ne.1 h.nodup) j i (by omega) hi (by omega) e

theorem lineI_len (x : MSt) : (lineI x).length = x.1.length := by simp [lineI]

set_option maxRecDepth 100000 in
set_option maxHeartbeats 1000000 in
/-- The Souths of the row are the tape behind the step. -/
theorem r11_1 {sv lv nv : Value} {l : List Tile} {q : List Nat} {n : List Int} {k : Nat} {w0 w : World} {next : Value → Value → World → Prop} {R : Ending → World → Prop} (hr : RdT w0 sv l) (hl : RdRows w0 lv [intsR q]) (hn : RdInts w0 nv n) (hnl : n.length ≤ 4) (hq : q.length = n.length) (hlt : ∀ i ∈ q, i < l.length) (hll : l.length ≤ 1000)
    (hs : ∀ j, j < n.length → tS (tl l (q.getD j 0)) = n.getD j 0) (hk4 : k ≤ 10) (hk : Kp w0 w) (hnext : ∀ w', Kp w0 w' → next nv (.int .i64 ((k : Int) + 1)) w') : S11L1 (.int .i64 k) sv lv nv next R w := by
  obtain ⟨na, nc, env, _, _⟩ := hn.len
  have lnn : ∀ K : Value → Prop, ln1 nv K = K (.int .i64 n.length) := fun K => by rw [env]; rfl
  unfold S11L1
  refine ⟨fun t18 wr => ∃ j : Nat, j ≤ n.length ∧ t18 = .int .i64 j ∧ Kp w0 wr, fun t18 _ => n.length - (intOf t18).toNat, ⟨0, by omega, rfl, hk⟩, ?_⟩
  rintro _ _ wr ⟨j, hj, rfl, kr⟩
  rw [lnn]
  by_cases hjl : j < n.length
  case neg =>
    have hjl' : ¬ (j : Int) < (n.length : Int) := by omega
    simp only [r_lss, hjl', decide_false, r_condF]
    rw [r_add _ _ (by omega) (by omega)]
    exact hnext wr kr
  have hjl' : (j : Int) < (n.length : Int) := by omega
  simp only [r_lss, decide_eq_true hjl', r_condT]
  refine r_drew fun w2 k2 _ => ?_
  have k02 := Kp.trans kr k2
  have hjj : (j : Int).toNat = j := by omega
  obtain ⟨lb, lo, lc, rv, elv, lcell, hrow⟩ := (hl.below k02).row (i := 0) (by simp)
  have hrow' : RdInts w2 rv (intsR q) := hrow
  obtain ⟨rb, ro, rc, erv, rcell⟩ := hrow'.at (j := j) (by rw [intsR_len]; omega)
  have hv : (intsR q).getD j 0 = ((q.getD j 0 : Nat) : Int) := by
    rw [getD_lt _ _ _ (by rw [intsR_len]; omega), getD_lt _ _ _ (by omega)]; simp [intsR]
  rw [hv] at rcell
  have hql := hlt (q.getD j 0) (getD_mem (by omega))
  obtain ⟨b, off, cap, esv, _, hcell⟩ := (hr.kp k02).at (tl_get hql)
  have hii : ((q.getD j 0 : Nat) : Int).toNat = q.getD j 0 := by omega
  obtain ⟨nb, no, ncc, env2, ncell⟩ := (hn.below k02).at (j := j) hjl
  have h0 : (0 : Int).toNat = 0 := rfl
  have hl1 : ([intsR q] : List (List Int)).length = 1 := rfl
  rw [Nat.add_zero] at lcell
  have hc2 : w2.cell? ⟨b, off + q.getD j 0 * 4 + 2, none⟩ = some (.int .i64 (tS (tl l (q.getD j 0)))) := hcell 2 _ rfl
  rw [hs j hjl] at hc2
  rw [elv, r_iaS _ _ _ _ _ _ _ (by omega) (by rw [hl1]; omega), h0, Nat.zero_mul, Nat.add_zero, r_ld lcell, erv, r_iaS _ _ _ _ _ _ _ (by omega) (by rw [intsR_len]; omega), hjj, Nat.mul_one, r_ld rcell, esv, r_iaS _ _ _ _ _ _ _ (by omega) (by omega), hii, r_fa, r_ld hc2, env2, r_iaS _ _ _ _ _ _ _ (by omega) (by omega), hjj, Nat.mul_one, r_ld ncell]
  have hself : decide (n.getD j 0 = n.getD j 0) = true := decide_eq_true rfl
  simp only [r_neq, decide_true, Bool.not_true, r_condF]
  rw [r_add _ _ (by omega) (by omega)]
  exact ⟨⟨j + 1, by omega, by go_num, k02⟩, by simp only [intOf]; omega⟩

set_option maxRecDepth 100000 in
set_option maxHeartbeats 2000000 in
theorem computes_calls {S : Int} {tv vt : Value} {T : List Ent} {tape : List Int} (wz : World) (hr : RdE wz tv T) (ht : RdI wz vt tape) : Calls Try.prog 11 #[macV S tv, vt] wz fun e w' => e = .returned (.bool true) ∧ Kp wz w' := by
  obtain ⟨ta, tcap, rfl, _⟩ := hr.len
  have ht' := ht
  obtain ⟨aa, ca, rfl, _, _⟩ := ht'
  refine lift11 ?_
  unfold S11
  refine r_box fun b1 w1 e1 s1 h1 k1 => ?_
  have h1' : w1.heap[b1]? = some (.cells #[.int .i64 S, .slice ta T.length tcap] 51 (0, 0)) := h1
  have cT : w1.cell? ⟨b1, 1, none⟩ = some (.slice ta T.length tcap) := by rw [cell_row h1']; rfl
  have fin : ∀ (w' : World), Kp wz w' → Calls Try.prog 18 #[] w' fun e w'' => e = .returned (.bool true) ∧ Kp wz w'' := fun w' k => (law_alive w').mono fun e w'' h => ⟨h.1, Kp.trans k h.2⟩
  have ali : ∀ (w' : World), Kp wz w' → callW Try.prog (.func (.func 18) #[] #[]) [] w' fun t w => (Ending.returned t = .returned (.bool true) ∧ Kp wz w) := fun w' k' => by
    refine r_use fok18 (fin w' k') rfl ?_
    rintro _ w2 ⟨rfl, k2⟩
    exact ⟨_, rfl, by first | rfl | trivial, k2⟩
  by_cases hl : (20 : Int) < (T.length : Int)
  · simp (disch := omega) only [r_ln, r_pick, r_pickT, r_pickF, r_condT, r_condF, r_gdTT, r_gdFF, r_gdTF, r_gdFT, r_gqTT, r_gqFF, r_gqTF, r_gqFT, r_not, r_lss, r_leq, r_gtr, r_geq, r_eql, r_neq, r_add, r_sub, r_min2, r_max2, r_min3, r_max3, r_fa, r_iaS, r_iaA, r_ex2a, r_ex2b, r_ex3a, r_ex3b, r_ex3c, r_nc, r_keepE, Nat.zero_add, Nat.add_zero, Nat.mul_one, Int.toNat_natCast, toNat_sub1, toNat_add1, decide_true, decide_false, Bool.not_true, Bool.not_false, if_true, if_false, Bool.false_eq_true, reduceCtorEq, r_ld cT, decide_eq_true hl, r_gdU]
    exact ali w1 k1
  by_cases hl2 : (20 : Int) < (tape.length : Int)
  · simp (disch := omega) only [r_ln, r_pick, r_pickT, r_pickF, r_condT, r_condF, r_gdTT, r_gdFF, r_gdTF, r_gdFT, r_gqTT, r_gqFF, r_gqTF, r_gqFT, r_not, r_lss, r_leq, r_gtr, r_geq, r_eql, r_neq, r_add, r_sub, r_min2, r_max2, r_min3, r_max3, r_fa, r_iaS, r_iaA, r_ex2a, r_ex2b, r_ex3a, r_ex3b, r_ex3c, r_nc, r_keepE, Nat.zero_add, Nat.add_zero, Nat.mul_one, Int.toNat_natCast, toNat_sub1, toNat_add1, decide_true, decide_false, Bool.not_true, Bool.not_false, if_true, if_false, Bool.false_eq_true, reduceCtorEq, r_ld cT, hl, decide_eq_true hl2, r_gdU]
    exact ali w1 k1
  simp (disch := omega) only [r_ln, r_pick, r_pickT, r_pickF, r_condT, r_condF, r_gdTT, r_gdFF, r_gdTF, r_gdFT, r_gqTT, r_gqFF, r_gqTF, r_gqFT, r_not, r_lss, r_leq, r_gtr, r_geq, r_eql, r_neq, r_add, r_sub, r_min2, r_max2, r_min3, r_max3, r_fa, r_iaS, r_iaA, r_ex2a, r_ex2b, r_ex3a, r_ex3b, r_ex3c, r_nc, r_keepE, Nat.zero_add, Nat.add_zero, Nat.mul_one, Int.toNat_natCast, toNat_sub1, toNat_add1, decide_true, decide_false, Bool.not_true, Bool.not_false, if_true, if_false, Bool.false_eq_true, reduceCtorEq, r_ld cT, hl, hl2, r_gdU]
  have hti : RdInts wz (.slice aa tape.length ca) tape := ht.small (by omega)
  have ldm : ∀ w' : World, Kp w1 w' → ∀ K : Value → Prop, ldN 2 w' (.pointer (some ⟨b1, 0, none⟩)) K = K (macV S (.slice ta T.length tcap)) := fun w' k K => r_ldRow (n := 2) (block_below h1' k) rfl
  rw [ldm w1 (Kp.refl _)]
  refine r_use fok39 (machine39_calls w1 (hr.kp k1) (by omega)) rfl ?_
  rintro _ w2 ⟨k2, p2⟩
  obtain ⟨sv, rfl, hset⟩ := p2.form
  refine ⟨_, rfl, ?_⟩
  have k02 := Kp.trans k1 k2
  simp (disch := omega) only [r_ln, r_pick, r_pickT, r_pickF, r_condT, r_condF, r_gdTT, r_gdFF, r_gdTF, r_gdFT, r_gqTT, r_gqFF, r_gqTF, r_gqFT, r_not, r_lss, r_leq, r_gtr, r_geq, r_eql, r_neq, r_add, r_sub, r_min2, r_max2, r_min3, r_max3, r_fa, r_iaS, r_iaA, r_ex2a, r_ex2b, r_ex3a, r_ex3b, r_ex3c, r_nc, r_keepE, Nat.zero_add, Nat.add_zero, Nat.mul_one, Int.toNat_natCast, toNat_sub1, toNat_add1, decide_true, decide_false, Bool.not_true, Bool.not_false, if_true, if_false, Bool.false_eq_true, reduceCtorEq]
  rw [ldm w2 k2]
  refine r_use fok41 (run_calls (n := 0) w2 (hr.kp k02) (by omega) (hti.below k02)) rfl ?_
  rintro _ w3 ⟨k3, p3⟩
  obtain ⟨v3, a3, q3, rfl, _, _, _⟩ := p3.form
  refine ⟨_, rfl, ?_⟩
  have k03 := Kp.trans k02 k3
  have k13 := Kp.trans k2 k3
  have h20 : decide ((2 : Int) = 0) = false := by decide
  have h22 : decide ((2 : Int) = 2) = true := rfl
  have h02 : decide ((0 : Int) = 2) = false := by decide
  have h00 : decide ((0 : Int) = 0) = true := rfl
  simp (disch := omega) only [r_ex4a, r_ex4b, r_ex4c, r_ex4d]
  have go : callW Try.prog (.func (.func 18) #[] #[]) [] w3 fun t w => (Ending.returned t = .returned (.bool true) ∧ Kp wz w) := ali w3 k03
  cases hm : macB S T with
  | false =>
    have hro : runOk S T tape 0 = false := by unfold runOk; rw [hm]; rfl
    rw [hro]
    simp (disch := omega) only [r_ln, r_pick, r_pickT, r_pickF, r_condT, r_condF, r_gdTT, r_gdFF, r_gdTF, r_gdFT, r_gqTT, r_gqFF, r_gqTF, r_gqFT, r_not, r_lss, r_leq, r_gtr, r_geq, r_eql, r_neq, r_add, r_sub, r_min2, r_max2, r_min3, r_max3, r_fa, r_iaS, r_iaA, r_ex2a, r_ex2b, r_ex3a, r_ex3b, r_ex3c, r_nc, r_keepE, Nat.zero_add, Nat.add_zero, Nat.mul_one, Int.toNat_natCast, toNat_sub1, toNat_add1, decide_true, decide_false, Bool.not_true, Bool.not_false, if_true, if_false, Bool.false_eq_true, reduceCtorEq, h20, h22, h02, h00, r_gdU, Bool.false_eq_true, ite_false]
    exact go
  | true =>
  cases hro : runOk S T tape 0 with
  | false =>
    simp (disch := omega) only [r_ln, r_pick, r_pickT, r_pickF, r_condT, r_condF, r_gdTT, r_gdFF, r_gdTF, r_gdFT, r_gqTT, r_gqFF, r_gqTF, r_gqFT, r_not, r_lss, r_leq, r_gtr, r_geq, r_eql, r_neq, r_add, r_sub, r_min2, r_max2, r_min3, r_max3, r_fa, r_iaS, r_iaA, r_ex2a, r_ex2b, r_ex3a, r_ex3b, r_ex3c, r_nc, r_keepE, Nat.zero_add, Nat.add_zero, Nat.mul_one, Int.toNat_natCast, toNat_sub1, toNat_add1, decide_true, decide_false, Bool.not_true, Bool.not_false, if_true, if_false, Bool.false_eq_true, reduceCtorEq, h20, h22, h02, h00, r_gdU, Bool.false_eq_true, ite_false]
    exact go
  | true =>
  simp (disch := omega) only [r_ln, r_pick, r_pickT, r_pickF, r_condT, r_condF, r_gdTT, r_gdFF, r_gdTF, r_gdFT, r_gqTT, r_gqFF, r_gqTF, r_gqFT, r_not, r_lss, r_leq, r_gtr, r_geq, r_eql, r_neq, r_add, r_sub, r_min2, r_max2, r_min3, r_max3, r_fa, r_iaS, r_iaA, r_ex2a, r_ex2b, r_ex3a, r_ex3b, r_ex3c, r_nc, r_keepE, Nat.zero_add, Nat.add_zero, Nat.mul_one, Int.toNat_natCast, toNat_sub1, toNat_add1, decide_true, decide_false, Bool.not_true, Bool.not_false, if_true, if_false, Bool.false_eq_true, reduceCtorEq, h20, h22, h02, h00, r_gdU]
  rw [hm, if_pos rfl] at hset
  obtain ⟨s, rfl, hT⟩ := tOk_of hm
  have hM := mach_set hT
  have hsetB := setB_ofC hM
  simp only [Int.toNat_natCast] at hset
  refine r_use fok35 (refset_calls w3 (hset.kp k3)) rfl ?_
  rintro _ w4 ⟨rfl, k4⟩
  refine ⟨_, rfl, ?_⟩
  have k04 := Kp.trans k03 k4
  have k14 := Kp.trans k13 k4
  rw [hsetB]
  simp only [r_not, Bool.not_true, r_condF]
  obtain ⟨_, ro2, ro3, _⟩ := runOk_iff.1 hro
  have hside : 1 ≤ tape.length ∧ tape.length ≤ 4 := by
    unfold sideB at ro2
    have := of_decide_eq_true ro2
    omega
  have hbits := bits_iff.1 ro3
  have hok0 : ∀ k : Nat, MOk s tape.length (runM T (tape, 0, 0) k) k := fun k => MOk.run hT (mOk_start hT.s1 hbits) k
  have hg0 : goes (tape, (0 : Int), (0 : Int)) := ⟨by show (0 : Int) ≤ 0; omega, by show (0 : Int) ≤ 0; omega, by show (0 : Int) < tape.length; omega⟩
  have hb0 := hbits (tape.getD 0 0) (getD_mem (by omega))
  refine r_use fok44 (line_calls (x := (tape, (0 : Int), (0 : Int))) w4 (hti.below k04) hg0 (by dsimp only; omega) hb0 (by dsimp only; omega)) rfl ?_
  rintro _ w5 ⟨nv0, rfl, k5, hnv0⟩
  refine ⟨_, rfl, ?_⟩
  have k05 := Kp.trans k04 k5
  have k15 := Kp.trans k14 k5
  have hset5 : RdT w5 sv (machT s T) := ((hset.kp k3).kp k4).kp k5
  unfold S11L0
  refine ⟨fun t11 t12 wr => ∃ k : Nat, k ≤ 4 ∧ t12 = .int .i64 (k + 1 : Nat) ∧ goes (runM T (tape, 0, 0) k) ∧ RdInts wr t11 (lineI (runM T (tape, 0, 0) k)) ∧ Kp w5 wr, fun _ t12 _ => 5 - (intOf t12).toNat, ⟨0, by omega, rfl, hg0, hnv0, Kp.refl _⟩, ?_⟩
  rintro _ nv _ wr ⟨k, hk4, rfl, hg, hnv, kr⟩
  have k0r := Kp.trans k05 kr
  by_cases hlt : k < 4
  case neg =>
    have hlt' : ¬ ((k + 1 : Nat) : Int) ≤ 4 := by omega
    simp only [r_leq, hlt', decide_false, r_condF]
    exact ali wr k0r
  have hlt' : ((k + 1 : Nat) : Int) ≤ 4 := by omega
  simp only [r_leq, decide_eq_true hlt', r_condT]
  have k1r := Kp.trans k15 kr
  rw [ldm wr k1r]
  have hx := hok0 k
  have hrunk : runOk (s : Int) T tape ((k + 1 : Nat) : Int) = true := runOk_iff.2 ⟨hm, ro2, ro3, by omega, by omega⟩
  refine r_use fok41 (run_calls (n := ((k + 1 : Nat) : Int)) wr (hr.kp k0r) (by omega) (hti.below k0r)) rfl ?_
  rintro _ w6 ⟨k6, p6⟩
  obtain ⟨v6, a6, q6, rfl, ea, eq, hv6⟩ := p6.form
  refine ⟨_, rfl, ?_⟩
  rw [hrunk, if_pos rfl] at ea eq hv6
  rw [hrunk, if_pos rfl]
  simp only [Int.toNat_natCast] at ea eq hv6
  have hstep : runM T (tape, 0, 0) (k + 1) = stp T (runM T (tape, 0, 0) k) := rfl
  have hx' := hok0 (k + 1)
  rw [hstep] at ea eq hv6 hx'
  generalize runM T (tape, 0, 0) k = x at *
  have k06 := Kp.trans k0r k6
  have hl6 := hx'.len
  have hxl := hx.len
  obtain ⟨va6, vc6, ev6, _⟩ := hv6.len
  have ln6 : ∀ K : Value → Prop, ln1 v6 K = K (.int .i64 tape.length) := fun K => by rw [ev6, hl6]; rfl
  have hself : decide ((tape.length : Int) = (tape.length : Int)) = true := decide_eq_true rfl
  simp (disch := omega) only [r_ex4a, r_ex4b, r_ex4c, r_ex4d, r_neq, h00, Bool.not_true, r_gdFF, ln6, r_ln, hself, r_pickF, r_condF]
  try simp (disch := omega) only [r_ln, r_pick, r_pickT, r_pickF, r_condT, r_condF, r_gdTT, r_gdFF, r_gdTF, r_gdFT, r_gqTT, r_gqFF, r_gqTF, r_gqFT, r_not, r_lss, r_leq, r_gtr, r_geq, r_eql, r_neq, r_add, r_sub, r_min2, r_max2, r_min3, r_max3, r_fa, r_iaS, r_iaA, r_ex2a, r_ex2b, r_ex3a, r_ex3b, r_ex3c, r_nc, r_keepE, Nat.zero_add, Nat.add_zero, Nat.mul_one, Int.toNat_natCast, toNat_sub1, toNat_add1, decide_true, decide_false, Bool.not_true, Bool.not_false, if_true, if_false, Bool.false_eq_true, reduceCtorEq, h00, ln6, hself]
  have hmostM := hM.most
  have hlineL := lineI_len x
  refine r_use fok45 (rowsOf_calls (l := machT s T) (n := lineI x) hmostM (by omega) (lineI x).length w6 nilS [] (by simp) (((hset5.kp kr).kp k6)) (hnv.below k6) ⟨none, 0, rfl, ⟨by simp [intsR], by simp [intsR]⟩, fun h => by simp [intsR] at h⟩ (fun _ => rfl) (by simp)) rfl ?_
  rintro _ w7 ⟨lv, rfl, k7, hlv⟩
  refine ⟨_, rfl, ?_⟩
  have k07 := Kp.trans k06 k7
  have k67 := Kp.trans k6 k7
  have hn0 : 0 < (lineI x).length := by omega
  by_cases hgo : goes (stp T x)
  case neg =>
    have hnone := rOf_none hn0 (row_none hT hx hg hgo)
    rw [hnone] at hlv
    have lnl : ∀ K : Value → Prop, ln1 lv K = K (.int .i64 0) := fun K => by
      obtain ⟨vs, h1, h2, _⟩ := hlv
      obtain ⟨a, c, e, _⟩ := h1.len
      rw [e]
      simp at h2
      rw [h2]; rfl
    have stop : ∀ t106 : Value, t106 = .bool true → condW t106 (
          ln1 lv fun t108 =>
          binQ Try.prog w7 .eql 3 true t108 (.int .i64 0) fun t109 =>
          gd t109 true (fun k => callW Try.prog (.func (.func 18) #[] #[]) [] w7 k) w7 fun t111 w =>
          pickQ t109 t111 (.bool false) fun t112 =>
          (Ending.returned t112 = .returned (.bool true) ∧ Kp wz w)) False := fun t e => by
      subst e
      simp only [r_condT]
      rw [lnl]
      simp (disch := omega) only [r_ln, r_pick, r_pickT, r_pickF, r_condT, r_condF, r_gdTT, r_gdFF, r_gdTF, r_gdFT, r_gqTT, r_gqFF, r_gqTF, r_gqFT, r_not, r_lss, r_leq, r_gtr, r_geq, r_eql, r_neq, r_add, r_sub, r_min2, r_max2, r_min3, r_max3, r_fa, r_iaS, r_iaA, r_ex2a, r_ex2b, r_ex3a, r_ex3b, r_ex3c, r_nc, r_keepE, Nat.zero_add, Nat.add_zero, Nat.mul_one, Int.toNat_natCast, toNat_sub1, toNat_add1, decide_true, decide_false, Bool.not_true, Bool.not_false, if_true, if_false, Bool.false_eq_true, reduceCtorEq, h00]
      refine r_use fok18 (fin w7 k07) rfl ?_
      rintro _ w8 ⟨rfl, k8⟩
      refine ⟨_, rfl, ?_⟩
      simp (disch := omega) only [r_ln, r_pick, r_pickT, r_pickF, r_condT, r_condF, r_gdTT, r_gdFF, r_gdTF, r_gdFT, r_gqTT, r_gqFF, r_gqTF, r_gqFT, r_not, r_lss, r_leq, r_gtr, r_geq, r_eql, r_neq, r_add, r_sub, r_min2, r_max2, r_min3, r_max3, r_fa, r_iaS, r_iaA, r_ex2a, r_ex2b, r_ex3a, r_ex3b, r_ex3c, r_nc, r_keepE, Nat.zero_add, Nat.add_zero, Nat.mul_one, Int.toNat_natCast, toNat_sub1, toNat_add1, decide_true, decide_false, Bool.not_true, Bool.not_false, if_true, if_false, Bool.false_eq_true, reduceCtorEq]
      exact ⟨by first | rfl | trivial, k8⟩
    have stop' := stop _ rfl
    simp only [r_condT] at stop'
    by_cases c1 : q6 < 0
    · simp (disch := omega) only [r_ln, r_pick, r_pickT, r_pickF, r_condT, r_condF, r_gdTT, r_gdFF, r_gdTF, r_gdFT, r_gqTT, r_gqFF, r_gqTF, r_gqFT, r_not, r_lss, r_leq, r_gtr, r_geq, r_eql, r_neq, r_add, r_sub, r_min2, r_max2, r_min3, r_max3, r_fa, r_iaS, r_iaA, r_ex2a, r_ex2b, r_ex3a, r_ex3b, r_ex3c, r_nc, r_keepE, Nat.zero_add, Nat.add_zero, Nat.mul_one, Int.toNat_natCast, toNat_sub1, toNat_add1, decide_true, decide_false, Bool.not_true, Bool.not_false, if_true, if_false, Bool.false_eq_true, reduceCtorEq, decide_eq_true c1, r_gdU]
      first
        | exact stop'
        | (simp (disch := omega) only [r_ln, r_pick, r_pickT, r_pickF, r_condT, r_condF, r_gdTT, r_gdFF, r_gdTF, r_gdFT, r_gqTT, r_gqFF, r_gqTF, r_gqFT, r_not, r_lss, r_leq, r_gtr, r_geq, r_eql, r_neq, r_add, r_sub, r_min2, r_max2, r_min3, r_max3, r_fa, r_iaS, r_iaA, r_ex2a, r_ex2b, r_ex3a, r_ex3b, r_ex3c, r_nc, r_keepE, Nat.zero_add, Nat.add_zero, Nat.mul_one, Int.toNat_natCast, toNat_sub1, toNat_add1, decide_true, decide_false, Bool.not_true, Bool.not_false, if_true, if_false, Bool.false_eq_true, reduceCtorEq, h00] at stop' ⊢; exact stop')
    by_cases c2 : a6 < 0
    · simp (disch := omega) only [r_ln, r_pick, r_pickT, r_pickF, r_condT, r_condF, r_gdTT, r_gdFF, r_gdTF, r_gdFT, r_gqTT, r_gqFF, r_gqTF, r_gqFT, r_not, r_lss, r_leq, r_gtr, r_geq, r_eql, r_neq, r_add, r_sub, r_min2, r_max2, r_min3, r_max3, r_fa, r_iaS, r_iaA, r_ex2a, r_ex2b, r_ex3a, r_ex3b, r_ex3c, r_nc, r_keepE, Nat.zero_add, Nat.add_zero, Nat.mul_one, Int.toNat_natCast, toNat_sub1, toNat_add1, decide_true, decide_false, Bool.not_true, Bool.not_false, if_true, if_false, Bool.false_eq_true, reduceCtorEq, c1, decide_eq_true c2, r_gdU]
      first
        | exact stop'
        | (simp (disch := omega) only [r_ln, r_pick, r_pickT, r_pickF, r_condT, r_condF, r_gdTT, r_gdFF, r_gdTF, r_gdFT, r_gqTT, r_gqFF, r_gqTF, r_gqFT, r_not, r_lss, r_leq, r_gtr, r_geq, r_eql, r_neq, r_add, r_sub, r_min2, r_max2, r_min3, r_max3, r_fa, r_iaS, r_iaA, r_ex2a, r_ex2b, r_ex3a, r_ex3b, r_ex3c, r_nc, r_keepE, Nat.zero_add, Nat.add_zero, Nat.mul_one, Int.toNat_natCast, toNat_sub1, toNat_add1, decide_true, decide_false, Bool.not_true, Bool.not_false, if_true, if_false, Bool.false_eq_true, reduceCtorEq, h00] at stop' ⊢; exact stop')
    have c3 : (tape.length : Int) ≤ a6 := by
      refine Classical.byContradiction fun hc => hgo ⟨by omega, by omega, by omega⟩
    simp (disch := omega) only [r_ln, r_pick, r_pickT, r_pickF, r_condT, r_condF, r_gdTT, r_gdFF, r_gdTF, r_gdFT, r_gqTT, r_gqFF, r_gqTF, r_gqFT, r_not, r_lss, r_leq, r_gtr, r_geq, r_eql, r_neq, r_add, r_sub, r_min2, r_max2, r_min3, r_max3, r_fa, r_iaS, r_iaA, r_ex2a, r_ex2b, r_ex3a, r_ex3b, r_ex3c, r_nc, r_keepE, Nat.zero_add, Nat.add_zero, Nat.mul_one, Int.toNat_natCast, toNat_sub1, toNat_add1, decide_true, decide_false, Bool.not_true, Bool.not_false, if_true, if_false, Bool.false_eq_true, reduceCtorEq, c1, c2, decide_eq_true c3, r_gdU]
    first
      | exact stop'
      | (simp (disch := omega) only [r_ln, r_pick, r_pickT, r_pickF, r_condT, r_condF, r_gdTT, r_gdFF, r_gdTF, r_gdFT, r_gqTT, r_gqFF, r_gqTF, r_gqFT, r_not, r_lss, r_leq, r_gtr, r_geq, r_eql, r_neq, r_add, r_sub, r_min2, r_max2, r_min3, r_max3, r_fa, r_iaS, r_iaA, r_ex2a, r_ex2b, r_ex3a, r_ex3b, r_ex3c, r_nc, r_keepE, Nat.zero_add, Nat.add_zero, Nat.mul_one, Int.toNat_natCast, toNat_sub1, toNat_add1, decide_true, decide_false, Bool.not_true, Bool.not_false, if_true, if_false, Bool.false_eq_true, reduceCtorEq, h00] at stop' ⊢; exact stop')
  obtain ⟨hR, hU, hS⟩ := row_one hT hx hg hgo
  obtain ⟨q, hq1, hq2, hq3, hq4⟩ := rOf_one hM.nodup hn0 hR hU
  rw [hq1] at hlv
  have lnl : ∀ K : Value → Prop, ln1 lv K = K (.int .i64 1) := fun K => by
    obtain ⟨vs, h1, h2, _⟩ := hlv
    obtain ⟨a, c, e, _⟩ := h1.len
    rw [e]
    simp at h2
    rw [h2]; rfl
  have c1 : ¬ q6 < 0 := by have := hgo.1; omega
  have c2 : ¬ a6 < 0 := by have := hgo.2.1; omega
  have c3 : ¬ (tape.length : Int) ≤ a6 := by have := hgo.2.2; omega
  have c4 : ¬ (1 : Int) < q6 := by have := hx'.q.2; have := hT.s2; omega
  have h11 : decide ((1 : Int) = 1) = true := rfl
  simp (disch := omega) only [r_ln, r_pick, r_pickT, r_pickF, r_condT, r_condF, r_gdTT, r_gdFF, r_gdTF, r_gdFT, r_gqTT, r_gqFF, r_gqTF, r_gqFT, r_not, r_lss, r_leq, r_gtr, r_geq, r_eql, r_neq, r_add, r_sub, r_min2, r_max2, r_min3, r_max3, r_fa, r_iaS, r_iaA, r_ex2a, r_ex2b, r_ex3a, r_ex3b, r_ex3c, r_nc, r_keepE, Nat.zero_add, Nat.add_zero, Nat.mul_one, Int.toNat_natCast, toNat_sub1, toNat_add1, decide_true, decide_false, Bool.not_true, Bool.not_false, if_true, if_false, Bool.false_eq_true, reduceCtorEq, c1, c2, c3, lnl, h11, c4, r_gdU]
  have hbit6 := hx'.bits ((stp T x).1.getD (stp T x).2.1.toNat 0) (getD_mem (by have := hgo.2; omega))
  have hv6i : RdInts w7 v6 (stp T x).1 := (hv6.ints (by omega)).below k7
  rw [ea, eq]
  refine r_use fok44 (line_calls (x := stp T x) w7 hv6i hgo (by omega) hbit6 (by have := hx'.q.2; have := hT.s2; omega)) rfl ?_
  rintro _ w8 ⟨nv8, rfl, k8, hnv8⟩
  refine ⟨_, rfl, ?_⟩
  have hlineL' := lineI_len (stp T x)
  have hrd : RdRows w7 lv [intsR q] := by
    refine hlv.rd (by simp) fun r hr => ?_
    simp at hr
    rw [hr, intsR_len]; omega
  refine r11_1 (w0 := w8) (n := lineI (stp T x)) (q := q) ((((hset5.kp kr).kp k6).kp k7).kp k8) (hrd.below k8) hnv8 (by omega) (by omega) hq3 (by omega) (fun j hj => ?_) (by omega) (Kp.refl _) fun w' k' => ?_
  · rw [← hS, ← hq4]
    have hjq : j < q.length := by omega
    rw [List.getD_eq_getElem?_getD, List.getD_eq_getElem?_getD, List.getElem?_map, List.getElem?_map, List.getElem?_eq_getElem hjq]
    rfl
  · exact ⟨⟨k + 1, by omega, by go_num, by rw [hstep]; exact hgo, by rw [hstep]; exact hnv8.below k', Kp.trans kr (Kp.trans k67 (Kp.trans k8 k'))⟩, by simp only [intOf]; omega⟩

end Go.Proofs.Ytgalbokmgffhkaa

/- What arguments read as: machines, lists of integers. -/
namespace Go.Proofs.Ytgalbokmgffhkaa
open Go.ChangeShapes Go.WideShapes Go.ChangeAt Go.RowKit Go.Lf Go.Deep Go.Wg

section
variable {H : Type} {enc : TypeId × Value → H}

theorem und49 : Try.prog.underlying 49 = some (.slice 102) := by kernel_rfl
theorem cellsOf102 : Try.prog.cellsOf 102 = 3 := by kernel_rfl
theorem cellsOf4 : Try.prog.cellsOf 4 = 1 := by kernel_rfl
theorem cellsOf49 : Try.prog.cellsOf 49 = 1 := by kernel_rfl
theorem cellsOf51 : Try.prog.cellsOf 51 = 2 := by kernel_rfl

set_option maxRecDepth 100000 in
theorem open_intsI {W : World} {base : Nat} {v : Value} {d : DataW H} {p : List MemPlace} (hv : Value.okWide Try.prog W .any base 30 v) (h : DataW.Trod enc Try.prog W 0 (fun _ => true) true 30 v d p) : ∃ l, RdI W v l := by
  obtain ⟨a0, n0, c0, rfl⟩ := okWide_slice und30 hv
  obtain ⟨fuel, hf⟩ := h
  rcases open_ints und30 und3 cellsOf3 hf with ⟨hcs, _⟩ | ⟨a, len, cap, zs, hcs, _, hl, _, hz, _, hc, _⟩
  · simp [Value.cells] at hcs
    obtain ⟨rfl, rfl, rfl⟩ := hcs
    exact ⟨[], none, 0, rfl, Nat.le_refl _, fun h => absurd h (by simp)⟩
  · simp [Value.cells] at hcs
    obtain ⟨rfl, rfl, rfl⟩ := hcs
    simp only [if_true] at hz
    have el : (zs.take n0).length = n0 := by rw [List.length_take]; omega
    refine ⟨zs.take n0, some a, c0, by rw [el], by rw [el]; exact hl, fun h0 => ?_⟩
    rw [el] at h0 ⊢
    obtain ⟨b, off, spot⟩ := a
    have hspot : spot = none := by simpa [Addr.add] using World.cell?_spot (hc 0 (by omega))
    subst hspot
    refine ⟨b, off, rfl, fun j hj => ?_⟩
    have := hc j (by omega)
    rw [r_addr] at this
    rw [this]
    simp [List.getD_eq_getElem?_getD, List.getElem?_take, hj]

set_option maxRecDepth 100000 in
theorem open_table {W : World} {fuel : Nat} {v : Value} {x : DataW H × List MemPlace} (hf : DataW.trod enc Try.prog W 0 (fun _ => true) true fuel 49 [v] = some x) : ∃ T, RdE W v T := by
  rcases open_slice und49 hf with ⟨hcs, _⟩ | ⟨a, n0, c0, m, n, D, Pl, hcs, _, hl, _, hm, _, hx⟩
  · simp at hcs
    subst hcs
    exact ⟨[], Rd.nil⟩
  · simp at hcs
    subst hcs
    simp only [if_true] at hm
    have hm' := hm.symm
    subst hm'
    rw [cellsOf102] at hx
    have each : ∀ i, i < n0 → ∃ t : Ent, ∀ j u, (enC t)[j]? = some u → W.cell? (a.add (i * 3 + j)) = some u := fun i hi => by
      obtain ⟨cs', h1, h2⟩ := hx i (by omega)
      obtain ⟨_, hlen, hcell⟩ := World.cells?_some h1
      obtain ⟨y0, y1, y2, n', _, _, t0, t1, t2⟩ := trod_struct3 Try.underlying102 h2
      obtain ⟨A, hA, _⟩ := DataW.trod_int und3 t0
      obtain ⟨B, hB, _⟩ := DataW.trod_bool und4 t1
      obtain ⟨C, hC, _⟩ := DataW.trod_int und3 t2
      simp only [cellsOf3, cellsOf4] at hA hB hC
      match cs', hlen with
      | [x, y, z], _ =>
        simp at hA hB hC
        subst hA; subst hB; subst hC
        refine ⟨(A, B, C), fun j u hj => ?_⟩
        have hj3 : j < 3 := by
          have := (List.getElem?_eq_some_iff.1 hj).1
          simpa [enC] using this
        have hc := hcell j hj3
        rw [add_add] at hc
        rw [hc]
        match j, hj3 with
        | 0, _ => exact hj
        | 1, _ => exact hj
        | 2, _ => exact hj
    obtain ⟨T, hT⟩ := choose_lt each
    refine ⟨(List.range n0).map T, some a, c0, by simp, by simpa using hl, fun h0 => ?_⟩
    simp only [List.length_map, List.length_range] at h0
    obtain ⟨b, off, spot⟩ := a
    have hspot : spot = none := by simpa [Addr.add] using World.cell?_spot (hT 0 h0 0 _ rfl)
    subst hspot
    refine ⟨b, off, rfl, fun i x hi j u hu => ?_⟩
    rw [List.getElem?_map] at hi
    cases hr : (List.range n0)[i]? with
    | none => rw [hr] at hi; cases hi
    | some k =>
      rw [hr] at hi
      cases hi
      have hk : i < n0 ∧ k = i := by
        have h1 := (List.getElem?_eq_some_iff.1 hr).1
        have h2 := (List.getElem?_eq_some_iff.1 hr).2
        simp at h1 h2
        exact ⟨h1, h2.symm⟩
      obtain ⟨hk1, rfl⟩ := hk
      have := hT k hk1 j u hu
      rw [r_addr] at this
      rw [← Nat.add_assoc] at this
      exact this

set_option maxRecDepth 100000 in
theorem open_mac {W : World} {base : Nat} {v : Value} {d : DataW H} {p : List MemPlace} (hv : Value.okWide Try.prog W .any base 51 v) (h : DataW.Trod enc Try.prog W 0 (fun _ => true) true 51 v d p) : ∃ S tv T, v = macV S tv ∧ RdE W tv T := by
  obtain ⟨cs, rfl, hsz⟩ := okWide_struct Try.underlying51 hv
  obtain ⟨fuel, hf⟩ := h
  obtain ⟨y0, y1, n', _, _, t0, t1⟩ := trod_struct2 Try.underlying51 hf
  obtain ⟨S, hS, _⟩ := DataW.trod_int und3 t0
  rw [cellsOf51] at hsz
  obtain ⟨l⟩ := cs
  match l, hsz with
  | [x, y], _ =>
    simp only [cellsOf3] at hS
    simp [Value.cells] at hS
    subst hS
    rw [cellsOf49] at t1
    obtain ⟨T, hT⟩ := open_table t1
    exact ⟨S, y, T, rfl, hT⟩

end
end Go.Proofs.Ytgalbokmgffhkaa
