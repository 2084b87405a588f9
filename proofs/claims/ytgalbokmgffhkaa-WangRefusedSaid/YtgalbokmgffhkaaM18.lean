/- Texts of my own, merged by program: K2 Sg E3. -/
import Derived.Test.YtgalbokmgffhkaaM17
import Derived.Test.YtgalbokmgffhkaaM03
import Derived.Test.YtgalbokmgffhkaaM09
import Derived.Test.YtgalbokmgffhkaaM11
import Derived.Test.YtgalbokmgffhkaaM13
import Derived.Test.YtgalbokmgffhkaaM15
set_option linter.all false
/- Contracts: Turned of the specification, light of the statements. -/
namespace Go.Proofs.Ytgalbokmgffhkaa
open Go.Lf Go.RowKit Go.Wg

def turnT (t : Tile) : Tile := (tW t, tN t, tE t, tS t)
theorem turnT_inj {s t : Tile} (h : turnT s = turnT t) : s = t := by
  simp only [turnT, Prod.mk.injEq] at h
  exact Prod.ext h.2.1 (Prod.ext h.2.2.1 (Prod.ext h.2.2.2 h.1))
theorem turnT_cols {t : Tile} (h : colsB t = true) : colsB (turnT t) = true := by
  simp only [colsB, turnT, Bool.and_eq_true] at h ⊢
  exact ⟨⟨⟨h.2, h.1.1.1⟩, h.1.1.2⟩, h.1.2⟩
theorem turned_set {l : List Tile} (h : IsSet l) : IsSet (l.map turnT) := by
  refine ⟨by simpa using h.pos, by simpa using h.most, fun t ht => ?_, ?_⟩
  · obtain ⟨s, hs, rfl⟩ := List.mem_map.1 ht
    exact turnT_cols (h.cols s hs)
  · unfold List.Nodup
    rw [List.pairwise_map]
    exact List.Pairwise.imp (fun hne e => hne (turnT_inj e)) h.nodup

theorem bs22k (u : Tile) (w : World) (K : Value → World → Prop) : bsW Try.prog 22 1 [(0, tlV u)] w K = K (.slice (some ⟨w.heap.size, 0, none⟩) 1 1) (w.alloc (.cells (tlV u).cells 32)) := bs22 _ _ _ _ w K
theorem bdK (x y z u : Int) (K : Value → Prop) : bdQ Try.prog 32 [(0, .int .i64 x), (1, .int .i64 y), (2, .int .i64 z), (3, .int .i64 u)] K = K (tlV (x, y, z, u)) := by kernel_rfl
set_option maxRecDepth 100000 in
/-- append(out, tile), the tile's slice kept. -/
theorem r_pushKT {base : Nat} {w : World} {v : Value} {P : List Tile} {t : Tile} {K : Value → World → Prop} (h : TlAt base w v P) (hn : P.length + 1 ≤ 1000000) (hb : base ≤ w.heap.size)
    (hk : ∀ v' w', TlAt base w' v' (P ++ [t]) → Chg (fun k => v.ownBlock = some k) w w' → K v' w') :
    bsW Try.prog 22 1 [(0, tlV t)] w <| keepB w fun s w => semW Try.prog (apS [22, 22] 22 [v, s]) w K := by
  have := r_pushRec (x := t) (K := K) (ty := 22) slt22 tlC_len rfl (bs22 _ _ _ _ _) (tlC_one t) (by omega) h hn hb fun v' w' ho hc _ => hk v' w' ho hc
  rw [bs22k] at this ⊢
  exact ⟨below_alloc _, this⟩

set_option maxRecDepth 100000 in
theorem turned_calls {v : Value} {l : List Tile} (w : World) (hr : RdT w v l) (hl : l.length ≤ 100000) : Calls Try.prog 46 #[v] w fun e w' => ∃ v', e = .returned v' ∧ TlAt w.heap.size w' v' (l.map turnT) ∧ Kp w w' := by
  obtain ⟨va, vc, ev, _⟩ := hr.len
  have lnv : ∀ K : Value → Prop, ln1 v K = K (.int .i64 l.length) := fun K => by rw [ev]; rfl
  refine lift46 ?_
  unfold S46 S46L0
  refine ⟨fun t3 t4 wr => ∃ i : Nat, i ≤ l.length ∧ t4 = .int .i64 i ∧ TlAt w.heap.size wr t3 ((l.take i).map turnT) ∧ Kp w wr, fun _ t4 _ => l.length - (intOf t4).toNat, ⟨0, by omega, rfl, RecAt.nil, Kp.refl _⟩, ?_⟩
  rintro _ t3 _ wr ⟨i, hi, rfl, hT, kr⟩
  rw [lnv]
  by_cases hlt : i < l.length
  case neg =>
    have hlt' : ¬ (i : Int) < (l.length : Int) := by omega
    rw [List.take_of_length_le (by omega)] at hT
    simp (disch := omega) only [r_ln, r_pick, r_pickT, r_pickF, r_condT, r_condF, r_gdTT, r_gdFF, r_gdTF, r_gdFT, r_gqTT, r_gqFF, r_gqTF, r_gqFT, r_not, r_lss, r_leq, r_gtr, r_geq, r_eql, r_neq, r_add, r_sub, r_min2, r_max2, r_min3, r_max3, r_fa, r_iaS, r_iaA, r_ex2a, r_ex2b, r_ex3a, r_ex3b, r_ex3c, r_nc, r_keepE, Nat.zero_add, Nat.add_zero, Nat.mul_one, Int.toNat_natCast, toNat_sub1, toNat_add1, decide_true, decide_false, Bool.not_true, Bool.not_false, if_true, if_false, Bool.false_eq_true, reduceCtorEq, hlt']
    exact ⟨_, rfl, hT, kr⟩
  have hlt' : (i : Int) < (l.length : Int) := by omega
  simp (disch := omega) only [r_lss, decide_eq_true hlt', r_condT]
  refine r_drew fun w2 k2 _ => ?_
  have kr2 := Kp.trans kr k2
  obtain ⟨b, off, cap, e, _, hcell⟩ := (hr.kp kr2).at (List.getElem?_eq_getElem hlt)
  have hii : (i : Int).toNat = i := by omega
  have ia : ∀ K : Value → Prop, iaS 4 v (.int .i64 i) K = K (.pointer (some ⟨b, off + i * 4, none⟩)) := fun K => by rw [e, r_iaS _ _ _ _ _ _ _ (by omega) (by omega), hii]
  have hst : (l.take (i + 1)).map turnT = (l.take i).map turnT ++ [turnT l[i]] := by rw [take_succ' _ _ hlt, List.map_append]; rfl
  generalize l[i] = t at *
  have c0 : w2.cell? ⟨b, off + i * 4, none⟩ = some (.int .i64 (tN t)) := hcell 0 _ rfl
  have c1 : w2.cell? ⟨b, off + i * 4 + 1, none⟩ = some (.int .i64 (tE t)) := hcell 1 _ rfl
  have c2 : w2.cell? ⟨b, off + i * 4 + 2, none⟩ = some (.int .i64 (tS t)) := hcell 2 _ rfl
  have c3 : w2.cell? ⟨b, off + i * 4 + 3, none⟩ = some (.int .i64 (tW t)) := hcell 3 _ rfl
  have hbd : ∀ K : Value → Prop, bdQ Try.prog 32 [(0, .int .i64 (tW t)), (1, .int .i64 (tN t)), (2, .int .i64 (tE t)), (3, .int .i64 (tS t))] K = K (tlV (turnT t)) := fun K => bdK _ _ _ _ K
  simp (disch := omega) only [ia, r_fa, Nat.add_zero, r_ld c0, r_ld c1, r_ld c2, r_ld c3, hbd]
  have hT2 := hT.kp k2
  refine r_pushKT hT2 (by rw [List.length_map, List.length_take]; omega) kr2.size fun v' w' ho hc => ?_
  rw [r_add _ _ (by omega) (by omega)]
  refine ⟨⟨i + 1, by omega, by go_num, ?_, Kp.of_chg kr2 hc fun k e => (hT2.lt e).1⟩, by simp only [intOf]; omega⟩
  rw [hst]; exact ho

set_option maxRecDepth 100000 in
theorem light_calls {v : Value} {l : List Tile} (a b : Int) (w : World) (hr : RdT w v l) : Calls Try.prog 31 #[v, .int .i64 a, .int .i64 b] w fun e w' => e = .returned (.bool (decide (l.length ≤ 40))) ∧ Kp w w' := by
  have hr0 := hr
  obtain ⟨va, vcap, rfl, hvc⟩ := hr.len
  refine lift31 ?_
  unfold S31
  by_cases hl : (l.length : Int) ≤ 40
  case neg =>
    simp (disch := omega) only [r_ln, r_pick, r_pickT, r_pickF, r_condT, r_condF, r_gdTT, r_gdFF, r_gdTF, r_gdFT, r_gqTT, r_gqFF, r_gqTF, r_gqFT, r_not, r_lss, r_leq, r_gtr, r_geq, r_eql, r_neq, r_add, r_sub, r_min2, r_max2, r_min3, r_max3, r_fa, r_iaS, r_iaA, r_ex2a, r_ex2b, r_ex3a, r_ex3b, r_ex3c, r_nc, r_keepE, Nat.zero_add, Nat.add_zero, Nat.mul_one, Int.toNat_natCast, toNat_sub1, toNat_add1, decide_true, decide_false, Bool.not_true, Bool.not_false, if_true, if_false, Bool.false_eq_true, reduceCtorEq, hl, r_gdU]
    exact ⟨ret_bool (decide_eq_false (by omega)).symm, Kp.refl _⟩
  simp (disch := omega) only [r_ln, r_pick, r_pickT, r_pickF, r_condT, r_condF, r_gdTT, r_gdFF, r_gdTF, r_gdFT, r_gqTT, r_gqFF, r_gqTF, r_gqFT, r_not, r_lss, r_leq, r_gtr, r_geq, r_eql, r_neq, r_add, r_sub, r_min2, r_max2, r_min3, r_max3, r_fa, r_iaS, r_iaA, r_ex2a, r_ex2b, r_ex3a, r_ex3b, r_ex3c, r_nc, r_keepE, Nat.zero_add, Nat.add_zero, Nat.mul_one, Int.toNat_natCast, toNat_sub1, toNat_add1, decide_true, decide_false, Bool.not_true, Bool.not_false, if_true, if_false, Bool.false_eq_true, reduceCtorEq, decide_eq_true hl, r_gdU]
  refine r_use fok23 (order_calls a b w hr0) rfl ?_
  rintro _ w1 ⟨rfl, k1⟩
  refine ⟨_, rfl, ?_⟩
  have ht : decide (l.length ≤ 40) = true := decide_eq_true (by omega)
  have h20 : ¬ ((2 : Int) = 0) := by decide
  rcases ordErr_cases l a b with he | he
  case inr =>
    rw [he]
    simp (disch := omega) only [r_ln, r_pick, r_pickT, r_pickF, r_condT, r_condF, r_gdTT, r_gdFF, r_gdTF, r_gdFT, r_gqTT, r_gqFF, r_gqTF, r_gqFT, r_not, r_lss, r_leq, r_gtr, r_geq, r_eql, r_neq, r_add, r_sub, r_min2, r_max2, r_min3, r_max3, r_fa, r_iaS, r_iaA, r_ex2a, r_ex2b, r_ex3a, r_ex3b, r_ex3c, r_nc, r_keepE, Nat.zero_add, Nat.add_zero, Nat.mul_one, Int.toNat_natCast, toNat_sub1, toNat_add1, decide_true, decide_false, Bool.not_true, Bool.not_false, if_true, if_false, Bool.false_eq_true, reduceCtorEq, h20, r_gdU]
    exact ⟨by rw [ht], k1⟩
  obtain ⟨hs, W, H, rfl, rfl, hW, hH⟩ := ord_ok he
  have h00 : decide ((0 : Int) = 0) = true := rfl
  rw [he]
  simp (disch := omega) only [r_ln, r_pick, r_pickT, r_pickF, r_condT, r_condF, r_gdTT, r_gdFF, r_gdTF, r_gdFT, r_gqTT, r_gqFF, r_gqTF, r_gqFT, r_not, r_lss, r_leq, r_gtr, r_geq, r_eql, r_neq, r_add, r_sub, r_min2, r_max2, r_min3, r_max3, r_fa, r_iaS, r_iaA, r_ex2a, r_ex2b, r_ex3a, r_ex3b, r_ex3c, r_nc, r_keepE, Nat.zero_add, Nat.add_zero, Nat.mul_one, Int.toNat_natCast, toNat_sub1, toNat_add1, decide_true, decide_false, Bool.not_true, Bool.not_false, if_true, if_false, Bool.false_eq_true, reduceCtorEq, h00, r_gdU]
  have hal := allS_le (l := l) hW.2
  have hal2 := allS_le (l := l.map turnT) hH.2
  refine r_use fok24 (states_calls w1 (hr0.kp k1) hs hW.2) rfl ?_
  rintro _ w2 ⟨rfl, k2⟩
  refine ⟨_, rfl, ?_⟩
  have k02 := Kp.trans k1 k2
  have h1 : ((allS l W : Nat) : Int) ≤ 60000 := by omega
  simp (disch := omega) only [r_ln, r_pick, r_pickT, r_pickF, r_condT, r_condF, r_gdTT, r_gdFF, r_gdTF, r_gdFT, r_gqTT, r_gqFF, r_gqTF, r_gqFT, r_not, r_lss, r_leq, r_gtr, r_geq, r_eql, r_neq, r_add, r_sub, r_min2, r_max2, r_min3, r_max3, r_fa, r_iaS, r_iaA, r_ex2a, r_ex2b, r_ex3a, r_ex3b, r_ex3c, r_nc, r_keepE, Nat.zero_add, Nat.add_zero, Nat.mul_one, Int.toNat_natCast, toNat_sub1, toNat_add1, decide_true, decide_false, Bool.not_true, Bool.not_false, if_true, if_false, Bool.false_eq_true, reduceCtorEq, decide_eq_true h1, r_gdU]
  refine r_use fok46 (turned_calls w2 (hr0.kp k02) (by omega)) rfl ?_
  rintro _ w3 ⟨v3, rfl, o3, k3⟩
  refine ⟨_, rfl, ?_⟩
  try simp (disch := omega) only [r_ln, r_pick, r_pickT, r_pickF, r_condT, r_condF, r_gdTT, r_gdFF, r_gdTF, r_gdFT, r_gqTT, r_gqFF, r_gqTF, r_gqFT, r_not, r_lss, r_leq, r_gtr, r_geq, r_eql, r_neq, r_add, r_sub, r_min2, r_max2, r_min3, r_max3, r_fa, r_iaS, r_iaA, r_ex2a, r_ex2b, r_ex3a, r_ex3b, r_ex3c, r_nc, r_keepE, Nat.zero_add, Nat.add_zero, Nat.mul_one, Int.toNat_natCast, toNat_sub1, toNat_add1, decide_true, decide_false, Bool.not_true, Bool.not_false, if_true, if_false, Bool.false_eq_true, reduceCtorEq, r_gdU]
  refine r_use fok24 (states_calls w3 (o3.rd tlC_len) (turned_set hs) hH.2) rfl ?_
  rintro _ w4 ⟨rfl, k4⟩
  refine ⟨_, rfl, ?_⟩
  have h2 : ((allS (l.map turnT) H : Nat) : Int) ≤ 60000 := by omega
  simp (disch := omega) only [r_ln, r_pick, r_pickT, r_pickF, r_condT, r_condF, r_gdTT, r_gdFF, r_gdTF, r_gdFT, r_gqTT, r_gqFF, r_gqTF, r_gqFT, r_not, r_lss, r_leq, r_gtr, r_geq, r_eql, r_neq, r_add, r_sub, r_min2, r_max2, r_min3, r_max3, r_fa, r_iaS, r_iaA, r_ex2a, r_ex2b, r_ex3a, r_ex3b, r_ex3c, r_nc, r_keepE, Nat.zero_add, Nat.add_zero, Nat.mul_one, Int.toNat_natCast, toNat_sub1, toNat_add1, decide_true, decide_false, Bool.not_true, Bool.not_false, if_true, if_false, Bool.false_eq_true, reduceCtorEq, decide_eq_true h2, r_gdU]
  exact ⟨by rw [ht], Kp.trans k02 (Kp.trans k3 k4)⟩

end Go.Proofs.Ytgalbokmgffhkaa

/- Lifted texts, printed by program (gen.py): what each function's code asks. The ties are by the kernel. -/
namespace Go.Proofs.Ytgalbokmgffhkaa
open Go.Lf Go.RowKit

def S20L1 (t1 t3 t11 : Value) (next : Value → World → Prop) (R : Ending → World → Prop) (w : World) : Prop :=
  Loop1 (.int .i64 1) w fun _ t12 w next_2 =>
    binQ Try.prog w .leq 3 false t12 t1 fun t81 =>
    condW t81 (
      iaS 1 t3 t11 fun t86 =>
      ld1 w t86 fun t87 =>
      iaS 1 t87 t12 fun t89 =>
      ld1 w t89 fun t90 =>
      callW Try.prog (.func (.func 62) #[] #[]) [t90] w fun t91 w =>
      unQ .not t91 fun t92 =>
      condW t92 (
        R (.returned (.tuple #[(.bool false), (.int .i64 0)])) w
      ) (
        binQ Try.prog w .add 3 true t12 (.int .i64 1) fun t83 =>
        next_2 t83 w
      )
    ) (
      binQ Try.prog w .add 3 true t11 (.int .i64 1) fun t34 =>
      next t34 w
    )

def S20L3 (t3 t13 t107 : Value) (next_3 : Value → World → Prop) (R : Ending → World → Prop) (w : World) : Prop :=
  Loop1 (.int .i64 0) w fun _ t16 w next_4 =>
    ln1 t107 fun t111 =>
    binQ Try.prog w .lss 3 false t16 t111 fun t112 =>
    condW t112 (
      Drew w fun w =>
      iaS 1 t107 t16 fun t118 =>
      ld1 w t118 fun t119 =>
      iaS 1 t3 t13 fun t122 =>
      ld1 w t122 fun t123 =>
      iaS 1 t123 (.int .i64 0) fun t124 =>
      ld1 w t124 fun t125 =>
      callW Try.prog (.func (.func 63) #[] #[]) [t3, t119, t125] w fun t126 w =>
      unQ .not t126 fun t127 =>
      condW t127 (
        R (.returned (.tuple #[(.bool false), (.int .i64 0)])) w
      ) (
        binQ Try.prog w .add 3 true t16 (.int .i64 1) fun t114 =>
        next_4 t114 w
      )
    ) (
      binQ Try.prog w .add 3 true t13 (.int .i64 1) fun t98 =>
      next_3 t98 w
    )

def S20L4 (t2 t3 t130 : Value) (R : Ending → World → Prop) (w : World) : Prop :=
  Loop1 (.int .i64 0) w fun _ t18 w next_5 =>
    ln1 t130 fun t133 =>
    binQ Try.prog w .lss 3 false t18 t133 fun t134 =>
    condW t134 (
      iaS 1 t130 t18 fun t140 =>
      ld1 w t140 fun t141 =>
      callW Try.prog (.func (.func 63) #[] #[]) [t3, t141, t2] w fun t143 w =>
      unQ .not t143 fun t144 =>
      condW t144 (
        R (.returned (.tuple #[(.bool false), (.int .i64 0)])) w
      ) (
        binQ Try.prog w .add 3 true t18 (.int .i64 1) fun t136 =>
        next_5 t136 w
      )
    ) (
      R (.returned (.tuple #[(.bool true), (.int .i64 0)])) w
    )

def S20L2 (t0 t1 t2 t3 : Value) (R : Ending → World → Prop) (w : World) : Prop :=
  Loop1 (.int .i64 0) w fun _ t13 w next_3 =>
    ln1 t3 fun t95 =>
    binQ Try.prog w .lss 3 false t13 t95 fun t96 =>
    condW t96 (
      iaS 1 t3 t13 fun t103 =>
      ld1 w t103 fun t104 =>
      slS 1 t104 (some (.int .i64 1)) none fun t105 =>
      callW Try.prog (.func (.func 48) #[] #[]) [t0, t105] w fun t106 w =>
      exQ t106 0 fun t107 =>
      exQ t106 1 fun t108 =>
      S20L3 t3 t13 t107 next_3 R w
    ) (
      callW Try.prog (.func (.func 64) #[] #[]) [t0, t1] w fun t130 w =>
      S20L4 t2 t3 t130 R w
    )

def S20L0 (t0 t1 t2 t3 : Value) (R : Ending → World → Prop) (w : World) : Prop :=
  Loop1 (.int .i64 0) w fun _ t11 w next =>
    ln1 t3 fun t31 =>
    binQ Try.prog w .lss 3 false t11 t31 fun t32 =>
    condW t32 (
      Drew w fun w =>
      iaS 1 t3 t11 fun t37 =>
      ld1 w t37 fun t38 =>
      ln1 t38 fun t39 =>
      binQ Try.prog w .add 3 true t1 (.int .i64 1) fun t41 =>
      binQ Try.prog w .neq 3 false t39 t41 fun t42 =>
      gdQ t42 false (fun k => k t3) fun t44 =>
      gdQ t42 false (fun k => k t11) fun t45 =>
      gdQ t42 false (fun k => iaS 1 t44 t45 k) fun t46 =>
      gdQ t42 false (fun k => ld1 w t46 k) fun t47 =>
      gdQ t42 false (fun k => iaS 1 t47 (.int .i64 0) k) fun t48 =>
      gdQ t42 false (fun k => ld1 w t48 k) fun t49 =>
      gdQ t42 false (fun k => binQ Try.prog w .lss 3 true t49 (.int .i64 1) k) fun t50 =>
      pickQ t42 (.bool true) t50 fun t51 =>
      gdQ t51 false (fun k => k t3) fun t53 =>
      gdQ t51 false (fun k => k t11) fun t54 =>
      gdQ t51 false (fun k => iaS 1 t53 t54 k) fun t55 =>
      gdQ t51 false (fun k => ld1 w t55 k) fun t56 =>
      gdQ t51 false (fun k => iaS 1 t56 (.int .i64 0) k) fun t57 =>
      gdQ t51 false (fun k => ld1 w t57 k) fun t58 =>
      gdQ t51 false (fun k => k t2) fun t59 =>
      gdQ t51 false (fun k => binQ Try.prog w .geq 3 false t58 t59 k) fun t60 =>
      pickQ t51 (.bool true) t60 fun t61 =>
      gdQ t61 false (fun k => k t11) fun t63 =>
      gdQ t61 false (fun k => binQ Try.prog w .gtr 3 true t63 (.int .i64 0) k) fun t64 =>
      gdQ t61 false (fun k => k t64) fun t65 =>
      gdQ t65 true (fun k => k t3) fun t66 =>
      gdQ t65 true (fun k => k t11) fun t67 =>
      gdQ t65 true (fun k => binQ Try.prog w .sub 3 true t67 (.int .i64 1) k) fun t68 =>
      gdQ t65 true (fun k => iaS 1 t66 t68 k) fun t69 =>
      gdQ t65 true (fun k => ld1 w t69 k) fun t70 =>
      gdQ t65 true (fun k => k t3) fun t71 =>
      gdQ t65 true (fun k => k t11) fun t72 =>
      gdQ t65 true (fun k => iaS 1 t71 t72 k) fun t73 =>
      gdQ t65 true (fun k => ld1 w t73 k) fun t74 =>
      gd t65 true (fun k => callW Try.prog (.func (.func 61) #[] #[]) [t70, t74] w k) w <| keepB w fun t75 w =>
      gdQ t65 true (fun k => unQ .not t75 k) fun t76 =>
      gdQ t61 false (fun k => pickQ t65 t76 (.bool false) k) fun t77 =>
      pickQ t61 (.bool true) t77 fun t78 =>
      condW t78 (
        R (.returned (.tuple #[(.bool false), (.int .i64 0)])) w
      ) (
        S20L1 t1 t3 t11 next R w
      )
    ) (
      S20L2 t0 t1 t2 t3 R w
    )

def S20 (t0 t1 t2 t3 : Value) (w : World) (R : Ending → World → Prop) : Prop :=
  callW Try.prog (.func (.func 23) #[] #[]) [t0, t1, t2] w fun t22 w =>
  binQ Try.prog w .neq 26 true t22 (.int .i64 0) fun t24 =>
  condW t24 (
    R (.returned (.tuple #[(.bool false), t22])) w
  ) (
    ln1 t3 fun t27 =>
    binQ Try.prog w .gtr 3 true t27 (.int .i64 65535) fun t28 =>
    condW t28 (
      R (.returned (.tuple #[(.bool false), (.int .i64 3)])) w
    ) (
      S20L0 t0 t1 t2 t3 R w
    )
  )

def A20 : Ann where
  live := fun
    | 0 => [11]
    | 2 => [12]
    | 4 => [13]
    | 6 => [16]
    | 8 => [18]
    | _ => []
  wr := fun
    | 0 => fun i => (Nat.ble 8 i && Nat.ble i 9) || (Nat.ble 11 i && Nat.ble i 12) || (Nat.ble 29 i && Nat.ble i 92)
    | 2 => fun i => (Nat.ble 8 i && Nat.ble i 9) || Nat.beq i 12 || (Nat.ble 79 i && Nat.ble i 92)
    | 4 => fun i => (Nat.ble 8 i && Nat.ble i 9) || (Nat.ble 13 i && Nat.ble i 16) || (Nat.ble 93 i && Nat.ble i 127)
    | 6 => fun i => (Nat.ble 8 i && Nat.ble i 9) || Nat.beq i 16 || (Nat.ble 109 i && Nat.ble i 127)
    | 8 => fun i => (Nat.ble 8 i && Nat.ble i 9) || Nat.beq i 18 || (Nat.ble 131 i && Nat.ble i 144)
    | _ => fun _ => false
  sched := fun
    | 9 => (.take 0 (.take 1 (.take 2 (.take 3 (.take 4 (.take 5 (.take 6 (.take 7 (.take 8 (.take 9 (.take 10 (.take 11 (.take 12 (.take 13 (.take 14 (.take 15 (.take 16 (.take 17 (.take 18 (.take 19 (.take 20 (.take 21 (.take 22 (.take 23 (.take 24 (.take 25 (.take 26 (.take 27 (.take 28 (.take 29 (.take 30 (.take 31 (.take 32 (.take 33 (.take 34 (.take 35 (.take 36 (.take 37 (.take 38 (.take 39 (.eff 40 (.take 41 (.take 42 (.take 43 .done))))))))))))))))))))))))))))))))))))))))))))
    | 23 => (.take 0 (.take 1 (.take 2 (.take 3 (.take 4 (.take 5 (.take 6 (.take 7 (.take 8 (.take 9 (.take 10 (.bar 11 (.take 12 .done)))))))))))))
    | _ => .done

set_option maxRecDepth 100000 in
theorem ok20 : (codeOk Try.f20.ntmps A20 (Try.f20.body.getD .skip) 0 && Nat.ble 4 Try.f20.ntmps) = true := by kernel_rfl
set_option maxRecDepth 100000 in
theorem lift20 {t0 t1 t2 t3 : Value} {w : World} {R : Ending → World → Prop} (h : S20 t0 t1 t2 t3 w R) : Calls Try.prog 20 #[t0, t1, t2, t3] w R :=
  calls_of_cw (fn := Try.f20) (c := Try.f20.body.getD .skip) A20 mixes Try.func20 (by kernel_rfl) ok20
    ((by kernel_rfl : (S20 t0 t1 t2 t3 w R) = cw Try.prog A20 (Try.f20.body.getD .skip) 0 (bodyQ Try.prog Try.f20 R) (frOf #[t0, t1, t2, t3]) w).mp h)

def S48L0 (t0 t1 : Value) (R : Ending → World → Prop) (w : World) : Prop :=
  Loop1 (.int .i64 0) w fun _ t6 w next =>
    ln1 t1 fun t18 =>
    binQ Try.prog w .lss 3 false t6 t18 fun t19 =>
    condW t19 (
      iaS 1 t1 t6 fun t24 =>
      ld1 w t24 fun t25 =>
      callW Try.prog (.func (.func 62) #[] #[]) [t25] w fun t26 w =>
      unQ .not t26 fun t27 =>
      condW t27 (
        R (.returned (.tuple #[(.slice none 0 0), (.int .i64 2)])) w
      ) (
        binQ Try.prog w .add 3 true t6 (.int .i64 1) fun t21 =>
        next t21 w
      )
    ) (
      ln1 t1 fun t31 =>
      callW Try.prog (.func (.func 95) #[] #[]) [t0, t1, t31, (.slice none 0 0), (.int .i64 255)] w fun t32 w =>
      R (.returned (.tuple #[t32, (.int .i64 0)])) w
    )

def S48 (t0 t1 : Value) (w : World) (R : Ending → World → Prop) : Prop :=
  callW Try.prog (.func (.func 35) #[] #[]) [t0] w fun t8 w =>
  unQ .not t8 fun t9 =>
  gd t9 false (fun k => k t1 w) w fun t11 w =>
  gd t9 false (fun k => ln1 t11 fun v => k v w) w fun t12 w =>
  gd t9 false (fun k => callW Try.prog (.func (.func 68) #[] #[]) [t12] w k) w fun t13 w =>
  gd t9 false (fun k => unQ .not t13 fun v => k v w) w fun t14 w =>
  pickQ t9 (.bool true) t14 fun t15 =>
  condW t15 (
    R (.returned (.tuple #[(.slice none 0 0), (.int .i64 2)])) w
  ) (
    S48L0 t0 t1 R w
  )

def A48 : Ann where
  live := fun
    | 0 => [6]
    | _ => []
  wr := fun
    | 0 => fun i => (Nat.ble 4 i && Nat.ble i 6) || (Nat.ble 16 i && Nat.ble i 27)
    | _ => fun _ => false
  sched := fun _ => .done

set_option maxRecDepth 100000 in
theorem ok48 : (codeOk Try.f48.ntmps A48 (Try.f48.body.getD .skip) 0 && Nat.ble 2 Try.f48.ntmps) = true := by kernel_rfl
set_option maxRecDepth 100000 in
theorem lift48 {t0 t1 : Value} {w : World} {R : Ending → World → Prop} (h : S48 t0 t1 w R) : Calls Try.prog 48 #[t0, t1] w R :=
  calls_of_cw (fn := Try.f48) (c := Try.f48.body.getD .skip) A48 mixes Try.func48 (by kernel_rfl) ok48
    ((by kernel_rfl : (S48 t0 t1 w R) = cw Try.prog A48 (Try.f48.body.getD .skip) 0 (bodyQ Try.prog Try.f48 R) (frOf #[t0, t1]) w).mp h)

def S61L0 (t0 t1 : Value) (R : Ending → World → Prop) (w : World) : Prop :=
  Loop1 (.int .i64 0) w fun _ t5 w next =>
    ln1 t0 fun t8 =>
    binQ Try.prog w .lss 3 false t5 t8 fun t9 =>
    condW t9 (
      Drew w fun w =>
      iaS 1 t0 t5 fun t14 =>
      ld1 w t14 fun t15 =>
      iaS 1 t1 t5 fun t18 =>
      ld1 w t18 fun t19 =>
      binQ Try.prog w .neq 3 false t15 t19 fun t20 =>
      condW t20 (
        Drew w fun w =>
        iaS 1 t0 t5 fun t23 =>
        ld1 w t23 fun t24 =>
        iaS 1 t1 t5 fun t27 =>
        ld1 w t27 fun t28 =>
        binQ Try.prog w .lss 3 false t24 t28 fun t29 =>
        R (.returned t29) w
      ) (
        binQ Try.prog w .add 3 true t5 (.int .i64 1) fun t11 =>
        next t11 w
      )
    ) (
      R (.returned (.bool false)) w
    )



def S61 (t0 t1 : Value) (w : World) (R : Ending → World → Prop) : Prop :=
  S61L0 t0 t1 R w

def A61 : Ann where
  live := fun
    | 0 => [5]
    | _ => []
  wr := fun
    | 0 => fun i => (Nat.ble 4 i && Nat.ble i 29)
    | _ => fun _ => false
  sched := fun
    | 4 => (.take 0 (.take 1 (.take 2 (.take 3 (.take 4 (.take 5 (.take 6 (.take 7 (.take 8 .done)))))))))
    | 5 => (.take 0 (.take 1 (.take 2 (.take 3 (.take 4 (.take 5 (.take 6 (.take 7 (.take 8 (.take 9 .done))))))))))
    | _ => .done

set_option maxRecDepth 100000 in
theorem ok61 : (codeOk Try.f61.ntmps A61 (Try.f61.body.getD .skip) 0 && Nat.ble 2 Try.f61.ntmps) = true := by kernel_rfl
set_option maxRecDepth 100000 in
theorem lift61 {t0 t1 : Value} {w : World} {R : Ending → World → Prop} (h : S61 t0 t1 w R) : Calls Try.prog 61 #[t0, t1] w R :=
  calls_of_cw (fn := Try.f61) (c := Try.f61.body.getD .skip) A61 mixes Try.func61 (by kernel_rfl) ok61
    ((by kernel_rfl : (S61 t0 t1 w R) = cw Try.prog A61 (Try.f61.body.getD .skip) 0 (bodyQ Try.prog Try.f61 R) (frOf #[t0, t1]) w).mp h)

def S63L1 (t0 t1 t7 t23 : Value) (next : Value → World → Prop) (R : Ending → World → Prop) (w : World) : Prop :=
  Loop2 t23 (.int .i64 0) w fun _ t8 t9 w next_2 =>
    ln1 t1 fun t26 =>
    binQ Try.prog w .lss 3 false t9 t26 fun t27 =>
    gd t27 true (fun k => k t8 w) w fun t29 w =>
    pickQ t27 t29 (.bool false) fun t30 =>
    condW t30 (
      Drew w fun w =>
      iaS 1 t0 t7 fun t35 =>
      ld1 w t35 fun t36 =>
      binQ Try.prog w .add 3 true t9 (.int .i64 1) fun t38 =>
      iaS 1 t36 t38 fun t39 =>
      ld1 w t39 fun t40 =>
      iaS 1 t1 t9 fun t43 =>
      ld1 w t43 fun t44 =>
      binQ Try.prog w .eql 3 false t40 t44 fun t45 =>
      binQ Try.prog w .add 3 true t9 (.int .i64 1) fun t32 =>
      next_2 t45 t32 w
    ) (
      condW t8 (
        R (.returned (.bool true)) w
      ) (
        binQ Try.prog w .add 3 true t7 (.int .i64 1) fun t15 =>
        next t15 w
      )
    )

def S63L0 (t0 t1 t2 : Value) (R : Ending → World → Prop) (w : World) : Prop :=
  Loop1 (.int .i64 0) w fun _ t7 w next =>
    ln1 t0 fun t12 =>
    binQ Try.prog w .lss 3 false t7 t12 fun t13 =>
    condW t13 (
      iaS 1 t0 t7 fun t18 =>
      ld1 w t18 fun t19 =>
      iaS 1 t19 (.int .i64 0) fun t20 =>
      ld1 w t20 fun t21 =>
      binQ Try.prog w .lss 3 false t21 t2 fun t23 =>
      S63L1 t0 t1 t7 t23 next R w
    ) (
      R (.returned (.bool false)) w
    )



def S63 (t0 t1 t2 : Value) (w : World) (R : Ending → World → Prop) : Prop :=
  S63L0 t0 t1 t2 R w

def A63 : Ann where
  live := fun
    | 0 => [7]
    | 2 => [8, 9]
    | _ => []
  wr := fun
    | 0 => fun i => (Nat.ble 6 i && Nat.ble i 46)
    | 2 => fun i => (Nat.ble 8 i && Nat.ble i 9) || (Nat.ble 24 i && Nat.ble i 45)
    | _ => fun _ => false
  sched := fun
    | 8 => (.take 0 (.take 1 (.take 2 (.take 3 (.take 4 (.take 5 (.take 6 (.take 7 (.take 8 (.take 9 (.take 10 (.take 11 (.take 12 (.take 13 .done))))))))))))))
    | _ => .done

set_option maxRecDepth 100000 in
theorem ok63 : (codeOk Try.f63.ntmps A63 (Try.f63.body.getD .skip) 0 && Nat.ble 3 Try.f63.ntmps) = true := by kernel_rfl
set_option maxRecDepth 100000 in
theorem lift63 {t0 t1 t2 : Value} {w : World} {R : Ending → World → Prop} (h : S63 t0 t1 t2 w R) : Calls Try.prog 63 #[t0, t1, t2] w R :=
  calls_of_cw (fn := Try.f63) (c := Try.f63.body.getD .skip) A63 mixes Try.func63 (by kernel_rfl) ok63
    ((by kernel_rfl : (S63 t0 t1 t2 w R) = cw Try.prog A63 (Try.f63.body.getD .skip) 0 (bodyQ Try.prog Try.f63 R) (frOf #[t0, t1, t2]) w).mp h)

def S64 (t0 t1 : Value) (w : World) (R : Ending → World → Prop) : Prop :=
  callW Try.prog (.func (.func 95) #[] #[]) [t0, (.slice none 0 0), t1, (.slice none 0 0), (.int .i64 255)] w fun t7 w =>
  R (.returned t7) w

def A64 : Ann where
  live := fun _ => []
  wr := fun _ _ => false
  sched := fun _ => .done

set_option maxRecDepth 100000 in
theorem ok64 : (codeOk Try.f64.ntmps A64 (Try.f64.body.getD .skip) 0 && Nat.ble 2 Try.f64.ntmps) = true := by kernel_rfl
set_option maxRecDepth 100000 in
theorem lift64 {t0 t1 : Value} {w : World} {R : Ending → World → Prop} (h : S64 t0 t1 w R) : Calls Try.prog 64 #[t0, t1] w R :=
  calls_of_cw (fn := Try.f64) (c := Try.f64.body.getD .skip) A64 mixes Try.func64 (by kernel_rfl) ok64
    ((by kernel_rfl : (S64 t0 t1 w R) = cw Try.prog A64 (Try.f64.body.getD .skip) 0 (bodyQ Try.prog Try.f64 R) (frOf #[t0, t1]) w).mp h)

def S95L1 (t0 t1 t2 t3 t4 t12 t13 t18 : Value) (next : Value → Value → World → Prop) (w : World) : Prop :=
  Loop2 (.int .i64 0) (.int .i64 0) w fun _ t14 t15 w next_2 =>
    ln1 t0 fun t32 =>
    binQ Try.prog w .lss 3 false t15 t32 fun t33 =>
    condW t33 (
      Drew w fun w =>
      iaS 4 t0 t15 fun t38 =>
      fa1 t38 2 fun t39 =>
      ld1 w t39 fun t40 =>
      binQ Try.prog w .eql 3 false t40 t13 fun t42 =>
      gdQ t42 true (fun k => k t4) fun t44 =>
      gdQ t42 true (fun k => k t0) fun t45 =>
      gdQ t42 true (fun k => k t15) fun t46 =>
      gdQ t42 true (fun k => iaS 4 t45 t46 k) fun t47 =>
      gdQ t42 true (fun k => fa1 t47 3 k) fun t48 =>
      gdQ t42 true (fun k => ld1 w t48 k) fun t49 =>
      gdQ t42 true (fun k => binQ Try.prog w .shr 3 false t44 t49 k) fun t50 =>
      gdQ t42 true (fun k => binQ Try.prog w .rem 3 true t50 (.int .i64 2) k) fun t51 =>
      gdQ t42 true (fun k => binQ Try.prog w .eql 3 true t51 (.int .i64 1) k) fun t52 =>
      pickQ t42 t52 (.bool false) fun t53 =>
      gdQ t53 true (fun k => k t1) fun t55 =>
      gdQ t53 true (fun k => binQ Try.prog w .eql 30 true t55 (.slice none 0 0) k) fun t56 =>
      gdQ t53 true (fun k => k t56) fun t57 =>
      gdQ t57 false (fun k => k t0) fun t58 =>
      gdQ t57 false (fun k => k t15) fun t59 =>
      gdQ t57 false (fun k => iaS 4 t58 t59 k) fun t60 =>
      gdQ t57 false (fun k => fa1 t60 0 k) fun t61 =>
      gdQ t57 false (fun k => ld1 w t61 k) fun t62 =>
      gdQ t57 false (fun k => k t1) fun t63 =>
      gdQ t57 false (fun k => k t18) fun t64 =>
      gdQ t57 false (fun k => iaS 1 t63 t64 k) fun t65 =>
      gdQ t57 false (fun k => ld1 w t65 k) fun t66 =>
      gdQ t57 false (fun k => binQ Try.prog w .eql 3 false t62 t66 k) fun t67 =>
      gdQ t53 true (fun k => pickQ t57 (.bool true) t67 k) fun t68 =>
      pickQ t53 t68 (.bool false) fun t69 =>
      Join (fun (k_2 : Value → World → Prop) =>
        condW t69 (
          iaS 4 t0 t15 fun t73 =>
          fa1 t73 1 fun t74 =>
          ld1 w t74 fun t75 =>
          binQ Try.prog w .shl 3 true (.int .i64 1) t75 fun t76 =>
          binQ Try.prog w .or 3 false t14 t76 fun t77 =>
          k_2 t77 w
        ) (
          k_2 t14 w
        )
      ) fun t14_2 w =>
      binQ Try.prog w .add 3 true t15 (.int .i64 1) fun t35_2 =>
      next_2 t14_2 t35_2 w
    ) (
      binQ Try.prog w .neq 3 true t14 (.int .i64 0) fun t79 =>
      Join (fun (k_3 : Value → World → Prop) =>
        condW t79 (
          semW Try.prog (apS [30, 30] 30 [(.slice none 0 0), t3]) w fun t82 w =>
          bsW Try.prog 30 1 [(0, t13)] w fun t89 w =>
          semW Try.prog (apS [30, 30] 30 [t82, t89]) w fun t90 w =>
          callW Try.prog (.func (.func 95) #[] #[]) [t0, t1, t2, t90, t14] w fun t92 w =>
          semW Try.prog (apS [23, 23] 23 [t12, t92]) w fun t93 w =>
          k_3 t93 w
        ) (
          k_3 t12 w
        )
      ) fun t12_2 w =>
      binQ Try.prog w .add 3 true t13 (.int .i64 1) fun t29_2 =>
      next t12_2 t29_2 w
    )

def S95L0 (t0 t1 t2 t3 t4 t18 : Value) (R : Ending → World → Prop) (w : World) : Prop :=
  Loop2 (.slice none 0 0) (.int .i64 0) w fun _ t12 t13 w next =>
    binQ Try.prog w .leq 3 true t13 (.int .i64 7) fun t27 =>
    condW t27 (
      S95L1 t0 t1 t2 t3 t4 t12 t13 t18 next w
    ) (
      R (.returned t12) w
    )

def S95 (t0 t1 t2 t3 t4 : Value) (w : World) (R : Ending → World → Prop) : Prop :=
  ln1 t3 fun t18 =>
  binQ Try.prog w .eql 3 false t18 t2 fun t21 =>
  condW t21 (
    bsW Try.prog 30 0 [] w fun t22 w =>
    semW Try.prog (apS [30, 30] 30 [t22, t3]) w fun t24 w =>
    bsW Try.prog 23 1 [(0, t24)] w fun t25 w =>
    R (.returned t25) w
  ) (
    S95L0 t0 t1 t2 t3 t4 t18 R w
  )

def A95 : Ann where
  live := fun
    | 0 => [12, 13]
    | 2 => [14, 15]
    | _ => []
  wr := fun
    | 0 => fun i => (Nat.ble 12 i && Nat.ble i 16) || (Nat.ble 26 i && Nat.ble i 93)
    | 2 => fun i => (Nat.ble 14 i && Nat.ble i 15) || (Nat.ble 30 i && Nat.ble i 77)
    | _ => fun _ => false
  sched := fun
    | 12 => (.take 0 (.take 1 (.take 2 (.take 3 (.take 4 (.take 5 (.take 6 (.take 7 (.take 8 (.take 9 (.take 10 (.take 11 (.take 12 (.take 13 (.take 14 (.take 15 (.take 16 (.take 17 (.take 18 (.take 19 (.take 20 (.take 21 (.take 22 (.take 23 (.take 24 (.take 25 (.take 26 (.take 27 (.take 28 (.take 29 (.take 30 (.take 31 (.take 32 (.take 33 .done))))))))))))))))))))))))))))))))))
    | _ => .done

set_option maxRecDepth 100000 in
theorem ok95 : (codeOk Try.f95.ntmps A95 (Try.f95.body.getD .skip) 0 && Nat.ble 5 Try.f95.ntmps) = true := by kernel_rfl
set_option maxRecDepth 100000 in
theorem lift95 {t0 t1 t2 t3 t4 : Value} {w : World} {R : Ending → World → Prop} (h : S95 t0 t1 t2 t3 t4 w R) : Calls Try.prog 95 #[t0, t1, t2, t3, t4] w R :=
  calls_of_cw (fn := Try.f95) (c := Try.f95.body.getD .skip) A95 mixes Try.func95 (by kernel_rfl) ok95
    ((by kernel_rfl : (S95 t0 t1 t2 t3 t4 w R) = cw Try.prog A95 (Try.f95.body.getD .skip) 0 (bodyQ Try.prog Try.f95 R) (frOf #[t0, t1, t2, t3, t4]) w).mp h)

theorem fok20 : fnOk Try.prog 20 = true := by kernel_rfl
theorem fok48 : fnOk Try.prog 48 = true := by kernel_rfl
theorem fok61 : fnOk Try.prog 61 = true := by kernel_rfl
theorem fok63 : fnOk Try.prog 63 = true := by kernel_rfl
theorem fok64 : fnOk Try.prog 64 = true := by kernel_rfl
theorem fok95 : fnOk Try.prog 95 = true := by kernel_rfl
end Go.Proofs.Ytgalbokmgffhkaa

/- Shifts, sets of bits; lists of lists that are put behind lists of lists. -/
namespace Go.Proofs.Ytgalbokmgffhkaa
open Go.Lf Go.RowKit Go.Wg

theorem b_genE {op : BinOp} {t : TypeId} {lit : Bool} {k k' : IntKind} {x y : Int} {v : Value} {w : World} {K : Value → Prop} (h : ∀ w', (semBin op t lit (.int k x) (.int k' y)).run Try.prog w' = .ok (.value v) w') (hn : intBin op k x y = none) : binQ Try.prog w op t lit (.int k x) (.int k' y) K = K v := by
  have e : binQ Try.prog w op t lit (.int k x) (.int k' y) K = genQ Try.prog w (semBin op t lit (.int k x) (.int k' y)) K := by
    simp [binQ, hn]
  rw [e]
  refine propext ⟨?_, fun hk => ⟨v, fun w' _ => h w', hk⟩⟩
  rintro ⟨u, hu, hk⟩
  have h1 := hu w (Below.refl _ _)
  rw [h] at h1
  injection h1 with h1 _
  injection h1 with h1
  rw [h1]; exact hk

set_option maxRecDepth 100000 in
theorem shl_run : ∀ (E : Nat), E ≤ 7 → ∀ (t : TypeId) (lit : Bool) (w' : World), (semBin .shl t lit (.int .i64 1) (.int .i64 E)).run Try.prog w' = .ok (.value (.int .i64 ((2 ^ E : Nat) : Int))) w'
  | 0, _, _, _, _ => by kernel_rfl
  | 1, _, _, _, _ => by kernel_rfl
  | 2, _, _, _, _ => by kernel_rfl
  | 3, _, _, _, _ => by kernel_rfl
  | 4, _, _, _, _ => by kernel_rfl
  | 5, _, _, _, _ => by kernel_rfl
  | 6, _, _, _, _ => by kernel_rfl
  | 7, _, _, _, _ => by kernel_rfl
  | _ + 8, h, _, _, _ => absurd h (by omega)
theorem r_shl1 {w : World} {K : Value → Prop} {t : TypeId} {lit : Bool} (E : Nat) (hE : E ≤ 7) : binQ Try.prog w .shl t lit (.int .i64 1) (.int .i64 E) K = K (.int .i64 ((2 ^ E : Nat) : Int)) :=
  b_genE (fun w' => shl_run E hE t lit w') rfl

set_option maxRecDepth 100000 in
theorem shr_run (e : Int) : ∀ (E : Nat), E ≤ 7 → ∀ (t : TypeId) (lit : Bool) (w' : World), (semBin .shr t lit (.int .i64 e) (.int .i64 E)).run Try.prog w' = .ok (.value (.int .i64 (e.fdiv (2 ^ E)))) w'
  | 0, _, _, _, _ => by kernel_rfl
  | 1, _, _, _, _ => by kernel_rfl
  | 2, _, _, _, _ => by kernel_rfl
  | 3, _, _, _, _ => by kernel_rfl
  | 4, _, _, _, _ => by kernel_rfl
  | 5, _, _, _, _ => by kernel_rfl
  | 6, _, _, _, _ => by kernel_rfl
  | 7, _, _, _, _ => by kernel_rfl
  | _ + 8, h, _, _, _ => absurd h (by omega)
theorem r_shrN {w : World} {K : Value → Prop} {t : TypeId} {lit : Bool} (e E : Nat) (hE : E ≤ 7) : binQ Try.prog w .shr t lit (.int .i64 e) (.int .i64 E) K = K (.int .i64 ((e / 2 ^ E : Nat) : Int)) := by
  refine b_genE (fun w' => ?_) rfl
  rw [shr_run e E hE]
  have : (e : Int).fdiv (2 ^ E) = ((e / 2 ^ E : Nat) : Int) := by
    rw [Int.fdiv_eq_ediv_of_nonneg _ (Int.pow_nonneg (by omega))]
    simp
  rw [this]

set_option maxRecDepth 100000 in
theorem or_run (a b : Int) (t : TypeId) (lit : Bool) (w' : World) : (semBin .or t lit (.int .i64 a) (.int .i64 b)).run Try.prog w' = .ok (.value (.int .i64 (IntKind.i64.wrap ((BitVec.ofInt 64 a ||| BitVec.ofInt 64 b).toNat)))) w' := by kernel_rfl
theorem r_orN {w : World} {K : Value → Prop} {t : TypeId} {lit : Bool} (a b : Nat) (ha : a < 256) (hb : b < 256) : binQ Try.prog w .or t lit (.int .i64 a) (.int .i64 b) K = K (.int .i64 ((a ||| b : Nat) : Int)) := by
  refine b_genE (fun w' => ?_) rfl
  rw [or_run]
  have hab : a ||| b < 2 ^ 8 := Nat.or_lt_two_pow ha hb
  have e : (BitVec.ofInt 64 (a : Int) ||| BitVec.ofInt 64 (b : Int)).toNat = a ||| b := by
    have h1 : (BitVec.ofInt 64 (a : Int)).toNat = a := by simp [BitVec.toNat_ofInt]; omega
    have h2 : (BitVec.ofInt 64 (b : Int)).toNat = b := by simp [BitVec.toNat_ofInt]; omega
    rw [BitVec.toNat_or, h1, h2]
  rw [e, IntWalk.i64_in _ (by omega)]

theorem testBit_div (e n : Nat) : e.testBit n = decide (((e / 2 ^ n % 2 : Nat) : Int) = 1) := by
  rw [Nat.testBit_eq_decide_div_mod_eq]
  by_cases h : e / 2 ^ n % 2 = 1
  · rw [decide_eq_true h, decide_eq_true (by omega)]
  · rw [decide_eq_false h, decide_eq_false (by omega)]

theorem ints_slice {base : Nat} {w : World} {v : Value} {l : List Int} (h : IntsAt base w v l) : v.oneCell' = true := by
  obtain ⟨a, cap, rfl, _⟩ := h.len
  rfl

set_option maxRecDepth 100000 in
/-- append(nil, l...) at integers. -/
theorem r_copyN {w : World} {v : Value} {l : List Int} {K : Value → World → Prop} (hr : RdInts w v l) (hl : l.length ≤ 1000000)
    (hk : ∀ v' w', IntsAt w.heap.size w' v' l → Kp w w' → K v' w') : semW Try.prog (apS [30, 30] 30 [nilS, v]) w K := by
  have hown : w.ownsRow w.heap.size 3 1 nilS 0 [] := World.ownsRow_nil _ _ _ _
  obtain ⟨a, cap, rfl, _, hh⟩ := hr
  cases l with
  | nil => exact r_ap0 slt30 hown (hk _ _ hown (Kp.refl _))
  | cons x l =>
    obtain ⟨b, off, rfl, hc⟩ := hh (by simp)
    refine r_ap (xs := []) (news := intCells (x :: l)) slt30 hown (by simp [intCells]) (fun j u hj => ?_) intCells_one (by simp at hl ⊢; omega) (by omega) (Nat.le_refl _) fun v' w' ho hg hn => ?_
    · have hlt : j < (x :: l).length := by
        have := (List.getElem?_eq_some_iff.1 hj).1
        simpa [intCells] using this
      rw [r_addr, hc j hlt]
      rw [← hj, intCells, List.getElem?_map, List.getElem?_eq_getElem hlt]
      rw [getD_lt _ _ _ hlt]; rfl
    · refine hk _ _ ?_ (Kp.of_chg (Kp.refl _) (Chg.of_grown (S := fun _ => False) hg fun k e => by cases e) fun i e => e.elim)
      have e2 : recCells iC (x :: l) = intCells (x :: l) := by rw [rec_ints]; rfl
      unfold IntsAt RecAt
      rw [e2]
      simpa using ho

set_option maxRecDepth 100000 in
/-- append(out, rows...) -/
theorem r_apRows {base base' : Nat} {w : World} {v v' : Value} {R R' : List (List Int)} {K : Value → World → Prop} (h : IRows base w v R) (h' : IRows base' w v' R') (hb' : base ≤ base') (hn : R.length + R'.length ≤ 1000000) (hb : base ≤ w.heap.size)
    (hk : ∀ v2 w2, IRows base w2 v2 (R ++ R') → Chg (fun k => v.ownBlock = some k) w w2 → K v2 w2) : semW Try.prog (apS [23, 23] 23 [v, v']) w K := by
  have h0 := h
  obtain ⟨vs, h1, h2, h3⟩ := h
  obtain ⟨vs', g1, g2, g3⟩ := h'
  obtain ⟨a', cap', ev', _⟩ := g1.len
  by_cases h00 : vs'.length = 0
  · have e : R' = [] := List.length_eq_zero_iff.1 (by omega)
    rw [h00] at ev'
    subst ev'
    subst e
    exact r_ap0 slt23 h1 (hk _ _ (by rw [List.append_nil]; exact h0) (Chg.refl _ _))
  obtain ⟨g, cap, cur, ev, hgb, hg, hle, hm, hs, ht⟩ := g1.blk (by omega)
  rw [ev]
  have ecell : recCells vE vs' = vs' := by simp [recCells]
  rw [ecell] at ht
  refine r_ap (xs := recCells vE vs) (news := vs') (m := vs'.length) slt23 h1 (by simp) (fun j u hj => ?_) (fun u hu => ?_) (by omega) (by omega) hb fun v2 w2 ho hgr _ => ?_
  · have hlt := (List.getElem?_eq_some_iff.1 hj).1
    rw [r_addr, Nat.zero_add, cell_row hg]
    rw [← ht, List.getElem?_take, if_pos (by omega)] at hj
    simpa using hj
  · obtain ⟨i, hi, rfl⟩ := List.getElem_of_mem hu
    exact ints_slice (g3 i _ _ (List.getElem?_eq_getElem hi) (List.getElem?_eq_getElem (by omega)))
  · have hc : Chg (fun k => v.ownBlock = some k) w w2 := Chg.of_grown hgr fun k hk => hk
    have key : ∀ b u r, IntsAt b w u r → IntsAt b w2 u r := fun b u r hb => hb.chg hc fun q hq => rec_ne hb h1 (by decide) q hq
    refine hk v2 w2 ⟨vs ++ vs', ?_, by simp; omega, fun j u r hu hr => ?_⟩ hc
    · unfold RecAt
      rw [recCells_append, List.length_append, ecell]
      exact ho
    · by_cases hj : j < vs.length
      · rw [List.getElem?_append_left hj] at hu
        rw [List.getElem?_append_left (by omega)] at hr
        exact key _ _ _ (h3 j u r hu hr)
      · rw [List.getElem?_append_right (by omega)] at hu
        rw [List.getElem?_append_right (by omega), ← h2] at hr
        exact (key _ _ _ (g3 _ u r hu hr)).down hb'


end Go.Proofs.Ytgalbokmgffhkaa
