/- Texts of my own, merged by program: Sk K2 N8. -/
import Derived.Test.YtgalbokmgffhkaaM03
import Derived.Test.YtgalbokmgffhkaaM18
import Derived.Test.YtgalbokmgffhkaaM20
set_option linter.all false
/- Lifted texts, printed by program (gen.py): what each function's code asks. The ties are by the kernel. -/
namespace Go.Proofs.Ytgalbokmgffhkaa
open Go.Lf Go.RowKit

def S7 (t0 t1 t2 t3 : Value) (w : World) (R : Ending → World → Prop) : Prop :=
  callW Try.prog (.func (.func 31) #[] #[]) [t0, t1, t2] w fun t20 w =>
  unQ .not t20 fun t21 =>
  gd t21 false (fun k => k t3 w) w fun t23 w =>
  gd t21 false (fun k => callW Try.prog (.func (.func 17) #[] #[]) [t23, (.int .i64 200)] w k) w fun t24 w =>
  gd t21 false (fun k => unQ .not t24 fun v => k v w) w fun t25 w =>
  pickQ t21 (.bool true) t25 fun t26 =>
  condW t26 (
    callW Try.prog (.func (.func 18) #[] #[]) [] w fun t27 w =>
    R (.returned t27) w
  ) (
    callW Try.prog (.func (.func 27) #[] #[]) [t0, t1, t2] w fun t32 w =>
    exQ t32 0 fun t33 =>
    exQ t32 1 fun t34 =>
    callW Try.prog (.func (.func 32) #[] #[]) [t0, t1, t2] w fun t39 w =>
    exQ t39 0 fun t40 =>
    exQ t39 1 fun t41 =>
    callW Try.prog (.func (.func 19) #[] #[]) [t0, t1, t2, t3] w fun t47 w =>
    exQ t47 0 fun t48 =>
    exQ t47 1 fun t49 =>
    callW Try.prog (.func (.func 23) #[] #[]) [t0, t1, t2] w fun t53 w =>
    binQ Try.prog w .neq 26 true t53 (.int .i64 0) fun t54 =>
    condW t54 (
      binQ Try.prog w .eql 26 true t34 (.int .i64 2) fun t56 =>
      gd t56 true (fun k => k t41 w) w fun t58 w =>
      gd t56 true (fun k => k t34 w) w fun t59 w =>
      gd t56 true (fun k => binQ Try.prog w .eql 26 false t58 t59 fun v => k v w) w fun t60 w =>
      pickQ t56 t60 (.bool false) fun t61 =>
      gd t61 true (fun k => k t49 w) w fun t63 w =>
      gd t61 true (fun k => k t34 w) w fun t64 w =>
      gd t61 true (fun k => binQ Try.prog w .eql 26 false t63 t64 fun v => k v w) w fun t65 w =>
      pickQ t61 t65 (.bool false) fun t66 =>
      gd t66 true (fun k => k t40 w) w fun t68 w =>
      gd t66 true (fun k => ln1 t68 fun v => k v w) w fun t69 w =>
      gd t66 true (fun k => binQ Try.prog w .eql 3 true t69 (.int .i64 0) fun v => k v w) w fun t70 w =>
      pickQ t66 t70 (.bool false) fun t71 =>
      gd t71 true (fun k => callW Try.prog (.func (.func 18) #[] #[]) [] w k) w fun t73 w =>
      pickQ t71 t73 (.bool false) fun t74 =>
      R (.returned t74) w
    ) (
      binQ Try.prog w .eql 26 true t34 (.int .i64 0) fun t76 =>
      binQ Try.prog w .eql 26 true t41 (.int .i64 10) fun t78 =>
      binQ Try.prog w .neq 4 false t76 t78 fun t79 =>
      gd t79 false (fun k => k t34 w) w fun t81 w =>
      gd t79 false (fun k => binQ Try.prog w .eql 26 true t81 (.int .i64 0) fun v => k v w) w fun t82 w =>
      gd t79 false (fun k => k t82 w) w fun t83 w =>
      gd t83 true (fun k => k t48 w) w fun t84 w =>
      gd t79 false (fun k => pickQ t83 t84 (.bool false) fun v => k v w) w fun t85 w =>
      pickQ t79 (.bool true) t85 fun t86 =>
      gd t86 false (fun k => k t49 w) w fun t88 w =>
      gd t86 false (fun k => binQ Try.prog w .neq 26 true t88 (.int .i64 0) fun v => k v w) w fun t89 w =>
      pickQ t86 (.bool true) t89 fun t90 =>
      condW t90 (
        R (.returned (.bool false)) w
      ) (
        binQ Try.prog w .eql 26 true t34 (.int .i64 0) fun t92 =>
        condW t92 (
          callW Try.prog (.func (.func 18) #[] #[]) [] w fun t93 w =>
          R (.returned t93) w
        ) (
          callW Try.prog (.func (.func 19) #[] #[]) [t0, t1, t2, t40] w fun t99 w =>
          exQ t99 0 fun t100 =>
          exQ t99 1 fun t101 =>
          binQ Try.prog w .neq 26 true t41 (.int .i64 0) fun t103 =>
          gd t103 false (fun k => k t101 w) w fun t105 w =>
          gd t103 false (fun k => binQ Try.prog w .neq 26 true t105 (.int .i64 0) fun v => k v w) w fun t106 w =>
          pickQ t103 (.bool true) t106 fun t107 =>
          gd t107 false (fun k => k t100 w) w fun t109 w =>
          gd t107 false (fun k => unQ .not t109 fun v => k v w) w fun t110 w =>
          pickQ t107 (.bool true) t110 fun t111 =>
          condW t111 (
            R (.returned (.bool false)) w
          ) (
            callW Try.prog (.func (.func 17) #[] #[]) [t40, (.int .i64 200)] w fun t113 w =>
            Join (fun (k_2 : World → Prop) =>
              condW t113 (
                callW Try.prog (.func (.func 20) #[] #[]) [t0, t1, t2, t40] w fun t119 w =>
                exQ t119 0 fun t120 =>
                exQ t119 1 fun t121 =>
                binQ Try.prog w .neq 26 true t121 (.int .i64 0) fun t123 =>
                gd t123 false (fun k => k t120 w) w fun t125 w =>
                gd t123 false (fun k => unQ .not t125 fun v => k v w) w fun t126 w =>
                pickQ t123 (.bool true) t126 fun t127 =>
                condW t127 (
                  R (.returned (.bool false)) w
                ) (
                  k_2 w
                )
              ) (
                k_2 w
              )
            ) fun w =>
            binQ Try.prog w .eql 3 true t2 (.int .i64 4) fun t129_2 =>
            condW t129_2 (
              binQ Try.prog w .eql 26 true t34 (.int .i64 10) fun t131_2 =>
              gd t131_2 true (fun k => callW Try.prog (.func (.func 18) #[] #[]) [] w k) w fun t133_2 w =>
              pickQ t131_2 t133_2 (.bool false) fun t134_2 =>
              R (.returned t134_2) w
            ) (
              binQ Try.prog w .add 3 true t2 (.int .i64 1) fun t139_2 =>
              callW Try.prog (.func (.func 27) #[] #[]) [t0, t1, t139_2] w fun t140_2 w =>
              exQ t140_2 0 fun t141_2 =>
              exQ t140_2 1 fun t142_2 =>
              binQ Try.prog w .eql 26 true t34 (.int .i64 10) fun t144_2 =>
              gd t144_2 true (fun k => k t142_2 w) w fun t146_2 w =>
              gd t144_2 true (fun k => binQ Try.prog w .eql 26 true t146_2 (.int .i64 10) fun v => k v w) w fun t147_2 w =>
              pickQ t144_2 t147_2 (.bool false) fun t148_2 =>
              gd t148_2 true (fun k => callW Try.prog (.func (.func 18) #[] #[]) [] w k) w fun t150_2 w =>
              pickQ t148_2 t150_2 (.bool false) fun t151_2 =>
              R (.returned t151_2) w
            )
          )
        )
      )
    )
  )

def A7 : Ann where
  live := fun _ => []
  wr := fun _ _ => false
  sched := fun _ => .done

set_option maxRecDepth 100000 in
theorem ok7 : (codeOk Try.f7.ntmps A7 (Try.f7.body.getD .skip) 0 && Nat.ble 4 Try.f7.ntmps) = true := by kernel_rfl
set_option maxRecDepth 100000 in
theorem lift7 {t0 t1 t2 t3 : Value} {w : World} {R : Ending → World → Prop} (h : S7 t0 t1 t2 t3 w R) : Calls Try.prog 7 #[t0, t1, t2, t3] w R :=
  calls_of_cw (fn := Try.f7) (c := Try.f7.body.getD .skip) A7 mixes Try.func7 (by kernel_rfl) ok7
    ((by kernel_rfl : (S7 t0 t1 t2 t3 w R) = cw Try.prog A7 (Try.f7.body.getD .skip) 0 (bodyQ Try.prog Try.f7 R) (frOf #[t0, t1, t2, t3]) w).mp h)

def S31 (t0 t1 t2 : Value) (w : World) (R : Ending → World → Prop) : Prop :=
  ln1 t0 fun t8 =>
  binQ Try.prog w .leq 3 true t8 (.int .i64 40) fun t9 =>
  gd t9 true (fun k => k t0 w) w fun t11 w =>
  gd t9 true (fun k => k t1 w) w fun t12 w =>
  gd t9 true (fun k => k t2 w) w fun t13 w =>
  gd t9 true (fun k => callW Try.prog (.func (.func 23) #[] #[]) [t11, t12, t13] w k) w fun t14 w =>
  gd t9 true (fun k => binQ Try.prog w .neq 26 true t14 (.int .i64 0) fun v => k v w) w fun t15 w =>
  gd t9 true (fun k => k t15 w) w fun t16 w =>
  gd t16 false (fun k => k t0 w) w fun t17 w =>
  gd t16 false (fun k => k t1 w) w fun t18 w =>
  gd t16 false (fun k => callW Try.prog (.func (.func 24) #[] #[]) [t17, t18] w k) w fun t19 w =>
  gd t16 false (fun k => binQ Try.prog w .leq 3 true t19 (.int .i64 60000) fun v => k v w) w fun t20 w =>
  gd t16 false (fun k => k t20 w) w fun t21 w =>
  gd t21 true (fun k => k t0 w) w fun t22 w =>
  gd t21 true (fun k => callW Try.prog (.func (.func 46) #[] #[]) [t22] w k) w fun t23 w =>
  gd t21 true (fun k => k t2 w) w fun t24 w =>
  gd t21 true (fun k => callW Try.prog (.func (.func 24) #[] #[]) [t23, t24] w k) w fun t25 w =>
  gd t21 true (fun k => binQ Try.prog w .leq 3 true t25 (.int .i64 60000) fun v => k v w) w fun t26 w =>
  gd t16 false (fun k => pickQ t21 t26 (.bool false) fun v => k v w) w fun t27 w =>
  gd t9 true (fun k => pickQ t16 (.bool true) t27 fun v => k v w) w fun t28 w =>
  pickQ t9 t28 (.bool false) fun t29 =>
  R (.returned t29) w

def A31 : Ann where
  live := fun _ => []
  wr := fun _ _ => false
  sched := fun _ => .done

set_option maxRecDepth 100000 in
theorem ok31 : (codeOk Try.f31.ntmps A31 (Try.f31.body.getD .skip) 0 && Nat.ble 3 Try.f31.ntmps) = true := by kernel_rfl
set_option maxRecDepth 100000 in
theorem lift31 {t0 t1 t2 : Value} {w : World} {R : Ending → World → Prop} (h : S31 t0 t1 t2 w R) : Calls Try.prog 31 #[t0, t1, t2] w R :=
  calls_of_cw (fn := Try.f31) (c := Try.f31.body.getD .skip) A31 mixes Try.func31 (by kernel_rfl) ok31
    ((by kernel_rfl : (S31 t0 t1 t2 w R) = cw Try.prog A31 (Try.f31.body.getD .skip) 0 (bodyQ Try.prog Try.f31 R) (frOf #[t0, t1, t2]) w).mp h)

def S46L0 (t0 : Value) (R : Ending → World → Prop) (w : World) : Prop :=
  Loop2 (.slice none 0 0) (.int .i64 0) w fun _ t3 t4 w next =>
    ln1 t0 fun t7 =>
    binQ Try.prog w .lss 3 false t4 t7 fun t8 =>
    condW t8 (
      Drew w fun w =>
      iaS 4 t0 t4 fun t14 =>
      fa1 t14 3 fun t15 =>
      ld1 w t15 fun t16 =>
      iaS 4 t0 t4 fun t19 =>
      fa1 t19 0 fun t20 =>
      ld1 w t20 fun t21 =>
      iaS 4 t0 t4 fun t24 =>
      fa1 t24 1 fun t25 =>
      ld1 w t25 fun t26 =>
      iaS 4 t0 t4 fun t29 =>
      fa1 t29 2 fun t30 =>
      ld1 w t30 fun t31 =>
      bdQ Try.prog 32 [(0, t16), (1, t21), (2, t26), (3, t31)] fun t32 =>
      bsW Try.prog 22 1 [(0, t32)] w <| keepB w fun t33 w =>
      semW Try.prog (apS [22, 22] 22 [t3, t33]) w fun t34 w =>
      binQ Try.prog w .add 3 true t4 (.int .i64 1) fun t10 =>
      next t34 t10 w
    ) (
      R (.returned t3) w
    )



def S46 (t0 : Value) (w : World) (R : Ending → World → Prop) : Prop :=
  S46L0 t0 R w

def A46 : Ann where
  live := fun
    | 0 => [3, 4]
    | _ => []
  wr := fun
    | 0 => fun i => (Nat.ble 3 i && Nat.ble i 34)
    | _ => fun _ => false
  sched := fun
    | 5 => (.take 0 (.take 1 (.take 2 (.take 3 (.take 4 (.take 5 (.take 6 (.take 7 (.take 8 (.take 9 (.take 10 (.take 11 (.take 12 (.take 13 (.take 14 (.take 15 (.take 16 (.take 17 (.take 18 (.take 19 (.take 20 (.take 21 (.eff 22 (.bar 23 (.take 24 .done)))))))))))))))))))))))))
    | _ => .done

set_option maxRecDepth 100000 in
theorem ok46 : (codeOk Try.f46.ntmps A46 (Try.f46.body.getD .skip) 0 && Nat.ble 1 Try.f46.ntmps) = true := by kernel_rfl
set_option maxRecDepth 100000 in
theorem lift46 {t0 : Value} {w : World} {R : Ending → World → Prop} (h : S46 t0 w R) : Calls Try.prog 46 #[t0] w R :=
  calls_of_cw (fn := Try.f46) (c := Try.f46.body.getD .skip) A46 mixes Try.func46 (by kernel_rfl) ok46
    ((by kernel_rfl : (S46 t0 w R) = cw Try.prog A46 (Try.f46.body.getD .skip) 0 (bodyQ Try.prog Try.f46 R) (frOf #[t0]) w).mp h)

theorem fok7 : fnOk Try.prog 7 = true := by kernel_rfl
theorem fok31 : fnOk Try.prog 31 = true := by kernel_rfl
theorem fok46 : fnOk Try.prog 46 = true := by kernel_rfl
end Go.Proofs.Ytgalbokmgffhkaa

/- Contracts: Turned of the specification, light of the statements. -/
namespace Go.Proofs.Ytgalbokmgffhkaa
open Go.Lf Go.RowKit Go.Wg

def turnT (t : Tile) : Tile := (tW t, tN t, tE t, tS t)
theorem turnT_inj {s t : Tile} (h : turnT s = turnT t) : s = t := by
  simp only [turnT, Prod.mk.injEq] at h
  exact Prod.ext h.2.1 (Prod.ext h.2.2.1 (Prod.ext h.2.2.2 h.1))
theorem turnT_cols {t : Tile} (h : colsB t = true) : colsB (turnT t) = true := by
  simp only [colsB, turnT, Bool.and_eq_true] at h ⊢
  exact ⟨⟨⟨h.2, h.1.1.1⟩, h.1.1.2⟩, h.1.2⟩
theorem turned_set {l : List Tile} (h : IsSet l) : IsSet (l.map turnT) := by
  refine ⟨by simpa using h.pos, by simpa using h.most, fun t ht => ?_, ?_⟩
  · obtain ⟨s, hs, rfl⟩ := List.mem_map.1 ht
    exact turnT_cols (h.cols s hs)
  · unfold List.Nodup
    rw [List.pairwise_map]
    exact List.Pairwise.imp (fun hne e => hne (turnT_inj e)) h.nodup

theorem bs22k (u : Tile) (w : World) (K : Value → World → Prop) : bsW Try.prog 22 1 [(0, tlV u)] w K = K (.slice (some ⟨w.heap.size, 0, none⟩) 1 1) (w.alloc (.cells (tlV u).cells 32)) := bs22 _ _ _ _ w K
theorem bdK (x y z u : Int) (K : Value → Prop) : bdQ Try.prog 32 [(0, .int .i64 x), (1, .int .i64 y), (2, .int .i64 z), (3, .int .i64 u)] K = K (tlV (x, y, z, u)) := by kernel_rfl
set_option maxRecDepth 100000 in
/-- append(out, tile), the tile's slice kept. -/
theorem r_pushKT {base : Nat} {w : World} {v : Value} {P : List Tile} {t : Tile} {K : Value → World → Prop} (h : TlAt base w v P) (hn : P.length + 1 ≤ 1000000) (hb : base ≤ w.heap.size)
    (hk : ∀ v' w', TlAt base w' v' (P ++ [t]) → Chg (fun k => v.ownBlock = some k) w w' → K v' w') :
    bsW Try.prog 22 1 [(0, tlV t)] w <| keepB w fun s w => semW Try.prog (apS [22, 22] 22 [v, s]) w K := by
  have := r_pushRec (x := t) (K := K) (ty := 22) slt22 tlC_len rfl (bs22 _ _ _ _ _) (tlC_one t) (by omega) h hn hb fun v' w' ho hc _ => hk v' w' ho hc
  rw [bs22k] at this ⊢
  exact ⟨below_alloc _, this⟩

set_option maxRecDepth 100000 in
theorem turned_calls {v : Value} {l : List Tile} (w : World) (hr : RdT w v l) (hl : l.length ≤ 100000) : Calls Try.prog 46 #[v] w fun e w' => ∃ v', e = .returned v' ∧ TlAt w.heap.size w' v' (l.map turnT) ∧ Kp w w' := by
  obtain ⟨va, vc, ev, _⟩ := hr.len
  have lnv : ∀ K : Value → Prop, ln1 v K = K (.int .i64 l.length) := fun K => by rw [ev]; rfl
  refine lift46 ?_
  unfold S46 S46L0
  refine ⟨fun t3 t4 wr => ∃ i : Nat, i ≤ l.length ∧ t4 = .int .i64 i ∧ TlAt w.heap.size wr t3 ((l.take i).map turnT) ∧ Kp w wr, fun _ t4 _ => l.length - (intOf t4).toNat, ⟨0, by omega, rfl, RecAt.nil, Kp.refl _⟩, ?_⟩
  rintro _ t3 _ wr ⟨i, hi, rfl, hT, kr⟩
  rw [lnv]
  by_cases hlt : i < l.length
  case neg =>
    have hlt' : ¬ (i : Int) < (l.length : Int) := by omega
    rw [List.take_of_length_le (by omega)] at hT
    simp (disch := omega) only [r_ln, r_pick, r_pickT, r_pickF, r_condT, r_condF, r_gdTT, r_gdFF, r_gdTF, r_gdFT, r_gqTT, r_gqFF, r_gqTF, r_gqFT, r_not, r_lss, r_leq, r_gtr, r_geq, r_eql, r_neq, r_add, r_sub, r_min2, r_max2, r_min3, r_max3, r_fa, r_iaS, r_iaA, r_ex2a, r_ex2b, r_ex3a, r_ex3b, r_ex3c, r_nc, r_keepE, Nat.zero_add, Nat.add_zero, Nat.mul_one, Int.toNat_natCast, toNat_sub1, toNat_add1, decide_true, decide_false, Bool.not_true, Bool.not_false, if_true, if_false, Bool.false_eq_true, reduceCtorEq, hlt']
    exact ⟨_, rfl, hT, kr⟩
  have hlt' : (i : Int) < (l.length : Int) := by omega
  simp (disch := omega) only [r_lss, decide_eq_true hlt', r_condT]
  refine r_drew fun w2 k2 _ => ?_
  have kr2 := Kp.trans kr k2
  obtain ⟨b, off, cap, e, _, hcell⟩ := (hr.kp kr2).at (List.getElem?_eq_getElem hlt)
  have hii : (i : Int).toNat = i := by omega
  have ia : ∀ K : Value → Prop, iaS 4 v (.int .i64 i) K = K (.pointer (some ⟨b, off + i * 4, none⟩)) := fun K => by rw [e, r_iaS _ _ _ _ _ _ _ (by omega) (by omega), hii]
  have hst : (l.take (i + 1)).map turnT = (l.take i).map turnT ++ [turnT l[i]] := by rw [take_succ' _ _ hlt, List.map_append]; rfl
  generalize l[i] = t at *
  have c0 : w2.cell? ⟨b, off + i * 4, none⟩ = some (.int .i64 (tN t)) := hcell 0 _ rfl
  have c1 : w2.cell? ⟨b, off + i * 4 + 1, none⟩ = some (.int .i64 (tE t)) := hcell 1 _ rfl
  have c2 : w2.cell? ⟨b, off + i * 4 + 2, none⟩ = some (.int .i64 (tS t)) := hcell 2 _ rfl
  have c3 : w2.cell? ⟨b, off + i * 4 + 3, none⟩ = some (.int .i64 (tW t)) := hcell 3 _ rfl
  have hbd : ∀ K : Value → Prop, bdQ Try.prog 32 [(0, .int .i64 (tW t)), (1, .int .i64 (tN t)), (2, .int .i64 (tE t)), (3, .int .i64 (tS t))] K = K (tlV (turnT t)) := fun K => bdK _ _ _ _ K
  simp (disch := omega) only [ia, r_fa, Nat.add_zero, r_ld c0, r_ld c1, r_ld c2, r_ld c3, hbd]
  have hT2 := hT.kp k2
  refine r_pushKT hT2 (by rw [List.length_map, List.length_take]; omega) kr2.size fun v' w' ho hc => ?_
  rw [r_add _ _ (by omega) (by omega)]
  refine ⟨⟨i + 1, by omega, by go_num, ?_, Kp.of_chg kr2 hc fun k e => (hT2.lt e).1⟩, by simp only [intOf]; omega⟩
  rw [hst]; exact ho

set_option maxRecDepth 100000 in
theorem light_calls {v : Value} {l : List Tile} (a b : Int) (w : World) (hr : RdT w v l) : Calls Try.prog 31 #[v, .int .i64 a, .int .i64 b] w fun e w' => e = .returned (.bool (decide (l.length ≤ 40))) ∧ Kp w w' := by
  have hr0 := hr
  obtain ⟨va, vcap, rfl, hvc⟩ := hr.len
  refine lift31 ?_
  unfold S31
  by_cases hl : (l.length : Int) ≤ 40
  case neg =>
    simp (disch := omega) only [r_ln, r_pick, r_pickT, r_pickF, r_condT, r_condF, r_gdTT, r_gdFF, r_gdTF, r_gdFT, r_gqTT, r_gqFF, r_gqTF, r_gqFT, r_not, r_lss, r_leq, r_gtr, r_geq, r_eql, r_neq, r_add, r_sub, r_min2, r_max2, r_min3, r_max3, r_fa, r_iaS, r_iaA, r_ex2a, r_ex2b, r_ex3a, r_ex3b, r_ex3c, r_nc, r_keepE, Nat.zero_add, Nat.add_zero, Nat.mul_one, Int.toNat_natCast, toNat_sub1, toNat_add1, decide_true, decide_false, Bool.not_true, Bool.not_false, if_true, if_false, Bool.false_eq_true, reduceCtorEq, hl, r_gdU]
    exact ⟨ret_bool (decide_eq_false (by omega)).symm, Kp.refl _⟩
  simp (disch := omega) only [r_ln, r_pick, r_pickT, r_pickF, r_condT, r_condF, r_gdTT, r_gdFF, r_gdTF, r_gdFT, r_gqTT, r_gqFF, r_gqTF, r_gqFT, r_not, r_lss, r_leq, r_gtr, r_geq, r_eql, r_neq, r_add, r_sub, r_min2, r_max2, r_min3, r_max3, r_fa, r_iaS, r_iaA, r_ex2a, r_ex2b, r_ex3a, r_ex3b, r_ex3c, r_nc, r_keepE, Nat.zero_add, Nat.add_zero, Nat.mul_one, Int.toNat_natCast, toNat_sub1, toNat_add1, decide_true, decide_false, Bool.not_true, Bool.not_false, if_true, if_false, Bool.false_eq_true, reduceCtorEq, decide_eq_true hl, r_gdU]
  refine r_use fok23 (order_calls a b w hr0) rfl ?_
  rintro _ w1 ⟨rfl, k1⟩
  refine ⟨_, rfl, ?_⟩
  have ht : decide (l.length ≤ 40) = true := decide_eq_true (by omega)
  have h20 : ¬ ((2 : Int) = 0) := by decide
  rcases ordErr_cases l a b with he | he
  case inr =>
    rw [he]
    simp (disch := omega) only [r_ln, r_pick, r_pickT, r_pickF, r_condT, r_condF, r_gdTT, r_gdFF, r_gdTF, r_gdFT, r_gqTT, r_gqFF, r_gqTF, r_gqFT, r_not, r_lss, r_leq, r_gtr, r_geq, r_eql, r_neq, r_add, r_sub, r_min2, r_max2, r_min3, r_max3, r_fa, r_iaS, r_iaA, r_ex2a, r_ex2b, r_ex3a, r_ex3b, r_ex3c, r_nc, r_keepE, Nat.zero_add, Nat.add_zero, Nat.mul_one, Int.toNat_natCast, toNat_sub1, toNat_add1, decide_true, decide_false, Bool.not_true, Bool.not_false, if_true, if_false, Bool.false_eq_true, reduceCtorEq, h20, r_gdU]
    exact ⟨by rw [ht], k1⟩
  obtain ⟨hs, W, H, rfl, rfl, hW, hH⟩ := ord_ok he
  have h00 : decide ((0 : Int) = 0) = true := rfl
  rw [he]
  simp (disch := omega) only [r_ln, r_pick, r_pickT, r_pickF, r_condT, r_condF, r_gdTT, r_gdFF, r_gdTF, r_gdFT, r_gqTT, r_gqFF, r_gqTF, r_gqFT, r_not, r_lss, r_leq, r_gtr, r_geq, r_eql, r_neq, r_add, r_sub, r_min2, r_max2, r_min3, r_max3, r_fa, r_iaS, r_iaA, r_ex2a, r_ex2b, r_ex3a, r_ex3b, r_ex3c, r_nc, r_keepE, Nat.zero_add, Nat.add_zero, Nat.mul_one, Int.toNat_natCast, toNat_sub1, toNat_add1, decide_true, decide_false, Bool.not_true, Bool.not_false, if_true, if_false, Bool.false_eq_true, reduceCtorEq, h00, r_gdU]
  have hal := allS_le (l := l) hW.2
  have hal2 := allS_le (l := l.map turnT) hH.2
  refine r_use fok24 (states_calls w1 (hr0.kp k1) hs hW.2) rfl ?_
  rintro _ w2 ⟨rfl, k2⟩
  refine ⟨_, rfl, ?_⟩
  have k02 := Kp.trans k1 k2
  have h1 : ((allS l W : Nat) : Int) ≤ 60000 := by omega
  simp (disch := omega) only [r_ln, r_pick, r_pickT, r_pickF, r_condT, r_condF, r_gdTT, r_gdFF, r_gdTF, r_gdFT, r_gqTT, r_gqFF, r_gqTF, r_gqFT, r_not, r_lss, r_leq, r_gtr, r_geq, r_eql, r_neq, r_add, r_sub, r_min2, r_max2, r_min3, r_max3, r_fa, r_iaS, r_iaA, r_ex2a, r_ex2b, r_ex3a, r_ex3b, r_ex3c, r_nc, r_keepE, Nat.zero_add, Nat.add_zero, Nat.mul_one, Int.toNat_natCast, toNat_sub1, toNat_add1, decide_true, decide_false, Bool.not_true, Bool.not_false, if_true, if_false, Bool.false_eq_true, reduceCtorEq, decide_eq_true h1, r_gdU]
  refine r_use fok46 (turned_calls w2 (hr0.kp k02) (by omega)) rfl ?_
  rintro _ w3 ⟨v3, rfl, o3, k3⟩
  refine ⟨_, rfl, ?_⟩
  try simp (disch := omega) only [r_ln, r_pick, r_pickT, r_pickF, r_condT, r_condF, r_gdTT, r_gdFF, r_gdTF, r_gdFT, r_gqTT, r_gqFF, r_gqTF, r_gqFT, r_not, r_lss, r_leq, r_gtr, r_geq, r_eql, r_neq, r_add, r_sub, r_min2, r_max2, r_min3, r_max3, r_fa, r_iaS, r_iaA, r_ex2a, r_ex2b, r_ex3a, r_ex3b, r_ex3c, r_nc, r_keepE, Nat.zero_add, Nat.add_zero, Nat.mul_one, Int.toNat_natCast, toNat_sub1, toNat_add1, decide_true, decide_false, Bool.not_true, Bool.not_false, if_true, if_false, Bool.false_eq_true, reduceCtorEq, r_gdU]
  refine r_use fok24 (states_calls w3 (o3.rd tlC_len) (turned_set hs) hH.2) rfl ?_
  rintro _ w4 ⟨rfl, k4⟩
  refine ⟨_, rfl, ?_⟩
  have h2 : ((allS (l.map turnT) H : Nat) : Int) ≤ 60000 := by omega
  simp (disch := omega) only [r_ln, r_pick, r_pickT, r_pickF, r_condT, r_condF, r_gdTT, r_gdFF, r_gdTF, r_gdFT, r_gqTT, r_gqFF, r_gqTF, r_gqFT, r_not, r_lss, r_leq, r_gtr, r_geq, r_eql, r_neq, r_add, r_sub, r_min2, r_max2, r_min3, r_max3, r_fa, r_iaS, r_iaA, r_ex2a, r_ex2b, r_ex3a, r_ex3b, r_ex3c, r_nc, r_keepE, Nat.zero_add, Nat.add_zero, Nat.mul_one, Int.toNat_natCast, toNat_sub1, toNat_add1, decide_true, decide_false, Bool.not_true, Bool.not_false, if_true, if_false, Bool.false_eq_true, reduceCtorEq, decide_eq_true h2, r_gdU]
  exact ⟨by rw [ht], Kp.trans k02 (Kp.trans k3 k4)⟩

end Go.Proofs.Ytgalbokmgffhkaa

/- Contracts: Least of the program, Two and Smallest of the specification; WangLeast. -/
namespace Go.Proofs.Ytgalbokmgffhkaa
open Go.Lf Go.RowKit Go.Wg

/-- Is a closed board of so many cells and this width there? -/
def leastP (l : List Tile) (A w : Nat) : Bool := decide (A / w * w = A) && decide (A / w ≤ 4) && decide (0 < closedV l w (A / w))
/-- The least width, less one. -/
def findW (l : List Tile) (A : Nat) : Option Nat := (List.range 4).find? fun i => leastP l A (i + 1)
/-- The measures of the least closed board. -/
def leastM (l : List Tile) : Option (Nat × Nat) := (List.range 16).findSome? fun a => (findW l (a + 1)).map fun i => (i + 1, (a + 1) / (i + 1))
def leastV (l : List Tile) : Value := if setB l = true then (match leastM l with
  | some m => .tuple #[.int .i64 m.1, .int .i64 m.2, .int .i64 0]
  | none => .tuple #[.int .i64 0, .int .i64 0, .int .i64 10]) else .tuple #[.int .i64 0, .int .i64 0, .int .i64 2]

theorem find_first {p : Nat → Bool} {n i : Nat} (hi : i < n) (h1 : ∀ j, j < i → p j = false) (h2 : p i = true) : (List.range n).find? p = some i := by
  rw [List.find?_range_eq_some]
  exact ⟨h2, List.mem_range.2 hi, fun j hj => by rw [h1 j hj]; rfl⟩
theorem find_none {p : Nat → Bool} {n : Nat} (h : ∀ j, j < n → p j = false) : (List.range n).find? p = none := by
  rw [List.find?_eq_none]
  intro x hx hp
  rw [h x (List.mem_range.1 hx)] at hp
  cases hp
theorem findSome_first {α : Type} {f : Nat → Option α} {n i : Nat} {x : α} (hi : i < n) (h1 : ∀ j, j < i → f j = none) (h2 : f i = some x) : (List.range n).findSome? f = some x := by
  have e : List.range n = List.range i ++ i :: (List.range n).drop (i + 1) := by
    have h : (List.range n)[i]'(by simpa using hi) = i := List.getElem_range _
    have h3 := List.drop_eq_getElem_cons (l := List.range n) (i := i) (by simpa using hi)
    rw [h] at h3
    have h4 : (List.range n).take i = List.range i := by rw [List.take_range, Nat.min_eq_left (by omega)]
    rw [← h3, ← h4, List.take_append_drop]
  rw [e, List.findSome?_append, List.findSome?_cons, h2]
  have : (List.range i).findSome? f = none := by
    rw [List.findSome?_eq_none_iff]
    intro j hj
    exact h1 j (List.mem_range.1 hj)
  rw [this]; rfl
theorem findSome_none {α : Type} {f : Nat → Option α} {n : Nat} (h : ∀ j, j < n → f j = none) : (List.range n).findSome? f = none := by
  rw [List.findSome?_eq_none_iff]
  intro j hj
  exact h j (List.mem_range.1 hj)

set_option maxRecDepth 100000 in
set_option maxHeartbeats 1000000 in
theorem r37_1 {sv t6 : Value} {l : List Tile} {a : Nat} {w0 w : World} {next : Value → Value → Value → World → Prop} {k : Value → Value → World → Prop} (hs : IsSet l) (hr : RdT w0 sv l) (ha : a < 16) (hk0 : Kp w0 w)
    (hf : ∀ i w', findW l (a + 1) = some i → i < 4 → Kp w0 w' → k (.int .i64 ((i + 1 : Nat) : Int)) (.int .i64 (((a + 1) / (i + 1) : Nat) : Int)) w')
    (hn : ∀ t w', findW l (a + 1) = none → Kp w0 w' → next (.int .i64 5) t (.int .i64 (((a + 1 : Nat) : Int) + 1)) w') : S37L1 sv t6 (.int .i64 (a + 1 : Nat)) next k w := by
  unfold S37L1
  refine ⟨fun t5 _ wr => ∃ i : Nat, i ≤ 4 ∧ t5 = .int .i64 (i + 1 : Nat) ∧ (∀ j, j < i → leastP l (a + 1) (j + 1) = false) ∧ Kp w0 wr, fun t5 _ _ => 5 - (intOf t5).toNat, ⟨0, by omega, rfl, fun j hj => by omega, hk0⟩, ?_⟩
  rintro _ _ _ wr ⟨i, hi, rfl, hno, kr⟩
  by_cases hlt : i < 4
  case neg =>
    have hlt' : ¬ ((i + 1 : Nat) : Int) ≤ 4 := by omega
    have ei : i = 4 := by omega
    subst ei
    simp only [r_leq, hlt', decide_false, r_condF]
    rw [r_add _ _ (by omega) (by omega)]
    exact hn _ wr (find_none hno) kr
  have hlt' : ((i + 1 : Nat) : Int) ≤ 4 := by omega
  have hdm : (a + 1) / (i + 1) * (i + 1) ≤ a + 1 := Nat.div_mul_le_self _ _
  have hdl : (a + 1) / (i + 1) ≤ a + 1 := Nat.div_le_self _ _
  simp only [r_leq, decide_eq_true hlt', r_condT]
  rw [r_quoN _ _ (by omega) (by omega), r_mulN _ _ (by omega)]
  have skip : leastP l (a + 1) (i + 1) = false → ∀ (w' : World) (t : Value), Kp w0 w' → (∃ i_1 : Nat, i_1 ≤ 4 ∧ Value.int .i64 (((i + 1 : Nat) : Int) + 1) = .int .i64 (i_1 + 1 : Nat) ∧ (∀ j, j < i_1 → leastP l (a + 1) (j + 1) = false) ∧ Kp w0 w') ∧ 5 - (intOf (.int .i64 (((i + 1 : Nat) : Int) + 1))).toNat < 5 - (intOf (.int .i64 ((i + 1 : Nat) : Int))).toNat := fun hf' w' _ k' =>
    ⟨⟨i + 1, by omega, by go_num, fun j hj => by
      by_cases e : j = i
      · subst e; exact hf'
      · exact hno j (by omega), k'⟩, by simp only [intOf]; omega⟩
  by_cases g1 : (a + 1) / (i + 1) * (i + 1) = a + 1
  case neg =>
    have g1' : ¬ (((a + 1) / (i + 1) * (i + 1) : Nat) : Int) = ((a + 1 : Nat) : Int) := by omega
    simp only [r_eql, g1', decide_false, r_gdFT, r_gdU, r_pickF, r_condF]
    rw [r_add _ _ (by omega) (by omega)]
    exact skip (by rw [leastP, decide_eq_false g1]; rfl) wr (.int .i64 0) kr
  have g1' : (((a + 1) / (i + 1) * (i + 1) : Nat) : Int) = ((a + 1 : Nat) : Int) := by omega
  have hpos : 1 ≤ (a + 1) / (i + 1) := by
    refine Nat.pos_of_ne_zero fun h => ?_
    rw [h] at g1; omega
  simp only [r_eql, decide_eq_true g1', r_gdTT]
  refine r_use fok66 (side_calls _ wr) rfl ?_
  rintro _ _ ⟨rfl, rfl⟩
  refine ⟨_, rfl, ?_⟩
  by_cases g2 : (a + 1) / (i + 1) ≤ 4
  case neg =>
    have hsd : sideB ((((a + 1) / (i + 1) : Nat)) : Int) = false := by unfold sideB; exact decide_eq_false (by omega)
    rw [hsd]
    simp only [r_pickT, r_gdFT, r_gdU, r_pickF, r_condF]
    rw [r_add _ _ (by omega) (by omega)]
    exact skip (by rw [leastP, decide_eq_false g2, Bool.and_false]; rfl) wr (.int .i64 0) kr
  have hsd : sideB ((((a + 1) / (i + 1) : Nat)) : Int) = true := by unfold sideB; exact decide_eq_true (by omega)
  rw [hsd]
  simp only [r_pickT, r_gdTT]
  refine r_use fok86 (closed86_calls hs (W := i + 1) (h := (a + 1) / (i + 1)) (by omega) g2 wr (hr.kp kr)) rfl ?_
  rintro _ w2 ⟨rfl, k2⟩
  refine ⟨_, rfl, ?_⟩
  rw [closed_both hs (by omega) (by omega)]
  have k02 := Kp.trans kr k2
  have eP : leastP l (a + 1) (i + 1) = decide (0 < closedV l (i + 1) ((a + 1) / (i + 1))) := by
    rw [leastP, decide_eq_true g1, decide_eq_true g2]; rfl
  by_cases g3 : 0 < closedV l (i + 1) ((a + 1) / (i + 1))
  · simp only [r_gtr, decide_eq_true g3, r_pickT, r_condT]
    exact hf i w2 (find_first hlt hno (by rw [eP, decide_eq_true g3])) hlt k02
  · simp only [r_gtr, g3, decide_false, r_pickT, r_condF]
    rw [r_add _ _ (by omega) (by omega)]
    exact skip (by rw [eP, decide_eq_false g3]) w2 (.int .i64 0) k02

set_option maxRecDepth 100000 in
theorem least_calls {sv : Value} {l : List Tile} (w : World) (hr : RdT w sv l) : Calls Try.prog 37 #[sv] w fun e w' => e = .returned (leastV l) ∧ Kp w w' := by
  refine lift37 ?_
  unfold S37
  refine r_use fok65 (valid_calls w hr) rfl ?_
  rintro _ w1 ⟨rfl, k1⟩
  refine ⟨_, rfl, ?_⟩
  unfold leastV
  cases hset : setB l with
  | false =>
    simp only [r_not, Bool.not_false, r_condT]
    exact ⟨by first | rfl | trivial, k1⟩
  | true =>
  have hs := isSet_of hset
  simp only [r_not, Bool.not_true, r_condF]
  refine r_join2 (fun p q w' => Kp w w' ∧ ((∃ i m : Nat, i < 4 ∧ p = .int .i64 ((i + 1 : Nat) : Int) ∧ q = .int .i64 (m : Nat) ∧ leastM l = some (i + 1, m)) ∨ (p = .int .i64 5 ∧ leastM l = none))) ?_ fun k' hk' => ?_
  · rintro p q w' ⟨kw, ⟨i, m, hi, rfl, rfl, hm⟩ | ⟨rfl, hm⟩⟩
    · have h4 : ¬ (4 : Int) < ((i + 1 : Nat) : Int) := by omega
      rw [hm]
      simp only [r_gtr, h4, decide_false, r_condF]
      exact ⟨by first | rfl | trivial, kw⟩
    · rw [hm]
      simp only [r_ln, r_pick, r_pickT, r_pickF, r_condT, r_condF, r_gdTT, r_gdFF, r_gdTF, r_gdFT, r_gqTT, r_gqFF, r_gqTF, r_gqFT, r_not, r_lss, r_leq, r_gtr, r_geq, r_eql, r_neq, r_add, r_sub, r_min2, r_max2, r_min3, r_max3, r_fa, r_iaS, r_iaA, r_ex2a, r_ex2b, r_ex3a, r_ex3b, r_ex3c, r_nc, r_keepE, Nat.zero_add, Nat.add_zero, Nat.mul_one, Int.toNat_natCast, toNat_sub1, toNat_add1, decide_true, decide_false, Bool.not_true, Bool.not_false, if_true, if_false, Bool.false_eq_true, reduceCtorEq]
      exact ⟨by first | rfl | trivial, kw⟩
  unfold S37L0
  refine ⟨fun t5 t6 t7 wr => ∃ a : Nat, a ≤ 16 ∧ t7 = .int .i64 ((a + 1 : Nat) : Int) ∧ (∀ j, j < a → findW l (j + 1) = none) ∧ (a = 0 ∨ t5 = .int .i64 5) ∧ Kp w wr, fun _ _ t7 _ => 17 - (intOf t7).toNat, ⟨0, by omega, rfl, fun j hj => by omega, .inl rfl, k1⟩, ?_⟩
  rintro _ t5 t6 _ wr ⟨a, ha, rfl, hno, h5, kr⟩
  by_cases hlt : a < 16
  case neg =>
    have hlt' : ¬ ((a + 1 : Nat) : Int) ≤ 16 := by omega
    have ea : a = 16 := by omega
    subst ea
    simp only [r_leq, hlt', decide_false, r_condF]
    refine hk' _ _ _ ⟨kr, .inr ⟨h5.resolve_left (by omega), findSome_none fun j hj => by rw [hno j hj]; rfl⟩⟩
  have hlt' : ((a + 1 : Nat) : Int) ≤ 16 := by omega
  simp only [r_leq, decide_eq_true hlt', r_condT]
  refine r37_1 hs hr hlt kr (fun i w' hf hi k2 => ?_) fun t w' hf k2 => ?_
  · exact hk' _ _ _ ⟨k2, .inl ⟨i, _, hi, rfl, rfl, findSome_first hlt (fun j hj => by rw [hno j hj]; rfl) (by rw [hf]; rfl)⟩⟩
  · refine ⟨⟨a + 1, by omega, by go_num, fun j hj => ?_, .inr rfl, k2⟩, by simp only [intOf]; omega⟩
    by_cases e : j = a
    · subst e; exact hf
    · exact hno j (by omega)

/-! ### the specification -/
theorem closeV_pos (l : List Tile) (he : ∀ a b : Int, ordErr l a b = ordErr l a b) : True := trivial

set_option maxRecDepth 100000 in
theorem two_calls {sv : Value} {l : List Tile} (w : World) (hr : RdT w sv l) (hl : l.length ≤ 1000) : Calls Try.prog 36 #[sv] w fun e w' => ∃ b : Bool, e = .returned (.bool b) ∧ Kp w w' := by
  refine lift36 ?_
  unfold S36
  refine r_use fok70 (lines_calls w hr hl) rfl ?_
  rintro _ w1 ⟨lv, rfl, o1, k1⟩
  refine ⟨_, rfl, ?_⟩
  obtain ⟨la, lc, rfl, _⟩ := o1.len
  by_cases h : ((lineL l).length : Int) ≤ 2
  · simp only [r_ln, r_leq, decide_eq_true h, r_gdTT]
    refine r_use fok46 (turned_calls w1 (hr.kp k1) (by omega)) rfl ?_
    rintro _ w2 ⟨tv, rfl, o2, k2⟩
    refine ⟨_, rfl, ?_⟩
    refine r_use fok70 (lines_calls w2 (o2.rd tlC_len) (by rw [List.length_map]; exact hl)) rfl ?_
    rintro _ w3 ⟨lv3, rfl, o3, k3⟩
    refine ⟨_, rfl, ?_⟩
    obtain ⟨la3, lc3, rfl, _⟩ := o3.len
    simp only [r_ln, r_leq, r_pickT]
    exact ⟨_, rfl, Kp.trans k1 (Kp.trans k2 k3)⟩
  · simp only [r_ln, r_leq, h, decide_false, r_gdFT, r_gdU, r_pickF]
    exact ⟨_, rfl, k1⟩

set_option maxRecDepth 100000 in
set_option maxHeartbeats 1000000 in
theorem r38_1 {sv : Value} {l : List Tile} {a : Nat} {w0 w : World} {next : Value → World → Prop} {R : Ending → World → Prop} (hs : IsSet l) (hset : setB l = true) (hr : RdT w0 sv l) (ha : a < 16) (hk0 : Kp w0 w)
    (hf : ∀ i w', findW l (a + 1) = some i → Kp w0 w' → R (.returned (.tuple #[.int .i64 ((i + 1 : Nat) : Int), .int .i64 (((a + 1) / (i + 1) : Nat) : Int), .int .i64 0])) w')
    (hn : ∀ w', findW l (a + 1) = none → Kp w0 w' → next (.int .i64 (((a + 1 : Nat) : Int) + 1)) w') : S38L1 sv (.int .i64 (a + 1 : Nat)) next R w := by
  unfold S38L1
  refine ⟨fun t6 wr => ∃ i : Nat, i ≤ 4 ∧ t6 = .int .i64 (i + 1 : Nat) ∧ (∀ j, j < i → leastP l (a + 1) (j + 1) = false) ∧ Kp w0 wr, fun t6 _ => 5 - (intOf t6).toNat, ⟨0, by omega, rfl, fun j hj => by omega, hk0⟩, ?_⟩
  rintro _ _ wr ⟨i, hi, rfl, hno, kr⟩
  by_cases hlt : i < 4
  case neg =>
    have hlt' : ¬ ((i + 1 : Nat) : Int) ≤ 4 := by omega
    have ei : i = 4 := by omega
    subst ei
    simp only [r_leq, hlt', decide_false, r_condF]
    rw [r_add _ _ (by omega) (by omega)]
    exact hn wr (find_none hno) kr
  have hlt' : ((i + 1 : Nat) : Int) ≤ 4 := by omega
  have hdl : (a + 1) / (i + 1) ≤ a + 1 := Nat.div_le_self _ _
  have hdm := Nat.div_add_mod (a + 1) (i + 1)
  simp only [r_leq, decide_eq_true hlt', r_condT]
  refine r_join0 (fun w' => leastP l (a + 1) (i + 1) = false ∧ Kp w0 w') ?_ fun k' hk' => ?_
  · rintro w' ⟨hp, k2⟩
    rw [r_add _ _ (by omega) (by omega)]
    exact ⟨⟨i + 1, by omega, by go_num, fun j hj => by
      by_cases e : j = i
      · subst e; exact hp
      · exact hno j (by omega), k2⟩, by simp only [intOf]; omega⟩
  rw [r_remN _ _ (by omega)]
  by_cases g1 : (a + 1) % (i + 1) = 0
  case neg =>
    have g1' : ¬ (((a + 1) % (i + 1) : Nat) : Int) = 0 := by omega
    simp only [r_neq, g1', decide_false, Bool.not_false, r_gdTF, r_gdU, r_pickT, r_condT]
    refine hk' _ ⟨?_, kr⟩
    rw [leastP, decide_eq_false (by rw [Nat.mul_comm]; omega)]; rfl
  have g1' : (((a + 1) % (i + 1) : Nat) : Int) = 0 := by omega
  have g0 : (a + 1) / (i + 1) * (i + 1) = a + 1 := by rw [Nat.mul_comm]; omega
  have hpos : 1 ≤ (a + 1) / (i + 1) := by
    refine Nat.pos_of_ne_zero fun h => ?_
    rw [h] at g0; omega
  simp only [r_neq, decide_eq_true g1', Bool.not_true, r_gdFF]
  rw [r_quoN _ _ (by omega) (by omega)]
  by_cases g2 : (a + 1) / (i + 1) ≤ 4
  case neg =>
    have g2' : (4 : Int) < (((a + 1) / (i + 1) : Nat) : Int) := by omega
    simp only [r_gtr, decide_eq_true g2', r_pickF, r_condT]
    refine hk' _ ⟨?_, kr⟩
    rw [leastP, decide_eq_false g2, Bool.and_false]; rfl
  have g2' : ¬ (4 : Int) < (((a + 1) / (i + 1) : Nat) : Int) := by omega
  simp only [r_gtr, g2', decide_false, r_pickF, r_condF]
  rw [r_quoN _ _ (by omega) (by omega)]
  refine r_use fok34 (refclosed_calls ((i + 1 : Nat) : Int) (((a + 1) / (i + 1) : Nat) : Int) wr (hr.kp kr)) rfl ?_
  rintro _ w2 ⟨rfl, k2⟩
  refine ⟨_, rfl, ?_⟩
  have k02 := Kp.trans kr k2
  have he : ordErr l ((i + 1 : Nat) : Int) (((a + 1) / (i + 1) : Nat) : Int) = 0 := by
    unfold ordErr
    rw [if_pos ⟨hset, by unfold sideB; exact decide_eq_true (by omega), by unfold sideB; exact decide_eq_true (by omega)⟩]
  have eP : leastP l (a + 1) (i + 1) = decide (0 < closedV l (i + 1) ((a + 1) / (i + 1))) := by
    rw [leastP, decide_eq_true g0, decide_eq_true g2]; rfl
  have fin : 0 < closedV l (i + 1) ((a + 1) / (i + 1)) → R (.returned (.tuple #[.int .i64 ((i + 1 : Nat) : Int), .int .i64 (((a + 1) / (i + 1) : Nat) : Int), .int .i64 0])) w2 := fun h =>
    hf i w2 (find_first hlt hno (by rw [eP, decide_eq_true h])) k02
  have fin2 : 0 < closedV l (i + 1) ((a + 1) / (i + 1)) → Drew w2 fun w => binQ Try.prog w .quo 3 false (.int .i64 (a + 1 : Nat)) (.int .i64 (i + 1 : Nat)) fun t48 => R (.returned (.tuple #[.int .i64 ((i + 1 : Nat) : Int), t48, .int .i64 0])) w := fun h => by
    refine r_drew fun w3 k3 _ => ?_
    rw [r_quoN _ _ (by omega) (by omega)]
    exact hf i w3 (find_first hlt hno (by rw [eP, decide_eq_true h])) (Kp.trans k02 k3)
  rw [closeV, if_pos he, limV]
  simp only [Int.toNat_natCast]
  by_cases g3 : (1099511627776 : Int) < closedV l (i + 1) ((a + 1) / (i + 1))
  · rw [if_pos g3]
    simp (disch := omega) only [r_ln, r_pick, r_pickT, r_pickF, r_condT, r_condF, r_gdTT, r_gdFF, r_gdTF, r_gdFT, r_gqTT, r_gqFF, r_gqTF, r_gqFT, r_not, r_lss, r_leq, r_gtr, r_geq, r_eql, r_neq, r_add, r_sub, r_min2, r_max2, r_min3, r_max3, r_fa, r_iaS, r_iaA, r_ex2a, r_ex2b, r_ex3a, r_ex3b, r_ex3c, r_nc, r_keepE, Nat.zero_add, Nat.add_zero, Nat.mul_one, Int.toNat_natCast, toNat_sub1, toNat_add1, decide_true, decide_false, Bool.not_true, Bool.not_false, if_true, if_false, Bool.false_eq_true, reduceCtorEq, r_gdU]
    exact fin2 (by omega)
  rw [if_neg g3]
  by_cases g4 : 0 < closedV l (i + 1) ((a + 1) / (i + 1))
  · simp (disch := omega) only [r_ln, r_pick, r_pickT, r_pickF, r_condT, r_condF, r_gdTT, r_gdFF, r_gdTF, r_gdFT, r_gqTT, r_gqFF, r_gqTF, r_gqFT, r_not, r_lss, r_leq, r_gtr, r_geq, r_eql, r_neq, r_add, r_sub, r_min2, r_max2, r_min3, r_max3, r_fa, r_iaS, r_iaA, r_ex2a, r_ex2b, r_ex3a, r_ex3b, r_ex3c, r_nc, r_keepE, Nat.zero_add, Nat.add_zero, Nat.mul_one, Int.toNat_natCast, toNat_sub1, toNat_add1, decide_true, decide_false, Bool.not_true, Bool.not_false, if_true, if_false, Bool.false_eq_true, reduceCtorEq, decide_eq_true g4, r_gdU]
    exact fin2 g4
  · simp (disch := omega) only [r_ln, r_pick, r_pickT, r_pickF, r_condT, r_condF, r_gdTT, r_gdFF, r_gdTF, r_gdFT, r_gqTT, r_gqFF, r_gqTF, r_gqFT, r_not, r_lss, r_leq, r_gtr, r_geq, r_eql, r_neq, r_add, r_sub, r_min2, r_max2, r_min3, r_max3, r_fa, r_iaS, r_iaA, r_ex2a, r_ex2b, r_ex3a, r_ex3b, r_ex3c, r_nc, r_keepE, Nat.zero_add, Nat.add_zero, Nat.mul_one, Int.toNat_natCast, toNat_sub1, toNat_add1, decide_true, decide_false, Bool.not_true, Bool.not_false, if_true, if_false, Bool.false_eq_true, reduceCtorEq, g4, r_gdU]
    exact hk' _ ⟨by rw [eP, decide_eq_false g4], k02⟩

set_option maxRecDepth 100000 in
theorem smallest_calls {sv : Value} {l : List Tile} (w : World) (hr : RdT w sv l) : Calls Try.prog 38 #[sv] w fun e w' => e = .returned (leastV l) ∧ Kp w w' := by
  refine lift38 ?_
  unfold S38
  refine r_use fok35 (refset_calls w hr) rfl ?_
  rintro _ w1 ⟨rfl, k1⟩
  refine ⟨_, rfl, ?_⟩
  unfold leastV
  cases hset : setB l with
  | false =>
    simp only [r_not, Bool.not_false, r_condT]
    exact ⟨by first | rfl | trivial, k1⟩
  | true =>
  have hs := isSet_of hset
  simp only [r_not, Bool.not_true, r_condF]
  unfold S38L0
  refine ⟨fun t5 wr => ∃ a : Nat, a ≤ 16 ∧ t5 = .int .i64 ((a + 1 : Nat) : Int) ∧ (∀ j, j < a → findW l (j + 1) = none) ∧ Kp w wr, fun t5 _ => 17 - (intOf t5).toNat, ⟨0, by omega, rfl, fun j hj => by omega, k1⟩, ?_⟩
  rintro _ _ wr ⟨a, ha, rfl, hno, kr⟩
  by_cases hlt : a < 16
  case neg =>
    have hlt' : ¬ ((a + 1 : Nat) : Int) ≤ 16 := by omega
    have ea : a = 16 := by omega
    subst ea
    simp only [r_leq, hlt', decide_false, r_condF]
    have hm : leastM l = none := findSome_none fun j hj => by rw [hno j hj]; rfl
    rw [hm]
    exact ⟨by first | rfl | trivial, kr⟩
  have hlt' : ((a + 1 : Nat) : Int) ≤ 16 := by omega
  simp only [r_leq, decide_eq_true hlt', r_condT]
  refine r38_1 hs hset hr hlt kr (fun i w' hf k2 => ?_) fun w' hf k2 => ?_
  · have hm : leastM l = some (i + 1, (a + 1) / (i + 1)) := findSome_first hlt (fun j hj => by rw [hno j hj]; rfl) (by rw [hf]; rfl)
    rw [hm]
    exact ⟨by first | rfl | trivial, k2⟩
  · refine ⟨⟨a + 1, by omega, by go_num, fun j hj => ?_, k2⟩, by simp only [intOf]; omega⟩
    by_cases e : j = a
    · subst e; exact hf
    · exact hno j (by omega)

theorem leastV_form (l : List Tile) : ∃ a b e : Int, leastV l = .tuple #[.int .i64 a, .int .i64 b, .int .i64 e] := by
  unfold leastV
  split
  · split
    · exact ⟨_, _, _, rfl⟩
    · exact ⟨_, _, _, rfl⟩
  · exact ⟨_, _, _, rfl⟩

set_option maxRecDepth 100000 in
theorem leasts_calls {v : Value} {l : List Tile} (w : World) (hr : RdT w v l) : Calls Try.prog 9 #[v] w fun e w' => e = .returned (.bool true) ∧ Kp w w' := by
  have hr0 := hr
  obtain ⟨va, vcap, rfl, hvc⟩ := hr.len
  refine lift9 ?_
  unfold S9
  have fin : ∀ (w' : World), Kp w w' → Calls Try.prog 18 #[] w' fun e w'' => e = .returned (.bool true) ∧ Kp w w'' := fun w' k => (law_alive w').mono fun e w'' h => ⟨h.1, Kp.trans k h.2⟩
  by_cases hl : (40 : Int) < (l.length : Int)
  · simp (disch := omega) only [r_ln, r_pick, r_pickT, r_pickF, r_condT, r_condF, r_gdTT, r_gdFF, r_gdTF, r_gdFT, r_gqTT, r_gqFF, r_gqTF, r_gqFT, r_not, r_lss, r_leq, r_gtr, r_geq, r_eql, r_neq, r_add, r_sub, r_min2, r_max2, r_min3, r_max3, r_fa, r_iaS, r_iaA, r_ex2a, r_ex2b, r_ex3a, r_ex3b, r_ex3c, r_nc, r_keepE, Nat.zero_add, Nat.add_zero, Nat.mul_one, Int.toNat_natCast, toNat_sub1, toNat_add1, decide_true, decide_false, Bool.not_true, Bool.not_false, if_true, if_false, Bool.false_eq_true, reduceCtorEq, decide_eq_true hl, r_gdU]
    refine r_use fok18 (fin w (Kp.refl _)) rfl ?_
    rintro _ w1 ⟨rfl, k1⟩
    exact ⟨_, rfl, by first | rfl | trivial, k1⟩
  simp (disch := omega) only [r_ln, r_pick, r_pickT, r_pickF, r_condT, r_condF, r_gdTT, r_gdFF, r_gdTF, r_gdFT, r_gqTT, r_gqFF, r_gqTF, r_gqFT, r_not, r_lss, r_leq, r_gtr, r_geq, r_eql, r_neq, r_add, r_sub, r_min2, r_max2, r_min3, r_max3, r_fa, r_iaS, r_iaA, r_ex2a, r_ex2b, r_ex3a, r_ex3b, r_ex3c, r_nc, r_keepE, Nat.zero_add, Nat.add_zero, Nat.mul_one, Int.toNat_natCast, toNat_sub1, toNat_add1, decide_true, decide_false, Bool.not_true, Bool.not_false, if_true, if_false, Bool.false_eq_true, reduceCtorEq, hl, r_gdU]
  refine r_use fok35 (refset_calls w hr0) rfl ?_
  rintro _ w1 ⟨rfl, k1⟩
  refine ⟨_, rfl, ?_⟩
  have hself : ∀ x : Int, decide (x = x) = true := fun x => decide_eq_true rfl
  have go : ∀ (w2 : World), Kp w w2 →
      callW Try.prog (.func (.func 37) #[] #[]) [.slice va l.length vcap] w2 fun t24 w =>
      exQ t24 0 fun t25 =>
      exQ t24 1 fun t26 =>
      exQ t24 2 fun t27 =>
      callW Try.prog (.func (.func 38) #[] #[]) [.slice va l.length vcap] w fun t30 w =>
      exQ t30 0 fun t31 =>
      exQ t30 1 fun t32 =>
      exQ t30 2 fun t33 =>
      binQ Try.prog w .eql 3 false t25 t31 fun t36 =>
      gd t36 true (fun k => k t26 w) w fun t38 w =>
      gd t36 true (fun k => k t32 w) w fun t39 w =>
      gd t36 true (fun k => binQ Try.prog w .eql 3 false t38 t39 fun v => k v w) w fun t40 w =>
      pickQ t36 t40 (.bool false) fun t41 =>
      gd t41 true (fun k => k t27 w) w fun t43 w =>
      gd t41 true (fun k => k t33 w) w fun t44 w =>
      gd t41 true (fun k => binQ Try.prog w .eql 26 false t43 t44 fun v => k v w) w fun t45 w =>
      pickQ t41 t45 (.bool false) fun t46 =>
      gd t46 true (fun k => callW Try.prog (.func (.func 18) #[] #[]) [] w k) w fun t48 w =>
      pickQ t46 t48 (.bool false) fun t49 =>
      (Ending.returned t49 = .returned (.bool true) ∧ Kp _ w) := fun w2 k2 => by
    obtain ⟨a, b, e, hv⟩ := leastV_form l
    refine r_use fok37 (least_calls w2 (hr0.kp k2)) rfl ?_
    rintro _ w3 ⟨rfl, k3⟩
    refine ⟨_, rfl, ?_⟩
    have k03 := Kp.trans k2 k3
    rw [hv]
    simp (disch := omega) only [r_ln, r_pick, r_pickT, r_pickF, r_condT, r_condF, r_gdTT, r_gdFF, r_gdTF, r_gdFT, r_gqTT, r_gqFF, r_gqTF, r_gqFT, r_not, r_lss, r_leq, r_gtr, r_geq, r_eql, r_neq, r_add, r_sub, r_min2, r_max2, r_min3, r_max3, r_fa, r_iaS, r_iaA, r_ex2a, r_ex2b, r_ex3a, r_ex3b, r_ex3c, r_nc, r_keepE, Nat.zero_add, Nat.add_zero, Nat.mul_one, Int.toNat_natCast, toNat_sub1, toNat_add1, decide_true, decide_false, Bool.not_true, Bool.not_false, if_true, if_false, Bool.false_eq_true, reduceCtorEq]
    refine r_use fok38 (smallest_calls w3 (hr0.kp k03)) rfl ?_
    rintro _ w4 ⟨rfl, k4⟩
    refine ⟨_, rfl, ?_⟩
    have k04 := Kp.trans k03 k4
    rw [hv]
    simp (disch := omega) only [r_ln, r_pick, r_pickT, r_pickF, r_condT, r_condF, r_gdTT, r_gdFF, r_gdTF, r_gdFT, r_gqTT, r_gqFF, r_gqTF, r_gqFT, r_not, r_lss, r_leq, r_gtr, r_geq, r_eql, r_neq, r_add, r_sub, r_min2, r_max2, r_min3, r_max3, r_fa, r_iaS, r_iaA, r_ex2a, r_ex2b, r_ex3a, r_ex3b, r_ex3c, r_nc, r_keepE, Nat.zero_add, Nat.add_zero, Nat.mul_one, Int.toNat_natCast, toNat_sub1, toNat_add1, decide_true, decide_false, Bool.not_true, Bool.not_false, if_true, if_false, Bool.false_eq_true, reduceCtorEq, hself]
    refine r_use fok18 (fin w4 k04) rfl ?_
    rintro _ w5 ⟨rfl, k5⟩
    refine ⟨_, rfl, ?_⟩
    simp (disch := omega) only [r_ln, r_pick, r_pickT, r_pickF, r_condT, r_condF, r_gdTT, r_gdFF, r_gdTF, r_gdFT, r_gqTT, r_gqFF, r_gqTF, r_gqFT, r_not, r_lss, r_leq, r_gtr, r_geq, r_eql, r_neq, r_add, r_sub, r_min2, r_max2, r_min3, r_max3, r_fa, r_iaS, r_iaA, r_ex2a, r_ex2b, r_ex3a, r_ex3b, r_ex3c, r_nc, r_keepE, Nat.zero_add, Nat.add_zero, Nat.mul_one, Int.toNat_natCast, toNat_sub1, toNat_add1, decide_true, decide_false, Bool.not_true, Bool.not_false, if_true, if_false, Bool.false_eq_true, reduceCtorEq]
    exact ⟨by first | rfl | trivial, k5⟩
  cases hset : setB l with
  | false =>
    simp (disch := omega) only [r_ln, r_pick, r_pickT, r_pickF, r_condT, r_condF, r_gdTT, r_gdFF, r_gdTF, r_gdFT, r_gqTT, r_gqFF, r_gqTF, r_gqFT, r_not, r_lss, r_leq, r_gtr, r_geq, r_eql, r_neq, r_add, r_sub, r_min2, r_max2, r_min3, r_max3, r_fa, r_iaS, r_iaA, r_ex2a, r_ex2b, r_ex3a, r_ex3b, r_ex3c, r_nc, r_keepE, Nat.zero_add, Nat.add_zero, Nat.mul_one, Int.toNat_natCast, toNat_sub1, toNat_add1, decide_true, decide_false, Bool.not_true, Bool.not_false, if_true, if_false, Bool.false_eq_true, reduceCtorEq, r_gdU]
    exact go w1 k1
  | true =>
    simp (disch := omega) only [r_ln, r_pick, r_pickT, r_pickF, r_condT, r_condF, r_gdTT, r_gdFF, r_gdTF, r_gdFT, r_gqTT, r_gqFF, r_gqTF, r_gqFT, r_not, r_lss, r_leq, r_gtr, r_geq, r_eql, r_neq, r_add, r_sub, r_min2, r_max2, r_min3, r_max3, r_fa, r_iaS, r_iaA, r_ex2a, r_ex2b, r_ex3a, r_ex3b, r_ex3c, r_nc, r_keepE, Nat.zero_add, Nat.add_zero, Nat.mul_one, Int.toNat_natCast, toNat_sub1, toNat_add1, decide_true, decide_false, Bool.not_true, Bool.not_false, if_true, if_false, Bool.false_eq_true, reduceCtorEq, r_gdU]
    refine r_use fok36 (two_calls w1 (hr0.kp k1) (by omega)) rfl ?_
    rintro _ w2 ⟨b, rfl, k2⟩
    refine ⟨_, rfl, ?_⟩
    have k02 := Kp.trans k1 k2
    cases b with
    | false =>
      simp (disch := omega) only [r_ln, r_pick, r_pickT, r_pickF, r_condT, r_condF, r_gdTT, r_gdFF, r_gdTF, r_gdFT, r_gqTT, r_gqFF, r_gqTF, r_gqFT, r_not, r_lss, r_leq, r_gtr, r_geq, r_eql, r_neq, r_add, r_sub, r_min2, r_max2, r_min3, r_max3, r_fa, r_iaS, r_iaA, r_ex2a, r_ex2b, r_ex3a, r_ex3b, r_ex3c, r_nc, r_keepE, Nat.zero_add, Nat.add_zero, Nat.mul_one, Int.toNat_natCast, toNat_sub1, toNat_add1, decide_true, decide_false, Bool.not_true, Bool.not_false, if_true, if_false, Bool.false_eq_true, reduceCtorEq, r_gdU]
      refine r_use fok18 (fin w2 k02) rfl ?_
      rintro _ w3 ⟨rfl, k3⟩
      exact ⟨_, rfl, by first | rfl | trivial, k3⟩
    | true =>
      simp (disch := omega) only [r_ln, r_pick, r_pickT, r_pickF, r_condT, r_condF, r_gdTT, r_gdFF, r_gdTF, r_gdFT, r_gqTT, r_gqFF, r_gqTF, r_gqFT, r_not, r_lss, r_leq, r_gtr, r_geq, r_eql, r_neq, r_add, r_sub, r_min2, r_max2, r_min3, r_max3, r_fa, r_iaS, r_iaA, r_ex2a, r_ex2b, r_ex3a, r_ex3b, r_ex3c, r_nc, r_keepE, Nat.zero_add, Nat.add_zero, Nat.mul_one, Int.toNat_natCast, toNat_sub1, toNat_add1, decide_true, decide_false, Bool.not_true, Bool.not_false, if_true, if_false, Bool.false_eq_true, reduceCtorEq, r_gdU]
      exact go w2 k02

end Go.Proofs.Ytgalbokmgffhkaa
