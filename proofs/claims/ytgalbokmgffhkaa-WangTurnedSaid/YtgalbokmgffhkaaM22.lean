/- Texts of my own, merged by program: Sk K2 Se. -/
import Derived.Test.YtgalbokmgffhkaaM03
import Derived.Test.YtgalbokmgffhkaaM17
set_option linter.all false
/- Lifted texts, printed by program (gen.py): what each function's code asks. The ties are by the kernel. -/
namespace Go.Proofs.Ytgalbokmgffhkaa
open Go.Lf Go.RowKit

def S7 (t0 t1 t2 t3 : Value) (w : World) (R : Ending → World → Prop) : Prop :=
  callW Try.prog (.func (.func 31) #[] #[]) [t0, t1, t2] w fun t20 w =>
  unQ .not t20 fun t21 =>
  gd t21 false (fun k => k t3 w) w fun t23 w =>
  gd t21 false (fun k => callW Try.prog (.func (.func 17) #[] #[]) [t23, (.int .i64 200)] w k) w fun t24 w =>
  gd t21 false (fun k => unQ .not t24 fun v => k v w) w fun t25 w =>
  pickQ t21 (.bool true) t25 fun t26 =>
  condW t26 (
    callW Try.prog (.func (.func 18) #[] #[]) [] w fun t27 w =>
    R (.returned t27) w
  ) (
    callW Try.prog (.func (.func 27) #[] #[]) [t0, t1, t2] w fun t32 w =>
    exQ t32 0 fun t33 =>
    exQ t32 1 fun t34 =>
    callW Try.prog (.func (.func 32) #[] #[]) [t0, t1, t2] w fun t39 w =>
    exQ t39 0 fun t40 =>
    exQ t39 1 fun t41 =>
    callW Try.prog (.func (.func 19) #[] #[]) [t0, t1, t2, t3] w fun t47 w =>
    exQ t47 0 fun t48 =>
    exQ t47 1 fun t49 =>
    callW Try.prog (.func (.func 23) #[] #[]) [t0, t1, t2] w fun t53 w =>
    binQ Try.prog w .neq 26 true t53 (.int .i64 0) fun t54 =>
    condW t54 (
      binQ Try.prog w .eql 26 true t34 (.int .i64 2) fun t56 =>
      gd t56 true (fun k => k t41 w) w fun t58 w =>
      gd t56 true (fun k => k t34 w) w fun t59 w =>
      gd t56 true (fun k => binQ Try.prog w .eql 26 false t58 t59 fun v => k v w) w fun t60 w =>
      pickQ t56 t60 (.bool false) fun t61 =>
      gd t61 true (fun k => k t49 w) w fun t63 w =>
      gd t61 true (fun k => k t34 w) w fun t64 w =>
      gd t61 true (fun k => binQ Try.prog w .eql 26 false t63 t64 fun v => k v w) w fun t65 w =>
      pickQ t61 t65 (.bool false) fun t66 =>
      gd t66 true (fun k => k t40 w) w fun t68 w =>
      gd t66 true (fun k => ln1 t68 fun v => k v w) w fun t69 w =>
      gd t66 true (fun k => binQ Try.prog w .eql 3 true t69 (.int .i64 0) fun v => k v w) w fun t70 w =>
      pickQ t66 t70 (.bool false) fun t71 =>
      gd t71 true (fun k => callW Try.prog (.func (.func 18) #[] #[]) [] w k) w fun t73 w =>
      pickQ t71 t73 (.bool false) fun t74 =>
      R (.returned t74) w
    ) (
      binQ Try.prog w .eql 26 true t34 (.int .i64 0) fun t76 =>
      binQ Try.prog w .eql 26 true t41 (.int .i64 10) fun t78 =>
      binQ Try.prog w .neq 4 false t76 t78 fun t79 =>
      gd t79 false (fun k => k t34 w) w fun t81 w =>
      gd t79 false (fun k => binQ Try.prog w .eql 26 true t81 (.int .i64 0) fun v => k v w) w fun t82 w =>
      gd t79 false (fun k => k t82 w) w fun t83 w =>
      gd t83 true (fun k => k t48 w) w fun t84 w =>
      gd t79 false (fun k => pickQ t83 t84 (.bool false) fun v => k v w) w fun t85 w =>
      pickQ t79 (.bool true) t85 fun t86 =>
      gd t86 false (fun k => k t49 w) w fun t88 w =>
      gd t86 false (fun k => binQ Try.prog w .neq 26 true t88 (.int .i64 0) fun v => k v w) w fun t89 w =>
      pickQ t86 (.bool true) t89 fun t90 =>
      condW t90 (
        R (.returned (.bool false)) w
      ) (
        binQ Try.prog w .eql 26 true t34 (.int .i64 0) fun t92 =>
        condW t92 (
          callW Try.prog (.func (.func 18) #[] #[]) [] w fun t93 w =>
          R (.returned t93) w
        ) (
          callW Try.prog (.func (.func 19) #[] #[]) [t0, t1, t2, t40] w fun t99 w =>
          exQ t99 0 fun t100 =>
          exQ t99 1 fun t101 =>
          binQ Try.prog w .neq 26 true t41 (.int .i64 0) fun t103 =>
          gd t103 false (fun k => k t101 w) w fun t105 w =>
          gd t103 false (fun k => binQ Try.prog w .neq 26 true t105 (.int .i64 0) fun v => k v w) w fun t106 w =>
          pickQ t103 (.bool true) t106 fun t107 =>
          gd t107 false (fun k => k t100 w) w fun t109 w =>
          gd t107 false (fun k => unQ .not t109 fun v => k v w) w fun t110 w =>
          pickQ t107 (.bool true) t110 fun t111 =>
          condW t111 (
            R (.returned (.bool false)) w
          ) (
            callW Try.prog (.func (.func 17) #[] #[]) [t40, (.int .i64 200)] w fun t113 w =>
            Join (fun (k_2 : World → Prop) =>
              condW t113 (
                callW Try.prog (.func (.func 20) #[] #[]) [t0, t1, t2, t40] w fun t119 w =>
                exQ t119 0 fun t120 =>
                exQ t119 1 fun t121 =>
                binQ Try.prog w .neq 26 true t121 (.int .i64 0) fun t123 =>
                gd t123 false (fun k => k t120 w) w fun t125 w =>
                gd t123 false (fun k => unQ .not t125 fun v => k v w) w fun t126 w =>
                pickQ t123 (.bool true) t126 fun t127 =>
                condW t127 (
                  R (.returned (.bool false)) w
                ) (
                  k_2 w
                )
              ) (
                k_2 w
              )
            ) fun w =>
            binQ Try.prog w .eql 3 true t2 (.int .i64 4) fun t129_2 =>
            condW t129_2 (
              binQ Try.prog w .eql 26 true t34 (.int .i64 10) fun t131_2 =>
              gd t131_2 true (fun k => callW Try.prog (.func (.func 18) #[] #[]) [] w k) w fun t133_2 w =>
              pickQ t131_2 t133_2 (.bool false) fun t134_2 =>
              R (.returned t134_2) w
            ) (
              binQ Try.prog w .add 3 true t2 (.int .i64 1) fun t139_2 =>
              callW Try.prog (.func (.func 27) #[] #[]) [t0, t1, t139_2] w fun t140_2 w =>
              exQ t140_2 0 fun t141_2 =>
              exQ t140_2 1 fun t142_2 =>
              binQ Try.prog w .eql 26 true t34 (.int .i64 10) fun t144_2 =>
              gd t144_2 true (fun k => k t142_2 w) w fun t146_2 w =>
              gd t144_2 true (fun k => binQ Try.prog w .eql 26 true t146_2 (.int .i64 10) fun v => k v w) w fun t147_2 w =>
              pickQ t144_2 t147_2 (.bool false) fun t148_2 =>
              gd t148_2 true (fun k => callW Try.prog (.func (.func 18) #[] #[]) [] w k) w fun t150_2 w =>
              pickQ t148_2 t150_2 (.bool false) fun t151_2 =>
              R (.returned t151_2) w
            )
          )
        )
      )
    )
  )

def A7 : Ann where
  live := fun _ => []
  wr := fun _ _ => false
  sched := fun _ => .done

set_option maxRecDepth 100000 in
theorem ok7 : (codeOk Try.f7.ntmps A7 (Try.f7.body.getD .skip) 0 && Nat.ble 4 Try.f7.ntmps) = true := by kernel_rfl
set_option maxRecDepth 100000 in
theorem lift7 {t0 t1 t2 t3 : Value} {w : World} {R : Ending → World → Prop} (h : S7 t0 t1 t2 t3 w R) : Calls Try.prog 7 #[t0, t1, t2, t3] w R :=
  calls_of_cw (fn := Try.f7) (c := Try.f7.body.getD .skip) A7 mixes Try.func7 (by kernel_rfl) ok7
    ((by kernel_rfl : (S7 t0 t1 t2 t3 w R) = cw Try.prog A7 (Try.f7.body.getD .skip) 0 (bodyQ Try.prog Try.f7 R) (frOf #[t0, t1, t2, t3]) w).mp h)

def S31 (t0 t1 t2 : Value) (w : World) (R : Ending → World → Prop) : Prop :=
  ln1 t0 fun t8 =>
  binQ Try.prog w .leq 3 true t8 (.int .i64 40) fun t9 =>
  gd t9 true (fun k => k t0 w) w fun t11 w =>
  gd t9 true (fun k => k t1 w) w fun t12 w =>
  gd t9 true (fun k => k t2 w) w fun t13 w =>
  gd t9 true (fun k => callW Try.prog (.func (.func 23) #[] #[]) [t11, t12, t13] w k) w fun t14 w =>
  gd t9 true (fun k => binQ Try.prog w .neq 26 true t14 (.int .i64 0) fun v => k v w) w fun t15 w =>
  gd t9 true (fun k => k t15 w) w fun t16 w =>
  gd t16 false (fun k => k t0 w) w fun t17 w =>
  gd t16 false (fun k => k t1 w) w fun t18 w =>
  gd t16 false (fun k => callW Try.prog (.func (.func 24) #[] #[]) [t17, t18] w k) w fun t19 w =>
  gd t16 false (fun k => binQ Try.prog w .leq 3 true t19 (.int .i64 60000) fun v => k v w) w fun t20 w =>
  gd t16 false (fun k => k t20 w) w fun t21 w =>
  gd t21 true (fun k => k t0 w) w fun t22 w =>
  gd t21 true (fun k => callW Try.prog (.func (.func 46) #[] #[]) [t22] w k) w fun t23 w =>
  gd t21 true (fun k => k t2 w) w fun t24 w =>
  gd t21 true (fun k => callW Try.prog (.func (.func 24) #[] #[]) [t23, t24] w k) w fun t25 w =>
  gd t21 true (fun k => binQ Try.prog w .leq 3 true t25 (.int .i64 60000) fun v => k v w) w fun t26 w =>
  gd t16 false (fun k => pickQ t21 t26 (.bool false) fun v => k v w) w fun t27 w =>
  gd t9 true (fun k => pickQ t16 (.bool true) t27 fun v => k v w) w fun t28 w =>
  pickQ t9 t28 (.bool false) fun t29 =>
  R (.returned t29) w

def A31 : Ann where
  live := fun _ => []
  wr := fun _ _ => false
  sched := fun _ => .done

set_option maxRecDepth 100000 in
theorem ok31 : (codeOk Try.f31.ntmps A31 (Try.f31.body.getD .skip) 0 && Nat.ble 3 Try.f31.ntmps) = true := by kernel_rfl
set_option maxRecDepth 100000 in
theorem lift31 {t0 t1 t2 : Value} {w : World} {R : Ending → World → Prop} (h : S31 t0 t1 t2 w R) : Calls Try.prog 31 #[t0, t1, t2] w R :=
  calls_of_cw (fn := Try.f31) (c := Try.f31.body.getD .skip) A31 mixes Try.func31 (by kernel_rfl) ok31
    ((by kernel_rfl : (S31 t0 t1 t2 w R) = cw Try.prog A31 (Try.f31.body.getD .skip) 0 (bodyQ Try.prog Try.f31 R) (frOf #[t0, t1, t2]) w).mp h)

def S46L0 (t0 : Value) (R : Ending → World → Prop) (w : World) : Prop :=
  Loop2 (.slice none 0 0) (.int .i64 0) w fun _ t3 t4 w next =>
    ln1 t0 fun t7 =>
    binQ Try.prog w .lss 3 false t4 t7 fun t8 =>
    condW t8 (
      Drew w fun w =>
      iaS 4 t0 t4 fun t14 =>
      fa1 t14 3 fun t15 =>
      ld1 w t15 fun t16 =>
      iaS 4 t0 t4 fun t19 =>
      fa1 t19 0 fun t20 =>
      ld1 w t20 fun t21 =>
      iaS 4 t0 t4 fun t24 =>
      fa1 t24 1 fun t25 =>
      ld1 w t25 fun t26 =>
      iaS 4 t0 t4 fun t29 =>
      fa1 t29 2 fun t30 =>
      ld1 w t30 fun t31 =>
      bdQ Try.prog 32 [(0, t16), (1, t21), (2, t26), (3, t31)] fun t32 =>
      bsW Try.prog 22 1 [(0, t32)] w <| keepB w fun t33 w =>
      semW Try.prog (apS [22, 22] 22 [t3, t33]) w fun t34 w =>
      binQ Try.prog w .add 3 true t4 (.int .i64 1) fun t10 =>
      next t34 t10 w
    ) (
      R (.returned t3) w
    )



def S46 (t0 : Value) (w : World) (R : Ending → World → Prop) : Prop :=
  S46L0 t0 R w

def A46 : Ann where
  live := fun
    | 0 => [3, 4]
    | _ => []
  wr := fun
    | 0 => fun i => (Nat.ble 3 i && Nat.ble i 34)
    | _ => fun _ => false
  sched := fun
    | 5 => (.take 0 (.take 1 (.take 2 (.take 3 (.take 4 (.take 5 (.take 6 (.take 7 (.take 8 (.take 9 (.take 10 (.take 11 (.take 12 (.take 13 (.take 14 (.take 15 (.take 16 (.take 17 (.take 18 (.take 19 (.take 20 (.take 21 (.eff 22 (.bar 23 (.take 24 .done)))))))))))))))))))))))))
    | _ => .done

set_option maxRecDepth 100000 in
theorem ok46 : (codeOk Try.f46.ntmps A46 (Try.f46.body.getD .skip) 0 && Nat.ble 1 Try.f46.ntmps) = true := by kernel_rfl
set_option maxRecDepth 100000 in
theorem lift46 {t0 : Value} {w : World} {R : Ending → World → Prop} (h : S46 t0 w R) : Calls Try.prog 46 #[t0] w R :=
  calls_of_cw (fn := Try.f46) (c := Try.f46.body.getD .skip) A46 mixes Try.func46 (by kernel_rfl) ok46
    ((by kernel_rfl : (S46 t0 w R) = cw Try.prog A46 (Try.f46.body.getD .skip) 0 (bodyQ Try.prog Try.f46 R) (frOf #[t0]) w).mp h)

theorem fok7 : fnOk Try.prog 7 = true := by kernel_rfl
theorem fok31 : fnOk Try.prog 31 = true := by kernel_rfl
theorem fok46 : fnOk Try.prog 46 = true := by kernel_rfl
end Go.Proofs.Ytgalbokmgffhkaa

/- Contracts: Turned of the specification, light of the statements. -/
namespace Go.Proofs.Ytgalbokmgffhkaa
open Go.Lf Go.RowKit Go.Wg

def turnT (t : Tile) : Tile := (tW t, tN t, tE t, tS t)
theorem turnT_inj {s t : Tile} (h : turnT s = turnT t) : s = t := by
  simp only [turnT, Prod.mk.injEq] at h
  exact Prod.ext h.2.1 (Prod.ext h.2.2.1 (Prod.ext h.2.2.2 h.1))
theorem turnT_cols {t : Tile} (h : colsB t = true) : colsB (turnT t) = true := by
  simp only [colsB, turnT, Bool.and_eq_true] at h ⊢
  exact ⟨⟨⟨h.2, h.1.1.1⟩, h.1.1.2⟩, h.1.2⟩
theorem turned_set {l : List Tile} (h : IsSet l) : IsSet (l.map turnT) := by
  refine ⟨by simpa using h.pos, by simpa using h.most, fun t ht => ?_, ?_⟩
  · obtain ⟨s, hs, rfl⟩ := List.mem_map.1 ht
    exact turnT_cols (h.cols s hs)
  · unfold List.Nodup
    rw [List.pairwise_map]
    exact List.Pairwise.imp (fun hne e => hne (turnT_inj e)) h.nodup

theorem bs22k (u : Tile) (w : World) (K : Value → World → Prop) : bsW Try.prog 22 1 [(0, tlV u)] w K = K (.slice (some ⟨w.heap.size, 0, none⟩) 1 1) (w.alloc (.cells (tlV u).cells 32)) := bs22 _ _ _ _ w K
theorem bdK (x y z u : Int) (K : Value → Prop) : bdQ Try.prog 32 [(0, .int .i64 x), (1, .int .i64 y), (2, .int .i64 z), (3, .int .i64 u)] K = K (tlV (x, y, z, u)) := by kernel_rfl
set_option maxRecDepth 100000 in
/-- append(out, tile), the tile's slice kept. -/
theorem r_pushKT {base : Nat} {w : World} {v : Value} {P : List Tile} {t : Tile} {K : Value → World → Prop} (h : TlAt base w v P) (hn : P.length + 1 ≤ 1000000) (hb : base ≤ w.heap.size)
    (hk : ∀ v' w', TlAt base w' v' (P ++ [t]) → Chg (fun k => v.ownBlock = some k) w w' → K v' w') :
    bsW Try.prog 22 1 [(0, tlV t)] w <| keepB w fun s w => semW Try.prog (apS [22, 22] 22 [v, s]) w K := by
  have := r_pushRec (x := t) (K := K) (ty := 22) slt22 tlC_len rfl (bs22 _ _ _ _ _) (tlC_one t) (by omega) h hn hb fun v' w' ho hc _ => hk v' w' ho hc
  rw [bs22k] at this ⊢
  exact ⟨below_alloc _, this⟩

set_option maxRecDepth 100000 in
theorem turned_calls {v : Value} {l : List Tile} (w : World) (hr : RdT w v l) (hl : l.length ≤ 100000) : Calls Try.prog 46 #[v] w fun e w' => ∃ v', e = .returned v' ∧ TlAt w.heap.size w' v' (l.map turnT) ∧ Kp w w' := by
  obtain ⟨va, vc, ev, _⟩ := hr.len
  have lnv : ∀ K : Value → Prop, ln1 v K = K (.int .i64 l.length) := fun K => by rw [ev]; rfl
  refine lift46 ?_
  unfold S46 S46L0
  refine ⟨fun t3 t4 wr => ∃ i : Nat, i ≤ l.length ∧ t4 = .int .i64 i ∧ TlAt w.heap.size wr t3 ((l.take i).map turnT) ∧ Kp w wr, fun _ t4 _ => l.length - (intOf t4).toNat, ⟨0, by omega, rfl, RecAt.nil, Kp.refl _⟩, ?_⟩
  rintro _ t3 _ wr ⟨i, hi, rfl, hT, kr⟩
  rw [lnv]
  by_cases hlt : i < l.length
  case neg =>
    have hlt' : ¬ (i : Int) < (l.length : Int) := by omega
    rw [List.take_of_length_le (by omega)] at hT
    simp (disch := omega) only [r_ln, r_pick, r_pickT, r_pickF, r_condT, r_condF, r_gdTT, r_gdFF, r_gdTF, r_gdFT, r_gqTT, r_gqFF, r_gqTF, r_gqFT, r_not, r_lss, r_leq, r_gtr, r_geq, r_eql, r_neq, r_add, r_sub, r_min2, r_max2, r_min3, r_max3, r_fa, r_iaS, r_iaA, r_ex2a, r_ex2b, r_ex3a, r_ex3b, r_ex3c, r_nc, r_keepE, Nat.zero_add, Nat.add_zero, Nat.mul_one, Int.toNat_natCast, toNat_sub1, toNat_add1, decide_true, decide_false, Bool.not_true, Bool.not_false, if_true, if_false, Bool.false_eq_true, reduceCtorEq, hlt']
    exact ⟨_, rfl, hT, kr⟩
  have hlt' : (i : Int) < (l.length : Int) := by omega
  simp (disch := omega) only [r_lss, decide_eq_true hlt', r_condT]
  refine r_drew fun w2 k2 _ => ?_
  have kr2 := Kp.trans kr k2
  obtain ⟨b, off, cap, e, _, hcell⟩ := (hr.kp kr2).at (List.getElem?_eq_getElem hlt)
  have hii : (i : Int).toNat = i := by omega
  have ia : ∀ K : Value → Prop, iaS 4 v (.int .i64 i) K = K (.pointer (some ⟨b, off + i * 4, none⟩)) := fun K => by rw [e, r_iaS _ _ _ _ _ _ _ (by omega) (by omega), hii]
  have hst : (l.take (i + 1)).map turnT = (l.take i).map turnT ++ [turnT l[i]] := by rw [take_succ' _ _ hlt, List.map_append]; rfl
  generalize l[i] = t at *
  have c0 : w2.cell? ⟨b, off + i * 4, none⟩ = some (.int .i64 (tN t)) := hcell 0 _ rfl
  have c1 : w2.cell? ⟨b, off + i * 4 + 1, none⟩ = some (.int .i64 (tE t)) := hcell 1 _ rfl
  have c2 : w2.cell? ⟨b, off + i * 4 + 2, none⟩ = some (.int .i64 (tS t)) := hcell 2 _ rfl
  have c3 : w2.cell? ⟨b, off + i * 4 + 3, none⟩ = some (.int .i64 (tW t)) := hcell 3 _ rfl
  have hbd : ∀ K : Value → Prop, bdQ Try.prog 32 [(0, .int .i64 (tW t)), (1, .int .i64 (tN t)), (2, .int .i64 (tE t)), (3, .int .i64 (tS t))] K = K (tlV (turnT t)) := fun K => bdK _ _ _ _ K
  simp (disch := omega) only [ia, r_fa, Nat.add_zero, r_ld c0, r_ld c1, r_ld c2, r_ld c3, hbd]
  have hT2 := hT.kp k2
  refine r_pushKT hT2 (by rw [List.length_map, List.length_take]; omega) kr2.size fun v' w' ho hc => ?_
  rw [r_add _ _ (by omega) (by omega)]
  refine ⟨⟨i + 1, by omega, by go_num, ?_, Kp.of_chg kr2 hc fun k e => (hT2.lt e).1⟩, by simp only [intOf]; omega⟩
  rw [hst]; exact ho

set_option maxRecDepth 100000 in
theorem light_calls {v : Value} {l : List Tile} (a b : Int) (w : World) (hr : RdT w v l) : Calls Try.prog 31 #[v, .int .i64 a, .int .i64 b] w fun e w' => e = .returned (.bool (decide (l.length ≤ 40))) ∧ Kp w w' := by
  have hr0 := hr
  obtain ⟨va, vcap, rfl, hvc⟩ := hr.len
  refine lift31 ?_
  unfold S31
  by_cases hl : (l.length : Int) ≤ 40
  case neg =>
    simp (disch := omega) only [r_ln, r_pick, r_pickT, r_pickF, r_condT, r_condF, r_gdTT, r_gdFF, r_gdTF, r_gdFT, r_gqTT, r_gqFF, r_gqTF, r_gqFT, r_not, r_lss, r_leq, r_gtr, r_geq, r_eql, r_neq, r_add, r_sub, r_min2, r_max2, r_min3, r_max3, r_fa, r_iaS, r_iaA, r_ex2a, r_ex2b, r_ex3a, r_ex3b, r_ex3c, r_nc, r_keepE, Nat.zero_add, Nat.add_zero, Nat.mul_one, Int.toNat_natCast, toNat_sub1, toNat_add1, decide_true, decide_false, Bool.not_true, Bool.not_false, if_true, if_false, Bool.false_eq_true, reduceCtorEq, hl, r_gdU]
    exact ⟨ret_bool (decide_eq_false (by omega)).symm, Kp.refl _⟩
  simp (disch := omega) only [r_ln, r_pick, r_pickT, r_pickF, r_condT, r_condF, r_gdTT, r_gdFF, r_gdTF, r_gdFT, r_gqTT, r_gqFF, r_gqTF, r_gqFT, r_not, r_lss, r_leq, r_gtr, r_geq, r_eql, r_neq, r_add, r_sub, r_min2, r_max2, r_min3, r_max3, r_fa, r_iaS, r_iaA, r_ex2a, r_ex2b, r_ex3a, r_ex3b, r_ex3c, r_nc, r_keepE, Nat.zero_add, Nat.add_zero, Nat.mul_one, Int.toNat_natCast, toNat_sub1, toNat_add1, decide_true, decide_false, Bool.not_true, Bool.not_false, if_true, if_false, Bool.false_eq_true, reduceCtorEq, decide_eq_true hl, r_gdU]
  refine r_use fok23 (order_calls a b w hr0) rfl ?_
  rintro _ w1 ⟨rfl, k1⟩
  refine ⟨_, rfl, ?_⟩
  have ht : decide (l.length ≤ 40) = true := decide_eq_true (by omega)
  have h20 : ¬ ((2 : Int) = 0) := by decide
  rcases ordErr_cases l a b with he | he
  case inr =>
    rw [he]
    simp (disch := omega) only [r_ln, r_pick, r_pickT, r_pickF, r_condT, r_condF, r_gdTT, r_gdFF, r_gdTF, r_gdFT, r_gqTT, r_gqFF, r_gqTF, r_gqFT, r_not, r_lss, r_leq, r_gtr, r_geq, r_eql, r_neq, r_add, r_sub, r_min2, r_max2, r_min3, r_max3, r_fa, r_iaS, r_iaA, r_ex2a, r_ex2b, r_ex3a, r_ex3b, r_ex3c, r_nc, r_keepE, Nat.zero_add, Nat.add_zero, Nat.mul_one, Int.toNat_natCast, toNat_sub1, toNat_add1, decide_true, decide_false, Bool.not_true, Bool.not_false, if_true, if_false, Bool.false_eq_true, reduceCtorEq, h20, r_gdU]
    exact ⟨by rw [ht], k1⟩
  obtain ⟨hs, W, H, rfl, rfl, hW, hH⟩ := ord_ok he
  have h00 : decide ((0 : Int) = 0) = true := rfl
  rw [he]
  simp (disch := omega) only [r_ln, r_pick, r_pickT, r_pickF, r_condT, r_condF, r_gdTT, r_gdFF, r_gdTF, r_gdFT, r_gqTT, r_gqFF, r_gqTF, r_gqFT, r_not, r_lss, r_leq, r_gtr, r_geq, r_eql, r_neq, r_add, r_sub, r_min2, r_max2, r_min3, r_max3, r_fa, r_iaS, r_iaA, r_ex2a, r_ex2b, r_ex3a, r_ex3b, r_ex3c, r_nc, r_keepE, Nat.zero_add, Nat.add_zero, Nat.mul_one, Int.toNat_natCast, toNat_sub1, toNat_add1, decide_true, decide_false, Bool.not_true, Bool.not_false, if_true, if_false, Bool.false_eq_true, reduceCtorEq, h00, r_gdU]
  have hal := allS_le (l := l) hW.2
  have hal2 := allS_le (l := l.map turnT) hH.2
  refine r_use fok24 (states_calls w1 (hr0.kp k1) hs hW.2) rfl ?_
  rintro _ w2 ⟨rfl, k2⟩
  refine ⟨_, rfl, ?_⟩
  have k02 := Kp.trans k1 k2
  have h1 : ((allS l W : Nat) : Int) ≤ 60000 := by omega
  simp (disch := omega) only [r_ln, r_pick, r_pickT, r_pickF, r_condT, r_condF, r_gdTT, r_gdFF, r_gdTF, r_gdFT, r_gqTT, r_gqFF, r_gqTF, r_gqFT, r_not, r_lss, r_leq, r_gtr, r_geq, r_eql, r_neq, r_add, r_sub, r_min2, r_max2, r_min3, r_max3, r_fa, r_iaS, r_iaA, r_ex2a, r_ex2b, r_ex3a, r_ex3b, r_ex3c, r_nc, r_keepE, Nat.zero_add, Nat.add_zero, Nat.mul_one, Int.toNat_natCast, toNat_sub1, toNat_add1, decide_true, decide_false, Bool.not_true, Bool.not_false, if_true, if_false, Bool.false_eq_true, reduceCtorEq, decide_eq_true h1, r_gdU]
  refine r_use fok46 (turned_calls w2 (hr0.kp k02) (by omega)) rfl ?_
  rintro _ w3 ⟨v3, rfl, o3, k3⟩
  refine ⟨_, rfl, ?_⟩
  try simp (disch := omega) only [r_ln, r_pick, r_pickT, r_pickF, r_condT, r_condF, r_gdTT, r_gdFF, r_gdTF, r_gdFT, r_gqTT, r_gqFF, r_gqTF, r_gqFT, r_not, r_lss, r_leq, r_gtr, r_geq, r_eql, r_neq, r_add, r_sub, r_min2, r_max2, r_min3, r_max3, r_fa, r_iaS, r_iaA, r_ex2a, r_ex2b, r_ex3a, r_ex3b, r_ex3c, r_nc, r_keepE, Nat.zero_add, Nat.add_zero, Nat.mul_one, Int.toNat_natCast, toNat_sub1, toNat_add1, decide_true, decide_false, Bool.not_true, Bool.not_false, if_true, if_false, Bool.false_eq_true, reduceCtorEq, r_gdU]
  refine r_use fok24 (states_calls w3 (o3.rd tlC_len) (turned_set hs) hH.2) rfl ?_
  rintro _ w4 ⟨rfl, k4⟩
  refine ⟨_, rfl, ?_⟩
  have h2 : ((allS (l.map turnT) H : Nat) : Int) ≤ 60000 := by omega
  simp (disch := omega) only [r_ln, r_pick, r_pickT, r_pickF, r_condT, r_condF, r_gdTT, r_gdFF, r_gdTF, r_gdFT, r_gqTT, r_gqFF, r_gqTF, r_gqFT, r_not, r_lss, r_leq, r_gtr, r_geq, r_eql, r_neq, r_add, r_sub, r_min2, r_max2, r_min3, r_max3, r_fa, r_iaS, r_iaA, r_ex2a, r_ex2b, r_ex3a, r_ex3b, r_ex3c, r_nc, r_keepE, Nat.zero_add, Nat.add_zero, Nat.mul_one, Int.toNat_natCast, toNat_sub1, toNat_add1, decide_true, decide_false, Bool.not_true, Bool.not_false, if_true, if_false, Bool.false_eq_true, reduceCtorEq, decide_eq_true h2, r_gdU]
  exact ⟨by rw [ht], Kp.trans k02 (Kp.trans k3 k4)⟩

end Go.Proofs.Ytgalbokmgffhkaa

/- Lifted texts, printed by program (gen.py): what each function's code asks. The ties are by the kernel. -/
namespace Go.Proofs.Ytgalbokmgffhkaa
open Go.Lf Go.RowKit

def S67 (t0 t1 : Value) (w : World) (R : Ending → World → Prop) : Prop :=
  binQ Try.prog w .lss 3 true t0 (.int .i64 0) fun t5 =>
  gd t5 false (fun k => k t0 w) w fun t7 w =>
  gd t5 false (fun k => ld1 w t1 fun v => k v w) w fun t8 w =>
  gd t5 false (fun k => ln1 t8 fun v => k v w) w fun t9 w =>
  gd t5 false (fun k => binQ Try.prog w .geq 3 false t7 t9 fun v => k v w) w fun t10 w =>
  pickQ t5 (.bool true) t10 fun t11 =>
  R (.returned t11) w

def A67 : Ann where
  live := fun _ => []
  wr := fun _ _ => false
  sched := fun _ => .done

set_option maxRecDepth 100000 in
theorem ok67 : (codeOk Try.f67.ntmps A67 (Try.f67.body.getD .skip) 0 && Nat.ble 2 Try.f67.ntmps) = true := by kernel_rfl
set_option maxRecDepth 100000 in
theorem lift67 {t0 t1 : Value} {w : World} {R : Ending → World → Prop} (h : S67 t0 t1 w R) : Calls Try.prog 67 #[t0, t1] w R :=
  calls_of_cw (fn := Try.f67) (c := Try.f67.body.getD .skip) A67 mixes Try.func67 (by kernel_rfl) ok67
    ((by kernel_rfl : (S67 t0 t1 w R) = cw Try.prog A67 (Try.f67.body.getD .skip) 0 (bodyQ Try.prog Try.f67 R) (frOf #[t0, t1]) w).mp h)

theorem fok67 : fnOk Try.prog 67 = true := by kernel_rfl
end Go.Proofs.Ytgalbokmgffhkaa
