/- Texts of my own, merged by program: No Sj. -/
import Derived.Test.YtbekeccfjmoonaaDoorM33
import Derived.Test.YtbekeccfjmoonaaDoorM07
set_option linter.all false
/- Contracts: gcd, lowest. -/
namespace Go.Proofs.YtbekeccfjmoonaaDoor
open Go.Lf Go.RowKit

theorem gcd_zero {x : Int} (w : World) : Calls Tryd.prog 64 #[.int .i64 x, .int .i64 0] w fun e w' => e = .returned (.tuple #[.int .i64 x, .int .i64 1, .int .i64 0]) ∧ Kp w w' := by
  refine lift64 ?_
  unfold S64
  rw [r_eql, decide_eq_true rfl, r_condT]
  exact ⟨rfl, Kp.refl _⟩
theorem gcd_one {n : Nat} (w : World) (hn : n ≤ 1000) : Calls Tryd.prog 64 #[.int .i64 n, .int .i64 1] w fun e w' => e = .returned (.tuple #[.int .i64 1, .int .i64 0, .int .i64 1]) ∧ Kp w w' := by
  refine lift64 ?_
  unfold S64
  rw [r_eql, decide_eq_false (by omega), r_condF, r_rem _ _ (by omega) (by omega), show (n : Int) % 1 = 0 by omega]
  refine r_use fok64 (gcd_zero w) rfl ?_
  rintro _ w1 ⟨rfl, k1⟩
  refine ⟨_, rfl, ?_⟩
  rw [r_ex3a, r_ex3b, r_ex3c]
  refine r_drew fun w2 k2 _ => ?_
  rw [r_quo _ _ (by omega) (by omega) (by omega), r_mul _ _ (by omega) (by omega), r_sub _ _ (by omega) (by omega), Int.mul_zero]
  exact ⟨rfl, Kp.trans k1 k2⟩
theorem gcd_calls {n : Nat} (w : World) (hn : n ≤ 1000) : Calls Tryd.prog 64 #[.int .i64 1, .int .i64 n] w fun e w' => Kp w w' ∧ ∃ s t : Int, e = .returned (.tuple #[.int .i64 1, .int .i64 s, .int .i64 t]) := by
  by_cases h0 : n = 0
  · subst h0
    exact (gcd_zero w).mono fun e w' h => ⟨h.2, _, _, h.1⟩
  by_cases h1 : n = 1
  · subst h1
    exact (gcd_one (n := 1) w (by omega)).mono fun e w' h => ⟨h.2, _, _, h.1⟩
  refine lift64 ?_
  unfold S64
  rw [r_eql, decide_eq_false (by omega), r_condF, r_rem _ _ (by omega) (by omega), show (1 : Int) % (n : Int) = 1 by rw [Int.emod_eq_of_lt (by omega) (by omega)]]
  refine r_use fok64 (gcd_one w hn) rfl ?_
  rintro _ w1 ⟨rfl, k1⟩
  refine ⟨_, rfl, ?_⟩
  rw [r_ex3a, r_ex3b, r_ex3c]
  refine r_drew fun w2 k2 _ => ?_
  rw [r_quo _ _ (by omega) (by omega) (by omega), show (1 : Int) / (n : Int) = 0 by rw [Int.ediv_eq_zero_of_lt (by omega) (by omega)], r_mul _ _ (by omega) (by omega), r_sub _ _ (by omega) (by omega)]
  exact ⟨Kp.trans k1 k2, _, _, rfl⟩

set_option maxRecDepth 100000 in
set_option maxHeartbeats 1000000 in
/-- Numbers that are divided by 1: nothing turns. -/
theorem lowest_calls {base : Nat} {v : Value} {L : List Int} (w : World) (hv : IntsAt base w v L) (hl : L.length ≤ 1000) (hL : ∀ q, q < L.length → 0 ≤ L.getD q 0 ∧ L.getD q 0 ≤ 1000) :
    Calls Tryd.prog 34 #[v, .int .i64 1] w fun e w' => e = .returned (.tuple #[v, .int .i64 1]) ∧ Chg (fun k => v.ownBlock = some k) w w' ∧ IntsAt base w' v L := by
  obtain ⟨a, cap, ev, _⟩ := hv.len
  have lnv : ∀ K : Value → Prop, ln1 v K = K (.int .i64 L.length) := fun K => by rw [ev]; rfl
  refine lift34 ?_
  unfold S34
  rw [lnv]
  unfold S34L0
  refine ⟨fun t6 t13 wr => ∃ i : Nat, i ≤ L.length ∧ t13 = .int .i64 i ∧ t6 = .int .i64 1 ∧ Kp w wr, fun _ t13 _ => L.length - (intOf t13).toNat, ⟨0, by omega, rfl, rfl, Kp.refl _⟩, ?_⟩
  rintro _ _ _ wr ⟨i, hi, rfl, rfl, kr⟩
  have hvr := RecAt.kp hv kr
  by_cases hlt : i < L.length
  · have hlt' : (i : Int) < (L.length : Int) := by omega
    have hq := hL i hlt
    rw [r_lss, decide_eq_true hlt', r_condT, own_ldK hvr hlt, show Value.int .i64 (L.getD i 0) = .int .i64 (((L.getD i 0).toNat : Nat) : Int) by rw [Int.toNat_of_nonneg hq.1]]
    refine r_use fok64 (gcd_calls (n := (L.getD i 0).toNat) wr (by omega)) rfl ?_
    rintro _ w2 ⟨k2, s, t, rfl⟩
    refine ⟨_, rfl, ?_⟩
    rw [r_ex3a, r_ex3b, r_ex3c, r_add _ _ (by omega) (by omega)]
    exact ⟨⟨i + 1, by omega, by go_num, rfl, Kp.trans kr k2⟩, by simp only [intOf]; omega⟩
  have hlt' : ¬ (i : Int) < (L.length : Int) := by omega
  rw [r_lss, decide_eq_false hlt', r_condF, r_neg _ (by omega) (by omega)]
  have hmx : ∀ K : Value → Prop, mnQ true [.int .i64 1, .int .i64 (-1), .int .i64 1] K = K (.int .i64 1) := fun K => by kernel_rfl
  rw [hmx, lnv]
  unfold S34L1
  refine ⟨fun t31 wq => ∃ i : Nat, i ≤ L.length ∧ t31 = .int .i64 i ∧ Chg (fun k => v.ownBlock = some k) w wq ∧ IntsAt base wq v L, fun t31 _ => L.length - (intOf t31).toNat, ⟨0, by omega, rfl, Chg.of_kp kr, hvr⟩, ?_⟩
  rintro _ _ wq ⟨j, hj, rfl, hc, hI⟩
  by_cases hlt2 : j < L.length
  · have hlt2' : (j : Int) < (L.length : Int) := by omega
    have hq := hL j hlt2
    obtain ⟨g, cap', eg, hbg, hcell, hfr, hput⟩ := IntsAt.put hI hlt2 (L.getD j 0)
    have hjj : (j : Int).toNat = j := by omega
    rw [r_lss, decide_eq_true hlt2', r_condT, own_ldK hI hlt2, r_quoX _ 1 (L.getD j 0) (by omega) (by omega) (by omega) (by omega)]
    have hst : ∀ K : World → Prop, (iaS 1 v (.int .i64 j) fun p => stW Tryd.prog 3 p (.int .i64 (L.getD j 0)) wq K) = K (wq.setCell ⟨g, j, none⟩ (.int .i64 (L.getD j 0))) := fun K => by
      rw [eg, r_iaS _ _ _ _ _ _ _ (by omega) (by omega), hjj, Nat.mul_one, Nat.zero_add, st3 hcell hfr]
    rw [hst, r_add _ _ (by omega) (by omega)]
    have hsame : L.set j (L.getD j 0) = L := by rw [getD_lt _ _ _ hlt2]; exact List.set_getElem_self ..
    rw [hsame] at hput
    exact ⟨⟨j + 1, by omega, by go_num, hc.trans (Chg.setCell _ _ (show v.ownBlock = some g by rw [eg]; rfl)), hput⟩, by simp only [intOf]; omega⟩
  have hlt2' : ¬ (j : Int) < (L.length : Int) := by omega
  rw [r_lss, decide_eq_false hlt2', r_condF]
  refine r_drew fun w3 k3 _ => ?_
  rw [r_quoX _ 1 1 (by omega) (by omega) (by omega) (by omega)]
  exact ⟨rfl, hc.trans (Chg.of_kp k3), RecAt.kp hI k3⟩

end Go.Proofs.YtbekeccfjmoonaaDoor

/- Lifted texts, printed by program (gen.py): what each function's code asks. The ties are by the kernel. -/
namespace Go.Proofs.YtbekeccfjmoonaaDoor
open Go.Lf Go.RowKit

def S32L2 (t24 t34 t48 t52 : Value) (next : Value → World → Prop) (w : World) : Prop :=
  Loop1 (.int .i64 0) w fun _ t108 w next_3 =>
    binQ Tryd.prog w .lss 3 false t108 t34 fun t109 =>
    condW t109 (
      ncQ t24 fun t113 =>
      fa1 t113 0 fun t114 =>
      ld1 w t114 fun t115 =>
      binQ Tryd.prog w .lss 3 false t108 t115 fun t116 =>
      gd t116 false (fun k => k t108 w) w fun t118 w =>
      gd t116 false (fun k => k t34 w) w fun t119 w =>
      gd t116 false (fun k => binQ Tryd.prog w .sub 3 true t119 (.int .i64 1) fun v => k v w) w fun t120 w =>
      gd t116 false (fun k => binQ Tryd.prog w .eql 3 false t118 t120 fun v => k v w) w fun t121 w =>
      pickQ t116 (.bool true) t121 fun t122 =>
      Join (fun (k_4 : World → Prop) =>
        condW t122 (
          Drew w fun w =>
          ncQ t24 fun t124 =>
          fa1 t124 3 fun t125 =>
          ld1 w t125 fun t126 =>
          iaS 1 t126 t108 fun t128 =>
          ld1 w t128 fun t129 =>
          iaS 1 t52 t108 fun t132 =>
          ld1 w t132 fun t133 =>
          binQ Tryd.prog w .sub 3 false t129 t133 fun t134 =>
          iaS 1 t126 t108 fun t135 =>
          stW Tryd.prog 3 t135 t134 w fun w =>
          k_4 w
        ) (
          k_4 w
        )
      ) fun w =>
      binQ Tryd.prog w .add 3 true t108 (.int .i64 1) fun t136_2 =>
      next_3 t136_2 w
    ) (
      binQ Tryd.prog w .add 3 true t48 (.int .i64 1) fun t137 =>
      next t137 w
    )

def S32L1 (t24 t34 t48 t52 t56 t57 : Value) (next : Value → World → Prop) (w : World) : Prop :=
  Loop1 (.int .i64 0) w fun _ t58 w next_2 =>
    binQ Tryd.prog w .lss 3 false t58 t57 fun t59 =>
    condW t59 (
      iaS 1 t56 t58 fun t61 =>
      ld1 w t61 fun t62 =>
      callW Tryd.prog (.func (.func 19) #[] #[]) [t62, t48] w fun t65 w =>
      Join (fun (k_2 : World → Prop) =>
        condW t65 (
          iaS 1 t52 t58 fun t68 =>
          stW Tryd.prog 3 t68 (.int .i64 1) w fun w =>
          k_2 w
        ) (
          k_2 w
        )
      ) fun w =>
      binQ Tryd.prog w .add 3 true t58 (.int .i64 1) fun t69_2 =>
      next_2 t69_2 w
    ) (
      ncQ t24 fun t72 =>
      fa1 t72 0 fun t73 =>
      ld1 w t73 fun t74 =>
      binQ Tryd.prog w .add 3 false t74 t48 fun t76 =>
      binQ Tryd.prog w .sub 3 true t34 (.int .i64 1) fun t79 =>
      iaS 1 t52 t76 fun t80 =>
      stW Tryd.prog 3 t80 (.int .i64 1) w fun w =>
      iaS 1 t52 t79 fun t81 =>
      stW Tryd.prog 3 t81 (.int .i64 1) w fun w =>
      Drew w fun w =>
      Join (fun (k_3 : World → Prop) =>
        ∃ X : Nat → Prop,
        takeX X w (fun w k => k t24) fun t82 =>
        takeX topX w (fun w k => k t24) fun t83 =>
        takeX X w (fun w k => k t24) fun t84 =>
        takeX X w (fun w k => ncQ t84 k) fun t85 =>
        takeX X w (fun w k => fa1 t85 2 k) fun t86 =>
        takeX X w (fun w k => ld1 w t86 k) fun t87 =>
        takeX X w (fun w k => k t52) fun t88 =>
        takeX X w (fun w k => k t24) fun t91 =>
        takeX X w (fun w k => ncQ t91 k) fun t92 =>
        takeX X w (fun w k => fa1 t92 4 k) fun t93 =>
        takeX X w (fun w k => ld1 w t93 k) fun t94 =>
        takeX X w (fun w k => k t24) fun t95 =>
        takeX X w (fun w k => ncQ t95 k) fun t96 =>
        takeX X w (fun w k => fa1 t96 0 k) fun t97 =>
        takeX X w (fun w k => ld1 w t97 k) fun t98 =>
        takeX X w (fun w k => k t48) fun t99 =>
        takeX X w (fun w k => binQ Tryd.prog w .add 3 false t98 t99 k) fun t100 =>
        And (
          bsW Tryd.prog 50 1 [(0, t88)] w <| keepX X w fun t89 w =>
          And (
            semW Tryd.prog (apS [50, 50] 50 [t87, t89]) w <| keepX X w fun t90 w =>
            bsW Tryd.prog 31 1 [(0, t100)] w <| keepX X w fun t101 w =>
            semW Tryd.prog (apS [31, 31] 31 [t94, t101]) w <| keepX X w fun t102 w =>
            takeX X w (fun w k => ncQ t82 k) fun t103 =>
            takeX X w (fun w k => fa1 t103 2 k) fun t104 =>
            stW Tryd.prog 50 t104 t90 w <| keepW topX w fun w =>
            takeX topX w (fun w k => ncQ t83 k) fun t105 =>
            takeX topX w (fun w k => fa1 t105 4 k) fun t106 =>
            stW Tryd.prog 31 t106 t102 w fun w =>
            k_3  w
          ) <|
          And (
            bsW Tryd.prog 31 1 [(0, t100)] w <| keepX X w fun t101_2 w =>
            semW Tryd.prog (apS [50, 50] 50 [t87, t89]) w <| keepX X w fun t90_2 w =>
            semW Tryd.prog (apS [31, 31] 31 [t94, t101_2]) w <| keepX X w fun t102_2 w =>
            takeX X w (fun w k => ncQ t82 k) fun t103_2 =>
            takeX X w (fun w k => fa1 t103_2 2 k) fun t104_2 =>
            stW Tryd.prog 50 t104_2 t90_2 w <| keepW topX w fun w =>
            takeX topX w (fun w k => ncQ t83 k) fun t105_2 =>
            takeX topX w (fun w k => fa1 t105_2 4 k) fun t106_2 =>
            stW Tryd.prog 31 t106_2 t102_2 w fun w =>
            k_3  w
          ) <|
          True
        ) <|
        And (
          bsW Tryd.prog 31 1 [(0, t100)] w <| keepX X w fun t101_3 w =>
          bsW Tryd.prog 50 1 [(0, t88)] w <| keepX X w fun t89_2 w =>
          semW Tryd.prog (apS [50, 50] 50 [t87, t89_2]) w <| keepX X w fun t90_3 w =>
          semW Tryd.prog (apS [31, 31] 31 [t94, t101_3]) w <| keepX X w fun t102_3 w =>
          takeX X w (fun w k => ncQ t82 k) fun t103_3 =>
          takeX X w (fun w k => fa1 t103_3 2 k) fun t104_3 =>
          stW Tryd.prog 50 t104_3 t90_3 w <| keepW topX w fun w =>
          takeX topX w (fun w k => ncQ t83 k) fun t105_3 =>
          takeX topX w (fun w k => fa1 t105_3 4 k) fun t106_3 =>
          stW Tryd.prog 31 t106_3 t102_3 w fun w =>
          k_3  w
        ) <|
        True
      ) fun  w =>
      S32L2 t24 t34 t48 t52 next w
    )

def S32L0 (t0 t24 t34 t47 : Value) (R : Ending → World → Prop) (w : World) : Prop :=
  Loop1 (.int .i64 0) w fun _ t48 w next =>
    binQ Tryd.prog w .lss 3 false t48 t47 fun t49 =>
    condW t49 (
      mkW Tryd.prog 31 t34 t34 w fun t52 w =>
      ncQ t0 fun t54 =>
      fa1 t54 3 fun t55 =>
      ld1 w t55 fun t56 =>
      ln1 t56 fun t57 =>
      S32L1 t24 t34 t48 t52 t56 t57 next w
    ) (
      R (.returned t24) w
    )



def S32 (t0 : Value) (w : World) (R : Ending → World → Prop) : Prop :=
  Drew w fun w =>
  ncQ t0 fun t11 =>
  fa1 t11 2 fun t12 =>
  ld1 w t12 fun t13 =>
  ln1 t13 fun t14 =>
  ncQ t0 fun t16 =>
  fa1 t16 0 fun t17 =>
  ld1 w t17 fun t18 =>
  ncQ t18 fun t19 =>
  fa1 t19 0 fun t20 =>
  ld1 w t20 fun t21 =>
  ln1 t21 fun t22 =>
  bdQ Tryd.prog 84 [(0, t14), (1, t22), (5, (.int .i64 1))] fun t23 =>
  boxW 84 t23 w <| keepB w fun t24 w =>
  Drew w fun w =>
  ncQ t24 fun t26 =>
  fa1 t26 0 fun t27 =>
  ld1 w t27 fun t28 =>
  ncQ t24 fun t30 =>
  fa1 t30 1 fun t31 =>
  ld1 w t31 fun t32 =>
  binQ Tryd.prog w .add 3 false t28 t32 fun t33 =>
  binQ Tryd.prog w .add 3 true t33 (.int .i64 1) fun t34 =>
  mkW Tryd.prog 31 t34 t34 w fun t37 w =>
  ncQ t24 fun t38 =>
  fa1 t38 3 fun t39 =>
  stW Tryd.prog 31 t39 t37 w fun w =>
  ncQ t0 fun t41 =>
  fa1 t41 0 fun t42 =>
  ld1 w t42 fun t43 =>
  ncQ t43 fun t44 =>
  fa1 t44 0 fun t45 =>
  ld1 w t45 fun t46 =>
  ln1 t46 fun t47 =>
  S32L0 t0 t24 t34 t47 R w

def A32 : Ann where
  live := fun
    | 0 => [48]
    | 2 => [58]
    | 4 => [108]
    | _ => []
  wr := fun
    | 0 => fun i => (Nat.ble 5 i && Nat.ble i 9) || (Nat.ble 48 i && Nat.ble i 137)
    | 2 => fun i => (Nat.ble 7 i && Nat.ble i 8) || (Nat.ble 58 i && Nat.ble i 69)
    | 4 => fun i => Nat.beq i 9 || (Nat.ble 108 i && Nat.ble i 136)
    | _ => fun _ => false
  sched := fun
    | 1 => (.take 0 (.take 1 (.take 2 (.take 3 (.take 4 (.take 5 (.take 6 (.take 7 (.take 8 (.take 9 (.take 10 (.take 11 (.take 12 (.take 13 (.eff 14 (.take 15 .done))))))))))))))))
    | 2 => (.take 0 (.take 1 (.take 2 (.take 3 (.take 4 (.take 5 (.take 6 (.take 7 (.take 8 (.take 9 (.take 10 .done)))))))))))
    | 15 => (.cls (.cls (.take 0 (.take 1 (.take 2 (.take 3 (.take 4 (.take 5 (.take 6 (.take 9 (.take 10 (.take 11 (.take 12 (.take 13 (.take 14 (.take 15 (.take 16 (.take 17 (.take 18 (.alt 7 (.alt 8 (.eff 19 (.eff 20 (.take 21 (.take 22 (.eff 23 (.take 24 (.take 25 (.bar 26 .done)))))))) (.alt 19 (.eff 8 (.eff 20 (.take 21 (.take 22 (.eff 23 (.take 24 (.take 25 (.bar 26 .done)))))))) .nomore)) (.alt 19 (.eff 7 (.eff 8 (.eff 20 (.take 21 (.take 22 (.eff 23 (.take 24 (.take 25 (.bar 26 .done))))))))) .nomore)))))))))))))))))))))
    | 20 => (.take 0 (.take 1 (.take 2 (.take 3 (.take 4 (.take 5 (.take 6 (.take 7 (.take 8 (.take 9 (.take 10 (.take 11 (.take 12 (.bar 13 .done))))))))))))))
    | _ => .done

set_option maxRecDepth 100000 in
theorem ok32 : (codeOk Tryd.f32.ntmps A32 (Tryd.f32.body.getD .skip) 0 && Nat.ble 1 Tryd.f32.ntmps) = true := by kernel_rfl
set_option maxRecDepth 100000 in
theorem lift32 {t0 : Value} {w : World} {R : Ending → World → Prop} (h : S32 t0 w R) : Calls Tryd.prog 32 #[t0] w R :=
  calls_of_cw (fn := Tryd.f32) (c := Tryd.f32.body.getD .skip) A32 mixes Tryd.func32 (by kernel_rfl) ok32
    ((by kernel_rfl : (S32 t0 w R) = cw Tryd.prog A32 (Tryd.f32.body.getD .skip) 0 (bodyQ Tryd.prog Tryd.f32 R) (frOf #[t0]) w).mp h)

theorem fok32 : fnOk Tryd.prog 32 = true := by kernel_rfl
end Go.Proofs.YtbekeccfjmoonaaDoor
