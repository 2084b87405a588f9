/- Texts of my own, merged by program: Sd Tk. -/
import Derived.Test.YtfmppkplmfbjpaaGreatDoorM03
import Derived.Test.YtfmppkplmfbjpaaGreatDoorM12
set_option linter.all false
/- Lifted texts, printed by program (gen.py): what each function's code asks. The ties are by the kernel. -/
namespace Go.Proofs.YtfmppkplmfbjpaaGreatDoor
open Go.Lf Go.RowKit

def S56xL2 (t1 t12 t20 t55 t61 t66 : Value) (next_2 : Value → World → Prop) (w : World) : Prop :=
  Loop1 (.int .i64 0) w fun _ t67 w next_3 =>
    binQ Tryz.prog w .lss 3 false t67 t66 fun t68 =>
    condW t68 (
      iaS 1 t1 t67 fun t70 =>
      ld1 w t70 fun t71 =>
      ldN 2 w t12 fun t75 =>
      callW Tryz.prog (.func (.func 87) #[] #[]) [t20, t71, t75] w fun t76 w =>
      exQ t76 0 fun t77 =>
      exQ t76 1 fun t78 =>
      Join (fun (k_2 : World → Prop) =>
        condW t78 (
          Drew w fun w =>
          Join (fun (k_3 : World → Prop) =>
            ∃ X : Nat → Prop,
            takeX X w (fun w k => k t55) fun t80 =>
            takeX topX w (fun w k => k t55) fun t81 =>
            takeX X w (fun w k => k t55) fun t82 =>
            takeX X w (fun w k => ncQ t82 k) fun t83 =>
            takeX X w (fun w k => fa1 t83 2 k) fun t84 =>
            takeX X w (fun w k => ld1 w t84 k) fun t85 =>
            takeX X w (fun w k => k t67) fun t86 =>
            takeX X w (fun w k => fa1 t12 0 k) fun t87 =>
            takeX X w (fun w k => ld1 w t87 k) fun t88 =>
            takeX X w (fun w k => fa1 t12 1 k) fun t89 =>
            takeX X w (fun w k => ld1 w t89 k) fun t90 =>
            takeX X w (fun w k => bdQ Tryz.prog 173 [(0, t86), (1, t88), (2, t90)] k) fun t91 =>
            takeX X w (fun w k => k t55) fun t94 =>
            takeX X w (fun w k => ncQ t94 k) fun t95 =>
            takeX X w (fun w k => fa1 t95 3 k) fun t96 =>
            takeX X w (fun w k => ld1 w t96 k) fun t97 =>
            takeX X w (fun w k => k t77) fun t98 =>
            And (
              bsW Tryz.prog 131 1 [(0, t91)] w <| keepX X w fun t92 w =>
              And (
                semW Tryz.prog (apS [131, 131] 131 [t85, t92]) w <| keepX X w fun t93 w =>
                bsW Tryz.prog 29 1 [(0, t98)] w <| keepX X w fun t99 w =>
                semW Tryz.prog (apS [29, 29] 29 [t97, t99]) w <| keepX X w fun t100 w =>
                takeX X w (fun w k => ncQ t80 k) fun t101 =>
                takeX X w (fun w k => fa1 t101 2 k) fun t102 =>
                stW Tryz.prog 131 t102 t93 w <| keepW topX w fun w =>
                takeX topX w (fun w k => ncQ t81 k) fun t103 =>
                takeX topX w (fun w k => fa1 t103 3 k) fun t104 =>
                stW Tryz.prog 29 t104 t100 w fun w =>
                k_3  w
              ) <|
              And (
                bsW Tryz.prog 29 1 [(0, t98)] w <| keepX X w fun t99_2 w =>
                semW Tryz.prog (apS [131, 131] 131 [t85, t92]) w <| keepX X w fun t93_2 w =>
                semW Tryz.prog (apS [29, 29] 29 [t97, t99_2]) w <| keepX X w fun t100_2 w =>
                takeX X w (fun w k => ncQ t80 k) fun t101_2 =>
                takeX X w (fun w k => fa1 t101_2 2 k) fun t102_2 =>
                stW Tryz.prog 131 t102_2 t93_2 w <| keepW topX w fun w =>
                takeX topX w (fun w k => ncQ t81 k) fun t103_2 =>
                takeX topX w (fun w k => fa1 t103_2 3 k) fun t104_2 =>
                stW Tryz.prog 29 t104_2 t100_2 w fun w =>
                k_3  w
              ) <|
              True
            ) <|
            And (
              bsW Tryz.prog 29 1 [(0, t98)] w <| keepX X w fun t99_3 w =>
              bsW Tryz.prog 131 1 [(0, t91)] w <| keepX X w fun t92_2 w =>
              semW Tryz.prog (apS [131, 131] 131 [t85, t92_2]) w <| keepX X w fun t93_3 w =>
              semW Tryz.prog (apS [29, 29] 29 [t97, t99_3]) w <| keepX X w fun t100_3 w =>
              takeX X w (fun w k => ncQ t80 k) fun t101_3 =>
              takeX X w (fun w k => fa1 t101_3 2 k) fun t102_3 =>
              stW Tryz.prog 131 t102_3 t93_3 w <| keepW topX w fun w =>
              takeX topX w (fun w k => ncQ t81 k) fun t103_3 =>
              takeX topX w (fun w k => fa1 t103_3 3 k) fun t104_3 =>
              stW Tryz.prog 29 t104_3 t100_3 w fun w =>
              k_3  w
            ) <|
            True
          ) fun  w =>
          k_2 w
        ) (
          k_2 w
        )
      ) fun w =>
      binQ Tryz.prog w .add 3 true t67 (.int .i64 1) fun t105_2 =>
      next_3 t105_2 w
    ) (
      binQ Tryz.prog w .add 3 true t61 (.int .i64 1) fun t106 =>
      next_2 t106 w
    )

def S56xL1 (t1 t20 t55 t59 t60 : Value) (R : Ending → World → Prop) (w : World) : Prop :=
  Loop1 (.int .i64 0) w fun _ t61 w next_2 =>
    binQ Tryz.prog w .lss 3 false t61 t60 fun t62 =>
    condW t62 (
      iaS 2 t59 t61 fun t63 =>
      ldN 2 w t63 fun t64 =>
      boxW 100 (.agg #[(.int .i64 0), (.int .i64 0)]) w fun t12 w =>
      stW Tryz.prog 100 t12 t64 w fun w =>
      ln1 t1 fun t66 =>
      S56xL2 t1 t12 t20 t55 t61 t66 next_2 w
    ) (
      R (.returned (.tuple #[t55, (.int .i64 0)])) w
    )

def S56xL0 (t1 t20 t35 : Value) (R : Ending → World → Prop) (w : World) : Prop :=
  Loop1 (.int .i64 0) w fun _ t36 w next =>
    binQ Tryz.prog w .lss 3 false t36 t35 fun t37 =>
    condW t37 (
      iaS 1 t1 t36 fun t39 =>
      ld1 w t39 fun t40 =>
      boxW 141 (.slice none 0 0) w fun t9 w =>
      stW Tryz.prog 141 t9 t40 w fun w =>
      ld1 w t9 fun t41 =>
      callW Tryz.prog (.func (.func 83) #[] #[]) [t41] w fun t42 w =>
      unQ .not t42 fun t43 =>
      gd t43 false (fun k => k t1 w) w fun t45 w =>
      gd t43 false (fun k => k t36 w) w fun t46 w =>
      gd t43 false (fun k => slS 1 t45 none (some t46) fun v => k v w) w fun t47 w =>
      gd t43 false (fun k => k (.func (.func 85) #[] #[t9]) w) w fun t48 w =>
      gd t43 false (fun k => callW Tryz.prog (.func (.func 84) #[] #[]) [t47, t48] w k) w fun t49 w =>
      pickQ t43 (.bool true) t49 fun t50 =>
      condW t50 (
        R (.returned (.tuple #[(.pointer none), (.int .i64 2)])) w
      ) (
        binQ Tryz.prog w .add 3 true t36 (.int .i64 1) fun t51 =>
        next t51 w
      )
    ) (
      bdQ Tryz.prog 133 [(0, t20), (1, t1)] fun t54 =>
      boxW 133 t54 w fun t55 w =>
      ncQ t20 fun t57 =>
      fa1 t57 0 fun t58 =>
      ld1 w t58 fun t59 =>
      ln1 t59 fun t60 =>
      S56xL1 t1 t20 t55 t59 t60 R w
    )

def S56x (t0 t1 : Value) (w : World) (R : Ending → World → Prop) : Prop :=
  callW Tryz.prog (.func (.func 82) #[] #[]) [t0] w fun t19 w =>
  exQ t19 0 fun t20 =>
  exQ t19 1 fun t21 =>
  unQ .not t21 fun t23 =>
  gd t23 false (fun k => k t1 w) w fun t25 w =>
  gd t23 false (fun k => ln1 t25 fun v => k v w) w fun t26 w =>
  gd t23 false (fun k => binQ Tryz.prog w .lss 3 true t26 (.int .i64 1) fun v => k v w) w fun t27 w =>
  pickQ t23 (.bool true) t27 fun t28 =>
  gd t28 false (fun k => k t1 w) w fun t30 w =>
  gd t28 false (fun k => ln1 t30 fun v => k v w) w fun t31 w =>
  gd t28 false (fun k => binQ Tryz.prog w .gtr 3 true t31 (.int .i64 6) fun v => k v w) w fun t32 w =>
  pickQ t28 (.bool true) t32 fun t33 =>
  condW t33 (
    R (.returned (.tuple #[(.pointer none), (.int .i64 2)])) w
  ) (
    ln1 t1 fun t35 =>
    S56xL0 t1 t20 t35 R w
  )

def A56x : Ann where
  live := fun
    | 0 => [36]
    | 2 => [61]
    | 4 => [67]
    | _ => []
  wr := fun
    | 0 => fun i => (Nat.ble 4 i && Nat.ble i 5) || (Nat.ble 8 i && Nat.ble i 9) || (Nat.ble 36 i && Nat.ble i 51)
    | 2 => fun i => (Nat.ble 12 i && Nat.ble i 16) || (Nat.ble 61 i && Nat.ble i 106)
    | 4 => fun i => (Nat.ble 13 i && Nat.ble i 16) || (Nat.ble 67 i && Nat.ble i 105)
    | _ => fun _ => false
  sched := fun
    | 19 => (.cls (.cls (.take 0 (.take 1 (.take 2 (.take 3 (.take 4 (.take 5 (.take 6 (.take 7 (.take 8 (.take 9 (.take 10 (.take 11 (.take 14 (.take 15 (.take 16 (.take 17 (.take 18 (.alt 12 (.alt 13 (.eff 19 (.eff 20 (.take 21 (.take 22 (.eff 23 (.take 24 (.take 25 (.bar 26 .done)))))))) (.alt 19 (.eff 13 (.eff 20 (.take 21 (.take 22 (.eff 23 (.take 24 (.take 25 (.bar 26 .done)))))))) .nomore)) (.alt 19 (.eff 12 (.eff 13 (.eff 20 (.take 21 (.take 22 (.eff 23 (.take 24 (.take 25 (.bar 26 .done))))))))) .nomore)))))))))))))))))))))
    | _ => .done

set_option maxRecDepth 100000 in
theorem ok56x : (codeOk Tryz.f56.ntmps A56x (Tryz.f56.body.getD .skip) 0 && Nat.ble 2 Tryz.f56.ntmps) = true := by kernel_rfl
set_option maxRecDepth 100000 in
theorem lift56x {t0 t1 : Value} {w : World} {R : Ending → World → Prop} (h : S56x t0 t1 w R) : Calls Tryz.prog 56 #[t0, t1] w R :=
  calls_of_cw (fn := Tryz.f56) (c := Tryz.f56.body.getD .skip) A56x mixes Tryz.func56 (by kernel_rfl) ok56x
    ((by kernel_rfl : (S56x t0 t1 w R) = cw Tryz.prog A56x (Tryz.f56.body.getD .skip) 0 (bodyQ Tryz.prog Tryz.f56 R) (frOf #[t0, t1]) w).mp h)

theorem fok56 : fnOk Tryz.prog 56 = true := by kernel_rfl
end Go.Proofs.YtfmppkplmfbjpaaGreatDoor

/- Contracts of weight: covered; ContainsFunc at tiles. -/
namespace Go.Proofs.YtfmppkplmfbjpaaGreatDoor
open Go.Lf Go.RowKit Go.Ht

/-- The number of a cell. -/
def numI (P : List C2) (c : C2) : Int := ((P.idxOf c : Nat) : Int)
theorem numF_mem {P : List C2} {c : C2} (h : c ∈ P) : numF P c = some (.int .i64 (numI P c)) := by unfold numF numI; rw [if_pos h]
theorem numF_not {P : List C2} {c : C2} (h : c ∉ P) : numF P c = none := by unfold numF; rw [if_neg h]
theorem stepC_zero (c : C2) : stepC c (0, 0) = c := by unfold stepC; simp

set_option maxRecDepth 100000 in
set_option maxHeartbeats 1000000 in
theorem covered_calls {base bf bm k : Nat} {vs v : Value} {P : List C2} {c : C2} (w : World) (hF : FloorAt base w bf bm vs P) (hr : RdC w v (domT k)) (hc : c ∈ P) (h0 : 0 ≤ c.1 ∧ c.1 ≤ 1000 ∧ 0 ≤ c.2 ∧ c.2 ≤ 1000) :
    Calls Tryz.prog 87 #[ptrV bf, v, cV c] w fun e w' => Kp w w' ∧ ((stepC c (domS k) ∈ P ∧ ∃ v', e = .returned (.tuple #[v', .bool true]) ∧ IntsAt w.heap.size w' v' [numI P c, numI P (stepC c (domS k))]) ∨ (stepC c (domS k) ∉ P ∧ ∃ x, e = .returned (.tuple #[x, .bool false]))) := by
  obtain ⟨a, cap, ev, _⟩ := hr.len
  have lnv : ∀ K : Value → Prop, ln1 v K = K (.int .i64 ((2 : Nat) : Int)) := fun K => by rw [ev]; rfl
  refine lift87 ?_
  unfold S87
  refine r_box fun b5 w1 e5 s5 h5 k1 => ?_
  have h5' : w1.heap[b5]? = some (.cells #[.int .i64 c.1, .int .i64 c.2] 100 (0, 0)) := h5
  rw [lnv]
  unfold S87L0
  refine ⟨fun t8 t15 w' => ∃ i : Nat, i ≤ 2 ∧ t15 = .int .i64 i ∧ IntsAt w1.heap.size w' t8 ([numI P c, numI P (stepC c (domS k))].take i) ∧ (∀ j, j < i → stepC c ((domT k).getD j (0, 0)) ∈ P) ∧ Kp w1 w', fun _ t15 _ => 2 - (intOf t15).toNat, ⟨0, by omega, rfl, RecAt.nil, fun j hj => by omega, Kp.refl _⟩, ?_⟩
  rintro _ t8 _ wr ⟨i, hi, rfl, hO, hall, kr⟩
  have k0r := Kp.trans k1 kr
  by_cases hlt : i < 2
  case neg =>
    have hlt' : ¬ (i : Int) < ((2 : Nat) : Int) := by omega
    rw [r_lss, decide_eq_false hlt', r_condF]
    obtain rfl : i = 2 := by omega
    exact ⟨k0r, .inl ⟨hall 1 (by omega), t8, rfl, RecAt.down hO k1.size⟩⟩
  have hlt' : (i : Int) < ((2 : Nat) : Int) := by omega
  rw [r_lss, decide_eq_true hlt', r_condT, cell_at (hr.kp k0r) (i := i) hlt]
  have hb : 0 ≤ ((domT k).getD i (0, 0)).1 ∧ ((domT k).getD i (0, 0)).1 ≤ 1 ∧ 0 ≤ ((domT k).getD i (0, 0)).2 ∧ ((domT k).getD i (0, 0)).2 ≤ 1 := by
    match i, hlt with
    | 0, _ => exact ⟨Int.le_refl 0, Int.zero_le_ofNat 1, Int.le_refl 0, Int.zero_le_ofNat 1⟩
    | 1, _ => show 0 ≤ (domS k).1 ∧ (domS k).1 ≤ 1 ∧ 0 ≤ (domS k).2 ∧ (domS k).2 ≤ 1; rcases domS_or k with e | e <;> rw [e] <;> exact ⟨by decide, by decide, by decide, by decide⟩
  have hq : [numI P c, numI P (stepC c (domS k))].take (i + 1) = [numI P c, numI P (stepC c (domS k))].take i ++ [numI P (stepC c ((domT k).getD i (0, 0)))] := by
    match i, hlt with
    | 0, _ => show [numI P c] = [numI P (stepC c (0, 0))]; rw [stepC_zero]
    | 1, _ => rfl
  have hlast : stepC c ((domT k).getD i (0, 0)) ∉ P → i = 1 := fun h => by
    match i, hlt with
    | 0, _ => exact absurd (by show stepC c (0, 0) ∈ P; rw [stepC_zero]; exact hc) h
    | 1, _ => rfl
  have hs1 : i = 1 → (domT k).getD i (0, 0) = domS k := fun e => by rw [e]; rfl
  generalize hqd : (domT k).getD i (0, 0) = q at *
  refine r_box fun b10 w2 e10 s10 h10 k2 => ?_
  have h10' : w2.heap[b10]? = some (.cells #[.int .i64 0, .int .i64 0] 100 (0, 0)) := h10
  refine st43 (p := q) h10' fun w3 c3 s3 h103 => ?_
  have kr3 : Kp wr w3 := Kp.of_chg k2 c3 fun q e => by omega
  refine r_drew fun w4 k4 _ => ?_
  have kr4 := Kp.trans kr3 k4
  have F4 := hF.kp (Kp.trans k0r kr4)
  obtain ⟨c0, c1⟩ := c_cells (p := c) (block_below h5' (Kp.trans kr kr4))
  obtain ⟨d0, d1⟩ := c_cells (p := q) (block_below h103 k4)
  rw [r_nc, r_fa, r_ld F4.cells.2]
  simp only [r_fa, Nat.zero_add, r_ld c0, r_ld c1, r_ld d0, r_ld d1]
  rw [r_add _ _ (by omega) (by omega), r_add _ _ (by omega) (by omega), bd43]
  refine r_lkOG2 keyC und53 zero3 F4.mp (k := stepC c q) ⟨⟨by unfold stepC; dsimp only; omega, by unfold stepC; dsimp only; omega⟩, ⟨by unfold stepC; dsimp only; omega, by unfold stepC; dsimp only; omega⟩⟩ ?_
  rw [r_ex2a, r_ex2b, r_not]
  by_cases hm : stepC c q ∈ P
  · rw [numF_mem hm]
    show condW (.bool false) _ _
    rw [r_condF]
    show bsW Tryz.prog 34 1 [(0, .int .i64 (numI P (stepC c q)))] w4 _
    refine r_pushRec (x := numI P (stepC c q)) (ty := 34) slt31 iC_len rfl (fun K => bs31 _ _ _ K) (by simp [iC]; rfl) (by omega) (RecAt.kp hO kr4) (by simp; omega) (Kp.trans kr kr4).size fun v' w' o1 c1' _ => ?_
    rw [r_add _ _ (by omega) (by omega)]
    refine ⟨⟨i + 1, by omega, by go_num, by rw [hq]; exact o1, fun j hj => ?_, Kp.of_chg (Kp.trans kr kr4) c1' fun k' hk => (RecAt.lt hO hk).1⟩, by simp only [intOf]; omega⟩
    by_cases e : j = i
    · rw [e, hqd]; exact hm
    · exact hall j (by omega)
  · rw [numF_not hm]
    show condW (.bool true) _ _
    rw [r_condT]
    refine ⟨Kp.trans k0r kr4, .inr ⟨?_, _, rfl⟩⟩
    rw [← hs1 (hlast hm)]; exact hm

set_option maxRecDepth 100000 in
theorem same_calls {v u : Value} {b : Nat} (w : World) (hb : w.cell? ⟨b, 0, none⟩ = some u) (hr : RdC w v (domT 0)) (hu : RdC w u (domT 1)) : Calls Tryz.prog 85 #[v, ptrV b] w fun e w' => e = .returned (.bool false) ∧ Kp w w' := by
  refine lift85 ?_
  unfold S85
  rw [r_ld hb]
  refine r_use fok86 (equal_calls w hr hu) rfl ?_
  rintro _ w1 ⟨rfl, k1⟩
  exact ⟨_, rfl, rfl, k1⟩

set_option maxRecDepth 100000 in
theorem idx72_calls {v u : Value} {L : List Value} {b : Nat} (w : World) (hv : Rd 1 vE w v L) (hl : L.length ≤ 1000) (hb : w.cell? ⟨b, 0, none⟩ = some u) (hL : ∀ x ∈ L, RdC w x (domT 0) ∧ RdC w u (domT 1)) :
    Calls Tryz.prog 96 #[v, .func (.func 85) #[] #[ptrV b]] w fun e w' => e = .returned (.int .i64 (-1)) ∧ Kp w w' := by
  obtain ⟨a, cap, ev, _⟩ := hv.len
  have lnv : ∀ K : Value → Prop, ln1 v K = K (.int .i64 L.length) := fun K => by rw [ev]; rfl
  refine lift96 ?_
  unfold S96
  rw [lnv]
  unfold S96L0
  refine ⟨fun t8 wr => ∃ i : Nat, i ≤ L.length ∧ t8 = .int .i64 i ∧ Kp w wr, fun t8 _ => L.length - (intOf t8).toNat, ⟨0, by omega, rfl, Kp.refl _⟩, ?_⟩
  rintro _ _ wr ⟨i, hi, rfl, kr⟩
  by_cases hlt : i < L.length
  case neg =>
    have hlt' : ¬ (i : Int) < (L.length : Int) := by omega
    rw [r_lss, decide_eq_false hlt', r_condF]
    exact ⟨rfl, kr⟩
  have hlt' : (i : Int) < (L.length : Int) := by omega
  obtain ⟨b', off, cap', e2, _, hc⟩ := (hv.kp kr).at (List.getElem?_eq_getElem hlt)
  have hA := hc 0 _ rfl
  rw [Nat.add_zero] at hA
  have hii : (i : Int).toNat = i := by omega
  rw [r_lss, decide_eq_true hlt', r_condT, e2, r_iaS _ _ _ _ _ _ _ (by omega) (by omega), hii, r_ld hA]
  obtain ⟨g1, g2⟩ := hL L[i] (List.getElem_mem hlt)
  refine r_use fok85 (same_calls wr (cell_later kr hb) (g1.kp kr) (g2.kp kr)) rfl ?_
  rintro _ w2 ⟨rfl, k2⟩
  refine ⟨_, rfl, ?_⟩
  rw [r_condF, r_add _ _ (by omega) (by omega)]
  exact ⟨⟨i + 1, by omega, by go_num, Kp.trans kr k2⟩, by simp only [intOf]; omega⟩

set_option maxRecDepth 100000 in
theorem twice_calls {v u : Value} {L : List Value} {b : Nat} (w : World) (hv : Rd 1 vE w v L) (hl : L.length ≤ 1000) (hb : w.cell? ⟨b, 0, none⟩ = some u) (hL : ∀ x ∈ L, RdC w x (domT 0) ∧ RdC w u (domT 1)) :
    Calls Tryz.prog 84 #[v, .func (.func 85) #[] #[ptrV b]] w fun e w' => e = .returned (.bool false) ∧ Kp w w' := by
  refine lift84 ?_
  unfold S84
  refine r_use fok96 (idx72_calls w hv hl hb hL) rfl ?_
  rintro _ w1 ⟨rfl, k1⟩
  refine ⟨_, rfl, ?_⟩
  rw [r_geq, decide_eq_false (by omega)]
  exact ⟨rfl, k1⟩

end Go.Proofs.YtfmppkplmfbjpaaGreatDoor
