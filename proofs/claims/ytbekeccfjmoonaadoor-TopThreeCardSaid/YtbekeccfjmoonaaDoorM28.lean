/- Texts of my own, merged by program: Sh Ng. -/
import Derived.Test.YtbekeccfjmoonaaDoorM07
import Derived.Test.YtbekeccfjmoonaaDoorM27
set_option linter.all false
/- Lifted texts, printed by program (gen.py): what each function's code asks. The ties are by the kernel. -/
namespace Go.Proofs.YtbekeccfjmoonaaDoor
open Go.Lf Go.RowKit

def S11L1 (t6 t7 : Value) (next : Value → Value → World → Prop) (w : World) : Prop :=
  Loop2 t6 (.int .i64 (-1)) w fun _ t6_2 t8 w next_2 =>
    binQ Tryd.prog w .leq 3 true t8 (.int .i64 1) fun t28 =>
    condW t28 (
      bdQ Tryd.prog 43 [(0, t8), (1, t7)] fun t34 =>
      bsW Tryd.prog 39 1 [(0, t34)] w fun t35 w =>
      semW Tryd.prog (apS [39, 39] 39 [t6_2, t35]) w fun t36 w =>
      binQ Tryd.prog w .add 3 true t8 (.int .i64 1) fun t30 =>
      next_2 t36 t30 w
    ) (
      binQ Tryd.prog w .add 3 true t7 (.int .i64 1) fun t26 =>
      next t6_2 t26 w
    )

def S11L4 (t41 t65 t70 : Value) (k_2 : Value → World → Prop) (w : World) : Prop :=
  Loop0 w fun _ w next_5 =>
    semW Tryd.prog (Go.Lf.nxS t70 false 0) w fun t71 w =>
    exQ t71 0 fun t72 =>
    condW t72 (
      semW Tryd.prog (enS t70) w fun t73 w =>
      exQ t73 0 fun t74 =>
      boxW 43 (.agg #[(.int .i64 0), (.int .i64 0)]) w fun t15 w =>
      stW Tryd.prog 43 t15 t74 w fun w =>
      ldN 2 w t15 fun t76 =>
      semW Tryd.prog (muS 79 t41 t76 (.bool true)) w fun _ w =>
      next_5 w
    ) (
      k_2 t65 w
    )

def S11L3 (t4 t6 t11 t41 t44 t48 : Value) (next_3 : Value → Value → World → Prop) (w : World) : Prop :=
  Loop2 t11 (.int .i64 0) w fun _ t11_2 t49 w next_4 =>
    binQ Tryd.prog w .lss 3 false t49 t48 fun t50 =>
    condW t50 (
      bdQ Tryd.prog 43 [(0, t49), (1, t44)] fun t54 =>
      boxW 43 (.agg #[(.int .i64 0), (.int .i64 0)]) w fun t14 w =>
      stW Tryd.prog 43 t14 t54 w fun w =>
      ldN 2 w t14 fun t56 =>
      callW Tryd.prog (.func (.func 29) #[] #[t4]) [t56] w fun t57 w =>
      gd t57 true (fun k => k t41 w) w fun t59 w =>
      gd t57 true (fun k => ldN 2 w t14 fun v => k v w) w fun t60 w =>
      gd t57 true (fun k => semW Tryd.prog (lkS 79 t59 t60 false) w k) w fun t61 w =>
      gd t57 true (fun k => unQ .not t61 fun v => k v w) w fun t62 w =>
      pickQ t57 t62 (.bool false) fun t63 =>
      Join (fun (k_2 : Value → World → Prop) =>
        condW t63 (
          binQ Tryd.prog w .add 3 true t11_2 (.int .i64 1) fun t65 =>
          ldN 2 w t14 fun t66 =>
          callW Tryd.prog (.func (.func 31) #[] #[]) [t66, (.func (.func 29) #[] #[t4]), t6] w fun t69 w =>
          semW Tryd.prog (rgS 79 t69) w fun t70 w =>
          S11L4 t41 t65 t70 k_2 w
        ) (
          k_2 t11_2 w
        )
      ) fun t11_3 w =>
      binQ Tryd.prog w .add 3 true t49 (.int .i64 1) fun t77_2 =>
      next_4 t11_3 t77_2 w
    ) (
      binQ Tryd.prog w .add 3 true t44 (.int .i64 1) fun t78 =>
      next_3 t11_2 t78 w
    )

def S11L2 (t4 t6 t41 t43 : Value) (R : Ending → World → Prop) (w : World) : Prop :=
  Loop2 (.int .i64 0) (.int .i64 0) w fun _ t11 t44 w next_3 =>
    binQ Tryd.prog w .lss 3 false t44 t43 fun t45 =>
    condW t45 (
      fa1 t4 0 fun t47 =>
      ld1 w t47 fun t48 =>
      S11L3 t4 t6 t11 t41 t44 t48 next_3 w
    ) (
      R (.returned (.tuple #[t11, (.int .i64 0)])) w
    )

def S11L0 (t4 : Value) (R : Ending → World → Prop) (w : World) : Prop :=
  Loop2 (.slice none 0 0) (.int .i64 (-1)) w fun _ t6 t7 w next =>
    binQ Tryd.prog w .leq 3 true t7 (.int .i64 1) fun t24 =>
    condW t24 (
      S11L1 t6 t7 next w
    ) (
      bdQ Tryd.prog 43 [(0, (.int .i64 (-1))), (1, (.int .i64 (-1)))] fun t38 =>
      callW Tryd.prog (.func (.func 31) #[] #[]) [t38, (.func (.func 29) #[] #[t4]), t6] w fun t41 w =>
      fa1 t4 1 fun t42 =>
      ld1 w t42 fun t43 =>
      S11L2 t4 t6 t41 t43 R w
    )

def S11 (t0 : Value) (w : World) (R : Ending → World → Prop) : Prop :=
  callW Tryd.prog (.func (.func 21) #[] #[]) [t0] w fun t18 w =>
  exQ t18 0 fun t19 =>
  exQ t18 1 fun t20 =>
  boxW 63 (.agg #[(.int .i64 0), (.int .i64 0), (.slice none 0 0)]) w fun t4 w =>
  stW Tryd.prog 63 t4 t19 w fun w =>
  unQ .not t20 fun t22 =>
  condW t22 (
    R (.returned (.tuple #[(.int .i64 0), (.int .i64 2)])) w
  ) (
    S11L0 t4 R w
  )

def A11 : Ann where
  live := fun
    | 0 => [6, 7]
    | 2 => [6, 8]
    | 4 => [11, 44]
    | 6 => [11, 49]
    | 8 => []
    | _ => []
  wr := fun
    | 0 => fun i => (Nat.ble 6 i && Nat.ble i 8) || (Nat.ble 23 i && Nat.ble i 36)
    | 2 => fun i => Nat.beq i 6 || Nat.beq i 8 || (Nat.ble 27 i && Nat.ble i 36)
    | 4 => fun i => (Nat.ble 11 i && Nat.ble i 15) || (Nat.ble 44 i && Nat.ble i 78)
    | 6 => fun i => Nat.beq i 11 || (Nat.ble 13 i && Nat.ble i 15) || (Nat.ble 49 i && Nat.ble i 77)
    | 8 => fun i => Nat.beq i 15 || (Nat.ble 71 i && Nat.ble i 76)
    | _ => fun _ => false
  sched := fun _ => .done

set_option maxRecDepth 100000 in
theorem ok11 : (codeOk Tryd.f11.ntmps A11 (Tryd.f11.body.getD .skip) 0 && Nat.ble 1 Tryd.f11.ntmps) = true := by kernel_rfl
set_option maxRecDepth 100000 in
theorem lift11 {t0 : Value} {w : World} {R : Ending → World → Prop} (h : S11 t0 w R) : Calls Tryd.prog 11 #[t0] w R :=
  calls_of_cw (fn := Tryd.f11) (c := Tryd.f11.body.getD .skip) A11 mixes Tryd.func11 (by kernel_rfl) ok11
    ((by kernel_rfl : (S11 t0 w R) = cw Tryd.prog A11 (Tryd.f11.body.getD .skip) 0 (bodyQ Tryd.prog Tryd.f11 R) (frOf #[t0]) w).mp h)

def S29 (t0 t1 : Value) (w : World) (R : Ending → World → Prop) : Prop :=
  boxW 43 t0 w fun t2 w =>
  fa1 t2 0 fun t4 =>
  ld1 w t4 fun t5 =>
  binQ Tryd.prog w .geq 3 true t5 (.int .i64 (-1)) fun t6 =>
  gd t6 true (fun k => fa1 t2 1 fun v => k v w) w fun t8 w =>
  gd t6 true (fun k => ld1 w t8 fun v => k v w) w fun t9 w =>
  gd t6 true (fun k => binQ Tryd.prog w .geq 3 true t9 (.int .i64 (-1)) fun v => k v w) w fun t10 w =>
  pickQ t6 t10 (.bool false) fun t11 =>
  gd t11 true (fun k => fa1 t2 0 fun v => k v w) w fun t13 w =>
  gd t11 true (fun k => ld1 w t13 fun v => k v w) w fun t14 w =>
  gd t11 true (fun k => fa1 t1 0 fun v => k v w) w fun t15 w =>
  gd t11 true (fun k => ld1 w t15 fun v => k v w) w fun t16 w =>
  gd t11 true (fun k => binQ Tryd.prog w .leq 3 false t14 t16 fun v => k v w) w fun t17 w =>
  pickQ t11 t17 (.bool false) fun t18 =>
  gd t18 true (fun k => fa1 t2 1 fun v => k v w) w fun t20 w =>
  gd t18 true (fun k => ld1 w t20 fun v => k v w) w fun t21 w =>
  gd t18 true (fun k => fa1 t1 1 fun v => k v w) w fun t22 w =>
  gd t18 true (fun k => ld1 w t22 fun v => k v w) w fun t23 w =>
  gd t18 true (fun k => binQ Tryd.prog w .leq 3 false t21 t23 fun v => k v w) w fun t24 w =>
  pickQ t18 t24 (.bool false) fun t25 =>
  gd t25 true (fun k => ldN 3 w t1 fun v => k v w) w fun t27 w =>
  gd t25 true (fun k => fa1 t2 0 fun v => k v w) w fun t28 w =>
  gd t25 true (fun k => ld1 w t28 fun v => k v w) w fun t29 w =>
  gd t25 true (fun k => fa1 t2 1 fun v => k v w) w fun t30 w =>
  gd t25 true (fun k => ld1 w t30 fun v => k v w) w fun t31 w =>
  gd t25 true (fun k => callW Tryd.prog (.func (.func 30) #[] #[]) [t27, t29, t31] w k) w fun t32 w =>
  gd t25 true (fun k => unQ .not t32 fun v => k v w) w fun t33 w =>
  pickQ t25 t33 (.bool false) fun t34 =>
  R (.returned t34) w

def A29 : Ann where
  live := fun _ => []
  wr := fun _ _ => false
  sched := fun _ => .done

set_option maxRecDepth 100000 in
theorem ok29 : (codeOk Tryd.f29.ntmps A29 (Tryd.f29.body.getD .skip) 0 && Nat.ble 2 Tryd.f29.ntmps) = true := by kernel_rfl
set_option maxRecDepth 100000 in
theorem lift29 {t0 t1 : Value} {w : World} {R : Ending → World → Prop} (h : S29 t0 t1 w R) : Calls Tryd.prog 29 #[t0, t1] w R :=
  calls_of_cw (fn := Tryd.f29) (c := Tryd.f29.body.getD .skip) A29 mixes Tryd.func29 (by kernel_rfl) ok29
    ((by kernel_rfl : (S29 t0 t1 w R) = cw Tryd.prog A29 (Tryd.f29.body.getD .skip) 0 (bodyQ Tryd.prog Tryd.f29 R) (frOf #[t0, t1]) w).mp h)

def S31L1 (t1 t2 t8 t12 t23 : Value) (next : Value → World → Prop) (w : World) : Prop :=
  Loop2 t8 (.int .i64 0) w fun _ t8_2 t24 w next_2 =>
    binQ Tryd.prog w .lss 3 false t24 t23 fun t25 =>
    condW t25 (
      iaS 2 t2 t24 fun t26 =>
      ldN 2 w t26 fun t27 =>
      boxW 43 (.agg #[(.int .i64 0), (.int .i64 0)]) w fun t10 w =>
      stW Tryd.prog 43 t10 t27 w fun w =>
      Drew w fun w =>
      iaS 2 t8_2 (.int .i64 0) fun t29 =>
      fa1 t29 0 fun t30 =>
      ld1 w t30 fun t31 =>
      fa1 t10 0 fun t32 =>
      ld1 w t32 fun t33 =>
      binQ Tryd.prog w .add 3 false t31 t33 fun t34 =>
      iaS 2 t8_2 (.int .i64 0) fun t36 =>
      fa1 t36 1 fun t37 =>
      ld1 w t37 fun t38 =>
      fa1 t10 1 fun t39 =>
      ld1 w t39 fun t40 =>
      binQ Tryd.prog w .add 3 false t38 t40 fun t41 =>
      bdQ Tryd.prog 43 [(0, t34), (1, t41)] fun t42 =>
      boxW 43 (.agg #[(.int .i64 0), (.int .i64 0)]) w <| keepB w fun t11 w =>
      stW Tryd.prog 43 t11 t42 w fun w =>
      ldN 2 w t11 fun t44 =>
      semW Tryd.prog (lkS 79 t12 t44 false) w fun t45 w =>
      unQ .not t45 fun t46 =>
      gd t46 true (fun k => k t1 w) w fun t48 w =>
      gd t46 true (fun k => ldN 2 w t11 fun v => k v w) w fun t49 w =>
      gd t46 true (fun k => callW Tryd.prog t48 [t49] w k) w fun t50 w =>
      pickQ t46 t50 (.bool false) fun t51 =>
      Join (fun (k_2 : Value → World → Prop) =>
        condW t51 (
          ldN 2 w t11 fun t53 =>
          semW Tryd.prog (muS 79 t12 t53 (.bool true)) w fun _ w =>
          ldN 2 w t11 fun t55 =>
          bsW Tryd.prog 39 1 [(0, t55)] w fun t56 w =>
          semW Tryd.prog (apS [39, 39] 39 [t8_2, t56]) w fun t57 w =>
          k_2 t57 w
        ) (
          k_2 t8_2 w
        )
      ) fun t8_3 w =>
      binQ Tryd.prog w .add 3 true t24 (.int .i64 1) fun t58_2 =>
      next_2 t8_3 t58_2 w
    ) (
      slS 2 t8_2 (some (.int .i64 1)) none fun t21 =>
      next t21 w
    )

def S31L0 (t1 t2 t12 t16 : Value) (R : Ending → World → Prop) (w : World) : Prop :=
  Loop1 t16 w fun _ t8 w next =>
    ln1 t8 fun t18 =>
    binQ Tryd.prog w .gtr 3 true t18 (.int .i64 0) fun t19 =>
    condW t19 (
      ln1 t2 fun t23 =>
      S31L1 t1 t2 t8 t12 t23 next w
    ) (
      R (.returned t12) w
    )



def S31 (t0 t1 t2 : Value) (w : World) (R : Ending → World → Prop) : Prop :=
  boxW 43 t0 w fun t3 w =>
  mmW w fun t12 w =>
  ldN 2 w t3 fun t13 =>
  semW Tryd.prog (muS 79 t12 t13 (.bool true)) w fun _ w =>
  ldN 2 w t3 fun t15 =>
  bsW Tryd.prog 39 1 [(0, t15)] w fun t16 w =>
  S31L0 t1 t2 t12 t16 R w

def A31 : Ann where
  live := fun
    | 0 => [8]
    | 2 => [8, 24]
    | _ => []
  wr := fun
    | 0 => fun i => Nat.beq i 8 || (Nat.ble 10 i && Nat.ble i 11) || (Nat.ble 17 i && Nat.ble i 58)
    | 2 => fun i => Nat.beq i 8 || (Nat.ble 10 i && Nat.ble i 11) || (Nat.ble 24 i && Nat.ble i 58)
    | _ => fun _ => false
  sched := fun
    | 8 => (.take 0 (.take 1 (.take 2 (.take 3 (.take 4 (.take 5 (.take 6 (.take 7 (.take 8 (.take 9 (.take 10 (.take 11 (.take 12 (.take 13 (.take 14 (.eff 15 (.bar 16 .done)))))))))))))))))
    | _ => .done

set_option maxRecDepth 100000 in
theorem ok31 : (codeOk Tryd.f31.ntmps A31 (Tryd.f31.body.getD .skip) 0 && Nat.ble 3 Tryd.f31.ntmps) = true := by kernel_rfl
set_option maxRecDepth 100000 in
theorem lift31 {t0 t1 t2 : Value} {w : World} {R : Ending → World → Prop} (h : S31 t0 t1 t2 w R) : Calls Tryd.prog 31 #[t0, t1, t2] w R :=
  calls_of_cw (fn := Tryd.f31) (c := Tryd.f31.body.getD .skip) A31 mixes Tryd.func31 (by kernel_rfl) ok31
    ((by kernel_rfl : (S31 t0 t1 t2 w R) = cw Tryd.prog A31 (Tryd.f31.body.getD .skip) 0 (bodyQ Tryd.prog Tryd.f31 R) (frOf #[t0, t1, t2]) w).mp h)

theorem fok11 : fnOk Tryd.prog 11 = true := by kernel_rfl
theorem fok29 : fnOk Tryd.prog 29 = true := by kernel_rfl
theorem fok31 : fnOk Tryd.prog 31 = true := by kernel_rfl
end Go.Proofs.YtbekeccfjmoonaaDoor

/- Contracts: within (Holes$1), reached. -/
namespace Go.Proofs.YtbekeccfjmoonaaDoor
open Go.Lf Go.RowKit Go.Ht Go.MapKept Go.ChangeMaps

abbrev widI (l : List ByteArray) : Int := (((l.getD 0 dB).size : Nat) : Int)
abbrev lenI (l : List ByteArray) : Int := ((l.length : Nat) : Int)
/-- Within the frame around a region, and no cell of it. -/
def wiB (l : List ByteArray) (c : C2) : Bool := decide (-1 ≤ c.1) && decide (-1 ≤ c.2) && decide (c.1 ≤ widI l) && decide (c.2 ≤ lenI l) && !hasB l c.1 c.2

set_option maxRecDepth 100000 in
theorem within_calls {v : Value} {l : List ByteArray} {c : C2} {b4 : Nat} (w : World) (h4 : w.heap[b4]? = some (.cells #[.int .i64 (l.getD 0 dB).size, .int .i64 l.length, v] 63 (0, 0))) (hr : RdB w v l) (hR : RegOk l 8) : Calls Tryd.prog 29 #[cV c, ptrV b4] w fun e w' => e = .returned (.bool (wiB l c)) ∧ Kp w w' := by
  refine lift29 ?_
  unfold S29
  refine r_box fun b2 w1 e2 s2 h2 k1 => ?_
  obtain ⟨c0, c1⟩ := c_cells (p := c) h2
  have h41 := block_below h4 k1
  have f0 : w1.cell? ⟨b4, 0, none⟩ = some (.int .i64 (l.getD 0 dB).size) := by rw [cell_row h41]; rfl
  have f1 : w1.cell? ⟨b4, 1, none⟩ = some (.int .i64 l.length) := by rw [cell_row h41]; rfl
  unfold wiB
  rw [r_fa, Nat.zero_add, r_ld c0, r_geq]
  by_cases q1 : (-1 : Int) ≤ c.1
  case neg => simp only [decide_eq_false q1, r_gdFT, r_pickF, Bool.false_and]; exact ⟨by first | rfl | trivial, k1⟩
  simp only [decide_eq_true q1, r_gdTT, r_pickT, r_fa, Nat.zero_add, Bool.true_and]
  rw [r_ld c1, r_geq]
  by_cases q2 : (-1 : Int) ≤ c.2
  case neg => simp only [decide_eq_false q2, r_gdFT, r_pickF, Bool.false_and]; exact ⟨by first | rfl | trivial, k1⟩
  simp only [decide_eq_true q2, r_gdTT, r_pickT, r_fa, Nat.zero_add, Bool.true_and]
  rw [r_ld c0, r_ld f0, r_leq]
  by_cases q3 : c.1 ≤ widI l
  case neg => simp only [decide_eq_false q3, r_gdFT, r_pickF, Bool.false_and]; exact ⟨by first | rfl | trivial, k1⟩
  simp only [decide_eq_true q3, r_gdTT, r_pickT, r_fa, Nat.zero_add, Bool.true_and]
  rw [r_ld c1, r_ld f1, r_leq]
  by_cases q4 : c.2 ≤ lenI l
  case neg => simp only [decide_eq_false q4, r_gdFT, r_pickF, Bool.false_and]; exact ⟨by first | rfl | trivial, k1⟩
  simp only [decide_eq_true q4, r_gdTT, r_pickT, r_fa, Nat.zero_add, Bool.true_and]
  rw [rg_box h41, r_ld c0, r_ld c1]
  refine r_use fok30 (Has_calls c.1 c.2 w1 (hr.kp k1) hR) rfl ?_
  rintro _ w2 ⟨rfl, k2⟩
  refine ⟨_, rfl, ?_⟩
  rw [r_not]
  exact ⟨rfl, Kp.trans k1 k2⟩

open Classical in
/-- Is there an entry for this cell in the map? -/
noncomputable def keysIn (w : World) (b : Nat) (c : C2) : Bool := match w.heap[b]? with
  | some (.map es _) => decide (∃ e ∈ es.toList, e.key = cV c)
  | _ => false
open Classical in
theorem MapO.keys {w : World} {b : Nat} {f : C2 → Option Value} (h : MapO cV okC w b f) (c : C2) : keysIn w b c = (f c).isSome := by
  obtain ⟨es, cl, hb, hes⟩ := h
  unfold keysIn
  rw [hb]
  simp only
  cases hf : f c with
  | none =>
    refine decide_eq_false ?_
    rintro ⟨e, he, hk⟩
    obtain ⟨k, _, h1, h2⟩ := hes.val e he
    have : k = c := cV_inj (h1.symm.trans hk)
    rw [this, hf] at h2
    cases h2
  | some u => exact decide_eq_true (hes.all c (by rw [hf]; simp))
/-- The cells of the frame. -/
def frameL (l : List ByteArray) : List C2 := (List.range (l.length + 2)).flatMap fun y => (List.range ((l.getD 0 dB).size + 2)).map fun x => (((x : Nat) : Int) - 1, ((y : Nat) : Int) - 1)
theorem frame_mem {l : List ByteArray} {c : C2} (h1 : -1 ≤ c.1) (h2 : -1 ≤ c.2) (h3 : c.1 ≤ widI l) (h4 : c.2 ≤ lenI l) : c ∈ frameL l := by
  unfold widI at h3
  unfold lenI at h4
  refine List.mem_flatMap.2 ⟨(c.2 + 1).toNat, List.mem_range.2 (by omega), List.mem_map.2 ⟨(c.1 + 1).toNat, List.mem_range.2 (by omega), ?_⟩⟩
  obtain ⟨x, y⟩ := c
  simp only [Prod.mk.injEq]
  dsimp only at *
  omega
theorem flat_len {α β : Type} (f : α → List β) (n : Nat) (h : ∀ a, (f a).length = n) : ∀ L : List α, (L.flatMap f).length = L.length * n
  | [] => by simp
  | a :: L => by rw [List.flatMap_cons, List.length_append, h, flat_len f n h L, List.length_cons, Nat.add_mul]; omega
theorem frame_len (l : List ByteArray) : (frameL l).length = (l.length + 2) * ((l.getD 0 dB).size + 2) := by
  unfold frameL
  rw [flat_len _ ((l.getD 0 dB).size + 2) fun y => by simp, List.length_range]
noncomputable def missing (l : List ByteArray) (w : World) (b : Nat) : Nat := ((frameL l).filter fun c => !keysIn w b c).length
theorem filter_lessF {α : Type} {p q : α → Bool} : ∀ {L : List α} {c : α}, c ∈ L → (∀ x, q x = true → p x = true) → p c = true → q c = false → (L.filter q).length + 1 ≤ (L.filter p).length
  | a :: L, c, hc, hs, h1, h2 => by
    have hle : ∀ L : List α, (L.filter q).length ≤ (L.filter p).length := fun L => by
      induction L with
      | nil => simp
      | cons a L ih =>
        cases hq : q a with
        | true => simp [hq, hs a hq, ih]
        | false => cases hp : p a <;> simp [hq, hp] <;> omega
    by_cases e : a = c
    · subst e
      simp only [List.filter_cons, h1, h2, if_true, Bool.false_eq_true, if_false, List.length_cons]
      have := hle L
      omega
    · have ih := filter_lessF (L := L) (p := p) (q := q) (c := c) (by rcases List.mem_cons.1 hc with h | h; exact absurd h.symm e; exact h) hs h1 h2
      cases hq : q a with
      | true => simp [hq, hs a hq]; omega
      | false => cases hp : p a <;> simp [hq, hp] <;> omega
theorem missing_upd {l : List ByteArray} {w w' : World} {b : Nat} {f : C2 → Option Value} {c : C2} {v : Value} (h : MapO cV okC w b f) (h' : MapO cV okC w' b (updO f c v)) (hc : c ∈ frameL l) (hf : f c = none) : missing l w' b + 1 ≤ missing l w b := by
  unfold missing
  refine filter_lessF hc (fun x hx => ?_) ?_ ?_
  · rw [h'.keys] at hx
    rw [h.keys]
    by_cases e : x = c
    · rw [e, updO_same] at hx; simp at hx
    · rwa [updO_ne e] at hx
  · rw [h.keys, hf]; rfl
  · rw [h'.keys, updO_same]; rfl
theorem missing_same {l : List ByteArray} {w w' : World} {b : Nat} {f : C2 → Option Value} (h : MapO cV okC w b f) (h' : MapO cV okC w' b f) : missing l w' b = missing l w b := by
  unfold missing
  congr 2
  funext c
  rw [h.keys, h'.keys]
theorem missing_le (l : List ByteArray) (w : World) (b : Nat) : missing l w b ≤ (l.length + 2) * ((l.getD 0 dB).size + 2) := by
  rw [← frame_len]
  exact List.length_filter_le _ _

end Go.Proofs.YtbekeccfjmoonaaDoor
