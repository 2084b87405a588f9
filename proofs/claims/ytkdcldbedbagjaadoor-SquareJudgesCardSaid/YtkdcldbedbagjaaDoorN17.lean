/- Texts of my own, merged by program: Ap Sf Xe. -/
import Derived.Test.YtkdcldbedbagjaaDoorN13
import Derived.Test.YtkdcldbedbagjaaDoorN02
set_option linter.all false
/- Appending records to records. -/
namespace Go.Proofs.YtkdcldbedbagjaaDoor
open Go.Lf Go.RowKit Go.Dt

section
variable {α : Type} {m : Nat} {enc : α → List Value}
theorem recCells_get (he : ∀ x, (enc x).length = m) : ∀ (P : List α) (q : Nat) (u : Value), (recCells enc P)[q]? = some u → ∃ i x j, P[i]? = some x ∧ (enc x)[j]? = some u ∧ q = i * m + j
  | [], q, u, h => by simp [recCells] at h
  | p :: P, q, u, h => by
    by_cases hq : q < m
    · refine ⟨0, p, q, rfl, ?_, by omega⟩
      simp only [recCells, List.flatMap_cons] at h
      rwa [List.getElem?_append_left (by rw [he]; exact hq)] at h
    · simp only [recCells, List.flatMap_cons] at h
      rw [List.getElem?_append_right (by rw [he]; omega), he] at h
      obtain ⟨i, x, j, h1, h2, h3⟩ := recCells_get he P (q - m) u h
      exact ⟨i + 1, x, j, h1, h2, by rw [Nat.add_mul]; omega⟩

theorem RecAt.row {e : TypeId} {base : Nat} {w : World} {v : Value} {P : List α} (h : RecAt e m enc base w v P) {k : Nat} (hk : v.ownBlock = some k) : ∃ cur, w.heap[k]? = some (.cells cur e (0, 0)) := by
  rcases h.2 with ⟨rfl, _⟩ | ⟨g, cap, cur, rfl, _, hg, _⟩
  · cases hk
  · cases hk
    exact ⟨cur, hg⟩

set_option maxRecDepth 100000 in
/-- append(v, src...) at records, src any slice that reads as L. -/
theorem r_apRec {bytes base : Nat} {t e ty : TypeId} {w : World} {v src : Value} {P L : List α} {K : Value → World → Prop} (T : SlT t e m bytes) (he : ∀ x, (enc x).length = m)
    (h1 : ∀ x, ∀ u ∈ enc x, u.oneCell' = true) (hby : bytes ≤ 128) (h : RecAt e m enc base w v P) (hs : Rd m enc w src L) (hn : P.length + L.length ≤ 1000000) (hb : base ≤ w.heap.size)
    (hk : ∀ v' w', RecAt e m enc base w' v' (P ++ L) → Chg (fun k => v.ownBlock = some k) w w' → (∀ k, v'.ownBlock = some k → v.ownBlock = some k ∨ w.heap.size ≤ k) → K v' w') :
    semW Tryd.prog (apS [t, t] ty [v, src]) w K := by
  obtain ⟨a, cap, rfl, hl, hc⟩ := hs
  by_cases h0 : 0 < L.length
  · obtain ⟨b, off, rfl, hcell⟩ := hc h0
    refine r_apAt (news := recCells enc L) T h (recCells_length he L) (fun j u hj => ?_) (fun u hu => ?_) (by omega) hby hb fun v' w' ho c hat => hk v' w' ?_ c hat
    · obtain ⟨i, x, j', e1, e2, rfl⟩ := recCells_get he L j u hj
      rw [r_addr, ← Nat.add_assoc]
      exact hcell i x e1 j' u e2
    · obtain ⟨x, _, hx⟩ := List.mem_flatMap.1 hu
      exact h1 x u hx
    · unfold RecAt
      rw [recCells_append, List.length_append]
      exact ho
  · have e0 : L = [] := List.length_eq_zero_iff.1 (by omega)
    subst e0
    refine r_ap0 T h (hk v w (by simpa using h) (Chg.refl _ _) fun k hk => .inl hk)
end

end Go.Proofs.YtkdcldbedbagjaaDoor

/- Lifted texts, printed by program (gen.py): what each function's code asks. The ties are by the kernel. -/
namespace Go.Proofs.YtkdcldbedbagjaaDoor
open Go.Lf Go.RowKit

def S7 (t0 t1 t2 t3 : Value) (w : World) (R : Ending → World → Prop) : Prop :=
  callW Tryd.prog (.func (.func 21) #[] #[]) [t1] w fun t14 w =>
  unQ .not t14 fun t15 =>
  condW t15 (
    callW Tryd.prog (.func (.func 14) #[] #[]) [] w fun t16 w =>
    R (.returned t16) w
  ) (
    callW Tryd.prog (.func (.func 24) #[] #[]) [t0, t1] w fun t20 w =>
    exQ t20 0 fun t21 =>
    exQ t20 1 fun t22 =>
    callW Tryd.prog (.func (.func 26) #[] #[]) [t0, t1, t2, t3] w fun t28 w =>
    exQ t28 0 fun t29 =>
    exQ t28 1 fun t30 =>
    binQ Tryd.prog w .neq 24 true t22 (.int .i64 0) fun t32 =>
    gd t32 false (fun k => k t30 w) w fun t34 w =>
    gd t32 false (fun k => binQ Tryd.prog w .neq 24 true t34 (.int .i64 0) fun v => k v w) w fun t35 w =>
    pickQ t32 (.bool true) t35 fun t36 =>
    condW t36 (
      callW Tryd.prog (.func (.func 30) #[] #[]) [t0, t1] w fun t40 w =>
      binQ Tryd.prog w .eql 24 false t22 t40 fun t41 =>
      gd t41 true (fun k => k t30 w) w fun t43 w =>
      gd t41 true (fun k => k t0 w) w fun t44 w =>
      gd t41 true (fun k => k t1 w) w fun t45 w =>
      gd t41 true (fun k => k t2 w) w fun t46 w =>
      gd t41 true (fun k => k t3 w) w fun t47 w =>
      gd t41 true (fun k => callW Tryd.prog (.func (.func 31) #[] #[]) [t44, t45, t46, t47] w k) w fun t48 w =>
      gd t41 true (fun k => binQ Tryd.prog w .eql 24 false t43 t48 fun v => k v w) w fun t49 w =>
      pickQ t41 t49 (.bool false) fun t50 =>
      gd t50 true (fun k => callW Tryd.prog (.func (.func 14) #[] #[]) [] w k) w fun t52 w =>
      pickQ t50 t52 (.bool false) fun t53 =>
      R (.returned t53) w
    ) (
      callW Tryd.prog (.func (.func 33) #[] #[]) [t0, t1, t2, t2] w fun t59 w =>
      callW Tryd.prog (.func (.func 32) #[] #[]) [t59] w fun t60 w =>
      binQ Tryd.prog w .eql 3 false t21 t60 fun t61 =>
      gd t61 true (fun k => k t21 w) w fun t63 w =>
      gd t61 true (fun k => k t0 w) w fun t64 w =>
      gd t61 true (fun k => k t1 w) w fun t65 w =>
      gd t61 true (fun k => k t3 w) w fun t66 w =>
      gd t61 true (fun k => k t3 w) w fun t67 w =>
      gd t61 true (fun k => callW Tryd.prog (.func (.func 33) #[] #[]) [t64, t65, t66, t67] w k) w fun t68 w =>
      gd t61 true (fun k => callW Tryd.prog (.func (.func 32) #[] #[]) [t68] w k) w fun t69 w =>
      gd t61 true (fun k => binQ Tryd.prog w .eql 3 false t63 t69 fun v => k v w) w fun t70 w =>
      pickQ t61 t70 (.bool false) fun t71 =>
      gd t71 true (fun k => k t29 w) w fun t73 w =>
      gd t71 true (fun k => k t0 w) w fun t74 w =>
      gd t71 true (fun k => k t1 w) w fun t75 w =>
      gd t71 true (fun k => k t2 w) w fun t76 w =>
      gd t71 true (fun k => k t3 w) w fun t77 w =>
      gd t71 true (fun k => callW Tryd.prog (.func (.func 33) #[] #[]) [t74, t75, t76, t77] w k) w fun t78 w =>
      gd t71 true (fun k => callW Tryd.prog (.func (.func 32) #[] #[]) [t78] w k) w fun t79 w =>
      gd t71 true (fun k => binQ Tryd.prog w .eql 3 false t73 t79 fun v => k v w) w fun t80 w =>
      pickQ t71 t80 (.bool false) fun t81 =>
      gd t81 true (fun k => callW Tryd.prog (.func (.func 14) #[] #[]) [] w k) w fun t83 w =>
      pickQ t81 t83 (.bool false) fun t84 =>
      R (.returned t84) w
    )
  )

def A7 : Ann where
  live := fun _ => []
  wr := fun _ _ => false
  sched := fun _ => .done

set_option maxRecDepth 100000 in
theorem ok7 : (codeOk Tryd.f7.ntmps A7 (Tryd.f7.body.getD .skip) 0 && Nat.ble 4 Tryd.f7.ntmps) = true := by kernel_rfl
set_option maxRecDepth 100000 in
theorem lift7 {t0 t1 t2 t3 : Value} {w : World} {R : Ending → World → Prop} (h : S7 t0 t1 t2 t3 w R) : Calls Tryd.prog 7 #[t0, t1, t2, t3] w R :=
  calls_of_cw (fn := Tryd.f7) (c := Tryd.f7.body.getD .skip) A7 mixes Tryd.func7 (by kernel_rfl) ok7
    ((by kernel_rfl : (S7 t0 t1 t2 t3 w R) = cw Tryd.prog A7 (Tryd.f7.body.getD .skip) 0 (bodyQ Tryd.prog Tryd.f7 R) (frOf #[t0, t1, t2, t3]) w).mp h)

def S32L1 (t0 t3 t4 t5 : Value) (k_2 : Value → World → Prop) (w : World) : Prop :=
  Loop2 (.slice none 0 0) (.int .i64 1) w fun _ t6 t7 w next_2 =>
    ln1 t0 fun t27 =>
    binQ Tryd.prog w .lss 3 false t7 t27 fun t28 =>
    condW t28 (
      iaS 1 t0 t7 fun t34 =>
      ld1 w t34 fun t35 =>
      slS 1 t35 none (some t5) fun t37 =>
      semW Tryd.prog (apS [34, 34] 34 [(.slice none 0 0), t37]) w fun t38 w =>
      iaS 1 t0 t7 fun t43 =>
      ld1 w t43 fun t44 =>
      binQ Tryd.prog w .add 3 true t5 (.int .i64 1) fun t46 =>
      slS 1 t44 (some t46) none fun t47 =>
      semW Tryd.prog (apS [34, 34] 34 [t38, t47]) w fun t48 w =>
      bsW Tryd.prog 52 1 [(0, t48)] w fun t49 w =>
      semW Tryd.prog (apS [52, 52] 52 [t6, t49]) w fun t50 w =>
      binQ Tryd.prog w .add 3 true t7 (.int .i64 1) fun t30 =>
      next_2 t50 t30 w
    ) (
      Drew w fun w =>
      iaS 1 t0 (.int .i64 0) fun t54 =>
      ld1 w t54 fun t55 =>
      iaS 1 t55 t5 fun t57 =>
      ld1 w t57 fun t58 =>
      binQ Tryd.prog w .mul 3 false t4 t58 fun t59 =>
      callW Tryd.prog (.func (.func 32) #[] #[]) [t6] w <| keepB w fun t61 w =>
      binQ Tryd.prog w .mul 3 false t59 t61 fun t62 =>
      binQ Tryd.prog w .add 3 false t3 t62 fun t63 =>
      k_2 t63 w
    )

def S32L0 (t0 : Value) (R : Ending → World → Prop) (w : World) : Prop :=
  Loop3 (.int .i64 0) (.int .i64 1) (.int .i64 0) w fun _ t3 t4 t5 w next =>
    ln1 t0 fun t14 =>
    binQ Tryd.prog w .lss 3 false t5 t14 fun t15 =>
    condW t15 (
      iaS 1 t0 (.int .i64 0) fun t19 =>
      ld1 w t19 fun t20 =>
      iaS 1 t20 t5 fun t22 =>
      ld1 w t22 fun t23 =>
      binQ Tryd.prog w .neq 3 true t23 (.int .i64 0) fun t24 =>
      Join (fun (k_2 : Value → World → Prop) =>
        condW t24 (
          S32L1 t0 t3 t4 t5 k_2 w
        ) (
          k_2 t3 w
        )
      ) fun t3_2 w =>
      unQ .neg t4 fun t65_2 =>
      binQ Tryd.prog w .add 3 true t5 (.int .i64 1) fun t17_2 =>
      next t3_2 t65_2 t17_2 w
    ) (
      R (.returned t3) w
    )

def S32 (t0 : Value) (w : World) (R : Ending → World → Prop) : Prop :=
  ln1 t0 fun t10 =>
  binQ Tryd.prog w .eql 3 true t10 (.int .i64 0) fun t11 =>
  condW t11 (
    R (.returned (.int .i64 1)) w
  ) (
    S32L0 t0 R w
  )

def A32 : Ann where
  live := fun
    | 0 => [3, 4, 5]
    | 2 => [6, 7]
    | _ => []
  wr := fun
    | 0 => fun i => (Nat.ble 3 i && Nat.ble i 8) || (Nat.ble 12 i && Nat.ble i 65)
    | 2 => fun i => (Nat.ble 6 i && Nat.ble i 8) || (Nat.ble 25 i && Nat.ble i 50)
    | _ => fun _ => false
  sched := fun
    | 15 => (.take 0 (.take 1 (.take 2 (.take 3 (.take 4 (.take 5 (.take 6 (.take 7 (.take 8 (.take 9 (.eff 10 (.take 11 (.take 12 (.take 13 .done))))))))))))))
    | _ => .done

set_option maxRecDepth 100000 in
theorem ok32 : (codeOk Tryd.f32.ntmps A32 (Tryd.f32.body.getD .skip) 0 && Nat.ble 1 Tryd.f32.ntmps) = true := by kernel_rfl
set_option maxRecDepth 100000 in
theorem lift32 {t0 : Value} {w : World} {R : Ending → World → Prop} (h : S32 t0 w R) : Calls Tryd.prog 32 #[t0] w R :=
  calls_of_cw (fn := Tryd.f32) (c := Tryd.f32.body.getD .skip) A32 mixes Tryd.func32 (by kernel_rfl) ok32
    ((by kernel_rfl : (S32 t0 w R) = cw Tryd.prog A32 (Tryd.f32.body.getD .skip) 0 (bodyQ Tryd.prog Tryd.f32 R) (frOf #[t0]) w).mp h)

def S33L2 (t1 t10 t11 t12 : Value) (k_3 : Value → World → Prop) (w : World) : Prop :=
  Loop2 (.int .i64 0) (.int .i64 0) w fun _ t13 t14 w next_3 =>
    ln1 t1 fun t43 =>
    binQ Tryd.prog w .lss 3 false t14 t43 fun t44 =>
    condW t44 (
      binQ Tryd.prog w .eql 3 false t10 t12 fun t50 =>
      gd t50 true (fun k => k t1 w) w fun t52 w =>
      gd t50 true (fun k => k t14 w) w fun t53 w =>
      gd t50 true (fun k => iaS 2 t52 t53 fun v => k v w) w fun t54 w =>
      gd t50 true (fun k => fa1 t54 0 fun v => k v w) w fun t55 w =>
      gd t50 true (fun k => ld1 w t55 fun v => k v w) w fun t56 w =>
      gd t50 true (fun k => k t10 w) w fun t57 w =>
      gd t50 true (fun k => binQ Tryd.prog w .eql 3 false t56 t57 fun v => k v w) w fun t58 w =>
      gd t50 true (fun k => k t58 w) w fun t59 w =>
      gd t59 false (fun k => k t1 w) w fun t60 w =>
      gd t59 false (fun k => k t14 w) w fun t61 w =>
      gd t59 false (fun k => iaS 2 t60 t61 fun v => k v w) w fun t62 w =>
      gd t59 false (fun k => fa1 t62 1 fun v => k v w) w fun t63 w =>
      gd t59 false (fun k => ld1 w t63 fun v => k v w) w fun t64 w =>
      gd t59 false (fun k => k t10 w) w fun t65 w =>
      gd t59 false (fun k => binQ Tryd.prog w .eql 3 false t64 t65 fun v => k v w) w fun t66 w =>
      gd t50 true (fun k => pickQ t59 (.bool true) t66 fun v => k v w) w fun t67 w =>
      pickQ t50 t67 (.bool false) fun t68 =>
      Join (fun (k_4 : Value → World → Prop) =>
        condW t68 (
          binQ Tryd.prog w .add 3 true t13 (.int .i64 1) fun t70 =>
          k_4 t70 w
        ) (
          iaS 2 t1 t14 fun t74 =>
          fa1 t74 0 fun t75 =>
          ld1 w t75 fun t76 =>
          binQ Tryd.prog w .eql 3 false t76 t10 fun t78 =>
          gd t78 true (fun k => k t1 w) w fun t80 w =>
          gd t78 true (fun k => k t14 w) w fun t81 w =>
          gd t78 true (fun k => iaS 2 t80 t81 fun v => k v w) w fun t82 w =>
          gd t78 true (fun k => fa1 t82 1 fun v => k v w) w fun t83 w =>
          gd t78 true (fun k => ld1 w t83 fun v => k v w) w fun t84 w =>
          gd t78 true (fun k => k t12 w) w fun t85 w =>
          gd t78 true (fun k => binQ Tryd.prog w .eql 3 false t84 t85 fun v => k v w) w fun t86 w =>
          pickQ t78 t86 (.bool false) fun t87 =>
          gd t87 false (fun k => k t1 w) w fun t89 w =>
          gd t87 false (fun k => k t14 w) w fun t90 w =>
          gd t87 false (fun k => iaS 2 t89 t90 fun v => k v w) w fun t91 w =>
          gd t87 false (fun k => fa1 t91 0 fun v => k v w) w fun t92 w =>
          gd t87 false (fun k => ld1 w t92 fun v => k v w) w fun t93 w =>
          gd t87 false (fun k => k t12 w) w fun t94 w =>
          gd t87 false (fun k => binQ Tryd.prog w .eql 3 false t93 t94 fun v => k v w) w fun t95 w =>
          gd t87 false (fun k => k t95 w) w fun t96 w =>
          gd t96 true (fun k => k t1 w) w fun t97 w =>
          gd t96 true (fun k => k t14 w) w fun t98 w =>
          gd t96 true (fun k => iaS 2 t97 t98 fun v => k v w) w fun t99 w =>
          gd t96 true (fun k => fa1 t99 1 fun v => k v w) w fun t100 w =>
          gd t96 true (fun k => ld1 w t100 fun v => k v w) w fun t101 w =>
          gd t96 true (fun k => k t10 w) w fun t102 w =>
          gd t96 true (fun k => binQ Tryd.prog w .eql 3 false t101 t102 fun v => k v w) w fun t103 w =>
          gd t87 false (fun k => pickQ t96 t103 (.bool false) fun v => k v w) w fun t104 w =>
          pickQ t87 (.bool true) t104 fun t105 =>
          condW t105 (
            binQ Tryd.prog w .sub 3 true t13 (.int .i64 1) fun t107 =>
            k_4 t107 w
          ) (
            k_4 t13 w
          )
        )
      ) fun t13_2 w =>
      binQ Tryd.prog w .add 3 true t14 (.int .i64 1) fun t46_2 =>
      next_3 t13_2 t46_2 w
    ) (
      bsW Tryd.prog 34 1 [(0, t13)] w fun t110 w =>
      semW Tryd.prog (apS [34, 34] 34 [t11, t110]) w fun t111 w =>
      k_3 t111 w
    )

def S33L1 (t0 t1 t2 t3 t9 t10 : Value) (k_2 : Value → World → Prop) (w : World) : Prop :=
  Loop2 (.slice none 0 0) (.int .i64 0) w fun _ t11 t12 w next_2 =>
    binQ Tryd.prog w .lss 3 false t12 t0 fun t30 =>
    condW t30 (
      Join (fun (k_3 : Value → World → Prop) =>
        binQ Tryd.prog w .eql 3 false t12 t2 fun t35 =>
        gd t35 false (fun k => k t12 w) w fun t37 w =>
        gd t35 false (fun k => k t3 w) w fun t38 w =>
        gd t35 false (fun k => binQ Tryd.prog w .eql 3 false t37 t38 fun v => k v w) w fun t39 w =>
        pickQ t35 (.bool true) t39 fun t40 =>
        condW t40 (
          k_3 t11 w
        ) (
          S33L2 t1 t10 t11 t12 k_3 w
        )
      ) fun t11_2 w =>
      binQ Tryd.prog w .add 3 true t12 (.int .i64 1) fun t32_2 =>
      next_2 t11_2 t32_2 w
    ) (
      bsW Tryd.prog 52 1 [(0, t11)] w fun t114 w =>
      semW Tryd.prog (apS [52, 52] 52 [t9, t114]) w fun t115 w =>
      k_2 t115 w
    )

def S33L0 (t0 t1 t2 t3 : Value) (R : Ending → World → Prop) (w : World) : Prop :=
  Loop2 (.slice none 0 0) (.int .i64 0) w fun _ t9 t10 w next =>
    binQ Tryd.prog w .lss 3 false t10 t0 fun t17 =>
    condW t17 (
      Join (fun (k_2 : Value → World → Prop) =>
        binQ Tryd.prog w .eql 3 false t10 t2 fun t22 =>
        gd t22 false (fun k => k t10 w) w fun t24 w =>
        gd t22 false (fun k => k t3 w) w fun t25 w =>
        gd t22 false (fun k => binQ Tryd.prog w .eql 3 false t24 t25 fun v => k v w) w fun t26 w =>
        pickQ t22 (.bool true) t26 fun t27 =>
        condW t27 (
          k_2 t9 w
        ) (
          S33L1 t0 t1 t2 t3 t9 t10 k_2 w
        )
      ) fun t9_2 w =>
      binQ Tryd.prog w .add 3 true t10 (.int .i64 1) fun t19_2 =>
      next t9_2 t19_2 w
    ) (
      R (.returned t9) w
    )



def S33 (t0 t1 t2 t3 : Value) (w : World) (R : Ending → World → Prop) : Prop :=
  S33L0 t0 t1 t2 t3 R w

def A33 : Ann where
  live := fun
    | 0 => [9, 10]
    | 2 => [11, 12]
    | 4 => [13, 14]
    | _ => []
  wr := fun
    | 0 => fun i => (Nat.ble 9 i && Nat.ble i 115)
    | 2 => fun i => (Nat.ble 11 i && Nat.ble i 14) || (Nat.ble 28 i && Nat.ble i 111)
    | 4 => fun i => (Nat.ble 13 i && Nat.ble i 14) || (Nat.ble 41 i && Nat.ble i 107)
    | _ => fun _ => false
  sched := fun _ => .done

set_option maxRecDepth 100000 in
theorem ok33 : (codeOk Tryd.f33.ntmps A33 (Tryd.f33.body.getD .skip) 0 && Nat.ble 4 Tryd.f33.ntmps) = true := by kernel_rfl
set_option maxRecDepth 100000 in
theorem lift33 {t0 t1 t2 t3 : Value} {w : World} {R : Ending → World → Prop} (h : S33 t0 t1 t2 t3 w R) : Calls Tryd.prog 33 #[t0, t1, t2, t3] w R :=
  calls_of_cw (fn := Tryd.f33) (c := Tryd.f33.body.getD .skip) A33 mixes Tryd.func33 (by kernel_rfl) ok33
    ((by kernel_rfl : (S33 t0 t1 t2 t3 w R) = cw Tryd.prog A33 (Tryd.f33.body.getD .skip) 0 (bodyQ Tryd.prog Tryd.f33 R) (frOf #[t0, t1, t2, t3]) w).mp h)

def S30L0 (t0 t1 : Value) (R : Ending → World → Prop) (w : World) : Prop :=
  Loop1 (.int .i64 0) w fun _ t5 w next =>
    ln1 t1 fun t18 =>
    binQ Tryd.prog w .lss 3 false t5 t18 fun t19 =>
    condW t19 (
      iaS 2 t1 t5 fun t24 =>
      ldN 2 w t24 fun t25 =>
      boxW 40 (.agg #[(.int .i64 0), (.int .i64 0)]) w fun t6 w =>
      stW Tryd.prog 40 t6 t25 w fun w =>
      fa1 t6 0 fun t26 =>
      ld1 w t26 fun t27 =>
      binQ Tryd.prog w .lss 3 true t27 (.int .i64 0) fun t28 =>
      gd t28 false (fun k => fa1 t6 0 fun v => k v w) w fun t30 w =>
      gd t28 false (fun k => ld1 w t30 fun v => k v w) w fun t31 w =>
      gd t28 false (fun k => k t0 w) w fun t32 w =>
      gd t28 false (fun k => binQ Tryd.prog w .geq 3 false t31 t32 fun v => k v w) w fun t33 w =>
      pickQ t28 (.bool true) t33 fun t34 =>
      gd t34 false (fun k => fa1 t6 1 fun v => k v w) w fun t36 w =>
      gd t34 false (fun k => ld1 w t36 fun v => k v w) w fun t37 w =>
      gd t34 false (fun k => binQ Tryd.prog w .lss 3 true t37 (.int .i64 0) fun v => k v w) w fun t38 w =>
      pickQ t34 (.bool true) t38 fun t39 =>
      gd t39 false (fun k => fa1 t6 1 fun v => k v w) w fun t41 w =>
      gd t39 false (fun k => ld1 w t41 fun v => k v w) w fun t42 w =>
      gd t39 false (fun k => k t0 w) w fun t43 w =>
      gd t39 false (fun k => binQ Tryd.prog w .geq 3 false t42 t43 fun v => k v w) w fun t44 w =>
      pickQ t39 (.bool true) t44 fun t45 =>
      gd t45 false (fun k => fa1 t6 0 fun v => k v w) w fun t47 w =>
      gd t45 false (fun k => ld1 w t47 fun v => k v w) w fun t48 w =>
      gd t45 false (fun k => fa1 t6 1 fun v => k v w) w fun t49 w =>
      gd t45 false (fun k => ld1 w t49 fun v => k v w) w fun t50 w =>
      gd t45 false (fun k => binQ Tryd.prog w .eql 3 false t48 t50 fun v => k v w) w fun t51 w =>
      pickQ t45 (.bool true) t51 fun t52 =>
      condW t52 (
        R (.returned (.int .i64 2)) w
      ) (
        binQ Tryd.prog w .add 3 true t5 (.int .i64 1) fun t21 =>
        next t21 w
      )
    ) (
      R (.returned (.int .i64 0)) w
    )

def S30 (t0 t1 : Value) (w : World) (R : Ending → World → Prop) : Prop :=
  binQ Tryd.prog w .lss 3 true t0 (.int .i64 2) fun t8 =>
  gd t8 false (fun k => k t0 w) w fun t10 w =>
  gd t8 false (fun k => binQ Tryd.prog w .gtr 3 true t10 (.int .i64 8) fun v => k v w) w fun t11 w =>
  pickQ t8 (.bool true) t11 fun t12 =>
  condW t12 (
    R (.returned (.int .i64 2)) w
  ) (
    ln1 t1 fun t14 =>
    binQ Tryd.prog w .gtr 3 true t14 (.int .i64 16) fun t15 =>
    condW t15 (
      R (.returned (.int .i64 3)) w
    ) (
      S30L0 t0 t1 R w
    )
  )

def A30 : Ann where
  live := fun
    | 0 => [5]
    | _ => []
  wr := fun
    | 0 => fun i => (Nat.ble 4 i && Nat.ble i 6) || (Nat.ble 16 i && Nat.ble i 52)
    | _ => fun _ => false
  sched := fun _ => .done

set_option maxRecDepth 100000 in
theorem ok30 : (codeOk Tryd.f30.ntmps A30 (Tryd.f30.body.getD .skip) 0 && Nat.ble 2 Tryd.f30.ntmps) = true := by kernel_rfl
set_option maxRecDepth 100000 in
theorem lift30 {t0 t1 : Value} {w : World} {R : Ending → World → Prop} (h : S30 t0 t1 w R) : Calls Tryd.prog 30 #[t0, t1] w R :=
  calls_of_cw (fn := Tryd.f30) (c := Tryd.f30.body.getD .skip) A30 mixes Tryd.func30 (by kernel_rfl) ok30
    ((by kernel_rfl : (S30 t0 t1 w R) = cw Tryd.prog A30 (Tryd.f30.body.getD .skip) 0 (bodyQ Tryd.prog Tryd.f30 R) (frOf #[t0, t1]) w).mp h)

def S31 (t0 t1 t2 t3 : Value) (w : World) (R : Ending → World → Prop) : Prop :=
  callW Tryd.prog (.func (.func 30) #[] #[]) [t0, t1] w fun t12 w =>
  binQ Tryd.prog w .eql 24 true t12 (.int .i64 0) fun t14 =>
  gd t14 true (fun k => k t2 w) w fun t16 w =>
  gd t14 true (fun k => binQ Tryd.prog w .lss 3 true t16 (.int .i64 0) fun v => k v w) w fun t17 w =>
  gd t14 true (fun k => k t17 w) w fun t18 w =>
  gd t18 false (fun k => k t2 w) w fun t19 w =>
  gd t18 false (fun k => k t0 w) w fun t20 w =>
  gd t18 false (fun k => binQ Tryd.prog w .geq 3 false t19 t20 fun v => k v w) w fun t21 w =>
  gd t14 true (fun k => pickQ t18 (.bool true) t21 fun v => k v w) w fun t22 w =>
  gd t14 true (fun k => k t22 w) w fun t23 w =>
  gd t23 false (fun k => k t3 w) w fun t24 w =>
  gd t23 false (fun k => binQ Tryd.prog w .lss 3 true t24 (.int .i64 0) fun v => k v w) w fun t25 w =>
  gd t14 true (fun k => pickQ t23 (.bool true) t25 fun v => k v w) w fun t26 w =>
  gd t14 true (fun k => k t26 w) w fun t27 w =>
  gd t27 false (fun k => k t3 w) w fun t28 w =>
  gd t27 false (fun k => k t0 w) w fun t29 w =>
  gd t27 false (fun k => binQ Tryd.prog w .geq 3 false t28 t29 fun v => k v w) w fun t30 w =>
  gd t14 true (fun k => pickQ t27 (.bool true) t30 fun v => k v w) w fun t31 w =>
  gd t14 true (fun k => k t31 w) w fun t32 w =>
  gd t32 false (fun k => k t2 w) w fun t33 w =>
  gd t32 false (fun k => k t3 w) w fun t34 w =>
  gd t32 false (fun k => binQ Tryd.prog w .eql 3 false t33 t34 fun v => k v w) w fun t35 w =>
  gd t14 true (fun k => pickQ t32 (.bool true) t35 fun v => k v w) w fun t36 w =>
  pickQ t14 t36 (.bool false) fun t37 =>
  condW t37 (
    R (.returned (.int .i64 2)) w
  ) (
    R (.returned t12) w
  )

def A31 : Ann where
  live := fun _ => []
  wr := fun _ _ => false
  sched := fun _ => .done

set_option maxRecDepth 100000 in
theorem ok31 : (codeOk Tryd.f31.ntmps A31 (Tryd.f31.body.getD .skip) 0 && Nat.ble 4 Tryd.f31.ntmps) = true := by kernel_rfl
set_option maxRecDepth 100000 in
theorem lift31 {t0 t1 t2 t3 : Value} {w : World} {R : Ending → World → Prop} (h : S31 t0 t1 t2 t3 w R) : Calls Tryd.prog 31 #[t0, t1, t2, t3] w R :=
  calls_of_cw (fn := Tryd.f31) (c := Tryd.f31.body.getD .skip) A31 mixes Tryd.func31 (by kernel_rfl) ok31
    ((by kernel_rfl : (S31 t0 t1 t2 t3 w R) = cw Tryd.prog A31 (Tryd.f31.body.getD .skip) 0 (bodyQ Tryd.prog Tryd.f31 R) (frOf #[t0, t1, t2, t3]) w).mp h)

theorem fok7 : fnOk Tryd.prog 7 = true := by kernel_rfl
theorem fok32 : fnOk Tryd.prog 32 = true := by kernel_rfl
theorem fok33 : fnOk Tryd.prog 33 = true := by kernel_rfl
theorem fok30 : fnOk Tryd.prog 30 = true := by kernel_rfl
theorem fok31 : fnOk Tryd.prog 31 = true := by kernel_rfl
end Go.Proofs.YtkdcldbedbagjaaDoor

/- Contracts of the reference: Good, Ends. -/
namespace Go.Proofs.YtkdcldbedbagjaaDoor
open Go.Lf Go.RowKit Go.Dt

theorem pair_at2 {w : World} {v : Value} {L : List (Int × Int)} (h : RdW w v L) {i : Nat} (hi : i < L.length) : ∀ K : Value → Prop, (iaS 2 v (.int .i64 i) fun p => ldN 2 w p K) = K (paV2 (L.getD i (0, 0))) := fun K => by
  obtain ⟨b, off, cap, e, _, hc⟩ := h.at (List.getElem?_eq_getElem hi)
  have hii : (i : Int).toNat = i := by omega
  rw [e, r_iaS _ _ _ _ _ _ _ (by omega) (by omega), hii, r_ldCells (n := 2) (l := wC L[i]) rfl hc, getD_lt _ _ _ hi]
  rfl

set_option maxRecDepth 100000 in
set_option maxHeartbeats 1000000 in
theorem good_calls {v : Value} {L : List (Int × Int)} {n : Int} (w : World) (hr : RdW w v L) : Calls Tryd.prog 30 #[.int .i64 n, v] w fun e w' => e = .returned (.int .i64 (netErr n L)) ∧ Kp w w' := by
  obtain ⟨a, cap, ev, _⟩ := hr.len
  have lnv : ∀ K : Value → Prop, ln1 v K = K (.int .i64 L.length) := fun K => by rw [ev]; rfl
  refine lift30 ?_
  unfold S30
  by_cases g1 : n < 2
  · have hE : netErr n L = 2 := by unfold netErr; rw [if_pos (.inl g1)]
    rw [hE]
    simp (disch := omega) only [r_ln, r_pick, r_pickT, r_pickF, r_condT, r_condF, r_gdTT, r_gdFF, r_gdTF, r_gdFT, r_gqTT, r_gqFF, r_gqTF, r_gqFT, r_not, r_lss, r_leq, r_gtr, r_geq, r_eql, r_neq, r_add, r_sub, r_min2, r_max2, r_min3, r_max3, r_fa, r_iaS, r_iaA, r_ex2a, r_ex2b, r_ex3a, r_ex3b, r_ex3c, r_nc, r_keepE, Nat.zero_add, Nat.add_zero, Nat.mul_one, Int.toNat_natCast, toNat_sub1, toNat_add1, decide_true, decide_false, Bool.not_true, Bool.not_false, if_true, if_false, Bool.false_eq_true, reduceCtorEq, r_gdU, decide_eq_true g1]
    exact ⟨by first | rfl | trivial, Kp.refl _⟩
  by_cases g2 : 8 < n
  · have hE : netErr n L = 2 := by unfold netErr; rw [if_pos (.inr g2)]
    rw [hE]
    simp (disch := omega) only [r_ln, r_pick, r_pickT, r_pickF, r_condT, r_condF, r_gdTT, r_gdFF, r_gdTF, r_gdFT, r_gqTT, r_gqFF, r_gqTF, r_gqFT, r_not, r_lss, r_leq, r_gtr, r_geq, r_eql, r_neq, r_add, r_sub, r_min2, r_max2, r_min3, r_max3, r_fa, r_iaS, r_iaA, r_ex2a, r_ex2b, r_ex3a, r_ex3b, r_ex3c, r_nc, r_keepE, Nat.zero_add, Nat.add_zero, Nat.mul_one, Int.toNat_natCast, toNat_sub1, toNat_add1, decide_true, decide_false, Bool.not_true, Bool.not_false, if_true, if_false, Bool.false_eq_true, reduceCtorEq, r_gdU, g1, decide_eq_true g2]
    exact ⟨by first | rfl | trivial, Kp.refl _⟩
  have h12n : ¬ (n < 2 ∨ 8 < n) := by omega
  by_cases g3 : (16 : Int) < (L.length : Int)
  · have hE : netErr n L = 3 := by unfold netErr; rw [if_neg h12n, if_pos (by omega)]
    rw [hE]
    simp (disch := omega) only [r_ln, r_pick, r_pickT, r_pickF, r_condT, r_condF, r_gdTT, r_gdFF, r_gdTF, r_gdFT, r_gqTT, r_gqFF, r_gqTF, r_gqFT, r_not, r_lss, r_leq, r_gtr, r_geq, r_eql, r_neq, r_add, r_sub, r_min2, r_max2, r_min3, r_max3, r_fa, r_iaS, r_iaA, r_ex2a, r_ex2b, r_ex3a, r_ex3b, r_ex3c, r_nc, r_keepE, Nat.zero_add, Nat.add_zero, Nat.mul_one, Int.toNat_natCast, toNat_sub1, toNat_add1, decide_true, decide_false, Bool.not_true, Bool.not_false, if_true, if_false, Bool.false_eq_true, reduceCtorEq, r_gdU, g1, g2, lnv, decide_eq_true g3]
    exact ⟨by first | rfl | trivial, Kp.refl _⟩
  have hE : netErr n L = if L.any (badB n) = true then 2 else 0 := by unfold netErr; rw [if_neg h12n, if_neg (by omega)]
  rw [hE]
  simp (disch := omega) only [r_ln, r_pick, r_pickT, r_pickF, r_condT, r_condF, r_gdTT, r_gdFF, r_gdTF, r_gdFT, r_gqTT, r_gqFF, r_gqTF, r_gqFT, r_not, r_lss, r_leq, r_gtr, r_geq, r_eql, r_neq, r_add, r_sub, r_min2, r_max2, r_min3, r_max3, r_fa, r_iaS, r_iaA, r_ex2a, r_ex2b, r_ex3a, r_ex3b, r_ex3c, r_nc, r_keepE, Nat.zero_add, Nat.add_zero, Nat.mul_one, Int.toNat_natCast, toNat_sub1, toNat_add1, decide_true, decide_false, Bool.not_true, Bool.not_false, if_true, if_false, Bool.false_eq_true, reduceCtorEq, r_gdU, g1, g2, lnv, g3]
  unfold S30L0
  refine ⟨fun t5 wr => ∃ i : Nat, i ≤ L.length ∧ t5 = .int .i64 i ∧ (∀ j, j < i → badB n (L.getD j (0, 0)) = false) ∧ Kp w wr, fun t5 _ => L.length - (intOf t5).toNat, ⟨0, by omega, rfl, fun j hj => by omega, Kp.refl _⟩, ?_⟩
  rintro _ _ wr ⟨i, hi, rfl, hgood, kr⟩
  rw [lnv]
  by_cases hlt : i < L.length
  case neg =>
    have hlt' : ¬ (i : Int) < (L.length : Int) := by omega
    simp only [r_lss, decide_eq_false hlt', r_condF]
    have : ¬ L.any (badB n) = true := fun h => by
      obtain ⟨e, he, hb⟩ := List.any_eq_true.1 h
      obtain ⟨j, hj, rfl⟩ := List.mem_iff_getElem.1 he
      have := hgood j (by omega)
      rw [getD_lt _ _ _ hj, hb] at this
      cases this
    rw [if_neg this]
    exact ⟨by first | rfl | trivial, kr⟩
  have hlt' : (i : Int) < (L.length : Int) := by omega
  simp only [r_lss, decide_eq_true hlt', r_condT]
  rw [pair_at2 (hr.kp kr) hlt]
  generalize hp : L.getD i (0, 0) = p at *
  refine r_box fun b6 w1 e6 s6 h6 k1 => ?_
  have h6' : w1.heap[b6]? = some (.cells #[.int .i64 0, .int .i64 0] 40 (0, 0)) := h6
  have szr := kr.size
  refine st40 h6' fun w2 c2 s2 h2 => ?_
  have k02 : Kp w w2 := Kp.of_chg (Kp.trans kr k1) c2 fun q e => by omega
  have p0 : w2.cell? ⟨b6, 0, none⟩ = some (.int .i64 p.1) := by rw [cell_row h2]; rfl
  have p1 : w2.cell? ⟨b6, 1, none⟩ = some (.int .i64 p.2) := by rw [cell_row h2]; rfl
  have bad : badB n p = true → Ending.returned (.int .i64 2) = .returned (.int .i64 (if L.any (badB n) = true then 2 else 0)) := fun h => by
    rw [if_pos (List.any_eq_true.2 ⟨p, by rw [← hp, getD_lt _ _ _ hlt]; exact List.getElem_mem hlt, h⟩)]
  by_cases q1 : p.1 < 0
  · simp (disch := omega) only [r_ln, r_pick, r_pickT, r_pickF, r_condT, r_condF, r_gdTT, r_gdFF, r_gdTF, r_gdFT, r_gqTT, r_gqFF, r_gqTF, r_gqFT, r_not, r_lss, r_leq, r_gtr, r_geq, r_eql, r_neq, r_add, r_sub, r_min2, r_max2, r_min3, r_max3, r_fa, r_iaS, r_iaA, r_ex2a, r_ex2b, r_ex3a, r_ex3b, r_ex3c, r_nc, r_keepE, Nat.zero_add, Nat.add_zero, Nat.mul_one, Int.toNat_natCast, toNat_sub1, toNat_add1, decide_true, decide_false, Bool.not_true, Bool.not_false, if_true, if_false, Bool.false_eq_true, reduceCtorEq, r_gdU, r_ld p0, r_ld p1, decide_eq_true q1]
    exact ⟨bad (by simp [badB, q1]), k02⟩
  by_cases q2 : n ≤ p.1
  · simp (disch := omega) only [r_ln, r_pick, r_pickT, r_pickF, r_condT, r_condF, r_gdTT, r_gdFF, r_gdTF, r_gdFT, r_gqTT, r_gqFF, r_gqTF, r_gqFT, r_not, r_lss, r_leq, r_gtr, r_geq, r_eql, r_neq, r_add, r_sub, r_min2, r_max2, r_min3, r_max3, r_fa, r_iaS, r_iaA, r_ex2a, r_ex2b, r_ex3a, r_ex3b, r_ex3c, r_nc, r_keepE, Nat.zero_add, Nat.add_zero, Nat.mul_one, Int.toNat_natCast, toNat_sub1, toNat_add1, decide_true, decide_false, Bool.not_true, Bool.not_false, if_true, if_false, Bool.false_eq_true, reduceCtorEq, r_gdU, r_ld p0, r_ld p1, q1, decide_eq_true q2]
    exact ⟨bad (by simp [badB, q2]), k02⟩
  by_cases q3 : p.2 < 0
  · simp (disch := omega) only [r_ln, r_pick, r_pickT, r_pickF, r_condT, r_condF, r_gdTT, r_gdFF, r_gdTF, r_gdFT, r_gqTT, r_gqFF, r_gqTF, r_gqFT, r_not, r_lss, r_leq, r_gtr, r_geq, r_eql, r_neq, r_add, r_sub, r_min2, r_max2, r_min3, r_max3, r_fa, r_iaS, r_iaA, r_ex2a, r_ex2b, r_ex3a, r_ex3b, r_ex3c, r_nc, r_keepE, Nat.zero_add, Nat.add_zero, Nat.mul_one, Int.toNat_natCast, toNat_sub1, toNat_add1, decide_true, decide_false, Bool.not_true, Bool.not_false, if_true, if_false, Bool.false_eq_true, reduceCtorEq, r_gdU, r_ld p0, r_ld p1, q1, q2, decide_eq_true q3]
    exact ⟨bad (by simp [badB, q3]), k02⟩
  by_cases q4 : n ≤ p.2
  · simp (disch := omega) only [r_ln, r_pick, r_pickT, r_pickF, r_condT, r_condF, r_gdTT, r_gdFF, r_gdTF, r_gdFT, r_gqTT, r_gqFF, r_gqTF, r_gqFT, r_not, r_lss, r_leq, r_gtr, r_geq, r_eql, r_neq, r_add, r_sub, r_min2, r_max2, r_min3, r_max3, r_fa, r_iaS, r_iaA, r_ex2a, r_ex2b, r_ex3a, r_ex3b, r_ex3c, r_nc, r_keepE, Nat.zero_add, Nat.add_zero, Nat.mul_one, Int.toNat_natCast, toNat_sub1, toNat_add1, decide_true, decide_false, Bool.not_true, Bool.not_false, if_true, if_false, Bool.false_eq_true, reduceCtorEq, r_gdU, r_ld p0, r_ld p1, q1, q2, q3, decide_eq_true q4]
    exact ⟨bad (by simp [badB, q4]), k02⟩
  by_cases q5 : p.1 = p.2
  · simp (disch := omega) only [r_ln, r_pick, r_pickT, r_pickF, r_condT, r_condF, r_gdTT, r_gdFF, r_gdTF, r_gdFT, r_gqTT, r_gqFF, r_gqTF, r_gqFT, r_not, r_lss, r_leq, r_gtr, r_geq, r_eql, r_neq, r_add, r_sub, r_min2, r_max2, r_min3, r_max3, r_fa, r_iaS, r_iaA, r_ex2a, r_ex2b, r_ex3a, r_ex3b, r_ex3c, r_nc, r_keepE, Nat.zero_add, Nat.add_zero, Nat.mul_one, Int.toNat_natCast, toNat_sub1, toNat_add1, decide_true, decide_false, Bool.not_true, Bool.not_false, if_true, if_false, Bool.false_eq_true, reduceCtorEq, r_gdU, r_ld p0, r_ld p1, q1, q2, q3, q4, decide_eq_true q5]
    exact ⟨bad (by simp [badB, q5]), k02⟩
  simp (disch := omega) only [r_ln, r_pick, r_pickT, r_pickF, r_condT, r_condF, r_gdTT, r_gdFF, r_gdTF, r_gdFT, r_gqTT, r_gqFF, r_gqTF, r_gqFT, r_not, r_lss, r_leq, r_gtr, r_geq, r_eql, r_neq, r_add, r_sub, r_min2, r_max2, r_min3, r_max3, r_fa, r_iaS, r_iaA, r_ex2a, r_ex2b, r_ex3a, r_ex3b, r_ex3c, r_nc, r_keepE, Nat.zero_add, Nat.add_zero, Nat.mul_one, Int.toNat_natCast, toNat_sub1, toNat_add1, decide_true, decide_false, Bool.not_true, Bool.not_false, if_true, if_false, Bool.false_eq_true, reduceCtorEq, r_gdU, r_ld p0, r_ld p1, q1, q2, q3, q4, decide_eq_false q5]
  refine ⟨⟨i + 1, by omega, by go_num, fun j hj => ?_, k02⟩, by simp only [intOf]; omega⟩
  by_cases e : j = i
  · rw [e, hp]; simp [badB, q1, q2, q3, q4, q5]
  · exact hgood j (by omega)

set_option maxRecDepth 100000 in
set_option maxHeartbeats 1000000 in
theorem ends_calls {v : Value} {L : List (Int × Int)} {n s t : Int} (w : World) (hr : RdW w v L) : Calls Tryd.prog 31 #[.int .i64 n, v, .int .i64 s, .int .i64 t] w fun e w' => e = .returned (.int .i64 (endErr n L s t)) ∧ Kp w w' := by
  refine lift31 ?_
  unfold S31
  refine r_use fok30 (good_calls (n := n) w hr) rfl ?_
  rintro _ w1 ⟨rfl, k1⟩
  refine ⟨_, rfl, ?_⟩
  unfold endErr
  by_cases g0 : netErr n L = 0
  case neg =>
    rw [if_neg g0]
    simp (disch := omega) only [r_ln, r_pick, r_pickT, r_pickF, r_condT, r_condF, r_gdTT, r_gdFF, r_gdTF, r_gdFT, r_gqTT, r_gqFF, r_gqTF, r_gqFT, r_not, r_lss, r_leq, r_gtr, r_geq, r_eql, r_neq, r_add, r_sub, r_min2, r_max2, r_min3, r_max3, r_fa, r_iaS, r_iaA, r_ex2a, r_ex2b, r_ex3a, r_ex3b, r_ex3c, r_nc, r_keepE, Nat.zero_add, Nat.add_zero, Nat.mul_one, Int.toNat_natCast, toNat_sub1, toNat_add1, decide_true, decide_false, Bool.not_true, Bool.not_false, if_true, if_false, Bool.false_eq_true, reduceCtorEq, r_gdU, decide_eq_false g0]
    exact ⟨by first | rfl | trivial, k1⟩
  rw [if_pos g0]
  simp only [r_eql, decide_eq_true g0]
  by_cases q1 : s < 0
  · rw [if_pos (.inl q1)]
    simp (disch := omega) only [r_ln, r_pick, r_pickT, r_pickF, r_condT, r_condF, r_gdTT, r_gdFF, r_gdTF, r_gdFT, r_gqTT, r_gqFF, r_gqTF, r_gqFT, r_not, r_lss, r_leq, r_gtr, r_geq, r_eql, r_neq, r_add, r_sub, r_min2, r_max2, r_min3, r_max3, r_fa, r_iaS, r_iaA, r_ex2a, r_ex2b, r_ex3a, r_ex3b, r_ex3c, r_nc, r_keepE, Nat.zero_add, Nat.add_zero, Nat.mul_one, Int.toNat_natCast, toNat_sub1, toNat_add1, decide_true, decide_false, Bool.not_true, Bool.not_false, if_true, if_false, Bool.false_eq_true, reduceCtorEq, r_gdU, decide_eq_true q1]
    exact ⟨by first | rfl | trivial, k1⟩
  by_cases q2 : n ≤ s
  · rw [if_pos (by omega)]
    simp (disch := omega) only [r_ln, r_pick, r_pickT, r_pickF, r_condT, r_condF, r_gdTT, r_gdFF, r_gdTF, r_gdFT, r_gqTT, r_gqFF, r_gqTF, r_gqFT, r_not, r_lss, r_leq, r_gtr, r_geq, r_eql, r_neq, r_add, r_sub, r_min2, r_max2, r_min3, r_max3, r_fa, r_iaS, r_iaA, r_ex2a, r_ex2b, r_ex3a, r_ex3b, r_ex3c, r_nc, r_keepE, Nat.zero_add, Nat.add_zero, Nat.mul_one, Int.toNat_natCast, toNat_sub1, toNat_add1, decide_true, decide_false, Bool.not_true, Bool.not_false, if_true, if_false, Bool.false_eq_true, reduceCtorEq, r_gdU, q1, decide_eq_true q2]
    exact ⟨by first | rfl | trivial, k1⟩
  by_cases q3 : t < 0
  · rw [if_pos (by omega)]
    simp (disch := omega) only [r_ln, r_pick, r_pickT, r_pickF, r_condT, r_condF, r_gdTT, r_gdFF, r_gdTF, r_gdFT, r_gqTT, r_gqFF, r_gqTF, r_gqFT, r_not, r_lss, r_leq, r_gtr, r_geq, r_eql, r_neq, r_add, r_sub, r_min2, r_max2, r_min3, r_max3, r_fa, r_iaS, r_iaA, r_ex2a, r_ex2b, r_ex3a, r_ex3b, r_ex3c, r_nc, r_keepE, Nat.zero_add, Nat.add_zero, Nat.mul_one, Int.toNat_natCast, toNat_sub1, toNat_add1, decide_true, decide_false, Bool.not_true, Bool.not_false, if_true, if_false, Bool.false_eq_true, reduceCtorEq, r_gdU, q1, q2, decide_eq_true q3]
    exact ⟨by first | rfl | trivial, k1⟩
  by_cases q4 : n ≤ t
  · rw [if_pos (by omega)]
    simp (disch := omega) only [r_ln, r_pick, r_pickT, r_pickF, r_condT, r_condF, r_gdTT, r_gdFF, r_gdTF, r_gdFT, r_gqTT, r_gqFF, r_gqTF, r_gqFT, r_not, r_lss, r_leq, r_gtr, r_geq, r_eql, r_neq, r_add, r_sub, r_min2, r_max2, r_min3, r_max3, r_fa, r_iaS, r_iaA, r_ex2a, r_ex2b, r_ex3a, r_ex3b, r_ex3c, r_nc, r_keepE, Nat.zero_add, Nat.add_zero, Nat.mul_one, Int.toNat_natCast, toNat_sub1, toNat_add1, decide_true, decide_false, Bool.not_true, Bool.not_false, if_true, if_false, Bool.false_eq_true, reduceCtorEq, r_gdU, q1, q2, q3, decide_eq_true q4]
    exact ⟨by first | rfl | trivial, k1⟩
  by_cases q5 : s = t
  · rw [if_pos (by omega)]
    simp (disch := omega) only [r_ln, r_pick, r_pickT, r_pickF, r_condT, r_condF, r_gdTT, r_gdFF, r_gdTF, r_gdFT, r_gqTT, r_gqFF, r_gqTF, r_gqFT, r_not, r_lss, r_leq, r_gtr, r_geq, r_eql, r_neq, r_add, r_sub, r_min2, r_max2, r_min3, r_max3, r_fa, r_iaS, r_iaA, r_ex2a, r_ex2b, r_ex3a, r_ex3b, r_ex3c, r_nc, r_keepE, Nat.zero_add, Nat.add_zero, Nat.mul_one, Int.toNat_natCast, toNat_sub1, toNat_add1, decide_true, decide_false, Bool.not_true, Bool.not_false, if_true, if_false, Bool.false_eq_true, reduceCtorEq, r_gdU, q1, q2, q3, q4, decide_eq_true q5]
    exact ⟨by first | rfl | trivial, k1⟩
  rw [if_neg (by omega)]
  simp (disch := omega) only [r_ln, r_pick, r_pickT, r_pickF, r_condT, r_condF, r_gdTT, r_gdFF, r_gdTF, r_gdFT, r_gqTT, r_gqFF, r_gqTF, r_gqFT, r_not, r_lss, r_leq, r_gtr, r_geq, r_eql, r_neq, r_add, r_sub, r_min2, r_max2, r_min3, r_max3, r_fa, r_iaS, r_iaA, r_ex2a, r_ex2b, r_ex3a, r_ex3b, r_ex3c, r_nc, r_keepE, Nat.zero_add, Nat.add_zero, Nat.mul_one, Int.toNat_natCast, toNat_sub1, toNat_add1, decide_true, decide_false, Bool.not_true, Bool.not_false, if_true, if_false, Bool.false_eq_true, reduceCtorEq, r_gdU, q1, q2, q3, q4, decide_eq_false q5]
  exact ⟨by rw [g0], k1⟩

end Go.Proofs.YtkdcldbedbagjaaDoor
