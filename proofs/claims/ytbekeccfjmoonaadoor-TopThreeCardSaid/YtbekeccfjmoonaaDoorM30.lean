/- Texts of my own, merged by program: Kl Si. -/
import Derived.Test.YtbekeccfjmoonaaDoorM21
import Derived.Test.YtbekeccfjmoonaaDoorM29
import Derived.Test.YtbekeccfjmoonaaDoorM07
set_option linter.all false
/- Where Holes is 0 no set of inner cells is shut in. -/
namespace Go.Proofs.YtbekeccfjmoonaaDoor
open Go.Lf Go.RowKit Go.Ht Go.Km

def okHole (p : Nat × Nat) : Bool :=
  (List.range 16).all (fun q => !(bit p.1 q) || (Nat.ble 1 (q % 4) && Nat.ble (q % 4) 2 && Nat.ble 1 (q / 4) && Nat.ble (q / 4) 2 && (List.range 3).all fun dy => (List.range 3).all fun dx => bit p.2 (q + 4 * dy + dx - 5) || bit p.1 (q + 4 * dy + dx - 5))) &&
    (List.range 16).any fun q => bit p.1 q && (List.range 16).any (fun a => bit p.2 a && Nat.ble (q % 4) (a % 4)) && (List.range 16).any fun b => bit p.2 b && Nat.ble (q / 4) (b / 4)
theorem holes_ok : holes.all okHole = true := by decide +kernel

/-- A cell lies in a set. -/
def inT (T : Nat) (c : C2) : Bool := decide (0 ≤ c.1 ∧ c.1 < 4 ∧ 0 ≤ c.2 ∧ c.2 < 4) && T.testBit (4 * c.2.toNat + c.1.toNat)
theorem inT_at {T x y : Nat} (hx : x < 4) (hy : y < 4) : inT T ((x : Int), (y : Int)) = T.testBit (4 * y + x) := by
  unfold inT
  rw [decide_eq_true (show 0 ≤ (((x : Int), (y : Int)) : C2).1 ∧ (((x : Int), (y : Int)) : C2).1 < 4 ∧ 0 ≤ (((x : Int), (y : Int)) : C2).2 ∧ (((x : Int), (y : Int)) : C2).2 < 4 from ⟨by dsimp only; omega, by dsimp only; omega, by dsimp only; omega, by dsimp only; omega⟩)]
  rfl
theorem hq_at (l : List ByteArray) {x y : Nat} (hx : x < 4) : hq l (4 * y + x) = hasB l (x : Int) (y : Int) := by
  unfold hq hasN
  rw [show (4 * y + x) % 4 = x by omega, show (4 * y + x) / 4 = y by omega]

section
variable {l : List ByteArray} {p : Nat × Nat}
def QT (l : List ByteArray) (T : Nat) (c : C2) : Prop := inT T c = false ∧ hasB l c.1 c.2 = false

theorem sub_mask {N m q : Nat} (h : N &&& m = N) (hN : N.testBit q = true) : m.testBit q = true := by
  have := congrArg (fun z => z.testBit q) h
  simp only [Nat.testBit_and, hN, Bool.true_and] at this
  exact this
theorem no_mask {T m q : Nat} (h : T &&& m = 0) (hT : T.testBit q = true) : m.testBit q = false := by
  have := congrArg (fun z => z.testBit q) h
  simp only [Nat.testBit_and, hT, Bool.true_and, Nat.zero_testBit] at this
  exact this
theorem mk_hq {q : Nat} (h : (mk4 l).testBit q = true) : hq l q = true := by
  unfold mk4 at h
  rw [maskOf_bit, Bool.and_eq_true] at h
  exact h.2
theorem kings_rng : ∀ s ∈ kingsL, (s.1 = -1 ∨ s.1 = 0 ∨ s.1 = 1) ∧ (s.2 = -1 ∨ s.2 = 0 ∨ s.2 = 1) := by decide

theorem qt_closed (hp : p ∈ holes) (hN : p.2 &&& mk4 l = p.2) (c s : C2) (hc : QT l p.1 c) (hs : s ∈ kingsL) (hw : wiB l (stepC c s) = true) : QT l p.1 (stepC c s) := by
  have hok := List.all_eq_true.1 holes_ok p hp
  unfold okHole at hok
  rw [Bool.and_eq_true] at hok
  have hw2 : hasB l (stepC c s).1 (stepC c s).2 = false := by
    unfold wiB at hw
    rw [Bool.and_eq_true] at hw
    simpa using hw.2
  refine ⟨?_, hw2⟩
  cases hT : inT p.1 (stepC c s) with
  | false => rfl
  | true =>
    exfalso
    unfold inT at hT
    rw [Bool.and_eq_true] at hT
    obtain ⟨a1, a2, a3, a4⟩ := of_decide_eq_true hT.1
    obtain ⟨x, hx⟩ : ∃ x : Nat, (stepC c s).1 = x := ⟨(stepC c s).1.toNat, by omega⟩
    obtain ⟨y, hy⟩ : ∃ y : Nat, (stepC c s).2 = y := ⟨(stepC c s).2.toNat, by omega⟩
    have hb := hT.2
    rw [hx, hy] at hb
    simp only [Int.toNat_natCast] at hb
    have h1 := List.all_eq_true.1 hok.1 (4 * y + x) (List.mem_range.2 (by omega))
    rw [bit_eq, hb] at h1
    simp only [Bool.not_true, Bool.false_or, Bool.and_eq_true, Nat.ble_eq] at h1
    obtain ⟨⟨⟨⟨b1, b2⟩, b3⟩, b4⟩, h2⟩ := h1
    obtain ⟨k1, k2⟩ := kings_rng s hs
    have hc1 : c.1 = (x : Int) - s.1 := by have : (stepC c s).1 = c.1 + s.1 := rfl; omega
    have hc2 : c.2 = (y : Int) - s.2 := by have : (stepC c s).2 = c.2 + s.2 := rfl; omega
    have h3 := List.all_eq_true.1 (List.all_eq_true.1 h2 ((1 - s.2).toNat) (List.mem_range.2 (by omega))) ((1 - s.1).toNat) (List.mem_range.2 (by omega))
    obtain ⟨x', hx'⟩ : ∃ x' : Nat, (x : Int) - s.1 = x' := ⟨((x : Int) - s.1).toNat, by omega⟩
    obtain ⟨y', hy'⟩ : ∃ y' : Nat, (y : Int) - s.2 = y' := ⟨((y : Int) - s.2).toNat, by omega⟩
    have hr : 4 * y + x + 4 * (1 - s.2).toNat + (1 - s.1).toNat - 5 = 4 * y' + x' := by omega
    have ec : c = ((x' : Int), (y' : Int)) := by
      obtain ⟨u, v⟩ := c
      dsimp only at hc1 hc2
      rw [hc1, hc2, hx', hy']
    rw [hr, bit_eq, bit_eq, Bool.or_eq_true] at h3
    obtain ⟨q1, q2⟩ := hc
    rw [ec] at q1 q2
    rw [inT_at (by omega) (by omega)] at q1
    rcases h3 with h3 | h3
    · have := mk_hq (sub_mask hN h3)
      rw [hq_at l (by omega)] at this
      dsimp only at q2
      rw [q2] at this
      cases this
    · rw [q1] at h3; cases h3

set_option maxRecDepth 100000 in
theorem holes2_calls {v : Value} (w : World) (hr : RdB w v l) (hs : ∀ s ∈ l, s.size ≤ 9223372036854775807) (ho : ofB 8 l = true) (hR : RegOk l 4) :
    Calls Tryd.prog 11 #[v] w fun e w' => Kp w w' ∧ ∃ h : Nat, e = .returned (.tuple #[.int .i64 h, .int .i64 0]) ∧ (h = 0 → holed (mk4 l) = false) := by
  cases hh : holed (mk4 l) with
  | false => exact (holes_calls (Q := fun _ => True) w hr hs ho (fun _ _ _ _ _ => trivial) trivial).mono fun e w' ⟨k, h, he, _⟩ => ⟨k, h, he, fun _ => rfl⟩
  | true =>
    unfold holed at hh
    obtain ⟨p, hp, h1⟩ := List.any_eq_true.1 hh
    rw [Bool.and_eq_true] at h1
    have hT := Nat.eq_of_beq_eq_true h1.1
    have hN := Nat.eq_of_beq_eq_true h1.2
    refine (holes_calls (Q := QT l p.1) w hr hs ho (fun c s => qt_closed hp hN c s) ⟨rfl, ?_⟩).mono fun e w' ⟨k, h, he, hz⟩ => ⟨k, h, he, fun h0 => ?_⟩
    · unfold hasB
      rw [decide_eq_false (show ¬ ((0 : Int) ≤ -1 ∧ (0 : Int) ≤ -1 ∧ (-1 : Int) < (((l.getD 0 dB).size : Nat) : Int) ∧ (-1 : Int) < ((l.length : Nat) : Int)) by omega)]; rfl
    · exfalso
      have hok := List.all_eq_true.1 holes_ok p hp
      unfold okHole at hok
      rw [Bool.and_eq_true] at hok
      obtain ⟨q, hq16, h2⟩ := List.any_eq_true.1 hok.2
      rw [Bool.and_eq_true, Bool.and_eq_true] at h2
      obtain ⟨⟨g1, g2⟩, g3⟩ := h2
      rw [bit_eq] at g1
      obtain ⟨a, _, ga⟩ := List.any_eq_true.1 g2
      obtain ⟨b, _, gb⟩ := List.any_eq_true.1 g3
      rw [Bool.and_eq_true, bit_eq, Nat.ble_eq] at ga gb
      have la := hq_lt (mk_hq (sub_mask hN ga.1))
      have lb := hq_lt (mk_hq (sub_mask hN gb.1))
      have hq' := List.mem_range.1 hq16
      have hnq : hq l q = false := by
        cases e : hq l q with
        | false => rfl
        | true =>
          have := no_mask hT g1
          unfold mk4 at this
          rw [maskOf_bit, decide_eq_true hq', e] at this
          cases this
      have := (hz h0 (q % 4) (q / 4) (by have : wd l = (l.getD 0 dB).size := rfl; omega) (by omega) hnq).1
      rw [inT_at (by omega) (by omega), show 4 * (q / 4) + q % 4 = q by omega, g1] at this
      cases this
end

end Go.Proofs.YtbekeccfjmoonaaDoor

/- Lifted texts, printed by program (gen.py): what each function's code asks. The ties are by the kernel. -/
namespace Go.Proofs.YtbekeccfjmoonaaDoor
open Go.Lf Go.RowKit

def S3 (t0 : Value) (w : World) (R : Ending → World → Prop) : Prop :=
  callW Tryd.prog (.func (.func 5) #[] #[]) [t0] w fun t14 w =>
  unQ .not t14 fun t15 =>
  condW t15 (
    callW Tryd.prog (.func (.func 6) #[] #[]) [] w fun t16 w =>
    R (.returned t16) w
  ) (
    callW Tryd.prog (.func (.func 8) #[] #[]) [] w fun t19 w =>
    callW Tryd.prog (.func (.func 7) #[] #[]) [t0, t19] w fun t20 w =>
    exQ t20 0 fun t21 =>
    exQ t20 1 fun t22 =>
    binQ Tryd.prog w .neq 25 true t22 (.int .i64 0) fun t24 =>
    condW t24 (
      binQ Tryd.prog w .eql 25 true t22 (.int .i64 2) fun t26 =>
      gd t26 true (fun k => k t21 w) w fun t28 w =>
      gd t26 true (fun k => binQ Tryd.prog w .eql 3 true t28 (.int .i64 0) fun v => k v w) w fun t29 w =>
      pickQ t26 t29 (.bool false) fun t30 =>
      gd t30 true (fun k => callW Tryd.prog (.func (.func 6) #[] #[]) [] w k) w fun t32 w =>
      pickQ t30 t32 (.bool false) fun t33 =>
      R (.returned t33) w
    ) (
      callW Tryd.prog (.func (.func 9) #[] #[]) [t0] w fun t36 w =>
      exQ t36 0 fun t37 =>
      exQ t36 1 fun t38 =>
      callW Tryd.prog (.func (.func 10) #[] #[]) [t0] w fun t41 w =>
      exQ t41 0 fun t42 =>
      exQ t41 1 fun t43 =>
      callW Tryd.prog (.func (.func 11) #[] #[]) [t0] w fun t46 w =>
      exQ t46 0 fun t47 =>
      exQ t46 1 fun t48 =>
      callW Tryd.prog (.func (.func 8) #[] #[]) [] w fun t51 w =>
      callW Tryd.prog (.func (.func 12) #[] #[]) [t0, t51] w fun t52 w =>
      exQ t52 0 fun t53 =>
      exQ t52 1 fun t54 =>
      boxW 33 (.agg #[(.slice none 0 0), (.int .i64 0)]) w fun t11 w =>
      stW Tryd.prog 33 t11 t53 w fun w =>
      binQ Tryd.prog w .neq 25 true t38 (.int .i64 0) fun t56 =>
      gd t56 false (fun k => k t43 w) w fun t58 w =>
      gd t56 false (fun k => binQ Tryd.prog w .neq 25 true t58 (.int .i64 0) fun v => k v w) w fun t59 w =>
      pickQ t56 (.bool true) t59 fun t60 =>
      gd t60 false (fun k => k t48 w) w fun t62 w =>
      gd t60 false (fun k => binQ Tryd.prog w .neq 25 true t62 (.int .i64 0) fun v => k v w) w fun t63 w =>
      pickQ t60 (.bool true) t63 fun t64 =>
      gd t64 false (fun k => k t21 w) w fun t66 w =>
      gd t64 false (fun k => k t37 w) w fun t67 w =>
      gd t64 false (fun k => binQ Tryd.prog w .neq 3 false t66 t67 fun v => k v w) w fun t68 w =>
      pickQ t64 (.bool true) t68 fun t69 =>
      gd t69 false (fun k => k t42 w) w fun t71 w =>
      gd t69 false (fun k => k t42 w) w fun t72 w =>
      gd t69 false (fun k => unQ .neg t72 fun v => k v w) w fun t73 w =>
      gd t69 false (fun k => mnQ true [t71, t73] fun v => k v w) w fun t74 w =>
      gd t69 false (fun k => k t21 w) w fun t75 w =>
      gd t69 false (fun k => binQ Tryd.prog w .gtr 3 false t74 t75 fun v => k v w) w fun t76 w =>
      pickQ t69 (.bool true) t76 fun t77 =>
      gd t77 false (fun k => k t47 w) w fun t79 w =>
      gd t77 false (fun k => binQ Tryd.prog w .eql 3 true t79 (.int .i64 0) fun v => k v w) w fun t80 w =>
      gd t77 false (fun k => k t80 w) w fun t81 w =>
      gd t81 true (fun k => k t42 w) w fun t82 w =>
      gd t81 true (fun k => k t42 w) w fun t83 w =>
      gd t81 true (fun k => unQ .neg t83 fun v => k v w) w fun t84 w =>
      gd t81 true (fun k => mnQ true [t82, t84] fun v => k v w) w fun t85 w =>
      gd t81 true (fun k => k t21 w) w fun t86 w =>
      gd t81 true (fun k => binQ Tryd.prog w .neq 3 false t85 t86 fun v => k v w) w fun t87 w =>
      gd t77 false (fun k => pickQ t81 t87 (.bool false) fun v => k v w) w fun t88 w =>
      pickQ t77 (.bool true) t88 fun t89 =>
      condW t89 (
        R (.returned (.bool false)) w
      ) (
        binQ Tryd.prog w .eql 25 true t54 (.int .i64 0) fun t91 =>
        binQ Tryd.prog w .gtr 3 true t21 (.int .i64 0) fun t93 =>
        binQ Tryd.prog w .eql 4 false t91 t93 fun t94 =>
        gd t94 true (fun k => callW Tryd.prog (.func (.func 6) #[] #[]) [] w k) w fun t96 w =>
        pickQ t94 t96 (.bool false) fun t97 =>
        R (.returned t97) w
      )
    )
  )

def A3 : Ann where
  live := fun _ => []
  wr := fun _ _ => false
  sched := fun _ => .done

set_option maxRecDepth 100000 in
theorem ok3 : (codeOk Tryd.f3.ntmps A3 (Tryd.f3.body.getD .skip) 0 && Nat.ble 1 Tryd.f3.ntmps) = true := by kernel_rfl
set_option maxRecDepth 100000 in
theorem lift3 {t0 : Value} {w : World} {R : Ending → World → Prop} (h : S3 t0 w R) : Calls Tryd.prog 3 #[t0] w R :=
  calls_of_cw (fn := Tryd.f3) (c := Tryd.f3.body.getD .skip) A3 mixes Tryd.func3 (by kernel_rfl) ok3
    ((by kernel_rfl : (S3 t0 w R) = cw Tryd.prog A3 (Tryd.f3.body.getD .skip) 0 (bodyQ Tryd.prog Tryd.f3 R) (frOf #[t0]) w).mp h)

def S12L0 (t4 t9 t23 t56 t57 : Value) (R : Ending → World → Prop) (w : World) : Prop :=
  Loop1 (.int .i64 0) w fun _ t58 w next =>
    binQ Tryd.prog w .lss 3 false t58 t57 fun t59 =>
    condW t59 (
      iaS 1 t56 t58 fun t61 =>
      ld1 w t61 fun t62 =>
      ncQ t23 fun t65 =>
      fa1 t65 0 fun t66 =>
      ld1 w t66 fun t67 =>
      binQ Tryd.prog w .lss 3 false t62 t67 fun t68 =>
      Join (fun (k_3 : World → Prop) =>
        condW t68 (
          Drew w fun w =>
          fa1 t9 0 fun t69 =>
          ld1 w t69 fun t70 =>
          ncQ t23 fun t73 =>
          fa1 t73 2 fun t74 =>
          ld1 w t74 fun t75 =>
          iaS 1 t75 t58 fun t77 =>
          ld1 w t77 fun t78 =>
          ncQ t23 fun t80 =>
          fa1 t80 0 fun t81 =>
          ld1 w t81 fun t82 =>
          ncQ t23 fun t84 =>
          fa1 t84 1 fun t85 =>
          ld1 w t85 fun t86 =>
          binQ Tryd.prog w .add 3 false t82 t86 fun t87 =>
          iaS 1 t78 t87 fun t88 =>
          ld1 w t88 fun t89 =>
          iaS 1 t70 t62 fun t90 =>
          stW Tryd.prog 3 t90 t89 w fun w =>
          k_3 w
        ) (
          k_3 w
        )
      ) fun w =>
      binQ Tryd.prog w .add 3 true t58 (.int .i64 1) fun t91_2 =>
      next t91_2 w
    ) (
      fa1 t9 0 fun t93 =>
      ld1 w t93 fun t94 =>
      fa1 t9 1 fun t95 =>
      ld1 w t95 fun t96 =>
      callW Tryd.prog (.func (.func 34) #[] #[]) [t94, t96] w fun t97 w =>
      exQ t97 0 fun t98 =>
      exQ t97 1 fun t99 =>
      fa1 t9 0 fun t100 =>
      stW Tryd.prog 31 t100 t98 w fun w =>
      fa1 t9 1 fun t101 =>
      stW Tryd.prog 3 t101 t99 w fun w =>
      ldN 2 w t9 fun t102 =>
      stW Tryd.prog 33 t4 t102 w fun w =>
      ldN 2 w t4 fun r_3 =>
      R (.returned (.tuple #[r_3, (.int .i64 0)])) w
    )

def S12 (t0 t1 : Value) (w : World) (R : Ending → World → Prop) : Prop :=
  boxW 33 (.agg #[(.slice none 0 0), (.int .i64 0)]) w fun t4 w =>
  callW Tryd.prog (.func (.func 17) #[] #[]) [t0, t1] w fun t15 w =>
  exQ t15 0 fun t16 =>
  exQ t15 1 fun t17 =>
  binQ Tryd.prog w .neq 25 true t17 (.int .i64 0) fun t19 =>
  condW t19 (
    bdQ Tryd.prog 33 [] fun t20 =>
    stW Tryd.prog 33 t4 t20 w fun w =>
    ldN 2 w t4 fun r =>
    R (.returned (.tuple #[r, t17])) w
  ) (
    callW Tryd.prog (.func (.func 32) #[] #[]) [t16] w fun t23 w =>
    callW Tryd.prog (.func (.func 33) #[] #[]) [t23] w fun t25 w =>
    Drew w fun w =>
    ncQ t23 fun t27 =>
    fa1 t27 3 fun t28 =>
    ld1 w t28 fun t29 =>
    ncQ t23 fun t31 =>
    fa1 t31 0 fun t32 =>
    ld1 w t32 fun t33 =>
    ncQ t23 fun t35 =>
    fa1 t35 1 fun t36 =>
    ld1 w t36 fun t37 =>
    binQ Tryd.prog w .add 3 false t33 t37 fun t38 =>
    iaS 1 t29 t38 fun t39 =>
    ld1 w t39 fun t40 =>
    binQ Tryd.prog w .neq 3 true t40 (.int .i64 0) fun t41 =>
    condW t41 (
      bdQ Tryd.prog 33 [] fun t42 =>
      stW Tryd.prog 33 t4 t42 w fun w =>
      ldN 2 w t4 fun r_2 =>
      R (.returned (.tuple #[r_2, (.int .i64 10)])) w
    ) (
      Drew w fun w =>
      Join (fun (k_2 : Value → World → Prop) =>
        ncQ t23 fun t44 =>
        fa1 t44 0 fun t45 =>
        ld1 w t45 fun t46 =>
        ncQ t23 fun t49 =>
        fa1 t49 5 fun t50 =>
        ld1 w t50 fun t51 =>
        And (
          mkW Tryd.prog 31 t46 t46 w <| keepB w fun t47 w =>
          bdQ Tryd.prog 33 [(0, t47), (1, t51)] fun t52 =>
          boxW 33 (.agg #[(.slice none 0 0), (.int .i64 0)]) w <| keepB w fun t9_2 w =>
          stW Tryd.prog 33 t9_2 t52 w fun w =>
          k_2 t9_2 w
        ) <|
        And (
          boxW 33 (.agg #[(.slice none 0 0), (.int .i64 0)]) w <| keepB w fun t9_3 w =>
          mkW Tryd.prog 31 t46 t46 w <| keepB w fun t47_2 w =>
          bdQ Tryd.prog 33 [(0, t47_2), (1, t51)] fun t52_2 =>
          stW Tryd.prog 33 t9_3 t52_2 w fun w =>
          k_2 t9_3 w
        ) <|
        True
      ) fun t9 w =>
      ncQ t23 fun t54 =>
      fa1 t54 4 fun t55 =>
      ld1 w t55 fun t56 =>
      ln1 t56 fun t57 =>
      S12L0 t4 t9 t23 t56 t57 R w
    )
  )

def A12 : Ann where
  live := fun
    | 0 => [58]
    | _ => []
  wr := fun
    | 0 => fun i => (Nat.ble 10 i && Nat.ble i 11) || (Nat.ble 58 i && Nat.ble i 91)
    | _ => fun _ => false
  sched := fun
    | 6 => (.take 0 (.take 1 (.take 2 (.take 3 (.take 4 (.take 5 (.take 6 (.take 7 (.take 8 (.take 9 (.take 10 (.take 11 (.take 12 (.take 13 (.take 14 (.take 15 .done))))))))))))))))
    | 8 => (.take 0 (.take 1 (.take 2 (.take 3 (.take 5 (.take 6 (.take 7 (.take 8 (.alt 4 (.take 9 (.eff 10 (.bar 11 .done))) (.alt 10 (.eff 4 (.take 9 (.bar 11 .done))) .nomore))))))))))
    | 13 => (.take 0 (.take 1 (.take 2 (.take 3 (.take 4 (.take 5 (.take 6 (.take 7 (.take 8 (.take 9 (.take 10 (.take 11 (.take 12 (.take 13 (.take 14 (.take 15 (.take 16 (.take 17 (.take 18 (.take 19 (.take 20 (.take 21 (.bar 22 .done)))))))))))))))))))))))
    | _ => .done

set_option maxRecDepth 100000 in
theorem ok12 : (codeOk Tryd.f12.ntmps A12 (Tryd.f12.body.getD .skip) 0 && Nat.ble 2 Tryd.f12.ntmps) = true := by kernel_rfl
set_option maxRecDepth 100000 in
theorem lift12 {t0 t1 : Value} {w : World} {R : Ending → World → Prop} (h : S12 t0 t1 w R) : Calls Tryd.prog 12 #[t0, t1] w R :=
  calls_of_cw (fn := Tryd.f12) (c := Tryd.f12.body.getD .skip) A12 mixes Tryd.func12 (by kernel_rfl) ok12
    ((by kernel_rfl : (S12 t0 t1 w R) = cw Tryd.prog A12 (Tryd.f12.body.getD .skip) 0 (bodyQ Tryd.prog Tryd.f12 R) (frOf #[t0, t1]) w).mp h)

def S33L1 (t0 t17 t24 t30 t31 : Value) (next : World → Prop) (w : World) : Prop :=
  Loop2 (.int .i64 (-1)) (.int .i64 0) w fun _ t4 t32 w next_2 =>
    binQ Tryd.prog w .lss 3 false t32 t31 fun t33 =>
    condW t33 (
      Join (fun (k_2 : Value → World → Prop) =>
        iaS 1 t30 t32 fun t35 =>
        ld1 w t35 fun t36 =>
        iaS 1 t36 t24 fun t39 =>
        ld1 w t39 fun t40 =>
        binQ Tryd.prog w .leq 3 true t40 (.int .i64 0) fun t41 =>
        condW t41 (
          k_2 t4 w
        ) (
          binQ Tryd.prog w .lss 3 true t4 (.int .i64 0) fun t43 =>
          condW t43 (
            k_2 t32 w
          ) (
            Drew w fun w =>
            iaS 1 t36 t17 fun t47 =>
            ld1 w t47 fun t48 =>
            ncQ t0 fun t50 =>
            fa1 t50 2 fun t51 =>
            ld1 w t51 fun t52 =>
            iaS 1 t52 t4 fun t54 =>
            ld1 w t54 fun t55 =>
            iaS 1 t55 t24 fun t57 =>
            ld1 w t57 fun t58 =>
            binQ Tryd.prog w .mul 3 false t48 t58 fun t59 =>
            ncQ t0 fun t61 =>
            fa1 t61 2 fun t62 =>
            ld1 w t62 fun t63 =>
            iaS 1 t63 t4 fun t65 =>
            ld1 w t65 fun t66 =>
            iaS 1 t66 t17 fun t68 =>
            ld1 w t68 fun t69 =>
            iaS 1 t36 t24 fun t72 =>
            ld1 w t72 fun t73 =>
            binQ Tryd.prog w .mul 3 false t69 t73 fun t74 =>
            Drew w fun w =>
            binQ Tryd.prog w .lss 3 false t59 t74 fun t77 =>
            gdQ t77 false (fun k => k t59) fun t79 =>
            gdQ t77 false (fun k => k t74) fun t80 =>
            gdQ t77 false (fun k => binQ Tryd.prog w .eql 3 false t79 t80 k) fun t81 =>
            gdQ t77 false (fun k => k t81) fun t82 =>
            gdQ t82 true (fun k => k t0) fun t83 =>
            gdQ t82 true (fun k => ncQ t83 k) fun t84 =>
            gdQ t82 true (fun k => fa1 t84 4 k) fun t85 =>
            gdQ t82 true (fun k => ld1 w t85 k) fun t86 =>
            gdQ t82 true (fun k => k t32) fun t87 =>
            gdQ t82 true (fun k => iaS 1 t86 t87 k) fun t88 =>
            gdQ t82 true (fun k => ld1 w t88 k) fun t89 =>
            gdQ t82 true (fun k => k t0) fun t90 =>
            gdQ t82 true (fun k => ncQ t90 k) fun t91 =>
            gdQ t82 true (fun k => fa1 t91 4 k) fun t92 =>
            gdQ t82 true (fun k => ld1 w t92 k) fun t93 =>
            gdQ t82 true (fun k => k t4) fun t94 =>
            gdQ t82 true (fun k => iaS 1 t93 t94 k) fun t95 =>
            gdQ t82 true (fun k => ld1 w t95 k) fun t96 =>
            gdQ t82 true (fun k => binQ Tryd.prog w .lss 3 false t89 t96 k) fun t97 =>
            gdQ t77 false (fun k => pickQ t82 t97 (.bool false) k) fun t98 =>
            pickQ t77 (.bool true) t98 fun t99 =>
            condW t99 (
              k_2 t32 w
            ) (
              k_2 t4 w
            )
          )
        )
      ) fun t4_2 w =>
      binQ Tryd.prog w .add 3 true t32 (.int .i64 1) fun t101_2 =>
      next_2 t4_2 t101_2 w
    ) (
      callW Tryd.prog (.func (.func 63) #[] #[]) [t0, t4, t24] w fun t105 w =>
      next w
    )

def S33L0 (t0 t17 : Value) (R : Ending → World → Prop) (w : World) : Prop :=
  Loop0 w fun _ w next =>
    ncQ t0 fun t19 =>
    fa1 t19 3 fun t20 =>
    ld1 w t20 fun t21 =>
    slS 1 t21 none (some t17) fun t23 =>
    callW Tryd.prog (.func (.func 61) #[] #[]) [t23, (.func (.func 62) #[] #[])] w fun t24 w =>
    binQ Tryd.prog w .lss 3 true t24 (.int .i64 0) fun t26 =>
    condW t26 (
      R (.returned (.tuple #[])) w
    ) (
      ncQ t0 fun t28 =>
      fa1 t28 2 fun t29 =>
      ld1 w t29 fun t30 =>
      ln1 t30 fun t31 =>
      S33L1 t0 t17 t24 t30 t31 next w
    )



def S33 (t0 : Value) (w : World) (R : Ending → World → Prop) : Prop :=
  Drew w fun w =>
  ncQ t0 fun t10 =>
  fa1 t10 0 fun t11 =>
  ld1 w t11 fun t12 =>
  ncQ t0 fun t14 =>
  fa1 t14 1 fun t15 =>
  ld1 w t15 fun t16 =>
  binQ Tryd.prog w .add 3 false t12 t16 fun t17 =>
  S33L0 t0 t17 R w

def A33 : Ann where
  live := fun
    | 0 => []
    | 2 => [4, 32]
    | _ => []
  wr := fun
    | 0 => fun i => (Nat.ble 3 i && Nat.ble i 8) || (Nat.ble 18 i && Nat.ble i 105)
    | 2 => fun i => (Nat.ble 4 i && Nat.ble i 8) || (Nat.ble 32 i && Nat.ble i 101)
    | _ => fun _ => false
  sched := fun
    | 0 => (.take 0 (.take 1 (.take 2 (.take 3 (.take 4 (.take 5 (.take 6 (.take 7 (.take 8 (.take 9 .done))))))))))
    | 10 => (.take 0 (.take 1 (.take 2 (.take 3 (.take 4 (.take 5 (.take 6 (.take 7 (.take 8 (.take 9 (.take 10 (.take 11 (.take 12 (.take 13 (.take 14 (.take 15 (.take 16 (.take 17 (.take 18 (.take 19 (.take 20 (.take 21 (.take 22 (.take 23 (.take 24 (.take 25 (.take 26 (.take 27 (.take 28 (.take 29 (.take 30 (.take 31 .done))))))))))))))))))))))))))))))))
    | 11 => (.take 0 (.take 1 (.take 2 (.take 3 (.take 4 (.take 5 (.take 6 (.take 7 (.take 8 (.take 9 (.take 10 (.take 11 (.take 12 (.take 13 (.take 14 (.take 15 (.take 16 (.take 17 (.take 18 (.take 19 (.take 20 (.take 21 (.take 22 (.take 23 (.take 24 .done)))))))))))))))))))))))))
    | _ => .done

set_option maxRecDepth 100000 in
theorem ok33 : (codeOk Tryd.f33.ntmps A33 (Tryd.f33.body.getD .skip) 0 && Nat.ble 1 Tryd.f33.ntmps) = true := by kernel_rfl
set_option maxRecDepth 100000 in
theorem lift33 {t0 : Value} {w : World} {R : Ending → World → Prop} (h : S33 t0 w R) : Calls Tryd.prog 33 #[t0] w R :=
  calls_of_cw (fn := Tryd.f33) (c := Tryd.f33.body.getD .skip) A33 mixes Tryd.func33 (by kernel_rfl) ok33
    ((by kernel_rfl : (S33 t0 w R) = cw Tryd.prog A33 (Tryd.f33.body.getD .skip) 0 (bodyQ Tryd.prog Tryd.f33 R) (frOf #[t0]) w).mp h)

def S34L1 (t0 t1 t28 t30 : Value) (R : Ending → World → Prop) (w : World) : Prop :=
  Loop1 (.int .i64 0) w fun _ t31 w next_2 =>
    binQ Tryd.prog w .lss 3 false t31 t30 fun t32 =>
    condW t32 (
      iaS 1 t0 t31 fun t36 =>
      ld1 w t36 fun t37 =>
      binQ Tryd.prog w .quo 3 false t37 t28 fun t39 =>
      iaS 1 t0 t31 fun t40 =>
      stW Tryd.prog 3 t40 t39 w fun w =>
      binQ Tryd.prog w .add 3 true t31 (.int .i64 1) fun t41 =>
      next_2 t41 w
    ) (
      Drew w fun w =>
      binQ Tryd.prog w .quo 3 false t1 t28 fun t45 =>
      R (.returned (.tuple #[t0, t45])) w
    )

def S34L0 (t0 t1 t12 : Value) (R : Ending → World → Prop) (w : World) : Prop :=
  Loop2 t1 (.int .i64 0) w fun _ t6 t13 w next =>
    binQ Tryd.prog w .lss 3 false t13 t12 fun t14 =>
    condW t14 (
      iaS 1 t0 t13 fun t15 =>
      ld1 w t15 fun t16 =>
      callW Tryd.prog (.func (.func 64) #[] #[]) [t6, t16] w fun t20 w =>
      exQ t20 0 fun t21 =>
      exQ t20 1 fun t22 =>
      exQ t20 2 fun t23 =>
      binQ Tryd.prog w .add 3 true t13 (.int .i64 1) fun t24 =>
      next t21 t24 w
    ) (
      unQ .neg t6 fun t27 =>
      mnQ true [t6, t27, (.int .i64 1)] fun t28 =>
      ln1 t0 fun t30 =>
      S34L1 t0 t1 t28 t30 R w
    )



def S34 (t0 t1 : Value) (w : World) (R : Ending → World → Prop) : Prop :=
  ln1 t0 fun t12 =>
  S34L0 t0 t1 t12 R w

def A34 : Ann where
  live := fun
    | 0 => [6, 13]
    | 2 => [31]
    | _ => []
  wr := fun
    | 0 => fun i => Nat.beq i 6 || Nat.beq i 8 || (Nat.ble 13 i && Nat.ble i 24)
    | 2 => fun i => Nat.beq i 9 || (Nat.ble 31 i && Nat.ble i 41)
    | _ => fun _ => false
  sched := fun
    | 13 => (.take 0 (.take 1 (.take 2 (.take 3 (.take 4 (.take 5 .done))))))
    | _ => .done

set_option maxRecDepth 100000 in
theorem ok34 : (codeOk Tryd.f34.ntmps A34 (Tryd.f34.body.getD .skip) 0 && Nat.ble 2 Tryd.f34.ntmps) = true := by kernel_rfl
set_option maxRecDepth 100000 in
theorem lift34 {t0 t1 : Value} {w : World} {R : Ending → World → Prop} (h : S34 t0 t1 w R) : Calls Tryd.prog 34 #[t0, t1] w R :=
  calls_of_cw (fn := Tryd.f34) (c := Tryd.f34.body.getD .skip) A34 mixes Tryd.func34 (by kernel_rfl) ok34
    ((by kernel_rfl : (S34 t0 t1 w R) = cw Tryd.prog A34 (Tryd.f34.body.getD .skip) 0 (bodyQ Tryd.prog Tryd.f34 R) (frOf #[t0, t1]) w).mp h)

def S62 (t0 : Value) (w : World) (R : Ending → World → Prop) : Prop :=
  binQ Tryd.prog w .lss 3 true t0 (.int .i64 0) fun t4 =>
  R (.returned t4) w

def A62 : Ann where
  live := fun _ => []
  wr := fun _ _ => false
  sched := fun _ => .done

set_option maxRecDepth 100000 in
theorem ok62 : (codeOk Tryd.f62.ntmps A62 (Tryd.f62.body.getD .skip) 0 && Nat.ble 1 Tryd.f62.ntmps) = true := by kernel_rfl
set_option maxRecDepth 100000 in
theorem lift62 {t0 : Value} {w : World} {R : Ending → World → Prop} (h : S62 t0 w R) : Calls Tryd.prog 62 #[t0] w R :=
  calls_of_cw (fn := Tryd.f62) (c := Tryd.f62.body.getD .skip) A62 mixes Tryd.func62 (by kernel_rfl) ok62
    ((by kernel_rfl : (S62 t0 w R) = cw Tryd.prog A62 (Tryd.f62.body.getD .skip) 0 (bodyQ Tryd.prog Tryd.f62 R) (frOf #[t0]) w).mp h)

def S63L0 (t1 t3 t5 t6 t7 t27 t28 : Value) (R : Ending → World → Prop) (w : World) : Prop :=
  Loop1 (.int .i64 0) w fun _ t29 w next =>
    binQ Tryd.prog w .lss 3 false t29 t28 fun t30 =>
    condW t30 (
      iaS 1 t27 t29 fun t32 =>
      ld1 w t32 fun t33 =>
      binQ Tryd.prog w .neq 3 false t29 t1 fun t36 =>
      Join (fun (k_2 : World → Prop) =>
        condW t36 (
          callW Tryd.prog (.func (.func 82) #[] #[t5, t7, t6, t3]) [t33] w fun t39 w =>
          k_2 w
        ) (
          k_2 w
        )
      ) fun w =>
      binQ Tryd.prog w .add 3 true t29 (.int .i64 1) fun t40_2 =>
      next t40_2 w
    ) (
      ld1 w t3 fun t42 =>
      ncQ t42 fun t43 =>
      fa1 t43 3 fun t44 =>
      ld1 w t44 fun t45 =>
      callW Tryd.prog (.func (.func 82) #[] #[t5, t7, t6, t3]) [t45] w fun t46 w =>
      Drew w fun w =>
      ∃ X : Nat → Prop,
      ld1 w t3 fun t47 =>
      ncQ t47 fun t48 =>
      fa1 t48 4 fun t49 =>
      ld1 w t49 fun t50 =>
      takeX X w (fun w k => ld1 w t3 k) fun t52 =>
      ld1 w t5 fun t53 =>
      takeX X w (fun w k => ld1 w t7 k) fun t54 =>
      iaS 1 t50 t1 fun t55 =>
      stW Tryd.prog 3 t55 t53 w <| keepW X w fun w =>
      takeX X w (fun w k => ncQ t52 k) fun t56 =>
      takeX X w (fun w k => fa1 t56 5 k) fun t57 =>
      stW Tryd.prog 3 t57 t54 w fun w =>
      R (.returned (.tuple #[])) w
    )



def S63 (t0 t1 t2 : Value) (w : World) (R : Ending → World → Prop) : Prop :=
  boxW 81 t0 w fun t3 w =>
  boxW 3 t2 w fun t5 w =>
  ld1 w t3 fun t11 =>
  ncQ t11 fun t12 =>
  fa1 t12 2 fun t13 =>
  ld1 w t13 fun t14 =>
  iaS 1 t14 t1 fun t16 =>
  ld1 w t16 fun t17 =>
  callW Tryd.prog (.func (.func 81) #[] #[]) [t17] w fun t18 w =>
  boxW 31 (.slice none 0 0) w fun t6 w =>
  stW Tryd.prog 31 t6 t18 w fun w =>
  ld1 w t6 fun t19 =>
  ld1 w t5 fun t20 =>
  iaS 1 t19 t20 fun t21 =>
  ld1 w t21 fun t22 =>
  boxW 3 (.int .i64 0) w fun t7 w =>
  stW Tryd.prog 3 t7 t22 w fun w =>
  ld1 w t3 fun t24 =>
  ncQ t24 fun t25 =>
  fa1 t25 2 fun t26 =>
  ld1 w t26 fun t27 =>
  ln1 t27 fun t28 =>
  S63L0 t1 t3 t5 t6 t7 t27 t28 R w

def A63 : Ann where
  live := fun
    | 0 => [29]
    | _ => []
  wr := fun
    | 0 => fun i => (Nat.ble 9 i && Nat.ble i 10) || (Nat.ble 29 i && Nat.ble i 40)
    | _ => fun _ => false
  sched := fun
    | 11 => (.cls (.take 0 (.take 1 (.take 2 (.take 3 (.take 4 (.take 5 (.take 6 (.take 7 (.take 8 (.eff 9 (.take 10 (.take 11 (.bar 12 .done))))))))))))))
    | _ => .done

set_option maxRecDepth 100000 in
theorem ok63 : (codeOk Tryd.f63.ntmps A63 (Tryd.f63.body.getD .skip) 0 && Nat.ble 3 Tryd.f63.ntmps) = true := by kernel_rfl
set_option maxRecDepth 100000 in
theorem lift63 {t0 t1 t2 : Value} {w : World} {R : Ending → World → Prop} (h : S63 t0 t1 t2 w R) : Calls Tryd.prog 63 #[t0, t1, t2] w R :=
  calls_of_cw (fn := Tryd.f63) (c := Tryd.f63.body.getD .skip) A63 mixes Tryd.func63 (by kernel_rfl) ok63
    ((by kernel_rfl : (S63 t0 t1 t2 w R) = cw Tryd.prog A63 (Tryd.f63.body.getD .skip) 0 (bodyQ Tryd.prog Tryd.f63 R) (frOf #[t0, t1, t2]) w).mp h)

def S64 (t0 t1 : Value) (w : World) (R : Ending → World → Prop) : Prop :=
  binQ Tryd.prog w .eql 3 true t1 (.int .i64 0) fun t8 =>
  condW t8 (
    R (.returned (.tuple #[t0, (.int .i64 1), (.int .i64 0)])) w
  ) (
    binQ Tryd.prog w .rem 3 false t0 t1 fun t14 =>
    callW Tryd.prog (.func (.func 64) #[] #[]) [t1, t14] w fun t15 w =>
    exQ t15 0 fun t16 =>
    exQ t15 1 fun t17 =>
    exQ t15 2 fun t18 =>
    Drew w fun w =>
    binQ Tryd.prog w .quo 3 false t0 t1 fun t24 =>
    binQ Tryd.prog w .mul 3 false t24 t18 fun t26 =>
    binQ Tryd.prog w .sub 3 false t17 t26 fun t27 =>
    R (.returned (.tuple #[t16, t18, t27])) w
  )

def A64 : Ann where
  live := fun _ => []
  wr := fun _ _ => false
  sched := fun
    | 4 => (.take 0 (.take 1 (.take 2 (.take 3 (.take 4 (.take 5 (.take 6 (.take 7 (.take 8 (.take 9 (.take 10 (.take 11 .done))))))))))))
    | _ => .done

set_option maxRecDepth 100000 in
theorem ok64 : (codeOk Tryd.f64.ntmps A64 (Tryd.f64.body.getD .skip) 0 && Nat.ble 2 Tryd.f64.ntmps) = true := by kernel_rfl
set_option maxRecDepth 100000 in
theorem lift64 {t0 t1 : Value} {w : World} {R : Ending → World → Prop} (h : S64 t0 t1 w R) : Calls Tryd.prog 64 #[t0, t1] w R :=
  calls_of_cw (fn := Tryd.f64) (c := Tryd.f64.body.getD .skip) A64 mixes Tryd.func64 (by kernel_rfl) ok64
    ((by kernel_rfl : (S64 t0 t1 w R) = cw Tryd.prog A64 (Tryd.f64.body.getD .skip) 0 (bodyQ Tryd.prog Tryd.f64 R) (frOf #[t0, t1]) w).mp h)

def S81 (t0 : Value) (w : World) (R : Ending → World → Prop) : Prop :=
  binQ Tryd.prog w .eql 31 true t0 (.slice none 0 0) fun t4 =>
  condW t4 (
    R (.returned (.slice none 0 0)) w
  ) (
    bsW Tryd.prog 31 0 [] w fun t5 w =>
    semW Tryd.prog (apS [31, 31] 31 [t5, t0]) w fun t7 w =>
    R (.returned t7) w
  )

def A81 : Ann where
  live := fun _ => []
  wr := fun _ _ => false
  sched := fun _ => .done

set_option maxRecDepth 100000 in
theorem ok81 : (codeOk Tryd.f81.ntmps A81 (Tryd.f81.body.getD .skip) 0 && Nat.ble 1 Tryd.f81.ntmps) = true := by kernel_rfl
set_option maxRecDepth 100000 in
theorem lift81 {t0 : Value} {w : World} {R : Ending → World → Prop} (h : S81 t0 w R) : Calls Tryd.prog 81 #[t0] w R :=
  calls_of_cw (fn := Tryd.f81) (c := Tryd.f81.body.getD .skip) A81 mixes Tryd.func81 (by kernel_rfl) ok81
    ((by kernel_rfl : (S81 t0 w R) = cw Tryd.prog A81 (Tryd.f81.body.getD .skip) 0 (bodyQ Tryd.prog Tryd.f81 R) (frOf #[t0]) w).mp h)

def S82L0 (t0 t2 t3 t4 t11 t13 : Value) (R : Ending → World → Prop) (w : World) : Prop :=
  Loop1 (.int .i64 0) w fun _ t14 w next =>
    binQ Tryd.prog w .lss 3 false t14 t13 fun t15 =>
    condW t15 (
      Drew w fun w =>
      iaS 1 t0 t14 fun t21 =>
      ld1 w t21 fun t22 =>
      ld1 w t2 fun t23 =>
      binQ Tryd.prog w .mul 3 false t22 t23 fun t24 =>
      ld1 w t3 fun t26 =>
      iaS 1 t26 t14 fun t28 =>
      ld1 w t28 fun t29 =>
      binQ Tryd.prog w .mul 3 false t11 t29 fun t30 =>
      binQ Tryd.prog w .sub 3 false t24 t30 fun t31 =>
      ld1 w t4 fun t32 =>
      ncQ t32 fun t33 =>
      fa1 t33 5 fun t34 =>
      ld1 w t34 fun t35 =>
      binQ Tryd.prog w .quo 3 false t31 t35 fun t36 =>
      iaS 1 t0 t14 fun t37 =>
      stW Tryd.prog 3 t37 t36 w fun w =>
      binQ Tryd.prog w .add 3 true t14 (.int .i64 1) fun t38 =>
      next t38 w
    ) (
      R (.returned (.tuple #[])) w
    )



def S82 (t0 t1 t2 t3 t4 : Value) (w : World) (R : Ending → World → Prop) : Prop :=
  ld1 w t1 fun t9 =>
  iaS 1 t0 t9 fun t10 =>
  ld1 w t10 fun t11 =>
  ln1 t0 fun t13 =>
  S82L0 t0 t2 t3 t4 t11 t13 R w

def A82 : Ann where
  live := fun
    | 0 => [14]
    | _ => []
  wr := fun
    | 0 => fun i => Nat.beq i 7 || (Nat.ble 14 i && Nat.ble i 38)
    | _ => fun _ => false
  sched := fun
    | 4 => (.take 0 (.take 1 (.take 2 (.take 3 (.take 4 (.take 5 (.take 6 (.take 7 (.take 8 (.take 9 (.take 10 (.take 11 (.take 12 (.take 13 (.take 14 (.take 15 (.take 16 (.take 17 (.take 18 (.take 19 (.take 20 (.bar 21 .done))))))))))))))))))))))
    | _ => .done

set_option maxRecDepth 100000 in
theorem ok82 : (codeOk Tryd.f82.ntmps A82 (Tryd.f82.body.getD .skip) 0 && Nat.ble 5 Tryd.f82.ntmps) = true := by kernel_rfl
set_option maxRecDepth 100000 in
theorem lift82 {t0 t1 t2 t3 t4 : Value} {w : World} {R : Ending → World → Prop} (h : S82 t0 t1 t2 t3 t4 w R) : Calls Tryd.prog 82 #[t0, t1, t2, t3, t4] w R :=
  calls_of_cw (fn := Tryd.f82) (c := Tryd.f82.body.getD .skip) A82 mixes Tryd.func82 (by kernel_rfl) ok82
    ((by kernel_rfl : (S82 t0 t1 t2 t3 t4 w R) = cw Tryd.prog A82 (Tryd.f82.body.getD .skip) 0 (bodyQ Tryd.prog Tryd.f82 R) (frOf #[t0, t1, t2, t3, t4]) w).mp h)

theorem fok3 : fnOk Tryd.prog 3 = true := by kernel_rfl
theorem fok12 : fnOk Tryd.prog 12 = true := by kernel_rfl
theorem fok33 : fnOk Tryd.prog 33 = true := by kernel_rfl
theorem fok34 : fnOk Tryd.prog 34 = true := by kernel_rfl
theorem fok62 : fnOk Tryd.prog 62 = true := by kernel_rfl
theorem fok63 : fnOk Tryd.prog 63 = true := by kernel_rfl
theorem fok64 : fnOk Tryd.prog 64 = true := by kernel_rfl
theorem fok81 : fnOk Tryd.prog 81 = true := by kernel_rfl
theorem fok82 : fnOk Tryd.prog 82 = true := by kernel_rfl
end Go.Proofs.YtbekeccfjmoonaaDoor
