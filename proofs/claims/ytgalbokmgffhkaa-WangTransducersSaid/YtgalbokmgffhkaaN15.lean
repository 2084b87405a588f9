/- Texts of my own, merged by program: So G3a G3. -/
import Derived.Test.YtgalbokmgffhkaaN03
import Derived.Test.YtgalbokmgffhkaaN10
import Derived.Shelf.SortM.Plain
import Derived.Shelf.SortM.SortNone
import Derived.Shelf.SlicesG.CompactI
set_option linter.all false
/- Lifted texts, printed by program (gen.py): what each function's code asks. The ties are by the kernel. -/
namespace Go.Proofs.Ytgalbokmgffhkaa
open Go.Lf Go.RowKit

def S16L1 (t1 t12 t62 t68 : Value) (next : Value → World → Prop) (R : Ending → World → Prop) (w : World) : Prop :=
  Loop2 (.bool false) (.int .i64 0) w fun _ t13 t14 w next_2 =>
    ln1 t68 fun t91 =>
    binQ Try.prog w .lss 3 false t14 t91 fun t92 =>
    gd t92 true (fun k => k t13 w) w fun t94 w =>
    gd t92 true (fun k => unQ .not t94 fun v => k v w) w fun t95 w =>
    pickQ t92 t95 (.bool false) fun t96 =>
    condW t96 (
      iaS 1 t68 t14 fun t103 =>
      ld1 w t103 fun t104 =>
      callW Try.prog (.func (.func 49) #[] #[]) [t1, t104] w fun t105 w =>
      exQ t105 0 fun t106 =>
      exQ t105 1 fun t107 =>
      binQ Try.prog w .neq 26 true t107 (.int .i64 0) fun t109 =>
      condW t109 (
        R (.returned (.bool false)) w
      ) (
        iaS 1 t62 t12 fun t113 =>
        ld1 w t113 fun t114 =>
        callW Try.prog (.func (.func 52) #[] #[]) [t106, t114] w fun t115 w =>
        binQ Try.prog w .add 3 true t14 (.int .i64 1) fun t98 =>
        next_2 t115 t98 w
      )
    ) (
      unQ .not t13 fun t117 =>
      condW t117 (
        R (.returned (.bool false)) w
      ) (
        binQ Try.prog w .add 3 true t12 (.int .i64 1) fun t88 =>
        next t88 w
      )
    )

def S16L3 (t17 t62 t135 : Value) (next_3 : Value → World → Prop) (R : Ending → World → Prop) (w : World) : Prop :=
  Loop1 (.int .i64 0) w fun _ t20 w next_4 =>
    ln1 t135 fun t141 =>
    binQ Try.prog w .lss 3 false t20 t141 fun t142 =>
    gd t142 true (fun k => k t20 w) w fun t144 w =>
    gd t142 true (fun k => binQ Try.prog w .lss 3 true t144 (.int .i64 40) fun v => k v w) w fun t145 w =>
    pickQ t142 t145 (.bool false) fun t146 =>
    condW t146 (
      iaS 1 t135 t20 fun t152 =>
      ld1 w t152 fun t153 =>
      callW Try.prog (.func (.func 52) #[] #[]) [t62, t153] w fun t154 w =>
      unQ .not t154 fun t155 =>
      condW t155 (
        R (.returned (.bool false)) w
      ) (
        binQ Try.prog w .add 3 true t20 (.int .i64 1) fun t148 =>
        next_4 t148 w
      )
    ) (
      binQ Try.prog w .add 3 true t17 (.int .i64 1) fun t127 =>
      next_3 t127 w
    )

def S16L2 (t1 t62 t68 : Value) (R : Ending → World → Prop) (w : World) : Prop :=
  Loop1 (.int .i64 0) w fun _ t17 w next_3 =>
    ln1 t68 fun t120 =>
    binQ Try.prog w .lss 3 false t17 t120 fun t121 =>
    gd t121 true (fun k => k t17 w) w fun t123 w =>
    gd t121 true (fun k => binQ Try.prog w .lss 3 true t123 (.int .i64 40) fun v => k v w) w fun t124 w =>
    pickQ t121 t124 (.bool false) fun t125 =>
    condW t125 (
      iaS 1 t68 t17 fun t132 =>
      ld1 w t132 fun t133 =>
      callW Try.prog (.func (.func 49) #[] #[]) [t1, t133] w fun t134 w =>
      exQ t134 0 fun t135 =>
      exQ t134 1 fun t136 =>
      binQ Try.prog w .neq 26 true t136 (.int .i64 0) fun t138 =>
      condW t138 (
        R (.returned (.bool false)) w
      ) (
        S16L3 t17 t62 t135 next_3 R w
      )
    ) (
      callW Try.prog (.func (.func 18) #[] #[]) [] w fun t156 w =>
      R (.returned t156) w
    )

def S16L0 (t1 t62 t68 : Value) (R : Ending → World → Prop) (w : World) : Prop :=
  Loop1 (.int .i64 0) w fun _ t12 w next =>
    ln1 t62 fun t85 =>
    binQ Try.prog w .lss 3 false t12 t85 fun t86 =>
    condW t86 (
      S16L1 t1 t12 t62 t68 next R w
    ) (
      S16L2 t1 t62 t68 R w
    )

def S16 (t0 t1 t2 : Value) (w : World) (R : Ending → World → Prop) : Prop :=
  ln1 t0 fun t22 =>
  binQ Try.prog w .gtr 3 true t22 (.int .i64 40) fun t23 =>
  gd t23 false (fun k => k t1 w) w fun t25 w =>
  gd t23 false (fun k => ln1 t25 fun v => k v w) w fun t26 w =>
  gd t23 false (fun k => binQ Try.prog w .gtr 3 true t26 (.int .i64 40) fun v => k v w) w fun t27 w =>
  pickQ t23 (.bool true) t27 fun t28 =>
  gd t28 false (fun k => k t2 w) w fun t30 w =>
  gd t28 false (fun k => ln1 t30 fun v => k v w) w fun t31 w =>
  gd t28 false (fun k => binQ Try.prog w .gtr 3 true t31 (.int .i64 4) fun v => k v w) w fun t32 w =>
  pickQ t28 (.bool true) t32 fun t33 =>
  condW t33 (
    callW Try.prog (.func (.func 18) #[] #[]) [] w fun t34 w =>
    R (.returned t34) w
  ) (
    callW Try.prog (.func (.func 50) #[] #[]) [t0, t1] w fun t38 w =>
    exQ t38 0 fun t39 =>
    exQ t38 1 fun t40 =>
    binQ Try.prog w .neq 26 true t40 (.int .i64 0) fun t42 =>
    gd t42 false (fun k => k t39 w) w fun t44 w =>
    gd t42 false (fun k => ln1 t44 fun v => k v w) w fun t45 w =>
    gd t42 false (fun k => binQ Try.prog w .eql 3 true t45 (.int .i64 0) fun v => k v w) w fun t46 w =>
    pickQ t42 (.bool true) t46 fun t47 =>
    condW t47 (
      binQ Try.prog w .eql 26 true t40 (.int .i64 0) fun t49 =>
      gd t49 false (fun k => k t39 w) w fun t51 w =>
      gd t49 false (fun k => ln1 t51 fun v => k v w) w fun t52 w =>
      gd t49 false (fun k => binQ Try.prog w .eql 3 true t52 (.int .i64 0) fun v => k v w) w fun t53 w =>
      pickQ t49 (.bool true) t53 fun t54 =>
      gd t54 true (fun k => callW Try.prog (.func (.func 18) #[] #[]) [] w k) w fun t56 w =>
      pickQ t54 t56 (.bool false) fun t57 =>
      R (.returned t57) w
    ) (
      callW Try.prog (.func (.func 49) #[] #[]) [t39, t2] w fun t61 w =>
      exQ t61 0 fun t62 =>
      exQ t61 1 fun t63 =>
      callW Try.prog (.func (.func 49) #[] #[]) [t0, t2] w fun t67 w =>
      exQ t67 0 fun t68 =>
      exQ t67 1 fun t69 =>
      binQ Try.prog w .neq 26 false t63 t69 fun t72 =>
      gd t72 false (fun k => k t63 w) w fun t74 w =>
      gd t72 false (fun k => binQ Try.prog w .neq 26 true t74 (.int .i64 0) fun v => k v w) w fun t75 w =>
      pickQ t72 (.bool true) t75 fun t76 =>
      condW t76 (
        binQ Try.prog w .eql 26 false t63 t69 fun t79 =>
        gd t79 true (fun k => callW Try.prog (.func (.func 18) #[] #[]) [] w k) w fun t81 w =>
        pickQ t79 t81 (.bool false) fun t82 =>
        R (.returned t82) w
      ) (
        S16L0 t1 t62 t68 R w
      )
    )
  )

def A16 : Ann where
  live := fun
    | 0 => [12]
    | 2 => [13, 14]
    | 4 => [17]
    | 6 => [20]
    | _ => []
  wr := fun
    | 0 => fun i => Nat.beq i 6 || (Nat.ble 12 i && Nat.ble i 16) || (Nat.ble 83 i && Nat.ble i 117)
    | 2 => fun i => Nat.beq i 6 || (Nat.ble 13 i && Nat.ble i 16) || (Nat.ble 89 i && Nat.ble i 115)
    | 4 => fun i => Nat.beq i 6 || (Nat.ble 17 i && Nat.ble i 20) || (Nat.ble 118 i && Nat.ble i 155)
    | 6 => fun i => Nat.beq i 6 || Nat.beq i 20 || (Nat.ble 139 i && Nat.ble i 155)
    | _ => fun _ => false
  sched := fun _ => .done

set_option maxRecDepth 100000 in
theorem ok16 : (codeOk Try.f16.ntmps A16 (Try.f16.body.getD .skip) 0 && Nat.ble 3 Try.f16.ntmps) = true := by kernel_rfl
set_option maxRecDepth 100000 in
theorem lift16 {t0 t1 t2 : Value} {w : World} {R : Ending → World → Prop} (h : S16 t0 t1 t2 w R) : Calls Try.prog 16 #[t0, t1, t2] w R :=
  calls_of_cw (fn := Try.f16) (c := Try.f16.body.getD .skip) A16 mixes Try.func16 (by kernel_rfl) ok16
    ((by kernel_rfl : (S16 t0 t1 t2 w R) = cw Try.prog A16 (Try.f16.body.getD .skip) 0 (bodyQ Try.prog Try.f16 R) (frOf #[t0, t1, t2]) w).mp h)

def S52L0 (t0 t1 : Value) (R : Ending → World → Prop) (w : World) : Prop :=
  Loop1 (.int .i64 0) w fun _ t5 w next =>
    ln1 t0 fun t8 =>
    binQ Try.prog w .lss 3 false t5 t8 fun t9 =>
    condW t9 (
      iaS 1 t0 t5 fun t14 =>
      ld1 w t14 fun t15 =>
      callW Try.prog (.func (.func 43) #[] #[]) [t15, t1] w fun t17 w =>
      condW t17 (
        R (.returned (.bool true)) w
      ) (
        binQ Try.prog w .add 3 true t5 (.int .i64 1) fun t11 =>
        next t11 w
      )
    ) (
      R (.returned (.bool false)) w
    )



def S52 (t0 t1 : Value) (w : World) (R : Ending → World → Prop) : Prop :=
  S52L0 t0 t1 R w

def A52 : Ann where
  live := fun
    | 0 => [5]
    | _ => []
  wr := fun
    | 0 => fun i => (Nat.ble 4 i && Nat.ble i 17)
    | _ => fun _ => false
  sched := fun _ => .done

set_option maxRecDepth 100000 in
theorem ok52 : (codeOk Try.f52.ntmps A52 (Try.f52.body.getD .skip) 0 && Nat.ble 2 Try.f52.ntmps) = true := by kernel_rfl
set_option maxRecDepth 100000 in
theorem lift52 {t0 t1 : Value} {w : World} {R : Ending → World → Prop} (h : S52 t0 t1 w R) : Calls Try.prog 52 #[t0, t1] w R :=
  calls_of_cw (fn := Try.f52) (c := Try.f52.body.getD .skip) A52 mixes Try.func52 (by kernel_rfl) ok52
    ((by kernel_rfl : (S52 t0 t1 w R) = cw Try.prog A52 (Try.f52.body.getD .skip) 0 (bodyQ Try.prog Try.f52 R) (frOf #[t0, t1]) w).mp h)

theorem fok16 : fnOk Try.prog 16 = true := by kernel_rfl
theorem fok52 : fnOk Try.prog 52 = true := by kernel_rfl
end Go.Proofs.Ytgalbokmgffhkaa

/- The shelf laid at the program's slices.Sort and slices.Compact of integers (printed by layprint.py). -/
namespace Go.Proofs.Ytgalbokmgffhkaa
open Go.Lf Go.RowKit Go.Shelf Go.Proofs

def sortI_ren : Go.Shelf.Ren := ⟨fun | 5 => 97 | 8 => 110 | 7 => 116 | 19 => 129 | 20 => 130 | 10 => 132 | 11 => 133 | 12 => 134 | 13 => 135 | 14 => 136 | 15 => 137 | 16 => 138 | 17 => 139 | 18 => 140 | 30 => 146 | 31 => 142 | 32 => 143 | 33 => 147 | 34 => 148 | 35 => 118 | 40 => 150 | n => n, fun | 23 => 30 | 25 => 3 | 3 => 3 | 32 => 109 | 22 => 30 | 0 => 0 | 44 => 122 | 46 => 125 | 4 => 4 | 36 => 130 | 35 => 129 | 41 => 134 | 5 => 5 | 9 => 9 | 53 => 145 | 57 => 149 | 63 => 153 | 64 => 154 | n => n, fun | n => n⟩
set_option maxRecDepth 100000 in
theorem sortI : SlLaysM.n5 Try.prog sortI_ren :=
  { mixed := by kernel_rfl,
    f5 := ⟨Try.f97.name, by decide, Try.func97.trans (congrArg some (by kernel_rfl))⟩,
    f7 := ⟨Try.f116.name, by decide, Try.func116.trans (congrArg some (by kernel_rfl))⟩,
    f8 := Try.func110.trans (congrArg some (by kernel_rfl)),
    f10 := ⟨Try.f132.name, by decide, Try.func132.trans (congrArg some (by kernel_rfl))⟩,
    f11 := ⟨Try.f133.name, by decide, Try.func133.trans (congrArg some (by kernel_rfl))⟩,
    f12 := ⟨Try.f134.name, by decide, Try.func134.trans (congrArg some (by kernel_rfl))⟩,
    f13 := ⟨Try.f135.name, by decide, Try.func135.trans (congrArg some (by kernel_rfl))⟩,
    f14 := ⟨Try.f136.name, by decide, Try.func136.trans (congrArg some (by kernel_rfl))⟩,
    f15 := ⟨Try.f137.name, by decide, Try.func137.trans (congrArg some (by kernel_rfl))⟩,
    f16 := ⟨Try.f138.name, by decide, Try.func138.trans (congrArg some (by kernel_rfl))⟩,
    f17 := ⟨Try.f139.name, by decide, Try.func139.trans (congrArg some (by kernel_rfl))⟩,
    f18 := ⟨Try.f140.name, by decide, Try.func140.trans (congrArg some (by kernel_rfl))⟩,
    f19 := Try.func129.trans (congrArg some (by kernel_rfl)),
    f20 := Try.func130.trans (congrArg some (by kernel_rfl)),
    f30 := ⟨Try.f146.name, by decide, Try.func146.trans (congrArg some (by kernel_rfl))⟩,
    f31 := Try.func142.trans (congrArg some (by kernel_rfl)),
    f32 := Try.func143.trans (congrArg some (by kernel_rfl)),
    f33 := ⟨Try.f147.name, by decide, Try.func147.trans (congrArg some (by kernel_rfl))⟩,
    f34 := ⟨Try.f148.name, by decide, Try.func148.trans (congrArg some (by kernel_rfl))⟩,
    f35 := ⟨Try.f118.name, by decide, Try.func118.trans (congrArg some (by kernel_rfl))⟩,
    f40 := ⟨Try.f150.name, by decide, Try.func150.trans (congrArg some (by kernel_rfl))⟩,
    t0 := Try.underlying0,
    a0 := Try.isAgg0,
    z0 := Try.sizeOf0,
    v0 := Try.zeroValue0,
    t3 := Try.underlying3,
    a3 := Try.isAgg3,
    z3 := Try.sizeOf3,
    v3 := Try.zeroValue3,
    t4 := Try.underlying4,
    a4 := Try.isAgg4,
    z4 := Try.sizeOf4,
    v4 := Try.zeroValue4,
    t5 := Try.underlying5,
    a5 := Try.isAgg5,
    z5 := Try.sizeOf5,
    v5 := Try.zeroValue5,
    t9 := Try.underlying9,
    a9 := Try.isAgg9,
    z9 := Try.sizeOf9,
    v9 := Try.zeroValue9,
    t22 := Try.underlying30,
    a22 := Try.isAgg30,
    z22 := Try.sizeOf30,
    v22 := Try.zeroValue30,
    t23 := Try.underlying30,
    a23 := Try.isAgg30,
    z23 := Try.sizeOf30,
    v23 := Try.zeroValue30,
    t25 := Try.underlying3,
    a25 := Try.isAgg3,
    z25 := Try.sizeOf3,
    v25 := Try.zeroValue3,
    t32 := Try.underlying109,
    a32 := Try.isAgg109,
    z32 := Try.sizeOf109,
    v32 := Try.zeroValue109,
    t35 := Try.underlying129,
    a35 := Try.isAgg129,
    z35 := Try.sizeOf129,
    v35 := Try.zeroValue129,
    t36 := Try.underlying130,
    a36 := Try.isAgg130,
    z36 := Try.sizeOf130,
    v36 := Try.zeroValue130,
    t41 := Try.underlying134,
    a41 := Try.isAgg134,
    z41 := Try.sizeOf134,
    v41 := Try.zeroValue134,
    t44 := Try.underlying122,
    a44 := Try.isAgg122,
    z44 := Try.sizeOf122,
    v44 := Try.zeroValue122,
    t46 := Try.underlying125,
    a46 := Try.isAgg125,
    z46 := Try.sizeOf125,
    v46 := Try.zeroValue125,
    t53 := Try.underlying145,
    a53 := Try.isAgg145,
    z53 := Try.sizeOf145,
    v53 := Try.zeroValue145,
    t57 := Try.underlying149,
    a57 := Try.isAgg149,
    z57 := Try.sizeOf149,
    v57 := Try.zeroValue149,
    t63 := Try.underlying153,
    a63 := Try.isAgg153,
    z63 := Try.sizeOf153,
    v63 := Try.zeroValue153,
    t64 := Try.underlying154,
    a64 := Try.isAgg154,
    z64 := Try.sizeOf154,
    v64 := Try.zeroValue154 }

def cmpI_ren : Go.Shelf.Ren := ⟨fun | 43 => 98 | n => n, fun | 22 => 30 | 23 => 3 | 3 => 3 | 4 => 4 | 0 => 0 | n => n, fun | n => n⟩
set_option maxRecDepth 100000 in
theorem cmpI : SlLaysN.n43 Try.prog cmpI_ren :=
  { mixed := by kernel_rfl,
    f43 := ⟨Try.f98.name, by decide, Try.func98.trans (congrArg some (by kernel_rfl))⟩,
    t0 := Try.underlying0,
    a0 := Try.isAgg0,
    z0 := Try.sizeOf0,
    v0 := Try.zeroValue0,
    t3 := Try.underlying3,
    a3 := Try.isAgg3,
    z3 := Try.sizeOf3,
    v3 := Try.zeroValue3,
    t4 := Try.underlying4,
    a4 := Try.isAgg4,
    z4 := Try.sizeOf4,
    v4 := Try.zeroValue4,
    t22 := Try.underlying30,
    a22 := Try.isAgg30,
    z22 := Try.sizeOf30,
    v22 := Try.zeroValue30,
    t23 := Try.underlying3,
    a23 := Try.isAgg3,
    z23 := Try.sizeOf3,
    v23 := Try.zeroValue3,
    i23 := by kernel_rfl }

end Go.Proofs.Ytgalbokmgffhkaa

/- slices.Sort and slices.Compact at integers of one's own, by the shelf. -/
namespace Go.Proofs.Ytgalbokmgffhkaa
open Go.Lf Go.RowKit Go.Wg Go.Shelf Go.Proofs

theorem put_ints {base : Nat} {w : World} {g cap n k : Nat} {cur : Array Value} {d d' : Array Int} {os : Array Obj} (hg : w.heap[g]? = some (.cells cur 3 (0, 0))) (hb : base ≤ g) (hm : cap ≤ maxLen) (hs : cur.size = cap * 1) (hd : d.size ≤ cap) (hdd : d'.size = d.size) (hH : Go.Sort.Holds (Value.int .i64) w g 0 d) (hk : k ≤ d'.size) :
    IntsAt base (sortWorld (Value.int .i64) w g 0 n d' os) (.slice (some ⟨g, 0, none⟩) k cap) (d'.toList.take k) := by
  have hHd := holds_sortWorld (Value.int .i64) w g 0 n d d' os (block_lt hg) hH hdd
  have hblk : (sortWorld (Value.int .i64) w g 0 n d' os).heap[g]? = some (.cells (Go.Sort.putCells (Value.int .i64) 0 d' cur) 3 (0, 0)) := by
    have hgl := block_lt hg
    show ((w.heap.modify g _) ++ os)[g]? = _
    rw [Array.getElem?_append_left (by simpa using hgl), Array.getElem?_modify, if_pos rfl, hg]
    rfl
  have hlen : (d'.toList.take k).length = k := by simp; omega
  refine ⟨by rw [recCells_length iC_len], .inr ⟨g, cap, _, by rw [hlen], hb, hblk, by omega, hm, by simp [Go.Sort.putCells, hs], ?_⟩⟩
  have e1 : recCells iC (d'.toList.take k) = (d'.toList.take k).map (.int .i64) := rec_ints _
  rw [e1, hlen, Nat.mul_one]
  apply List.ext_getElem?
  intro t
  rw [List.getElem?_take]
  by_cases hlt : t < k
  · rw [if_pos hlt]
    have := (hHd t (by omega)).1
    rw [Nat.zero_add, cell_row hblk] at this
    rw [Array.getElem?_toList, this]
    have ht : t < d'.size := by omega
    simp [hlt, ht]
  · rw [if_neg hlt]
    rw [List.getElem?_eq_none (by simp; omega)]

theorem holds_ints {base : Nat} {w : World} {g cap : Nat} {l : List Int} {cur : Array Value} (hg : w.heap[g]? = some (.cells cur 3 (0, 0))) (ht : cur.toList.take (l.length * 1) = recCells iC l) : Go.Sort.Holds (Value.int .i64) w g 0 l.toArray := by
  intro j hj
  have hj' : j < l.length := by simpa using hj
  rw [Nat.zero_add, cell_row hg]
  refine ⟨?_, frozen_row hg⟩
  rw [rec_ints, Nat.mul_one] at ht
  rw [← Array.getElem?_toList]
  have : cur.toList[j]? = (l.map (Value.int .i64))[j]? := by
    conv => rhs; rw [← ht]
    rw [List.getElem?_take, if_pos hj']
  rw [this]
  simp [hj']

set_option maxRecDepth 100000 in
theorem sortI_calls {base : Nat} {v : Value} {l : List Int} {w : World} (h : IntsAt base w v l) (hl : l.length ≤ 1000000) :
    Calls Try.prog 97 #[v] w fun e w' => e = .returned (.tuple #[]) ∧ IntsAt base w' v (l.mergeSort fun x y => decide (x ≤ y)) ∧ Chg (fun k => v.ownBlock = some k) w w' := by
  by_cases h0 : l.length = 0
  · have el : l = [] := List.length_eq_zero_iff.1 h0
    subst el
    obtain ⟨a, cap, rfl, _⟩ := h.len
    have hcon := AnyM.slices_Sort_int_none sortI a cap w
    change Calls Try.prog 97 _ _ _ at hcon
    refine hcon.mono ?_
    rintro e w' ⟨rfl, rfl⟩
    exact ⟨rfl, by simpa using h, Chg.refl _ _⟩
  obtain ⟨g, cap, cur, rfl, hb, hg, hle, hm, hs, ht⟩ := h.blk (by omega)
  have hH := holds_ints (base := base) (cap := cap) hg ht
  have hcon := AnyM.slices_Sort_int sortI g 0 cap l w hH (block_lt hg) (by omega)
  change Calls Try.prog 97 _ _ _ at hcon
  refine hcon.mono ?_
  rintro e w' ⟨rfl, n, os, rfl⟩
  have hp := put_ints (base := base) (n := n) (os := os) (d := l.toArray) (d' := (l.mergeSort fun x y => decide (x ≤ y)).toArray) (k := l.length) hg hb hm hs (by simpa using hle) (by simp) hH (by simp)
  refine ⟨rfl, ?_, (chg_sort (Value.int .i64) w g n _ os).mono fun k _ e => by rw [e]; rfl⟩
  have e1 : (l.mergeSort fun x y => decide (x ≤ y)).take l.length = l.mergeSort fun x y => decide (x ≤ y) := List.take_of_length_le (by simp)
  simp only [e1] at hp
  exact hp

set_option maxRecDepth 100000 in
theorem compI_calls {base : Nat} {v : Value} {l : List Int} {w : World} (h : IntsAt base w v l) (hl : l.length ≤ 1000000) :
    Calls Try.prog 98 #[v] w fun e w' => ∃ v', e = .returned v' ∧ IntsAt base w' v' (Go.Lib.compact l) ∧ Chg (fun k => v.ownBlock = some k) w w' := by
  by_cases h0 : l.length = 0
  · have el : l = [] := List.length_eq_zero_iff.1 h0
    subst el
    obtain ⟨a, cap, rfl, _⟩ := h.len
    have hcon := AnyG.slices_Compact_int_empty cmpI a cap w
    change Calls Try.prog 98 _ _ _ at hcon
    refine hcon.mono ?_
    rintro e w' ⟨rfl, rfl⟩
    exact ⟨_, rfl, h, Chg.refl _ _⟩
  obtain ⟨g, cap, cur, rfl, hb, hg, hle, hm, hs, ht⟩ := h.blk (by omega)
  have hH := holds_ints (base := base) (cap := cap) hg ht
  have hcon := AnyG.slices_Compact_int cmpI g 0 cap l w hH (by omega) hle
  change Calls Try.prog 98 _ _ _ at hcon
  refine hcon.mono ?_
  rintro e w' ⟨rfl, n, rfl⟩
  have hclen : (Go.Lib.compact l).length ≤ l.length := by
    unfold Go.Lib.compact Go.Lib.compactUpTo
    rw [List.length_map]
    exact Nat.le_trans (List.length_filter_le _ _) (by simp)
  have hp := put_ints (base := base) (n := n) (os := #[]) (d := l.toArray) (d' := (Go.Lib.compact l ++ List.replicate (l.length - (Go.Lib.compact l).length) 0).toArray) (k := (Go.Lib.compact l).length) hg hb hm hs (by simpa using hle) (by simp; omega) hH (by simp)
  have ew : sortWorld (Value.int .i64) w g 0 n (Go.Lib.compact l ++ List.replicate (l.length - (Go.Lib.compact l).length) 0).toArray #[] = Go.Sort.putRow (Value.int .i64) (Go.Sort.ahead w n) g 0 (Go.Lib.compact l ++ List.replicate (l.length - (Go.Lib.compact l).length) 0).toArray := by
    simp [sortWorld, Go.Sort.grow]
    rfl
  rw [ew] at hp
  refine ⟨_, rfl, ?_, ?_⟩
  · simpa using hp
  · have hc := chg_sort (Value.int .i64) w g n (Go.Lib.compact l ++ List.replicate (l.length - (Go.Lib.compact l).length) 0).toArray #[]
    rw [ew] at hc
    exact hc.mono fun k _ e => by rw [e]; rfl

end Go.Proofs.Ytgalbokmgffhkaa
