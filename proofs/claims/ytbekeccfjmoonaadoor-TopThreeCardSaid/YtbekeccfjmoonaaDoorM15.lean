/- Texts of my own, merged by program: Td Sc. -/
import Derived.Test.YtbekeccfjmoonaaDoorM14
import Derived.Laws.StructEq
import Derived.Test.YtbekeccfjmoonaaDoorM07
set_option linter.all false
/- Contracts of domino: neighbours; equality of cells; Contains. -/
namespace Go.Proofs.YtbekeccfjmoonaaDoor
open Go.Lf Go.RowKit Go.Ht

/-- The laid variable four. -/
def fourV : List Value := [.int .i64 0, .int .i64 (-1), .int .i64 (-1), .int .i64 0, .int .i64 1, .int .i64 0, .int .i64 0, .int .i64 1]
def Wf (w : World) : Prop := ∀ j u, fourV[j]? = some u → w.cell? ⟨0, 0 + j, none⟩ = some u
theorem Wf.kp {w w' : World} (h : Wf w) (k : Kp w w') : Wf w' := fun j u hu => cell_later k (h j u hu)
theorem Wf.ld {w : World} (h : Wf w) (K : Value → Prop) : ldN 8 w (.pointer (some ⟨0, 0, none⟩)) K = K (.agg fourV.toArray) := r_ldCells (n := 8) (l := fourV) rfl h
def fourC : List C2 := [(0, -1), (-1, 0), (1, 0), (0, 1)]
set_option maxRecDepth 100000 in
theorem four_0 (w : World) (K : Value → World → Prop) : semW Tryd.prog (ixS 113 (.agg fourV.toArray) (.int .i64 0)) w K = K (cV (0, -1)) w := by kernel_rfl
set_option maxRecDepth 100000 in
theorem four_1 (w : World) (K : Value → World → Prop) : semW Tryd.prog (ixS 113 (.agg fourV.toArray) (.int .i64 1)) w K = K (cV (-1, 0)) w := by kernel_rfl
set_option maxRecDepth 100000 in
theorem four_2 (w : World) (K : Value → World → Prop) : semW Tryd.prog (ixS 113 (.agg fourV.toArray) (.int .i64 2)) w K = K (cV (1, 0)) w := by kernel_rfl
set_option maxRecDepth 100000 in
theorem four_3 (w : World) (K : Value → World → Prop) : semW Tryd.prog (ixS 113 (.agg fourV.toArray) (.int .i64 3)) w K = K (cV (0, 1)) w := by kernel_rfl
theorem four_at {i : Nat} (hi : i < 4) (w : World) (K : Value → World → Prop) : semW Tryd.prog (ixS 113 (.agg fourV.toArray) (.int .i64 i)) w K = K (cV (fourC.getD i (0, 0))) w := by
  match i, hi with
  | 0, _ => exact four_0 w K
  | 1, _ => exact four_1 w K
  | 2, _ => exact four_2 w K
  | 3, _ => exact four_3 w K

def stepC (c s : C2) : C2 := (c.1 + s.1, c.2 + s.2)
def nbP (l : List ByteArray) (c : C2) (i : Nat) : List C2 := ((fourC.take i).map (stepC c)).filter fun n => hasB l n.1 n.2
def nbL (l : List ByteArray) (c : C2) : List C2 := nbP l c 4
theorem nbP_succ (l : List ByteArray) (c : C2) {i : Nat} (hi : i < 4) : nbP l c (i + 1) = nbP l c i ++ if hasB l (c.1 + (fourC.getD i (0, 0)).1) (c.2 + (fourC.getD i (0, 0)).2) = true then [stepC c (fourC.getD i (0, 0))] else [] := by
  unfold nbP
  have hi' : i < fourC.length := hi
  rw [take_succ' _ _ hi', List.map_append, List.filter_append, ← getD_lt fourC i (0, 0) hi']
  congr 1
  generalize fourC.getD i (0, 0) = s
  by_cases h : hasB l (c.1 + s.1) (c.2 + s.2) = true
  · simp [stepC, h]
  · simp [stepC, h]
theorem nbP_le (l : List ByteArray) (c : C2) (i : Nat) : (nbP l c i).length ≤ 4 := by
  unfold nbP
  refine Nat.le_trans (List.length_filter_le _ _) ?_
  rw [List.length_map, List.length_take]
  exact Nat.le_trans (Nat.min_le_right _ _) (by decide)
theorem nbL_mem {l : List ByteArray} {c n : C2} : n ∈ nbL l c ↔ hasB l n.1 n.2 = true ∧ adjC c n := by
  unfold nbL nbP adjC
  obtain ⟨x, y⟩ := c
  obtain ⟨u, v⟩ := n
  simp only [fourC, List.take_succ_cons, List.take_zero, List.map_cons, List.map_nil, stepC, List.mem_filter, List.mem_cons, List.not_mem_nil, or_false, Prod.mk.injEq]
  constructor
  · rintro ⟨h1, h2⟩; exact ⟨h2, by omega⟩
  · rintro ⟨h1, h2⟩; exact ⟨by omega, h1⟩

set_option maxRecDepth 100000 in
set_option maxHeartbeats 1000000 in
theorem nb_calls {v : Value} {l : List ByteArray} {c : C2} (w : World) (hf : Wf w) (hr : RdB w v l) (hR : RegOk l 8) (h0 : 0 ≤ c.1 ∧ c.1 ≤ 1000 ∧ 0 ≤ c.2 ∧ c.2 ≤ 1000) :
    Calls Tryd.prog 26 #[regW v l, cV c] w fun e w' => Kp w w' ∧ ∃ v', e = .returned v' ∧ ClAt w.heap.size w' v' (nbL l c) := by
  obtain ⟨a, cap, ev, _⟩ := hr.len
  refine lift26 ?_
  unfold S26
  refine r_box fun b2 w1 e2 s2 h2 k1 => ?_
  have h2' : w1.heap[b2]? = some (.cells #[.int .i64 (l.getD 0 dB).size, .int .i64 l.length, v] 63 (0, 0)) := by rw [ev] at h2 ⊢; exact h2
  refine r_box fun b3 w2 e3 s3 h3 k2 => ?_
  have h3' : w2.heap[b3]? = some (.cells #[.int .i64 c.1, .int .i64 c.2] 43 (0, 0)) := h3
  have k02 := Kp.trans k1 k2
  have h22 := block_below h2' k2
  rw [(hf.kp k02).ld]
  unfold S26L0
  refine ⟨fun t5 t9 wr => ∃ i : Nat, i ≤ 4 ∧ t9 = .int .i64 i ∧ ClAt w2.heap.size wr t5 (nbP l c i) ∧ Kp w2 wr, fun _ t9 _ => 4 - (intOf t9).toNat, ⟨0, by omega, rfl, RecAt.nil, Kp.refl _⟩, ?_⟩
  rintro _ t5 _ wr ⟨i, hi, rfl, hO, kr⟩
  by_cases hlt : i < 4
  case neg =>
    have hlt' : ¬ (i : Int) < 4 := by omega
    obtain rfl : i = 4 := by omega
    rw [r_lss, decide_eq_false hlt', r_condF]
    exact ⟨Kp.trans k02 kr, _, rfl, RecAt.down hO k02.size⟩
  have hlt' : (i : Int) < 4 := by omega
  rw [r_lss, decide_eq_true hlt', r_condT, four_at hlt]
  have hs : -1 ≤ (fourC.getD i (0, 0)).1 ∧ (fourC.getD i (0, 0)).1 ≤ 1 ∧ -1 ≤ (fourC.getD i (0, 0)).2 ∧ (fourC.getD i (0, 0)).2 ≤ 1 := by
    match i, hlt with
    | 0, _ => decide
    | 1, _ => decide
    | 2, _ => decide
    | 3, _ => decide
  have hns := nbP_succ l c hlt
  have hnl := nbP_le l c i
  generalize fourC.getD i (0, 0) = s at *
  refine r_box fun b7 w3 e7 s7 h7 k3 => ?_
  have h7' : w3.heap[b7]? = some (.cells #[.int .i64 0, .int .i64 0] 43 (0, 0)) := h7
  have szr := kr.size
  refine st43 h7' fun w4 c4 s4 h74 => ?_
  have kr4 : Kp wr w4 := Kp.of_chg k3 c4 fun q e => by omega
  have k24 := Kp.trans kr kr4
  have hc := fun {w' : World} (k : Kp w2 w') => c_cells (p := c) (block_below h3' k)
  obtain ⟨p0, p1⟩ := hc k24
  obtain ⟨q0, q1⟩ := c_cells (p := s) h74
  rw [rg_box (block_below h22 k24), r_fa, Nat.zero_add, r_ld p0, r_fa, Nat.zero_add, r_ld q0, r_add _ _ (by omega) (by omega), r_fa, Nat.zero_add, r_ld p1, r_fa, Nat.zero_add, r_ld q1, r_add _ _ (by omega) (by omega)]
  have k04 := Kp.trans k02 k24
  refine r_use fok30 (Has_calls (c.1 + s.1) (c.2 + s.2) w4 (hr.kp k04) hR) rfl ?_
  rintro _ w5 ⟨rfl, k5⟩
  refine ⟨_, rfl, ?_⟩
  have k25 := Kp.trans k24 k5
  have hO5 := RecAt.kp hO (Kp.trans kr4 k5)
  cases q : hasB l (c.1 + s.1) (c.2 + s.2) with
  | false =>
    rw [q] at hns
    simp only [Join, r_condF]
    rw [r_add _ _ (by omega) (by omega)]
    refine ⟨⟨i + 1, by omega, by go_num, ?_, k25⟩, by simp only [intOf]; omega⟩
    rw [hns]; simpa using hO5
  | true =>
    rw [q, if_pos rfl] at hns
    obtain ⟨p0', p1'⟩ := hc k25
    obtain ⟨q0', q1'⟩ := c_cells (p := s) (block_below h74 k5)
    simp only [Join, r_condT]
    rw [r_fa, Nat.zero_add, r_ld p0', r_fa, Nat.zero_add, r_ld q0', r_add _ _ (by omega) (by omega), r_fa, Nat.zero_add, r_ld p1', r_fa, Nat.zero_add, r_ld q1', r_add _ _ (by omega) (by omega), bd43]
    refine r_pushRec (x := stepC c s) (ty := 39) slt39 cC_len rfl (bs39 _ _) (cC_one _) (by omega) hO5 (by omega) k25.size fun v' w' o1 c1 _ => ?_
    rw [r_add _ _ (by omega) (by omega)]
    refine ⟨⟨i + 1, by omega, by go_num, ?_, Kp.of_chg k25 c1 fun k hk => (RecAt.lt hO5 hk).1⟩, by simp only [intOf]; omega⟩
    rw [hns]; exact o1

theorem eqs2_bool (p q : Int × Int) : (p.1 == q.1 && p.2 == q.2) = decide (p = q) := by
  obtain ⟨a, b⟩ := p
  obtain ⟨a', b'⟩ := q
  by_cases h1 : a = a' <;> by_cases h2 : b = b' <;> simp [h1, h2]

set_option maxRecDepth 100000 in
theorem eqs43 (a b a' b' : Int) (w : World) : (Op.equalIn 10000 43 (cV (a, b)) (cV (a', b'))).run Tryd.prog w = .ok (a == a' && b == b') w := by
  have u3 := Tryd.underlying3
  have a3 := Tryd.isAgg3
  have z3 := Tryd.sizeOf3
  have hS : Tryd.prog.underlying 43 = some (.struct (Tryd.prog.fieldsOf 43)) := by kernel_rfl
  have hp : Tryd.prog.stoodInHeld 43 = false := by kernel_rfl
  rw [show (10000 : Nat) = 9999 + 1 from rfl, run_equalIn_agg w 9999 43 _ _ hS hp]
  simp only [Program.fieldsOf, Tryd.underlying43]
  go_simp
  by_cases h1 : a = a' <;> by_cases h2 : b = b' <;> simp [h1, h2]
set_option maxRecDepth 100000 in
theorem r_eq43 {w : World} {lit : Bool} (p q : Int × Int) (K : Value → Prop) : binQ Tryd.prog w .eql 43 lit (cV p) (cV q) K = K (.bool (decide (p = q))) := by
  have hg : Tryd.prog.eqGuardType Tryd.prog.depth 43 = false := by kernel_rfl
  have hrun : ∀ w, (semBin .eql 43 lit (cV p) (cV q)).run Tryd.prog w = .ok (.value (.bool (decide (p = q)))) w := fun w => by
    unfold semBin
    have := eqs43 p.1 p.2 q.1 q.2 w
    rw [eqs2_bool] at this
    simp [run_eqGuard_agg w _ _ _ _ _ _ hg, run_eql_struct, this]
  refine propext ⟨?_, fun h => ⟨_, fun w' _ => hrun w', h⟩⟩
  rintro ⟨v, hv, hk⟩
  have h1 := hv w (Below.refl _ _)
  rw [hrun] at h1
  injection h1 with h1 _
  injection h1 with h1
  rw [h1]; exact hk

set_option maxRecDepth 100000 in
theorem index_calls {v : Value} {L : List C2} {c : C2} (w : World) (hr : RdC w v L) (hl : L.length ≤ 1000) : Calls Tryd.prog 27 #[v, cV c] w fun e w' => Kp w w' ∧ ∃ p : Int, e = .returned (.int .i64 p) ∧ decide (0 ≤ p) = decide (c ∈ L) := by
  obtain ⟨a, cap, ev, _⟩ := hr.len
  have lnv : ∀ K : Value → Prop, ln1 v K = K (.int .i64 L.length) := fun K => by rw [ev]; rfl
  refine lift27 ?_
  unfold S27
  refine r_box fun b3 w1 e3 s3 h3 k1 => ?_
  have h3' : w1.heap[b3]? = some (.cells #[.int .i64 c.1, .int .i64 c.2] 43 (0, 0)) := h3
  rw [lnv]
  unfold S27L0
  refine ⟨fun t8 wr => ∃ i : Nat, i ≤ L.length ∧ t8 = .int .i64 i ∧ (∀ j, j < i → L.getD j (0, 0) ≠ c) ∧ Kp w1 wr, fun t8 _ => L.length - (intOf t8).toNat, ⟨0, by omega, rfl, fun j hj => by omega, Kp.refl _⟩, ?_⟩
  rintro _ _ wr ⟨i, hi, rfl, hall, kr⟩
  by_cases hlt : i < L.length
  case neg =>
    have hlt' : ¬ (i : Int) < (L.length : Int) := by omega
    rw [r_lss, decide_eq_false hlt', r_condF]
    refine ⟨Kp.trans k1 kr, -1, rfl, ?_⟩
    have : c ∉ L := fun hc => by
      obtain ⟨j, hj, rfl⟩ := List.getElem_of_mem hc
      exact hall j (by omega) (getD_lt _ _ _ hj)
    rw [decide_eq_false this]; rfl
  have hlt' : (i : Int) < (L.length : Int) := by omega
  rw [r_lss, decide_eq_true hlt', r_condT]
  refine r_drew fun w2 k2 _ => ?_
  have k12 := Kp.trans kr k2
  rw [c_box (block_below h3' k12), cell_at (hr.kp (Kp.trans k1 k12)) hlt, r_eq43]
  by_cases q : c = L.getD i (0, 0)
  · rw [decide_eq_true q, r_condT]
    refine ⟨Kp.trans k1 k12, i, rfl, ?_⟩
    have : c ∈ L := by rw [q]; exact getD_mem hlt
    rw [decide_eq_true this, decide_eq_true (by omega)]
  · rw [decide_eq_false q, r_condF, r_add _ _ (by omega) (by omega)]
    refine ⟨⟨i + 1, by omega, by go_num, fun j hj => ?_, k12⟩, by simp only [intOf]; omega⟩
    by_cases e : j = i
    · rw [e]; exact fun e => q e.symm
    · exact hall j (by omega)
set_option maxRecDepth 100000 in
theorem contains_calls {v : Value} {L : List C2} {c : C2} (w : World) (hr : RdC w v L) (hl : L.length ≤ 1000) : Calls Tryd.prog 38 #[v, cV c] w fun e w' => e = .returned (.bool (decide (c ∈ L))) ∧ Kp w w' := by
  refine lift38 ?_
  unfold S38
  refine r_box fun b3 w1 e3 s3 h3 k1 => ?_
  rw [c_box (p := c) h3]
  refine r_use fok27 (index_calls (c := c) w1 (hr.kp k1) hl) rfl ?_
  rintro _ w2 ⟨k2, p, rfl, hp⟩
  refine ⟨_, rfl, ?_⟩
  rw [r_geq, hp]
  exact ⟨rfl, Kp.trans k1 k2⟩

end Go.Proofs.YtbekeccfjmoonaaDoor

/- Lifted texts, printed by program (gen.py): what each function's code asks. The ties are by the kernel. -/
namespace Go.Proofs.YtbekeccfjmoonaaDoor
open Go.Lf Go.RowKit

def S68L0 (t0 t7 : Value) (R : Ending → World → Prop) (w : World) : Prop :=
  Loop1 (.int .i64 0) w fun _ t8 w next =>
    binQ Tryd.prog w .lss 3 false t8 t7 fun t9 =>
    condW t9 (
      iaS 1 t0 t8 fun t10 =>
      ld1 w t10 fun t11 =>
      binQ Tryd.prog w .neq 3 false t11 (.int .i64 0) fun t14 =>
      condW t14 (
        R (.returned t11) w
      ) (
        binQ Tryd.prog w .add 3 true t8 (.int .i64 1) fun t16 =>
        next t16 w
      )
    ) (
      R (.returned (.int .i64 0)) w
    )



def S68 (t0 : Value) (w : World) (R : Ending → World → Prop) : Prop :=
  ln1 t0 fun t7 =>
  S68L0 t0 t7 R w

def A68 : Ann where
  live := fun
    | 0 => [8]
    | _ => []
  wr := fun
    | 0 => fun i => Nat.beq i 2 || Nat.beq i 5 || (Nat.ble 8 i && Nat.ble i 16)
    | _ => fun _ => false
  sched := fun _ => .done

set_option maxRecDepth 100000 in
theorem ok68 : (codeOk Tryd.f68.ntmps A68 (Tryd.f68.body.getD .skip) 0 && Nat.ble 1 Tryd.f68.ntmps) = true := by kernel_rfl
set_option maxRecDepth 100000 in
theorem lift68 {t0 : Value} {w : World} {R : Ending → World → Prop} (h : S68 t0 w R) : Calls Tryd.prog 68 #[t0] w R :=
  calls_of_cw (fn := Tryd.f68) (c := Tryd.f68.body.getD .skip) A68 mixes Tryd.func68 (by kernel_rfl) ok68
    ((by kernel_rfl : (S68 t0 w R) = cw Tryd.prog A68 (Tryd.f68.body.getD .skip) 0 (bodyQ Tryd.prog Tryd.f68 R) (frOf #[t0]) w).mp h)

def S69 (t0 t1 : Value) (w : World) (R : Ending → World → Prop) : Prop :=
  callW Tryd.prog (.func (.func 93) #[] #[]) [t0] w fun t8 w =>
  callW Tryd.prog (.func (.func 93) #[] #[]) [t1] w fun t10 w =>
  condW t8 (
    condW t10 (
      R (.returned (.int .i64 0)) w
    ) (
      R (.returned (.int .i64 (-1))) w
    )
  ) (
    condW t10 (
      R (.returned (.int .i64 1)) w
    ) (
      binQ Tryd.prog w .lss 3 false t0 t1 fun t16 =>
      condW t16 (
        R (.returned (.int .i64 (-1))) w
      ) (
        binQ Tryd.prog w .gtr 3 false t0 t1 fun t19 =>
        condW t19 (
          R (.returned (.int .i64 1)) w
        ) (
          R (.returned (.int .i64 0)) w
        )
      )
    )
  )

def A69 : Ann where
  live := fun _ => []
  wr := fun _ _ => false
  sched := fun _ => .done

set_option maxRecDepth 100000 in
theorem ok69 : (codeOk Tryd.f69.ntmps A69 (Tryd.f69.body.getD .skip) 0 && Nat.ble 2 Tryd.f69.ntmps) = true := by kernel_rfl
set_option maxRecDepth 100000 in
theorem lift69 {t0 t1 : Value} {w : World} {R : Ending → World → Prop} (h : S69 t0 t1 w R) : Calls Tryd.prog 69 #[t0, t1] w R :=
  calls_of_cw (fn := Tryd.f69) (c := Tryd.f69.body.getD .skip) A69 mixes Tryd.func69 (by kernel_rfl) ok69
    ((by kernel_rfl : (S69 t0 t1 w R) = cw Tryd.prog A69 (Tryd.f69.body.getD .skip) 0 (bodyQ Tryd.prog Tryd.f69 R) (frOf #[t0, t1]) w).mp h)

def S93 (t0 : Value) (w : World) (R : Ending → World → Prop) : Prop :=
  binQ Tryd.prog w .neq 3 false t0 t0 fun t5 =>
  R (.returned t5) w

def A93 : Ann where
  live := fun _ => []
  wr := fun _ _ => false
  sched := fun _ => .done

set_option maxRecDepth 100000 in
theorem ok93 : (codeOk Tryd.f93.ntmps A93 (Tryd.f93.body.getD .skip) 0 && Nat.ble 1 Tryd.f93.ntmps) = true := by kernel_rfl
set_option maxRecDepth 100000 in
theorem lift93 {t0 : Value} {w : World} {R : Ending → World → Prop} (h : S93 t0 w R) : Calls Tryd.prog 93 #[t0] w R :=
  calls_of_cw (fn := Tryd.f93) (c := Tryd.f93.body.getD .skip) A93 mixes Tryd.func93 (by kernel_rfl) ok93
    ((by kernel_rfl : (S93 t0 w R) = cw Tryd.prog A93 (Tryd.f93.body.getD .skip) 0 (bodyQ Tryd.prog Tryd.f93 R) (frOf #[t0]) w).mp h)

theorem fok68 : fnOk Tryd.prog 68 = true := by kernel_rfl
theorem fok69 : fnOk Tryd.prog 69 = true := by kernel_rfl
theorem fok93 : fnOk Tryd.prog 93 = true := by kernel_rfl
end Go.Proofs.YtbekeccfjmoonaaDoor
