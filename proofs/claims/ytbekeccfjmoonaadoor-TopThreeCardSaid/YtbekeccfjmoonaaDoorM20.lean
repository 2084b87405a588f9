/- Texts of my own, merged by program: Tm Tn. -/
import Derived.Test.YtbekeccfjmoonaaDoorM19
set_option linter.all false
/- Small pieces of wip/T's Tm. -/
namespace Go.Proofs.YtbekeccfjmoonaaDoor
open Go.Lf Go.RowKit Go.Ht

theorem r_tmod {w : World} {K : Value → Prop} {t : TypeId} {lit : Bool} {k : IntKind} (x y : Int) (h1 : 0 < y) : binQ Tryd.prog w .rem t lit (.int k x) (.int k y) K = K (.int k (x.tmod y)) := by
  have hy : y ≠ 0 := by omega
  rw [r_bin (v := .int k (x.tmod y)) (by simp [intBin, hy])]

abbrev RdI (w : World) (v : Value) (l : List Int) : Prop := Rd 1 iC w v l

theorem int_at {w : World} {v : Value} {l : List Int} (h : RdI w v l) {i : Nat} (hi : i < l.length) (K : Value → Prop) : (iaS 1 v (.int .i64 i) fun p => ld1 w p K) = K (.int .i64 (l.getD i 0)) := by
  obtain ⟨b, off, cap, e, _, hc⟩ := h.at (List.getElem?_eq_getElem hi)
  have hii : (i : Int).toNat = i := by omega
  have hA := hc 0 _ rfl
  rw [Nat.add_zero] at hA
  rw [e, r_iaS _ _ _ _ _ _ _ (by omega) (by omega), hii, r_ld hA, getD_lt _ _ _ hi]

theorem fl_small {l : List ByteArray} (hf : flB l = true) : (cellsB l).length ≤ 16 ∧ RegOk l 4 := by
  unfold flB at hf
  have hR := reg_ok (Bool.and_eq_true _ _ ▸ hf).1
  have h1 := cellsP_le l l.length
  have h2 : l.length * (l.getD 0 dB).size ≤ 4 * 4 := Nat.mul_le_mul hR.len.2 hR.wid.2
  exact ⟨by show (cellsP l l.length).length ≤ 16; omega, hR⟩

end Go.Proofs.YtbekeccfjmoonaaDoor

/- Bits; contracts of domino: right, down, over. -/
namespace Go.Proofs.YtbekeccfjmoonaaDoor
open Go.Lf Go.RowKit Go.Ht

theorem b_genE {op : BinOp} {t : TypeId} {lit : Bool} {k k' : IntKind} {x y : Int} {v : Value} {w : World} {K : Value → Prop} (h : ∀ w', (semBin op t lit (.int k x) (.int k' y)).run Tryd.prog w' = .ok (.value v) w') (hn : intBin op k x y = none) : binQ Tryd.prog w op t lit (.int k x) (.int k' y) K = K v := by
  have e : binQ Tryd.prog w op t lit (.int k x) (.int k' y) K = genQ Tryd.prog w (semBin op t lit (.int k x) (.int k' y)) K := by
    simp [binQ, hn]
  rw [e]
  refine propext ⟨?_, fun hk => ⟨v, fun w' _ => h w', hk⟩⟩
  rintro ⟨u, hu, hk⟩
  have h1 := hu w (Below.refl _ _)
  rw [h] at h1
  injection h1 with h1 _
  injection h1 with h1
  rw [h1]; exact hk

set_option maxRecDepth 100000 in
theorem shl_run : ∀ (E : Nat), E ≤ 16 → ∀ (t : TypeId) (lit : Bool) (w' : World), (semBin .shl t lit (.int .i64 1) (.int .i64 E)).run Tryd.prog w' = .ok (.value (.int .i64 ((2 ^ E : Nat) : Int))) w'
  | 0, _, _, _, _ => by kernel_rfl
  | 1, _, _, _, _ => by kernel_rfl
  | 2, _, _, _, _ => by kernel_rfl
  | 3, _, _, _, _ => by kernel_rfl
  | 4, _, _, _, _ => by kernel_rfl
  | 5, _, _, _, _ => by kernel_rfl
  | 6, _, _, _, _ => by kernel_rfl
  | 7, _, _, _, _ => by kernel_rfl
  | 8, _, _, _, _ => by kernel_rfl
  | 9, _, _, _, _ => by kernel_rfl
  | 10, _, _, _, _ => by kernel_rfl
  | 11, _, _, _, _ => by kernel_rfl
  | 12, _, _, _, _ => by kernel_rfl
  | 13, _, _, _, _ => by kernel_rfl
  | 14, _, _, _, _ => by kernel_rfl
  | 15, _, _, _, _ => by kernel_rfl
  | 16, _, _, _, _ => by kernel_rfl
  | _ + 17, h, _, _, _ => absurd h (by omega)
theorem r_shl1 {w : World} {K : Value → Prop} {t : TypeId} {lit : Bool} (E : Nat) (hE : E ≤ 16) : binQ Tryd.prog w .shl t lit (.int .i64 1) (.int .i64 E) K = K (.int .i64 ((2 ^ E : Nat) : Int)) :=
  b_genE (fun w' => shl_run E hE t lit w') rfl
set_option maxRecDepth 100000 in
theorem shrU_run (e : Int) (t : TypeId) (lit : Bool) (w' : World) : (semBin .shr t lit (.int .i64 e) (.int .u64 1)).run Tryd.prog w' = .ok (.value (.int .i64 (e.fdiv (2 ^ 1)))) w' := by kernel_rfl
theorem r_shrU {w : World} {K : Value → Prop} {t : TypeId} {lit : Bool} (e : Nat) : binQ Tryd.prog w .shr t lit (.int .i64 e) (.int .u64 1) K = K (.int .i64 ((e / 2 : Nat) : Int)) := by
  refine b_genE (fun w' => ?_) rfl
  rw [shrU_run e]
  have : (e : Int).fdiv (2 ^ 1) = ((e / 2 : Nat) : Int) := by
    rw [Int.fdiv_eq_ediv_of_nonneg _ (Int.pow_nonneg (by omega))]
    simp
  rw [this]
set_option maxRecDepth 100000 in
theorem or_run (a b : Int) (t : TypeId) (lit : Bool) (w' : World) : (semBin .or t lit (.int .i64 a) (.int .i64 b)).run Tryd.prog w' = .ok (.value (.int .i64 (IntKind.i64.wrap ((BitVec.ofInt 64 a ||| BitVec.ofInt 64 b).toNat)))) w' := by kernel_rfl
set_option maxRecDepth 100000 in
theorem and_run (a b : Int) (t : TypeId) (lit : Bool) (w' : World) : (semBin .and t lit (.int .i64 a) (.int .i64 b)).run Tryd.prog w' = .ok (.value (.int .i64 (IntKind.i64.wrap ((BitVec.ofInt 64 a &&& BitVec.ofInt 64 b).toNat)))) w' := by kernel_rfl
theorem r_orN {w : World} {K : Value → Prop} {t : TypeId} {lit : Bool} (a b : Nat) (ha : a < 65536) (hb : b < 65536) : binQ Tryd.prog w .or t lit (.int .i64 a) (.int .i64 b) K = K (.int .i64 ((a ||| b : Nat) : Int)) := by
  refine b_genE (fun w' => ?_) rfl
  rw [or_run]
  have hab : a ||| b < 2 ^ 16 := Nat.or_lt_two_pow ha hb
  have e : (BitVec.ofInt 64 (a : Int) ||| BitVec.ofInt 64 (b : Int)).toNat = a ||| b := by
    have h1 : (BitVec.ofInt 64 (a : Int)).toNat = a := by simp [BitVec.toNat_ofInt]; omega
    have h2 : (BitVec.ofInt 64 (b : Int)).toNat = b := by simp [BitVec.toNat_ofInt]; omega
    rw [BitVec.toNat_or, h1, h2]
  rw [e, IntWalk.i64_in _ (by omega)]
theorem r_andN {w : World} {K : Value → Prop} {t : TypeId} {lit : Bool} (a b : Nat) (ha : a < 65536) (hb : b ≤ 65536) : binQ Tryd.prog w .and t lit (.int .i64 a) (.int .i64 b) K = K (.int .i64 ((a &&& b : Nat) : Int)) := by
  refine b_genE (fun w' => ?_) rfl
  rw [and_run]
  have hab : a &&& b ≤ a := Nat.and_le_left
  have e : (BitVec.ofInt 64 (a : Int) &&& BitVec.ofInt 64 (b : Int)).toNat = a &&& b := by
    have h1 : (BitVec.ofInt 64 (a : Int)).toNat = a := by simp [BitVec.toNat_ofInt]; omega
    have h2 : (BitVec.ofInt 64 (b : Int)).toNat = b := by simp [BitVec.toNat_ofInt]; omega
    rw [BitVec.toNat_and, h1, h2]
  rw [e, IntWalk.i64_in _ (by omega)]
theorem r_and1 {w : World} {K : Value → Prop} {t : TypeId} {lit : Bool} (a : Nat) (ha : a < 65536) : binQ Tryd.prog w .and t lit (.int .i64 a) (.int .i64 1) K = K (.int .i64 ((a &&& 1 : Nat) : Int)) := r_andN a 1 ha (by omega)
theorem r_and2 {w : World} {K : Value → Prop} {t : TypeId} {lit : Bool} (a : Nat) (ha : a < 65536) : binQ Tryd.prog w .and t lit (.int .i64 a) (.int .i64 2) K = K (.int .i64 ((a &&& 2 : Nat) : Int)) := r_andN a 2 ha (by omega)
theorem r_or1 {w : World} {K : Value → Prop} {t : TypeId} {lit : Bool} (a : Nat) (ha : a < 65536) : binQ Tryd.prog w .or t lit (.int .i64 a) (.int .i64 1) K = K (.int .i64 ((a ||| 1 : Nat) : Int)) := r_orN a 1 ha (by omega)

theorem r_addN {w : World} {K : Value → Prop} {t : TypeId} {lit : Bool} (a : Nat) (ha : a ≤ 100000) : binQ Tryd.prog w .add t lit (.int .i64 ((a : Nat) : Int)) (.int .i64 1) K = K (.int .i64 ((a + 1 : Nat) : Int)) := by rw [r_add _ _ (by omega) (by omega)]; rfl

abbrev St := Nat × Nat
def sI (s : St) : C2 := (((s.1 : Nat) : Int), ((s.2 : Nat) : Int))
abbrev sV (s : St) : Value := cV (sI s)
def wd (l : List ByteArray) : Nat := (l.getD 0 dB).size
def hasN (l : List ByteArray) (x y : Nat) : Bool := hasB l ((x : Nat) : Int) ((y : Nat) : Int)
def rightS (l : List ByteArray) (s : St) : St :=
  if !hasN l (s.1 % wd l) (s.1 / wd l) || !decide (s.2 &&& 1 = 0) || decide (s.1 % wd l + 1 = wd l) || !hasN l (s.1 % wd l + 1) (s.1 / wd l) || !decide (s.2 &&& 2 = 0) then (0, 0) else (s.1 + 1, s.2 / 2 ||| 1)
def downS (l : List ByteArray) (s : St) : St :=
  if !hasN l (s.1 % wd l) (s.1 / wd l) || !decide (s.2 &&& 1 = 0) || !hasN l (s.1 % wd l) (s.1 / wd l + 1) then (0, 0) else (s.1 + 1, s.2 / 2 ||| 2 ^ (wd l - 1))
def overS (l : List ByteArray) (s : St) : St :=
  if hasN l (s.1 % wd l) (s.1 / wd l) && decide (s.2 &&& 1 = 0) then (0, 0) else (s.1 + 1, s.2 / 2)

abbrev cntV (l : List ByteArray) (v : Value) (mb : Nat) : Value := .agg #[.int .i64 (wd l : Nat), .int .i64 l.length, v, .map (some mb)]
set_option maxRecDepth 100000 in
theorem bd72_0 {K : Value → Prop} : bdQ Tryd.prog 72 [] K = K (cV (0, 0)) := by kernel_rfl
set_option maxRecDepth 100000 in
theorem bd72 {x y : Int} {K : Value → Prop} : bdQ Tryd.prog 72 [(0, .int .i64 x), (1, .int .i64 y)] K = K (cV (x, y)) := by kernel_rfl
set_option maxRecDepth 100000 in
theorem st72 {w : World} {b : Nat} {x y : Value} {p : C2} {K : World → Prop} (h : w.heap[b]? = some (.cells #[x, y] 72 (0, 0))) (hk : ∀ w', Chg (fun k => k = b) w w' → w'.heap.size = w.heap.size → w'.heap[b]? = some (.cells #[.int .i64 p.1, .int .i64 p.2] 72 (0, 0)) → K w') : stW Tryd.prog 72 (ptrV b) (cV p) w K :=
  r_stAll (n := 2) (by kernel_rfl) rfl (by intro u hu; simp [Value.cells] at hu; rcases hu with rfl | rfl <;> rfl) h rfl fun w' h1 h2 h3 => hk w' h1 h2 h3
theorem s_box {w : World} {b : Nat} {p : C2} (h : w.heap[b]? = some (.cells #[.int .i64 p.1, .int .i64 p.2] 72 (0, 0))) (K : Value → Prop) : ldN 2 w (ptrV b) K = K (cV p) := r_ldRow h rfl
theorem s_cells {w : World} {b : Nat} {p : C2} (h : w.heap[b]? = some (.cells #[.int .i64 p.1, .int .i64 p.2] 72 (0, 0))) : w.cell? ⟨b, 0, none⟩ = some (.int .i64 p.1) ∧ w.cell? ⟨b, 1, none⟩ = some (.int .i64 p.2) :=
  ⟨by rw [cell_row h]; rfl, by rw [cell_row h]; rfl⟩
theorem cnt_cells {w : World} {b mb : Nat} {l : List ByteArray} {v : Value} (h : w.heap[b]? = some (.cells #[.int .i64 (wd l : Nat), .int .i64 l.length, v, .map (some mb)] 68 (0, 0))) :
    w.cell? ⟨b, 0, none⟩ = some (.int .i64 (wd l : Nat)) ∧ w.cell? ⟨b, 1, none⟩ = some (.int .i64 l.length) ∧ w.cell? ⟨b, 2, none⟩ = some v ∧ w.cell? ⟨b, 3, none⟩ = some (.map (some mb)) := by
  refine ⟨?_, ?_, ?_, ?_⟩ <;> rw [cell_row h] <;> rfl
theorem cnt_reg {w : World} {b mb : Nat} {l : List ByteArray} {v : Value} (h : w.heap[b]? = some (.cells #[.int .i64 (wd l : Nat), .int .i64 l.length, v, .map (some mb)] 68 (0, 0))) (K : Value → Prop) : ldN 3 w (ptrV b) K = K (rgV (wd l : Nat) l.length v) := by
  obtain ⟨c0, c1, c2, c3⟩ := cnt_cells h
  refine r_ldCells (n := 3) (l := [.int .i64 (wd l : Nat), .int .i64 l.length, v]) rfl fun j u hu => ?_
  match j with
  | 0 => cases hu; exact c0
  | 1 => cases hu; exact c1
  | 2 => cases hu; exact c2
  | _ + 3 => simp at hu

set_option maxRecDepth 100000 in
set_option maxHeartbeats 4000000 in
theorem right_calls {l : List ByteArray} {v : Value} {mb : Nat} {s : St} (w : World) (hr : RdB w v l) (hR : RegOk l 8) (h1 : s.1 ≤ 1000) (h2 : s.2 < 65536) :
    Calls Tryd.prog 55 #[cntV l v mb, sV s] w fun e w' => e = .returned (sV (rightS l s)) ∧ Kp w w' := by
  have hw0 : 0 < wd l := hR.wid.1
  have hw8 : wd l ≤ 8 := hR.wid.2
  obtain ⟨a, cap, ev, _⟩ := hr.len
  refine lift55 ?_
  unfold S55
  refine r_box fun b2 w1 e2 s2 hb2 k1 => ?_
  have hb2' : w1.heap[b2]? = some (.cells #[.int .i64 (wd l : Nat), .int .i64 l.length, v, .map (some mb)] 68 (0, 0)) := by rw [ev] at hb2 ⊢; exact hb2
  refine r_box fun b3 w2 e3 s3 hb3 k2 => ?_
  have hb3' : w2.heap[b3]? = some (.cells #[.int .i64 (sI s).1, .int .i64 (sI s).2] 72 (0, 0)) := hb3
  refine r_box fun b4 w3 e4 s4 hb4 k3 => ?_
  have hb4' : w3.heap[b4]? = some (.cells #[.int .i64 0, .int .i64 0] 72 (0, 0)) := hb4
  refine r_drew fun w4 k4 _ => ?_
  have k04 : Kp w w4 := Kp.trans k1 (Kp.trans k2 (Kp.trans k3 k4))
  have g2 := block_below hb2' (Kp.trans k2 (Kp.trans k3 k4))
  have g3 := block_below hb3' (Kp.trans k3 k4)
  have g4 := block_below hb4' k4
  obtain ⟨c0, c1, c2, c3⟩ := cnt_cells g2
  obtain ⟨d0, d1⟩ := s_cells g3
  have sz4 := k04.size
  have szk : w.heap.size ≤ b4 := by have := k1.size; have := k2.size; omega
  have d0' : w4.cell? ⟨b3, 0, none⟩ = some (.int .i64 ((s.1 : Nat) : Int)) := d0
  have d1' : ∀ {w' : World}, Kp w4 w' → w'.cell? ⟨b3, 1, none⟩ = some (.int .i64 ((s.2 : Nat) : Int)) := fun k => cell_later k d1
  have d0k : ∀ {w' : World}, Kp w4 w' → w'.cell? ⟨b3, 0, none⟩ = some (.int .i64 ((s.1 : Nat) : Int)) := fun k => cell_later k d0
  have c0' : ∀ {w' : World}, Kp w4 w' → w'.cell? ⟨b2, 0, none⟩ = some (.int .i64 ((wd l : Nat) : Int)) := fun k => cell_later k c0
  have fin : ∀ (t : St) (w' : World), Kp w4 w' → t = rightS l s → stW Tryd.prog 72 (ptrV b4) (sV t) w' fun w_1 => ldN 2 w_1 (ptrV b4) fun r => (Ending.returned r = .returned (sV (rightS l s)) ∧ Kp w w_1) := fun t w' k' ht => by
    refine st72 (p := sI t) (block_below g4 k') fun w5 c5 s5 h5 => ?_
    rw [s_box h5, ← ht]
    exact ⟨rfl, Kp.of_chg (Kp.trans k04 k') c5 fun q e => by omega⟩
  have hrem : ∀ K : Value → Prop, binQ Tryd.prog w4 .rem 3 false (.int .i64 ((s.1 : Nat) : Int)) (.int .i64 ((wd l : Nat) : Int)) K = K (.int .i64 ((s.1 % wd l : Nat) : Int)) := fun K => r_remN _ _ hw0
  have hquo : ∀ K : Value → Prop, binQ Tryd.prog w4 .quo 3 false (.int .i64 ((s.1 : Nat) : Int)) (.int .i64 ((wd l : Nat) : Int)) K = K (.int .i64 ((s.1 / wd l : Nat) : Int)) := fun K => r_quoN _ _ hw0 (by omega)
  have hml : s.1 % wd l < wd l := Nat.mod_lt _ hw0
  simp only [r_fa, Nat.zero_add, r_ld d0', r_ld c0, hrem, hquo]
  rw [cnt_reg g2]
  refine r_use fok30 (Has_calls ((s.1 % wd l : Nat) : Int) ((s.1 / wd l : Nat) : Int) w4 (hr.kp k04) hR) rfl ?_
  rintro _ w5 ⟨rfl, k5⟩
  refine ⟨_, rfl, ?_⟩
  rw [r_not]
  cases q1 : hasB l ((s.1 % wd l : Nat) : Int) ((s.1 / wd l : Nat) : Int) with
  | false =>
    simp only [Bool.not_false, r_gdTF, r_gdU, r_pickT, r_condT]
    rw [bd72_0]
    exact fin (0, 0) w5 k5 (by unfold rightS hasN; rw [q1]; rfl)
  | true =>
  have o1 : ∀ K : Value → Prop, binQ Tryd.prog w5 .and 3 true (.int .i64 ((s.2 : Nat) : Int)) (.int .i64 1) K = K (.int .i64 ((s.2 &&& 1 : Nat) : Int)) := fun K => r_and1 _ h2
  have e1 : decide (((s.2 &&& 1 : Nat) : Int) = 0) = decide (s.2 &&& 1 = 0) := by rw [decide_eq_decide]; omega
  simp only [Bool.not_true, r_gdFF, r_fa, Nat.zero_add, r_ld (d1' k5), o1, r_neq, e1, r_pickF]
  cases q2 : decide (s.2 &&& 1 = 0) with
  | false =>
    simp only [Bool.not_false, r_gdTF, r_gdU, r_pickT, r_condT]
    rw [bd72_0]
    exact fin (0, 0) w5 k5 (by unfold rightS hasN; rw [q1, q2]; rfl)
  | true =>
  have o2 : ∀ K : Value → Prop, binQ Tryd.prog w5 .add 3 true (.int .i64 ((s.1 % wd l : Nat) : Int)) (.int .i64 1) K = K (.int .i64 ((s.1 % wd l + 1 : Nat) : Int)) := fun K => by rw [r_add _ _ (by omega) (by omega)]; rfl
  have e2' : decide (((s.1 % wd l + 1 : Nat) : Int) = ((wd l : Nat) : Int)) = decide (s.1 % wd l + 1 = wd l) := by rw [decide_eq_decide]; omega
  simp only [Bool.not_true, r_gdFF, o2, r_fa, Nat.zero_add, r_ld (c0' k5), r_eql, e2', r_pickF]
  cases q3 : decide (s.1 % wd l + 1 = wd l) with
  | true =>
    simp only [r_gdTF, r_gdU, r_pickT, r_condT]
    rw [bd72_0]
    exact fin (0, 0) w5 k5 (by unfold rightS hasN; rw [q1, q2, q3]; rfl)
  | false =>
  simp only [r_gdFF, cnt_reg (block_below g2 k5), o2]
  refine r_use fok30 (Has_calls ((s.1 % wd l + 1 : Nat) : Int) ((s.1 / wd l : Nat) : Int) w5 (hr.kp (Kp.trans k04 k5)) hR) rfl ?_
  rintro _ w6 ⟨rfl, k6⟩
  refine ⟨_, rfl, ?_⟩
  have k46 := Kp.trans k5 k6
  rw [r_not, r_pickF]
  cases q4 : hasB l ((s.1 % wd l + 1 : Nat) : Int) ((s.1 / wd l : Nat) : Int) with
  | false =>
    simp only [Bool.not_false, r_gdTF, r_gdU, r_pickT, r_condT]
    rw [bd72_0]
    exact fin (0, 0) w6 k46 (by unfold rightS hasN; rw [q1, q2, q3, q4]; rfl)
  | true =>
  have o3 : ∀ K : Value → Prop, binQ Tryd.prog w6 .and 3 true (.int .i64 ((s.2 : Nat) : Int)) (.int .i64 2) K = K (.int .i64 ((s.2 &&& 2 : Nat) : Int)) := fun K => r_and2 _ h2
  have e3' : decide (((s.2 &&& 2 : Nat) : Int) = 0) = decide (s.2 &&& 2 = 0) := by rw [decide_eq_decide]; omega
  simp only [Bool.not_true, r_gdFF, r_fa, Nat.zero_add, r_ld (d1' k46), o3, r_neq, e3', r_pickF]
  cases q5 : decide (s.2 &&& 2 = 0) with
  | false =>
    simp only [Bool.not_false, r_condT]
    rw [bd72_0]
    exact fin (0, 0) w6 k46 (by unfold rightS hasN; rw [q1, q2, q3, q4, q5]; rfl)
  | true =>
  simp only [Bool.not_true, r_condF, r_ld (d0k k46), r_ld (d1' k46)]
  rw [r_add _ _ (by omega) (by omega), r_shrU, r_or1 _ (by omega), bd72]
  exact fin (s.1 + 1, s.2 / 2 ||| 1) w6 k46 (by unfold rightS hasN; rw [q1, q2, q3, q4, q5]; rfl)

set_option maxRecDepth 100000 in
set_option maxHeartbeats 4000000 in
theorem down_calls {l : List ByteArray} {v : Value} {mb : Nat} {s : St} (w : World) (hr : RdB w v l) (hR : RegOk l 8) (h1 : s.1 ≤ 1000) (h2 : s.2 < 65536) :
    Calls Tryd.prog 56 #[cntV l v mb, sV s] w fun e w' => e = .returned (sV (downS l s)) ∧ Kp w w' := by
  have hw0 : 0 < wd l := hR.wid.1
  have hw8 : wd l ≤ 8 := hR.wid.2
  obtain ⟨a, cap, ev, _⟩ := hr.len
  refine lift56 ?_
  unfold S56
  refine r_box fun b2 w1 e2 s2 hb2 k1 => ?_
  have hb2' : w1.heap[b2]? = some (.cells #[.int .i64 (wd l : Nat), .int .i64 l.length, v, .map (some mb)] 68 (0, 0)) := by rw [ev] at hb2 ⊢; exact hb2
  refine r_box fun b3 w2 e3 s3 hb3 k2 => ?_
  have hb3' : w2.heap[b3]? = some (.cells #[.int .i64 (sI s).1, .int .i64 (sI s).2] 72 (0, 0)) := hb3
  refine r_box fun b4 w3 e4 s4 hb4 k3 => ?_
  have hb4' : w3.heap[b4]? = some (.cells #[.int .i64 0, .int .i64 0] 72 (0, 0)) := hb4
  refine r_drew fun w4 k4 _ => ?_
  have k04 : Kp w w4 := Kp.trans k1 (Kp.trans k2 (Kp.trans k3 k4))
  have g2 := block_below hb2' (Kp.trans k2 (Kp.trans k3 k4))
  have g3 := block_below hb3' (Kp.trans k3 k4)
  have g4 := block_below hb4' k4
  obtain ⟨c0, c1, c2, c3⟩ := cnt_cells g2
  obtain ⟨d0, d1⟩ := s_cells g3
  have sz4 := k04.size
  have szk : w.heap.size ≤ b4 := by have := k1.size; have := k2.size; omega
  have d1' : ∀ {w' : World}, Kp w4 w' → w'.cell? ⟨b3, 1, none⟩ = some (.int .i64 ((s.2 : Nat) : Int)) := fun k => cell_later k d1
  have d0k : ∀ {w' : World}, Kp w4 w' → w'.cell? ⟨b3, 0, none⟩ = some (.int .i64 ((s.1 : Nat) : Int)) := fun k => cell_later k d0
  have c0' : ∀ {w' : World}, Kp w4 w' → w'.cell? ⟨b2, 0, none⟩ = some (.int .i64 ((wd l : Nat) : Int)) := fun k => cell_later k c0
  have fin : ∀ (t : St) (w' : World), Kp w4 w' → t = downS l s → stW Tryd.prog 72 (ptrV b4) (sV t) w' fun w_1 => ldN 2 w_1 (ptrV b4) fun r => (Ending.returned r = .returned (sV (downS l s)) ∧ Kp w w_1) := fun t w' k' ht => by
    refine st72 (p := sI t) (block_below g4 k') fun w5 c5 s5 h5 => ?_
    rw [s_box h5, ← ht]
    exact ⟨rfl, Kp.of_chg (Kp.trans k04 k') c5 fun q e => by omega⟩
  have hrem : ∀ K : Value → Prop, binQ Tryd.prog w4 .rem 3 false (.int .i64 ((s.1 : Nat) : Int)) (.int .i64 ((wd l : Nat) : Int)) K = K (.int .i64 ((s.1 % wd l : Nat) : Int)) := fun K => r_remN _ _ hw0
  have hquo : ∀ K : Value → Prop, binQ Tryd.prog w4 .quo 3 false (.int .i64 ((s.1 : Nat) : Int)) (.int .i64 ((wd l : Nat) : Int)) K = K (.int .i64 ((s.1 / wd l : Nat) : Int)) := fun K => r_quoN _ _ hw0 (by omega)
  have hdl : s.1 / wd l ≤ s.1 := Nat.div_le_self _ _
  simp only [r_fa, Nat.zero_add, r_ld (d0k (Kp.refl _)), r_ld c0, hrem, hquo]
  rw [cnt_reg g2]
  refine r_use fok30 (Has_calls ((s.1 % wd l : Nat) : Int) ((s.1 / wd l : Nat) : Int) w4 (hr.kp k04) hR) rfl ?_
  rintro _ w5 ⟨rfl, k5⟩
  refine ⟨_, rfl, ?_⟩
  rw [r_not]
  cases q1 : hasB l ((s.1 % wd l : Nat) : Int) ((s.1 / wd l : Nat) : Int) with
  | false =>
    simp only [Bool.not_false, r_gdTF, r_gdU, r_pickT, r_condT]
    rw [bd72_0]
    exact fin (0, 0) w5 k5 (by unfold downS hasN; rw [q1]; rfl)
  | true =>
  have o1 : ∀ K : Value → Prop, binQ Tryd.prog w5 .and 3 true (.int .i64 ((s.2 : Nat) : Int)) (.int .i64 1) K = K (.int .i64 ((s.2 &&& 1 : Nat) : Int)) := fun K => r_and1 _ h2
  have e1 : decide (((s.2 &&& 1 : Nat) : Int) = 0) = decide (s.2 &&& 1 = 0) := by rw [decide_eq_decide]; omega
  simp only [Bool.not_true, r_gdFF, r_fa, Nat.zero_add, r_ld (d1' k5), o1, r_neq, e1, r_pickF]
  cases q2 : decide (s.2 &&& 1 = 0) with
  | false =>
    simp only [Bool.not_false, r_gdTF, r_gdU, r_pickT, r_condT]
    rw [bd72_0]
    exact fin (0, 0) w5 k5 (by unfold downS hasN; rw [q1, q2]; rfl)
  | true =>
  have o2 : ∀ K : Value → Prop, binQ Tryd.prog w5 .add 3 true (.int .i64 ((s.1 / wd l : Nat) : Int)) (.int .i64 1) K = K (.int .i64 ((s.1 / wd l + 1 : Nat) : Int)) := fun K => r_addN _ (Nat.le_trans hdl (by omega))
  simp only [Bool.not_true, r_gdFF, cnt_reg (block_below g2 k5), o2]
  refine r_use fok30 (Has_calls ((s.1 % wd l : Nat) : Int) ((s.1 / wd l + 1 : Nat) : Int) w5 (hr.kp (Kp.trans k04 k5)) hR) rfl ?_
  rintro _ w6 ⟨rfl, k6⟩
  refine ⟨_, rfl, ?_⟩
  have k46 := Kp.trans k5 k6
  rw [r_not, r_pickF]
  cases q4 : hasB l ((s.1 % wd l : Nat) : Int) ((s.1 / wd l + 1 : Nat) : Int) with
  | false =>
    simp only [Bool.not_false, r_condT]
    rw [bd72_0]
    exact fin (0, 0) w6 k46 (by unfold downS hasN; rw [q1, q2, q4]; rfl)
  | true =>
  simp only [Bool.not_true, r_condF]
  refine r_drew fun w7 k7 _ => ?_
  have k47 := Kp.trans k46 k7
  have o5 : ∀ K : Value → Prop, binQ Tryd.prog w7 .sub 3 true (.int .i64 ((wd l : Nat) : Int)) (.int .i64 1) K = K (.int .i64 ((wd l - 1 : Nat) : Int)) := fun K => by rw [r_sub _ _ (by omega) (by omega)]; congr 2; omega
  have o6 : ∀ K : Value → Prop, binQ Tryd.prog w7 .shl 3 true (.int .i64 1) (.int .i64 ((wd l - 1 : Nat) : Int)) K = K (.int .i64 ((2 ^ (wd l - 1) : Nat) : Int)) := fun K => r_shl1 _ (by omega)
  have hp : 2 ^ (wd l - 1) < 65536 := Nat.lt_of_le_of_lt (Nat.pow_le_pow_right (by omega) (show wd l - 1 ≤ 8 by omega)) (by decide)
  have o7 : ∀ K : Value → Prop, binQ Tryd.prog w7 .or 3 false (.int .i64 ((s.2 / 2 : Nat) : Int)) (.int .i64 ((2 ^ (wd l - 1) : Nat) : Int)) K = K (.int .i64 ((s.2 / 2 ||| 2 ^ (wd l - 1) : Nat) : Int)) := fun K => r_orN _ _ (by omega) hp
  simp only [r_fa, Nat.zero_add, r_ld (d0k k47), r_ld (d1' k47), r_ld (c0' k47)]
  rw [r_add _ _ (by omega) (by omega), r_shrU]
  simp only [o5, o6, o7]
  rw [bd72]
  exact fin (s.1 + 1, s.2 / 2 ||| 2 ^ (wd l - 1)) w7 k47 (by unfold downS hasN; rw [q1, q2, q4]; rfl)

set_option maxRecDepth 100000 in
set_option maxHeartbeats 4000000 in
theorem over_calls {l : List ByteArray} {v : Value} {mb : Nat} {s : St} (w : World) (hr : RdB w v l) (hR : RegOk l 8) (h1 : s.1 ≤ 1000) (h2 : s.2 < 65536) :
    Calls Tryd.prog 57 #[cntV l v mb, sV s] w fun e w' => e = .returned (sV (overS l s)) ∧ Kp w w' := by
  have hw0 : 0 < wd l := hR.wid.1
  have hw8 : wd l ≤ 8 := hR.wid.2
  obtain ⟨a, cap, ev, _⟩ := hr.len
  refine lift57 ?_
  unfold S57
  refine r_box fun b2 w1 e2 s2 hb2 k1 => ?_
  have hb2' : w1.heap[b2]? = some (.cells #[.int .i64 (wd l : Nat), .int .i64 l.length, v, .map (some mb)] 68 (0, 0)) := by rw [ev] at hb2 ⊢; exact hb2
  refine r_box fun b3 w2 e3 s3 hb3 k2 => ?_
  have hb3' : w2.heap[b3]? = some (.cells #[.int .i64 (sI s).1, .int .i64 (sI s).2] 72 (0, 0)) := hb3
  refine r_box fun b4 w3 e4 s4 hb4 k3 => ?_
  have hb4' : w3.heap[b4]? = some (.cells #[.int .i64 0, .int .i64 0] 72 (0, 0)) := hb4
  refine r_drew fun w4 k4 _ => ?_
  have k04 : Kp w w4 := Kp.trans k1 (Kp.trans k2 (Kp.trans k3 k4))
  have g2 := block_below hb2' (Kp.trans k2 (Kp.trans k3 k4))
  have g3 := block_below hb3' (Kp.trans k3 k4)
  have g4 := block_below hb4' k4
  obtain ⟨c0, c1, c2, c3⟩ := cnt_cells g2
  obtain ⟨d0, d1⟩ := s_cells g3
  have sz4 := k04.size
  have szk : w.heap.size ≤ b4 := by have := k1.size; have := k2.size; omega
  have d1' : ∀ {w' : World}, Kp w4 w' → w'.cell? ⟨b3, 1, none⟩ = some (.int .i64 ((s.2 : Nat) : Int)) := fun k => cell_later k d1
  have d0k : ∀ {w' : World}, Kp w4 w' → w'.cell? ⟨b3, 0, none⟩ = some (.int .i64 ((s.1 : Nat) : Int)) := fun k => cell_later k d0
  have fin : ∀ (t : St) (w' : World), Kp w4 w' → t = overS l s → stW Tryd.prog 72 (ptrV b4) (sV t) w' fun w_1 => ldN 2 w_1 (ptrV b4) fun r => (Ending.returned r = .returned (sV (overS l s)) ∧ Kp w w_1) := fun t w' k' ht => by
    refine st72 (p := sI t) (block_below g4 k') fun w5 c5 s5 h5 => ?_
    rw [s_box h5, ← ht]
    exact ⟨rfl, Kp.of_chg (Kp.trans k04 k') c5 fun q e => by omega⟩
  have hrem : ∀ K : Value → Prop, binQ Tryd.prog w4 .rem 3 false (.int .i64 ((s.1 : Nat) : Int)) (.int .i64 ((wd l : Nat) : Int)) K = K (.int .i64 ((s.1 % wd l : Nat) : Int)) := fun K => r_remN _ _ hw0
  have hquo : ∀ K : Value → Prop, binQ Tryd.prog w4 .quo 3 false (.int .i64 ((s.1 : Nat) : Int)) (.int .i64 ((wd l : Nat) : Int)) K = K (.int .i64 ((s.1 / wd l : Nat) : Int)) := fun K => r_quoN _ _ hw0 (by omega)
  simp only [r_fa, Nat.zero_add, r_ld (d0k (Kp.refl _)), r_ld c0, hrem, hquo]
  rw [cnt_reg g2]
  refine r_use fok30 (Has_calls ((s.1 % wd l : Nat) : Int) ((s.1 / wd l : Nat) : Int) w4 (hr.kp k04) hR) rfl ?_
  rintro _ w5 ⟨rfl, k5⟩
  refine ⟨_, rfl, ?_⟩
  have yes : overS l s = (s.1 + 1, s.2 / 2) → (fa1 (ptrV b3) 0 fun t31 => ld1 w5 t31 fun t32 => binQ Tryd.prog w5 .add 3 true t32 (.int .i64 1) fun t33 => fa1 (ptrV b3) 1 fun t34 => ld1 w5 t34 fun t35 => binQ Tryd.prog w5 .shr 3 true t35 (.int .u64 1) fun t36 => bdQ Tryd.prog 72 [(0, t33), (1, t36)] fun t37 => stW Tryd.prog 72 (ptrV b4) t37 w5 fun w_1 => ldN 2 w_1 (ptrV b4) fun r => (Ending.returned r = .returned (sV (overS l s)) ∧ Kp w w_1)) := fun h => by
    simp only [r_fa, Nat.zero_add, r_ld (d0k k5), r_ld (d1' k5)]
    rw [r_add _ _ (by omega) (by omega), r_shrU, bd72]
    exact fin (s.1 + 1, s.2 / 2) w5 k5 h.symm
  cases q1 : hasB l ((s.1 % wd l : Nat) : Int) ((s.1 / wd l : Nat) : Int) with
  | false =>
    simp only [r_gdFT, r_gdU, r_pickF, r_condF]
    exact yes (by unfold overS hasN; rw [q1]; rfl)
  | true =>
  have o1 : ∀ K : Value → Prop, binQ Tryd.prog w5 .and 3 true (.int .i64 ((s.2 : Nat) : Int)) (.int .i64 1) K = K (.int .i64 ((s.2 &&& 1 : Nat) : Int)) := fun K => r_and1 _ h2
  have e1 : decide (((s.2 &&& 1 : Nat) : Int) = 0) = decide (s.2 &&& 1 = 0) := by rw [decide_eq_decide]; omega
  simp only [r_gdTT, r_fa, Nat.zero_add, r_ld (d1' k5), o1, r_eql, e1, r_pickT]
  cases q2 : decide (s.2 &&& 1 = 0) with
  | true =>
    simp only [r_condT]
    rw [bd72_0]
    exact fin (0, 0) w5 k5 (by unfold overS hasN; rw [q1, q2]; rfl)
  | false =>
    simp only [r_condF, r_ld (d0k k5)]
    rw [r_add _ _ (by omega) (by omega), r_shrU, bd72]
    exact fin (s.1 + 1, s.2 / 2) w5 k5 (by unfold overS hasN; rw [q1, q2]; rfl)

end Go.Proofs.YtbekeccfjmoonaaDoor
