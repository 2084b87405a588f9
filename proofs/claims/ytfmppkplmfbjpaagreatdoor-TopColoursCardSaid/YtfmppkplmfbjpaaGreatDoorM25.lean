/- Texts of my own, merged by program: Tn To. -/
import Derived.Test.YtfmppkplmfbjpaaGreatDoorM14
set_option linter.all false
/- Bits; contracts of domino: right, down, over. -/
namespace Go.Proofs.YtfmppkplmfbjpaaGreatDoor
open Go.Lf Go.RowKit Go.Ht

theorem b_genE {op : BinOp} {t : TypeId} {lit : Bool} {k k' : IntKind} {x y : Int} {v : Value} {w : World} {K : Value → Prop} (h : ∀ w', (semBin op t lit (.int k x) (.int k' y)).run Tryz.prog w' = .ok (.value v) w') (hn : intBin op k x y = none) : binQ Tryz.prog w op t lit (.int k x) (.int k' y) K = K v := by
  have e : binQ Tryz.prog w op t lit (.int k x) (.int k' y) K = genQ Tryz.prog w (semBin op t lit (.int k x) (.int k' y)) K := by
    simp [binQ, hn]
  rw [e]
  refine propext ⟨?_, fun hk => ⟨v, fun w' _ => h w', hk⟩⟩
  rintro ⟨u, hu, hk⟩
  have h1 := hu w (Below.refl _ _)
  rw [h] at h1
  injection h1 with h1 _
  injection h1 with h1
  rw [h1]; exact hk

set_option maxRecDepth 100000 in
theorem shl_run : ∀ (E : Nat), E ≤ 16 → ∀ (t : TypeId) (lit : Bool) (w' : World), (semBin .shl t lit (.int .i64 1) (.int .i64 E)).run Tryz.prog w' = .ok (.value (.int .i64 ((2 ^ E : Nat) : Int))) w'
  | 0, _, _, _, _ => by kernel_rfl
  | 1, _, _, _, _ => by kernel_rfl
  | 2, _, _, _, _ => by kernel_rfl
  | 3, _, _, _, _ => by kernel_rfl
  | 4, _, _, _, _ => by kernel_rfl
  | 5, _, _, _, _ => by kernel_rfl
  | 6, _, _, _, _ => by kernel_rfl
  | 7, _, _, _, _ => by kernel_rfl
  | 8, _, _, _, _ => by kernel_rfl
  | 9, _, _, _, _ => by kernel_rfl
  | 10, _, _, _, _ => by kernel_rfl
  | 11, _, _, _, _ => by kernel_rfl
  | 12, _, _, _, _ => by kernel_rfl
  | 13, _, _, _, _ => by kernel_rfl
  | 14, _, _, _, _ => by kernel_rfl
  | 15, _, _, _, _ => by kernel_rfl
  | 16, _, _, _, _ => by kernel_rfl
  | _ + 17, h, _, _, _ => absurd h (by omega)
theorem r_shl1 {w : World} {K : Value → Prop} {t : TypeId} {lit : Bool} (E : Nat) (hE : E ≤ 16) : binQ Tryz.prog w .shl t lit (.int .i64 1) (.int .i64 E) K = K (.int .i64 ((2 ^ E : Nat) : Int)) :=
  b_genE (fun w' => shl_run E hE t lit w') rfl
set_option maxRecDepth 100000 in
theorem shrU_run (e : Int) (t : TypeId) (lit : Bool) (w' : World) : (semBin .shr t lit (.int .i64 e) (.int .u64 1)).run Tryz.prog w' = .ok (.value (.int .i64 (e.fdiv (2 ^ 1)))) w' := by kernel_rfl
theorem r_shrU {w : World} {K : Value → Prop} {t : TypeId} {lit : Bool} (e : Nat) : binQ Tryz.prog w .shr t lit (.int .i64 e) (.int .u64 1) K = K (.int .i64 ((e / 2 : Nat) : Int)) := by
  refine b_genE (fun w' => ?_) rfl
  rw [shrU_run e]
  have : (e : Int).fdiv (2 ^ 1) = ((e / 2 : Nat) : Int) := by
    rw [Int.fdiv_eq_ediv_of_nonneg _ (Int.pow_nonneg (by omega))]
    simp
  rw [this]
set_option maxRecDepth 100000 in
theorem or_run (a b : Int) (t : TypeId) (lit : Bool) (w' : World) : (semBin .or t lit (.int .i64 a) (.int .i64 b)).run Tryz.prog w' = .ok (.value (.int .i64 (IntKind.i64.wrap ((BitVec.ofInt 64 a ||| BitVec.ofInt 64 b).toNat)))) w' := by kernel_rfl
set_option maxRecDepth 100000 in
theorem and_run (a b : Int) (t : TypeId) (lit : Bool) (w' : World) : (semBin .and t lit (.int .i64 a) (.int .i64 b)).run Tryz.prog w' = .ok (.value (.int .i64 (IntKind.i64.wrap ((BitVec.ofInt 64 a &&& BitVec.ofInt 64 b).toNat)))) w' := by kernel_rfl
theorem r_orN {w : World} {K : Value → Prop} {t : TypeId} {lit : Bool} (a b : Nat) (ha : a < 65536) (hb : b < 65536) : binQ Tryz.prog w .or t lit (.int .i64 a) (.int .i64 b) K = K (.int .i64 ((a ||| b : Nat) : Int)) := by
  refine b_genE (fun w' => ?_) rfl
  rw [or_run]
  have hab : a ||| b < 2 ^ 16 := Nat.or_lt_two_pow ha hb
  have e : (BitVec.ofInt 64 (a : Int) ||| BitVec.ofInt 64 (b : Int)).toNat = a ||| b := by
    have h1 : (BitVec.ofInt 64 (a : Int)).toNat = a := by simp [BitVec.toNat_ofInt]; omega
    have h2 : (BitVec.ofInt 64 (b : Int)).toNat = b := by simp [BitVec.toNat_ofInt]; omega
    rw [BitVec.toNat_or, h1, h2]
  rw [e, IntWalk.i64_in _ (by omega)]
theorem r_andN {w : World} {K : Value → Prop} {t : TypeId} {lit : Bool} (a b : Nat) (ha : a < 65536) (hb : b ≤ 65536) : binQ Tryz.prog w .and t lit (.int .i64 a) (.int .i64 b) K = K (.int .i64 ((a &&& b : Nat) : Int)) := by
  refine b_genE (fun w' => ?_) rfl
  rw [and_run]
  have hab : a &&& b ≤ a := Nat.and_le_left
  have e : (BitVec.ofInt 64 (a : Int) &&& BitVec.ofInt 64 (b : Int)).toNat = a &&& b := by
    have h1 : (BitVec.ofInt 64 (a : Int)).toNat = a := by simp [BitVec.toNat_ofInt]; omega
    have h2 : (BitVec.ofInt 64 (b : Int)).toNat = b := by simp [BitVec.toNat_ofInt]; omega
    rw [BitVec.toNat_and, h1, h2]
  rw [e, IntWalk.i64_in _ (by omega)]
theorem r_and1 {w : World} {K : Value → Prop} {t : TypeId} {lit : Bool} (a : Nat) (ha : a < 65536) : binQ Tryz.prog w .and t lit (.int .i64 a) (.int .i64 1) K = K (.int .i64 ((a &&& 1 : Nat) : Int)) := r_andN a 1 ha (by omega)
theorem r_and2 {w : World} {K : Value → Prop} {t : TypeId} {lit : Bool} (a : Nat) (ha : a < 65536) : binQ Tryz.prog w .and t lit (.int .i64 a) (.int .i64 2) K = K (.int .i64 ((a &&& 2 : Nat) : Int)) := r_andN a 2 ha (by omega)
theorem r_or1 {w : World} {K : Value → Prop} {t : TypeId} {lit : Bool} (a : Nat) (ha : a < 65536) : binQ Tryz.prog w .or t lit (.int .i64 a) (.int .i64 1) K = K (.int .i64 ((a ||| 1 : Nat) : Int)) := r_orN a 1 ha (by omega)

theorem r_addN {w : World} {K : Value → Prop} {t : TypeId} {lit : Bool} (a : Nat) (ha : a ≤ 100000) : binQ Tryz.prog w .add t lit (.int .i64 ((a : Nat) : Int)) (.int .i64 1) K = K (.int .i64 ((a + 1 : Nat) : Int)) := by rw [r_add _ _ (by omega) (by omega)]; rfl

abbrev St := Nat × Nat
def sI (s : St) : C2 := (((s.1 : Nat) : Int), ((s.2 : Nat) : Int))
abbrev sV (s : St) : Value := cV (sI s)
def wd (l : List ByteArray) : Nat := (l.getD 0 dB).size
def hasN (l : List ByteArray) (x y : Nat) : Bool := hasB l ((x : Nat) : Int) ((y : Nat) : Int)
def rightS (l : List ByteArray) (s : St) : St :=
  if !hasN l (s.1 % wd l) (s.1 / wd l) || !decide (s.2 &&& 1 = 0) || decide (s.1 % wd l + 1 = wd l) || !hasN l (s.1 % wd l + 1) (s.1 / wd l) || !decide (s.2 &&& 2 = 0) then (0, 0) else (s.1 + 1, s.2 / 2 ||| 1)
def downS (l : List ByteArray) (s : St) : St :=
  if !hasN l (s.1 % wd l) (s.1 / wd l) || !decide (s.2 &&& 1 = 0) || !hasN l (s.1 % wd l) (s.1 / wd l + 1) then (0, 0) else (s.1 + 1, s.2 / 2 ||| 2 ^ (wd l - 1))
def overS (l : List ByteArray) (s : St) : St :=
  if hasN l (s.1 % wd l) (s.1 / wd l) && decide (s.2 &&& 1 = 0) then (0, 0) else (s.1 + 1, s.2 / 2)

abbrev cntV (l : List ByteArray) (v : Value) (mb : Nat) : Value := .agg #[.int .i64 (wd l : Nat), .int .i64 l.length, v, .map (some mb)]
set_option maxRecDepth 100000 in
theorem bd72_0 {K : Value → Prop} : bdQ Tryz.prog 126 [] K = K (cV (0, 0)) := by kernel_rfl
set_option maxRecDepth 100000 in
theorem bd72 {x y : Int} {K : Value → Prop} : bdQ Tryz.prog 126 [(0, .int .i64 x), (1, .int .i64 y)] K = K (cV (x, y)) := by kernel_rfl
set_option maxRecDepth 100000 in
theorem st72 {w : World} {b : Nat} {x y : Value} {p : C2} {K : World → Prop} (h : w.heap[b]? = some (.cells #[x, y] 126 (0, 0))) (hk : ∀ w', Chg (fun k => k = b) w w' → w'.heap.size = w.heap.size → w'.heap[b]? = some (.cells #[.int .i64 p.1, .int .i64 p.2] 126 (0, 0)) → K w') : stW Tryz.prog 126 (ptrV b) (cV p) w K :=
  r_stAll (n := 2) (by kernel_rfl) rfl (by intro u hu; simp [Value.cells] at hu; rcases hu with rfl | rfl <;> rfl) h rfl fun w' h1 h2 h3 => hk w' h1 h2 h3
theorem s_box {w : World} {b : Nat} {p : C2} (h : w.heap[b]? = some (.cells #[.int .i64 p.1, .int .i64 p.2] 126 (0, 0))) (K : Value → Prop) : ldN 2 w (ptrV b) K = K (cV p) := r_ldRow h rfl
theorem s_cells {w : World} {b : Nat} {p : C2} (h : w.heap[b]? = some (.cells #[.int .i64 p.1, .int .i64 p.2] 126 (0, 0))) : w.cell? ⟨b, 0, none⟩ = some (.int .i64 p.1) ∧ w.cell? ⟨b, 1, none⟩ = some (.int .i64 p.2) :=
  ⟨by rw [cell_row h]; rfl, by rw [cell_row h]; rfl⟩
theorem cnt_cells {w : World} {b mb : Nat} {l : List ByteArray} {v : Value} (h : w.heap[b]? = some (.cells #[.int .i64 (wd l : Nat), .int .i64 l.length, v, .map (some mb)] 122 (0, 0))) :
    w.cell? ⟨b, 0, none⟩ = some (.int .i64 (wd l : Nat)) ∧ w.cell? ⟨b, 1, none⟩ = some (.int .i64 l.length) ∧ w.cell? ⟨b, 2, none⟩ = some v ∧ w.cell? ⟨b, 3, none⟩ = some (.map (some mb)) := by
  refine ⟨?_, ?_, ?_, ?_⟩ <;> rw [cell_row h] <;> rfl
theorem cnt_reg {w : World} {b mb : Nat} {l : List ByteArray} {v : Value} (h : w.heap[b]? = some (.cells #[.int .i64 (wd l : Nat), .int .i64 l.length, v, .map (some mb)] 122 (0, 0))) (K : Value → Prop) : ldN 3 w (ptrV b) K = K (rgV (wd l : Nat) l.length v) := by
  obtain ⟨c0, c1, c2, c3⟩ := cnt_cells h
  refine r_ldCells (n := 3) (l := [.int .i64 (wd l : Nat), .int .i64 l.length, v]) rfl fun j u hu => ?_
  match j with
  | 0 => cases hu; exact c0
  | 1 => cases hu; exact c1
  | 2 => cases hu; exact c2
  | _ + 3 => simp at hu

set_option maxRecDepth 100000 in
set_option maxHeartbeats 4000000 in
theorem right_calls {l : List ByteArray} {v : Value} {mb : Nat} {s : St} (w : World) (hr : RdB w v l) (hR : RegOk l 8) (h1 : s.1 ≤ 1000) (h2 : s.2 < 65536) :
    Calls Tryz.prog 79 #[cntV l v mb, sV s] w fun e w' => e = .returned (sV (rightS l s)) ∧ Kp w w' := by
  have hw0 : 0 < wd l := hR.wid.1
  have hw8 : wd l ≤ 8 := hR.wid.2
  obtain ⟨a, cap, ev, _⟩ := hr.len
  refine lift79 ?_
  unfold S79
  refine r_box fun b2 w1 e2 s2 hb2 k1 => ?_
  have hb2' : w1.heap[b2]? = some (.cells #[.int .i64 (wd l : Nat), .int .i64 l.length, v, .map (some mb)] 122 (0, 0)) := by rw [ev] at hb2 ⊢; exact hb2
  refine r_box fun b3 w2 e3 s3 hb3 k2 => ?_
  have hb3' : w2.heap[b3]? = some (.cells #[.int .i64 (sI s).1, .int .i64 (sI s).2] 126 (0, 0)) := hb3
  refine r_box fun b4 w3 e4 s4 hb4 k3 => ?_
  have hb4' : w3.heap[b4]? = some (.cells #[.int .i64 0, .int .i64 0] 126 (0, 0)) := hb4
  refine r_drew fun w4 k4 _ => ?_
  have k04 : Kp w w4 := Kp.trans k1 (Kp.trans k2 (Kp.trans k3 k4))
  have g2 := block_below hb2' (Kp.trans k2 (Kp.trans k3 k4))
  have g3 := block_below hb3' (Kp.trans k3 k4)
  have g4 := block_below hb4' k4
  obtain ⟨c0, c1, c2, c3⟩ := cnt_cells g2
  obtain ⟨d0, d1⟩ := s_cells g3
  have sz4 := k04.size
  have szk : w.heap.size ≤ b4 := by have := k1.size; have := k2.size; omega
  have d0' : w4.cell? ⟨b3, 0, none⟩ = some (.int .i64 ((s.1 : Nat) : Int)) := d0
  have d1' : ∀ {w' : World}, Kp w4 w' → w'.cell? ⟨b3, 1, none⟩ = some (.int .i64 ((s.2 : Nat) : Int)) := fun k => cell_later k d1
  have d0k : ∀ {w' : World}, Kp w4 w' → w'.cell? ⟨b3, 0, none⟩ = some (.int .i64 ((s.1 : Nat) : Int)) := fun k => cell_later k d0
  have c0' : ∀ {w' : World}, Kp w4 w' → w'.cell? ⟨b2, 0, none⟩ = some (.int .i64 ((wd l : Nat) : Int)) := fun k => cell_later k c0
  have fin : ∀ (t : St) (w' : World), Kp w4 w' → t = rightS l s → stW Tryz.prog 126 (ptrV b4) (sV t) w' fun w_1 => ldN 2 w_1 (ptrV b4) fun r => (Ending.returned r = .returned (sV (rightS l s)) ∧ Kp w w_1) := fun t w' k' ht => by
    refine st72 (p := sI t) (block_below g4 k') fun w5 c5 s5 h5 => ?_
    rw [s_box h5, ← ht]
    exact ⟨rfl, Kp.of_chg (Kp.trans k04 k') c5 fun q e => by omega⟩
  have hrem : ∀ K : Value → Prop, binQ Tryz.prog w4 .rem 3 false (.int .i64 ((s.1 : Nat) : Int)) (.int .i64 ((wd l : Nat) : Int)) K = K (.int .i64 ((s.1 % wd l : Nat) : Int)) := fun K => r_remN _ _ hw0
  have hquo : ∀ K : Value → Prop, binQ Tryz.prog w4 .quo 3 false (.int .i64 ((s.1 : Nat) : Int)) (.int .i64 ((wd l : Nat) : Int)) K = K (.int .i64 ((s.1 / wd l : Nat) : Int)) := fun K => r_quoN _ _ hw0 (by omega)
  have hml : s.1 % wd l < wd l := Nat.mod_lt _ hw0
  simp only [r_fa, Nat.zero_add, r_ld d0', r_ld c0, hrem, hquo]
  rw [cnt_reg g2]
  refine r_use fok94 (Has_calls ((s.1 % wd l : Nat) : Int) ((s.1 / wd l : Nat) : Int) w4 (hr.kp k04) hR) rfl ?_
  rintro _ w5 ⟨rfl, k5⟩
  refine ⟨_, rfl, ?_⟩
  rw [r_not]
  cases q1 : hasB l ((s.1 % wd l : Nat) : Int) ((s.1 / wd l : Nat) : Int) with
  | false =>
    simp only [Bool.not_false, r_gdTF, r_gdU, r_pickT, r_condT]
    rw [bd72_0]
    exact fin (0, 0) w5 k5 (by unfold rightS hasN; rw [q1]; rfl)
  | true =>
  have o1 : ∀ K : Value → Prop, binQ Tryz.prog w5 .and 3 true (.int .i64 ((s.2 : Nat) : Int)) (.int .i64 1) K = K (.int .i64 ((s.2 &&& 1 : Nat) : Int)) := fun K => r_and1 _ h2
  have e1 : decide (((s.2 &&& 1 : Nat) : Int) = 0) = decide (s.2 &&& 1 = 0) := by rw [decide_eq_decide]; omega
  simp only [Bool.not_true, r_gdFF, r_fa, Nat.zero_add, r_ld (d1' k5), o1, r_neq, e1, r_pickF]
  cases q2 : decide (s.2 &&& 1 = 0) with
  | false =>
    simp only [Bool.not_false, r_gdTF, r_gdU, r_pickT, r_condT]
    rw [bd72_0]
    exact fin (0, 0) w5 k5 (by unfold rightS hasN; rw [q1, q2]; rfl)
  | true =>
  have o2 : ∀ K : Value → Prop, binQ Tryz.prog w5 .add 3 true (.int .i64 ((s.1 % wd l : Nat) : Int)) (.int .i64 1) K = K (.int .i64 ((s.1 % wd l + 1 : Nat) : Int)) := fun K => by rw [r_add _ _ (by omega) (by omega)]; rfl
  have e2' : decide (((s.1 % wd l + 1 : Nat) : Int) = ((wd l : Nat) : Int)) = decide (s.1 % wd l + 1 = wd l) := by rw [decide_eq_decide]; omega
  simp only [Bool.not_true, r_gdFF, o2, r_fa, Nat.zero_add, r_ld (c0' k5), r_eql, e2', r_pickF]
  cases q3 : decide (s.1 % wd l + 1 = wd l) with
  | true =>
    simp only [r_gdTF, r_gdU, r_pickT, r_condT]
    rw [bd72_0]
    exact fin (0, 0) w5 k5 (by unfold rightS hasN; rw [q1, q2, q3]; rfl)
  | false =>
  simp only [r_gdFF, cnt_reg (block_below g2 k5), o2]
  refine r_use fok94 (Has_calls ((s.1 % wd l + 1 : Nat) : Int) ((s.1 / wd l : Nat) : Int) w5 (hr.kp (Kp.trans k04 k5)) hR) rfl ?_
  rintro _ w6 ⟨rfl, k6⟩
  refine ⟨_, rfl, ?_⟩
  have k46 := Kp.trans k5 k6
  rw [r_not, r_pickF]
  cases q4 : hasB l ((s.1 % wd l + 1 : Nat) : Int) ((s.1 / wd l : Nat) : Int) with
  | false =>
    simp only [Bool.not_false, r_gdTF, r_gdU, r_pickT, r_condT]
    rw [bd72_0]
    exact fin (0, 0) w6 k46 (by unfold rightS hasN; rw [q1, q2, q3, q4]; rfl)
  | true =>
  have o3 : ∀ K : Value → Prop, binQ Tryz.prog w6 .and 3 true (.int .i64 ((s.2 : Nat) : Int)) (.int .i64 2) K = K (.int .i64 ((s.2 &&& 2 : Nat) : Int)) := fun K => r_and2 _ h2
  have e3' : decide (((s.2 &&& 2 : Nat) : Int) = 0) = decide (s.2 &&& 2 = 0) := by rw [decide_eq_decide]; omega
  simp only [Bool.not_true, r_gdFF, r_fa, Nat.zero_add, r_ld (d1' k46), o3, r_neq, e3', r_pickF]
  cases q5 : decide (s.2 &&& 2 = 0) with
  | false =>
    simp only [Bool.not_false, r_condT]
    rw [bd72_0]
    exact fin (0, 0) w6 k46 (by unfold rightS hasN; rw [q1, q2, q3, q4, q5]; rfl)
  | true =>
  simp only [Bool.not_true, r_condF, r_ld (d0k k46), r_ld (d1' k46)]
  rw [r_add _ _ (by omega) (by omega), r_shrU, r_or1 _ (by omega), bd72]
  exact fin (s.1 + 1, s.2 / 2 ||| 1) w6 k46 (by unfold rightS hasN; rw [q1, q2, q3, q4, q5]; rfl)

set_option maxRecDepth 100000 in
set_option maxHeartbeats 4000000 in
theorem down_calls {l : List ByteArray} {v : Value} {mb : Nat} {s : St} (w : World) (hr : RdB w v l) (hR : RegOk l 8) (h1 : s.1 ≤ 1000) (h2 : s.2 < 65536) :
    Calls Tryz.prog 80 #[cntV l v mb, sV s] w fun e w' => e = .returned (sV (downS l s)) ∧ Kp w w' := by
  have hw0 : 0 < wd l := hR.wid.1
  have hw8 : wd l ≤ 8 := hR.wid.2
  obtain ⟨a, cap, ev, _⟩ := hr.len
  refine lift80 ?_
  unfold S80
  refine r_box fun b2 w1 e2 s2 hb2 k1 => ?_
  have hb2' : w1.heap[b2]? = some (.cells #[.int .i64 (wd l : Nat), .int .i64 l.length, v, .map (some mb)] 122 (0, 0)) := by rw [ev] at hb2 ⊢; exact hb2
  refine r_box fun b3 w2 e3 s3 hb3 k2 => ?_
  have hb3' : w2.heap[b3]? = some (.cells #[.int .i64 (sI s).1, .int .i64 (sI s).2] 126 (0, 0)) := hb3
  refine r_box fun b4 w3 e4 s4 hb4 k3 => ?_
  have hb4' : w3.heap[b4]? = some (.cells #[.int .i64 0, .int .i64 0] 126 (0, 0)) := hb4
  refine r_drew fun w4 k4 _ => ?_
  have k04 : Kp w w4 := Kp.trans k1 (Kp.trans k2 (Kp.trans k3 k4))
  have g2 := block_below hb2' (Kp.trans k2 (Kp.trans k3 k4))
  have g3 := block_below hb3' (Kp.trans k3 k4)
  have g4 := block_below hb4' k4
  obtain ⟨c0, c1, c2, c3⟩ := cnt_cells g2
  obtain ⟨d0, d1⟩ := s_cells g3
  have sz4 := k04.size
  have szk : w.heap.size ≤ b4 := by have := k1.size; have := k2.size; omega
  have d1' : ∀ {w' : World}, Kp w4 w' → w'.cell? ⟨b3, 1, none⟩ = some (.int .i64 ((s.2 : Nat) : Int)) := fun k => cell_later k d1
  have d0k : ∀ {w' : World}, Kp w4 w' → w'.cell? ⟨b3, 0, none⟩ = some (.int .i64 ((s.1 : Nat) : Int)) := fun k => cell_later k d0
  have c0' : ∀ {w' : World}, Kp w4 w' → w'.cell? ⟨b2, 0, none⟩ = some (.int .i64 ((wd l : Nat) : Int)) := fun k => cell_later k c0
  have fin : ∀ (t : St) (w' : World), Kp w4 w' → t = downS l s → stW Tryz.prog 126 (ptrV b4) (sV t) w' fun w_1 => ldN 2 w_1 (ptrV b4) fun r => (Ending.returned r = .returned (sV (downS l s)) ∧ Kp w w_1) := fun t w' k' ht => by
    refine st72 (p := sI t) (block_below g4 k') fun w5 c5 s5 h5 => ?_
    rw [s_box h5, ← ht]
    exact ⟨rfl, Kp.of_chg (Kp.trans k04 k') c5 fun q e => by omega⟩
  have hrem : ∀ K : Value → Prop, binQ Tryz.prog w4 .rem 3 false (.int .i64 ((s.1 : Nat) : Int)) (.int .i64 ((wd l : Nat) : Int)) K = K (.int .i64 ((s.1 % wd l : Nat) : Int)) := fun K => r_remN _ _ hw0
  have hquo : ∀ K : Value → Prop, binQ Tryz.prog w4 .quo 3 false (.int .i64 ((s.1 : Nat) : Int)) (.int .i64 ((wd l : Nat) : Int)) K = K (.int .i64 ((s.1 / wd l : Nat) : Int)) := fun K => r_quoN _ _ hw0 (by omega)
  have hdl : s.1 / wd l ≤ s.1 := Nat.div_le_self _ _
  simp only [r_fa, Nat.zero_add, r_ld (d0k (Kp.refl _)), r_ld c0, hrem, hquo]
  rw [cnt_reg g2]
  refine r_use fok94 (Has_calls ((s.1 % wd l : Nat) : Int) ((s.1 / wd l : Nat) : Int) w4 (hr.kp k04) hR) rfl ?_
  rintro _ w5 ⟨rfl, k5⟩
  refine ⟨_, rfl, ?_⟩
  rw [r_not]
  cases q1 : hasB l ((s.1 % wd l : Nat) : Int) ((s.1 / wd l : Nat) : Int) with
  | false =>
    simp only [Bool.not_false, r_gdTF, r_gdU, r_pickT, r_condT]
    rw [bd72_0]
    exact fin (0, 0) w5 k5 (by unfold downS hasN; rw [q1]; rfl)
  | true =>
  have o1 : ∀ K : Value → Prop, binQ Tryz.prog w5 .and 3 true (.int .i64 ((s.2 : Nat) : Int)) (.int .i64 1) K = K (.int .i64 ((s.2 &&& 1 : Nat) : Int)) := fun K => r_and1 _ h2
  have e1 : decide (((s.2 &&& 1 : Nat) : Int) = 0) = decide (s.2 &&& 1 = 0) := by rw [decide_eq_decide]; omega
  simp only [Bool.not_true, r_gdFF, r_fa, Nat.zero_add, r_ld (d1' k5), o1, r_neq, e1, r_pickF]
  cases q2 : decide (s.2 &&& 1 = 0) with
  | false =>
    simp only [Bool.not_false, r_gdTF, r_gdU, r_pickT, r_condT]
    rw [bd72_0]
    exact fin (0, 0) w5 k5 (by unfold downS hasN; rw [q1, q2]; rfl)
  | true =>
  have o2 : ∀ K : Value → Prop, binQ Tryz.prog w5 .add 3 true (.int .i64 ((s.1 / wd l : Nat) : Int)) (.int .i64 1) K = K (.int .i64 ((s.1 / wd l + 1 : Nat) : Int)) := fun K => r_addN _ (Nat.le_trans hdl (by omega))
  simp only [Bool.not_true, r_gdFF, cnt_reg (block_below g2 k5), o2]
  refine r_use fok94 (Has_calls ((s.1 % wd l : Nat) : Int) ((s.1 / wd l + 1 : Nat) : Int) w5 (hr.kp (Kp.trans k04 k5)) hR) rfl ?_
  rintro _ w6 ⟨rfl, k6⟩
  refine ⟨_, rfl, ?_⟩
  have k46 := Kp.trans k5 k6
  rw [r_not, r_pickF]
  cases q4 : hasB l ((s.1 % wd l : Nat) : Int) ((s.1 / wd l + 1 : Nat) : Int) with
  | false =>
    simp only [Bool.not_false, r_condT]
    rw [bd72_0]
    exact fin (0, 0) w6 k46 (by unfold downS hasN; rw [q1, q2, q4]; rfl)
  | true =>
  simp only [Bool.not_true, r_condF]
  refine r_drew fun w7 k7 _ => ?_
  have k47 := Kp.trans k46 k7
  have o5 : ∀ K : Value → Prop, binQ Tryz.prog w7 .sub 3 true (.int .i64 ((wd l : Nat) : Int)) (.int .i64 1) K = K (.int .i64 ((wd l - 1 : Nat) : Int)) := fun K => by rw [r_sub _ _ (by omega) (by omega)]; congr 2; omega
  have o6 : ∀ K : Value → Prop, binQ Tryz.prog w7 .shl 3 true (.int .i64 1) (.int .i64 ((wd l - 1 : Nat) : Int)) K = K (.int .i64 ((2 ^ (wd l - 1) : Nat) : Int)) := fun K => r_shl1 _ (by omega)
  have hp : 2 ^ (wd l - 1) < 65536 := Nat.lt_of_le_of_lt (Nat.pow_le_pow_right (by omega) (show wd l - 1 ≤ 8 by omega)) (by decide)
  have o7 : ∀ K : Value → Prop, binQ Tryz.prog w7 .or 3 false (.int .i64 ((s.2 / 2 : Nat) : Int)) (.int .i64 ((2 ^ (wd l - 1) : Nat) : Int)) K = K (.int .i64 ((s.2 / 2 ||| 2 ^ (wd l - 1) : Nat) : Int)) := fun K => r_orN _ _ (by omega) hp
  simp only [r_fa, Nat.zero_add, r_ld (d0k k47), r_ld (d1' k47), r_ld (c0' k47)]
  rw [r_add _ _ (by omega) (by omega), r_shrU]
  simp only [o5, o6, o7]
  rw [bd72]
  exact fin (s.1 + 1, s.2 / 2 ||| 2 ^ (wd l - 1)) w7 k47 (by unfold downS hasN; rw [q1, q2, q4]; rfl)

set_option maxRecDepth 100000 in
set_option maxHeartbeats 4000000 in
theorem over_calls {l : List ByteArray} {v : Value} {mb : Nat} {s : St} (w : World) (hr : RdB w v l) (hR : RegOk l 8) (h1 : s.1 ≤ 1000) (h2 : s.2 < 65536) :
    Calls Tryz.prog 81 #[cntV l v mb, sV s] w fun e w' => e = .returned (sV (overS l s)) ∧ Kp w w' := by
  have hw0 : 0 < wd l := hR.wid.1
  have hw8 : wd l ≤ 8 := hR.wid.2
  obtain ⟨a, cap, ev, _⟩ := hr.len
  refine lift81 ?_
  unfold S81
  refine r_box fun b2 w1 e2 s2 hb2 k1 => ?_
  have hb2' : w1.heap[b2]? = some (.cells #[.int .i64 (wd l : Nat), .int .i64 l.length, v, .map (some mb)] 122 (0, 0)) := by rw [ev] at hb2 ⊢; exact hb2
  refine r_box fun b3 w2 e3 s3 hb3 k2 => ?_
  have hb3' : w2.heap[b3]? = some (.cells #[.int .i64 (sI s).1, .int .i64 (sI s).2] 126 (0, 0)) := hb3
  refine r_box fun b4 w3 e4 s4 hb4 k3 => ?_
  have hb4' : w3.heap[b4]? = some (.cells #[.int .i64 0, .int .i64 0] 126 (0, 0)) := hb4
  refine r_drew fun w4 k4 _ => ?_
  have k04 : Kp w w4 := Kp.trans k1 (Kp.trans k2 (Kp.trans k3 k4))
  have g2 := block_below hb2' (Kp.trans k2 (Kp.trans k3 k4))
  have g3 := block_below hb3' (Kp.trans k3 k4)
  have g4 := block_below hb4' k4
  obtain ⟨c0, c1, c2, c3⟩ := cnt_cells g2
  obtain ⟨d0, d1⟩ := s_cells g3
  have sz4 := k04.size
  have szk : w.heap.size ≤ b4 := by have := k1.size; have := k2.size; omega
  have d1' : ∀ {w' : World}, Kp w4 w' → w'.cell? ⟨b3, 1, none⟩ = some (.int .i64 ((s.2 : Nat) : Int)) := fun k => cell_later k d1
  have d0k : ∀ {w' : World}, Kp w4 w' → w'.cell? ⟨b3, 0, none⟩ = some (.int .i64 ((s.1 : Nat) : Int)) := fun k => cell_later k d0
  have fin : ∀ (t : St) (w' : World), Kp w4 w' → t = overS l s → stW Tryz.prog 126 (ptrV b4) (sV t) w' fun w_1 => ldN 2 w_1 (ptrV b4) fun r => (Ending.returned r = .returned (sV (overS l s)) ∧ Kp w w_1) := fun t w' k' ht => by
    refine st72 (p := sI t) (block_below g4 k') fun w5 c5 s5 h5 => ?_
    rw [s_box h5, ← ht]
    exact ⟨rfl, Kp.of_chg (Kp.trans k04 k') c5 fun q e => by omega⟩
  have hrem : ∀ K : Value → Prop, binQ Tryz.prog w4 .rem 3 false (.int .i64 ((s.1 : Nat) : Int)) (.int .i64 ((wd l : Nat) : Int)) K = K (.int .i64 ((s.1 % wd l : Nat) : Int)) := fun K => r_remN _ _ hw0
  have hquo : ∀ K : Value → Prop, binQ Tryz.prog w4 .quo 3 false (.int .i64 ((s.1 : Nat) : Int)) (.int .i64 ((wd l : Nat) : Int)) K = K (.int .i64 ((s.1 / wd l : Nat) : Int)) := fun K => r_quoN _ _ hw0 (by omega)
  simp only [r_fa, Nat.zero_add, r_ld (d0k (Kp.refl _)), r_ld c0, hrem, hquo]
  rw [cnt_reg g2]
  refine r_use fok94 (Has_calls ((s.1 % wd l : Nat) : Int) ((s.1 / wd l : Nat) : Int) w4 (hr.kp k04) hR) rfl ?_
  rintro _ w5 ⟨rfl, k5⟩
  refine ⟨_, rfl, ?_⟩
  have yes : overS l s = (s.1 + 1, s.2 / 2) → (fa1 (ptrV b3) 0 fun t31 => ld1 w5 t31 fun t32 => binQ Tryz.prog w5 .add 3 true t32 (.int .i64 1) fun t33 => fa1 (ptrV b3) 1 fun t34 => ld1 w5 t34 fun t35 => binQ Tryz.prog w5 .shr 3 true t35 (.int .u64 1) fun t36 => bdQ Tryz.prog 126 [(0, t33), (1, t36)] fun t37 => stW Tryz.prog 126 (ptrV b4) t37 w5 fun w_1 => ldN 2 w_1 (ptrV b4) fun r => (Ending.returned r = .returned (sV (overS l s)) ∧ Kp w w_1)) := fun h => by
    simp only [r_fa, Nat.zero_add, r_ld (d0k k5), r_ld (d1' k5)]
    rw [r_add _ _ (by omega) (by omega), r_shrU, bd72]
    exact fin (s.1 + 1, s.2 / 2) w5 k5 h.symm
  cases q1 : hasB l ((s.1 % wd l : Nat) : Int) ((s.1 / wd l : Nat) : Int) with
  | false =>
    simp only [r_gdFT, r_gdU, r_pickF, r_condF]
    exact yes (by unfold overS hasN; rw [q1]; rfl)
  | true =>
  have o1 : ∀ K : Value → Prop, binQ Tryz.prog w5 .and 3 true (.int .i64 ((s.2 : Nat) : Int)) (.int .i64 1) K = K (.int .i64 ((s.2 &&& 1 : Nat) : Int)) := fun K => r_and1 _ h2
  have e1 : decide (((s.2 &&& 1 : Nat) : Int) = 0) = decide (s.2 &&& 1 = 0) := by rw [decide_eq_decide]; omega
  simp only [r_gdTT, r_fa, Nat.zero_add, r_ld (d1' k5), o1, r_eql, e1, r_pickT]
  cases q2 : decide (s.2 &&& 1 = 0) with
  | true =>
    simp only [r_condT]
    rw [bd72_0]
    exact fin (0, 0) w5 k5 (by unfold overS hasN; rw [q1, q2]; rfl)
  | false =>
    simp only [r_condF, r_ld (d0k k5)]
    rw [r_add _ _ (by omega) (by omega), r_shrU, bd72]
    exact fin (s.1 + 1, s.2 / 2) w5 k5 (by unfold overS hasN; rw [q1, q2]; rfl)

end Go.Proofs.YtfmppkplmfbjpaaGreatDoor

/- Contracts of domino: from, Count. -/
namespace Go.Proofs.YtfmppkplmfbjpaaGreatDoor
open Go.Lf Go.RowKit Go.Ht

def nxS (f : St → Nat) (t : St) : Nat := if 0 < t.1 then f t else 0
def nexts (l : List ByteArray) (s : St) : List St := [rightS l s, downS l s, overS l s]
/-- How many ways there are to go on. -/
def cntF (l : List ByteArray) : Nat → St → Nat
  | 0, _ => 1
  | n + 1, s => ((nexts l s).map (nxS (cntF l n))).sum
theorem cntF_le (l : List ByteArray) : ∀ (n : Nat) (s : St), cntF l n s ≤ 3 ^ n
  | 0, _ => by simp [cntF]
  | n + 1, s => by
    have h : ∀ t, nxS (cntF l n) t ≤ 3 ^ n := fun t => by
      unfold nxS
      split
      · exact cntF_le l n t
      · exact Nat.zero_le _
    have h1 := h (rightS l s)
    have h2 := h (downS l s)
    have h3 := h (overS l s)
    simp only [cntF, nexts, List.map_cons, List.map_nil, List.sum_cons, List.sum_nil]
    rw [Nat.pow_succ]; omega
theorem next_ok {l : List ByteArray} {s t : St} (hw : wd l ≤ 8) (h2 : s.2 < 65536) (ht : t ∈ nexts l s) : 0 < t.1 → t.1 = s.1 + 1 ∧ t.2 < 65536 := by
  have hp : 2 ^ (wd l - 1) < 2 ^ 16 := Nat.pow_lt_pow_right (by omega) (by omega)
  have hor : ∀ {a b : Nat}, a < 2 ^ 16 → b < 2 ^ 16 → a ||| b < 65536 := fun ha hb => Nat.or_lt_two_pow ha hb
  simp only [nexts, List.mem_cons, List.not_mem_nil, or_false] at ht
  rcases ht with rfl | rfl | rfl
  · unfold rightS
    split
    · intro h; exact absurd h (by decide)
    · intro _; exact ⟨rfl, hor (by show s.2 / 2 < 65536; omega) (by decide)⟩
  · unfold downS
    split
    · intro h; exact absurd h (by decide)
    · intro _; exact ⟨rfl, hor (by show s.2 / 2 < 65536; omega) hp⟩
  · unfold overS
    split
    · intro h; exact absurd h (by decide)
    · intro _; exact ⟨rfl, by show s.2 / 2 < 65536; omega⟩

def GoodF (l : List ByteArray) (f : C2 → Option Value) : Prop := ∀ c v, f c = some v → ∃ s : St, c = sI s ∧ s.1 ≤ wd l * l.length ∧ v = .int .i64 ((cntF l (wd l * l.length - s.1) s : Nat) : Int)
theorem sI_inj {s t : St} (h : sI s = sI t) : s = t := by
  unfold sI at h
  injection h with h1 h2
  exact Prod.ext (by omega) (by omega)
theorem GoodF.put {l : List ByteArray} {f : C2 → Option Value} (h : GoodF l f) {s : St} {n : Nat} (hs : s.1 + n = wd l * l.length) : GoodF l (updO f (sI s) (.int .i64 ((cntF l n s : Nat) : Int))) := by
  intro c v hc
  by_cases e : c = sI s
  · subst e
    rw [updO_same] at hc
    cases hc
    exact ⟨s, rfl, by omega, by rw [show wd l * l.length - s.1 = n by omega]⟩
  · rw [updO_ne e] at hc
    exact h c v hc
abbrev MapC (w : World) (b : Nat) (f : C2 → Option Value) : Prop := MapO cV okC w b f
set_option maxRecDepth 100000 in
theorem bs112 (x y z : C2) (w : World) (K : Value → World → Prop) : bsW Tryz.prog 164 3 [(0, cV x), (1, cV y), (2, cV z)] w K = K (.slice (some ⟨w.heap.size, 0, none⟩) 3 3) (w.alloc (.cells #[.int .i64 x.1, .int .i64 x.2, .int .i64 y.1, .int .i64 y.2, .int .i64 z.1, .int .i64 z.2] 126)) := by kernel_rfl
theorem zero66 (w : World) : (zeroValue 3).run Tryz.prog w = .ok (.int .i64 0) w := zero3 w

theorem sum_take_le {L : List Nat} : ∀ (i : Nat), (L.take i).sum ≤ L.sum := fun i => by
  have h := congrArg List.sum (List.take_append_drop i L)
  rw [List.sum_append] at h
  omega

set_option maxRecDepth 100000 in
set_option maxHeartbeats 4000000 in
theorem from_calls {w0 : World} {mb : Nat} {l : List ByteArray} {v : Value} (hr : RdB w0 v l) (hR : RegOk l 8) (hN : wd l * l.length ≤ 16) (hmb : w0.heap.size ≤ mb) :
    ∀ (n : Nat) {w : World} {f : C2 → Option Value} {s : St}, s.1 + n = wd l * l.length → s.2 < 65536 → Kp w0 w → MapC w mb f → GoodF l f →
      Calls Tryz.prog 55 #[cntV l v mb, sV s] w fun e w' => e = .returned (.int .i64 ((cntF l n s : Nat) : Int)) ∧ Chg (fun k => k = mb) w w' ∧ ∃ f', MapC w' mb f' ∧ GoodF l f' := by
  obtain ⟨a, cap, ev, _⟩ := hr.len
  have hw8 : wd l ≤ 8 := hR.wid.2
  intro n
  induction n with
  | zero =>
    intro w f s hs h2 k0 hM hG
    refine lift55 ?_
    unfold S55
    refine r_box fun b2 w1 e2 s2 hb2 k1 => ?_
    have hb2' : w1.heap[b2]? = some (.cells #[.int .i64 (wd l : Nat), .int .i64 l.length, v, .map (some mb)] 122 (0, 0)) := by rw [ev] at hb2 ⊢; exact hb2
    refine r_box fun b3 w2 e3 s3 hb3 k2 => ?_
    have hb3' : w2.heap[b3]? = some (.cells #[.int .i64 (sI s).1, .int .i64 (sI s).2] 126 (0, 0)) := hb3
    obtain ⟨c0, c1, c2, c3⟩ := cnt_cells (block_below hb2' k2)
    obtain ⟨d0, d1⟩ := s_cells hb3'
    have d0' : w2.cell? ⟨b3, 0, none⟩ = some (.int .i64 ((s.1 : Nat) : Int)) := d0
    simp only [r_fa, Nat.zero_add, r_ld d0', r_ld c0, r_ld c1]
    rw [r_mulN _ _ (by omega), r_eql, decide_eq_true (by omega), r_condT]
    exact ⟨rfl, Chg.of_kp (Kp.trans k1 k2), f, hM.kp (Kp.trans k1 k2), hG⟩
  | succ n ih =>
    intro w f s hs h2 k0 hM hG
    have okS : okC (sI s) := ⟨⟨by unfold sI; dsimp only; omega, by unfold sI; dsimp only; omega⟩, ⟨by unfold sI; dsimp only; omega, by unfold sI; dsimp only; omega⟩⟩
    refine lift55 ?_
    unfold S55
    refine r_box fun b2 w1 e2 s2 hb2 k1 => ?_
    have hb2' : w1.heap[b2]? = some (.cells #[.int .i64 (wd l : Nat), .int .i64 l.length, v, .map (some mb)] 122 (0, 0)) := by rw [ev] at hb2 ⊢; exact hb2
    refine r_box fun b3 w2 e3 s3 hb3 k2 => ?_
    have hb3' : w2.heap[b3]? = some (.cells #[.int .i64 (sI s).1, .int .i64 (sI s).2] 126 (0, 0)) := hb3
    have g2 := block_below hb2' k2
    obtain ⟨c0, c1, c2, c3⟩ := cnt_cells g2
    obtain ⟨d0, d1⟩ := s_cells hb3'
    have d0' : w2.cell? ⟨b3, 0, none⟩ = some (.int .i64 ((s.1 : Nat) : Int)) := d0
    have k02 := Kp.trans k1 k2
    have hM2 := hM.kp k02
    simp only [r_fa, Nat.zero_add, r_ld d0', r_ld c0, r_ld c1, r_ld c3]
    rw [r_mulN _ _ (by omega), r_eql, decide_eq_false (by omega), r_condF]
    rw [s_box hb3', r_lkO2 keyS und66 zero3 hM2 okS, r_ex2a, r_ex2b]
    cases hf : f (sI s) with
    | some u =>
      obtain ⟨s', e1, e2', e3'⟩ := hG _ _ hf
      obtain rfl := sI_inj e1
      show condW (.bool true) _ _
      rw [r_condT]
      refine ⟨?_, Chg.of_kp k02, f, hM2, hG⟩
      rw [e3', show wd l * l.length - s.1 = n + 1 by omega]; rfl
    | none =>
    show condW (.bool false) _ _
    rw [r_condF]
    refine r_drew fun w3 k3 _ => ?_
    have k03 := Kp.trans k02 k3
    have kA := Kp.trans k0 k03
    have g23 := block_below g2 k3
    have g33 := block_below hb3' k3
    have ldc : ∀ K : Value → Prop, ldN 4 w3 (ptrV b2) K = K (cntV l v mb) := fun K => r_ldRow g23 rfl
    have lds : ∀ K : Value → Prop, ldN 2 w3 (ptrV b3) K = K (sV s) := fun K => s_box g33 K
    rw [ldc, lds, ldc, lds, ldc, lds]
    refine r_use fok79 (right_calls w3 (hr.kp kA) hR (by omega) h2) rfl ?_
    rintro _ w4 ⟨rfl, k4⟩
    refine ⟨_, rfl, k4, ?_⟩
    refine r_use fok80 (down_calls w4 (hr.kp (Kp.trans kA k4)) hR (by omega) h2) rfl ?_
    rintro _ w5 ⟨rfl, k5⟩
    refine ⟨_, rfl, k5, ?_⟩
    refine r_use fok81 (over_calls w5 (hr.kp (Kp.trans kA (Kp.trans k4 k5))) hR (by omega) h2) rfl ?_
    rintro _ w6 ⟨rfl, k6⟩
    refine ⟨_, rfl, k6, ?_⟩
    show bsW Tryz.prog 164 3 [(0, cV (sI (rightS l s))), (1, cV (sI (downS l s))), (2, cV (sI (overS l s)))] w6 _
    rw [bs112, r_keepE]
    have k7 : Kp w6 (w6.alloc (.cells #[.int .i64 (sI (rightS l s)).1, .int .i64 (sI (rightS l s)).2, .int .i64 (sI (downS l s)).1, .int .i64 (sI (downS l s)).2, .int .i64 (sI (overS l s)).1, .int .i64 (sI (overS l s)).2] 126)) := below_alloc _
    refine ⟨k7, ?_⟩
    have hL : RdC (w6.alloc (.cells #[.int .i64 (sI (rightS l s)).1, .int .i64 (sI (rightS l s)).2, .int .i64 (sI (downS l s)).1, .int .i64 (sI (downS l s)).2, .int .i64 (sI (overS l s)).1, .int .i64 (sI (overS l s)).2] 126)) (.slice (some ⟨w6.heap.size, 0, none⟩) 3 3) ((nexts l s).map sI) := by
      have h := rec_alloc (e := 126) cC_len ((nexts l s).map sI) (by simp [nexts]) w6
      have := h.rd cC_len
      simp [recCells, cC, nexts] at this
      exact this
    have hlb := heap_alloc_new w6 (.cells #[.int .i64 (sI (rightS l s)).1, .int .i64 (sI (rightS l s)).2, .int .i64 (sI (downS l s)).1, .int .i64 (sI (downS l s)).2, .int .i64 (sI (overS l s)).1, .int .i64 (sI (overS l s)).2] 126)
    generalize (w6.alloc (.cells #[.int .i64 (sI (rightS l s)).1, .int .i64 (sI (rightS l s)).2, .int .i64 (sI (downS l s)).1, .int .i64 (sI (downS l s)).2, .int .i64 (sI (overS l s)).1, .int .i64 (sI (overS l s)).2] 126)) = w7 at *
    have k37 := Kp.trans k4 (Kp.trans k5 (Kp.trans k6 k7))
    have k07 := Kp.trans k03 k37
    have hM7 := hM.kp k07
    have mbl : mb < w.heap.size := hM.lt
    have ln3 : ∀ K : Value → Prop, ln1 (.slice (some ⟨w6.heap.size, 0, none⟩) 3 3) K = K (.int .i64 ((3 : Nat) : Int)) := fun K => rfl
    rw [ln3]
    have sz1 := k1.size
    have sz2 := k2.size
    have sz6 := Nat.le_trans (Nat.le_trans (Nat.le_trans k03.size k4.size) k5.size) k6.size
    unfold S55L0
    refine ⟨fun t7 t40 w' => ∃ (j : Nat) (f' : C2 → Option Value), j ≤ 3 ∧ t40 = .int .i64 j ∧ t7 = .int .i64 (((((nexts l s).map (nxS (cntF l n))).take j).sum : Nat) : Int) ∧ Chg (fun k => k = mb) w7 w' ∧ MapC w' mb f' ∧ GoodF l f', fun _ t40 _ => 3 - (intOf t40).toNat, ⟨0, f, by omega, rfl, rfl, Chg.refl _ _, hM7, hG⟩, ?_⟩
    rintro _ _ _ wr ⟨j, f1, hj, rfl, rfl, C, hM1, hG1⟩
    have hsb := cntF_le l (n + 1) s
    have hpw : 3 ^ (n + 1) ≤ 3 ^ 16 := Nat.pow_le_pow_right (by omega) (by omega)
    have hp16 : (3 : Nat) ^ 16 = 43046721 := by decide
    have hst := sum_take_le (L := (nexts l s).map (nxS (cntF l n))) j
    have hsum : cntF l (n + 1) s = ((nexts l s).map (nxS (cntF l n))).sum := rfl
    have g2r : wr.heap[b2]? = _ := C.at (block_below g23 k37) (by omega)
    have g3r : wr.heap[b3]? = _ := C.at (block_below g33 k37) (by omega)
    obtain ⟨c0r, c1r, c2r, c3r⟩ := cnt_cells g2r
    by_cases hlt : j < 3
    case neg =>
      have hlt' : ¬ (j : Int) < ((3 : Nat) : Int) := by omega
      obtain rfl : j = 3 := by omega
      rw [r_lss, decide_eq_false hlt', r_condF, r_fa, Nat.zero_add, r_ld c3r, s_box g3r]
      refine r_muO keyS und66 zero3 hM1 okS fun w8 hM8 c8 s8 => ?_
      have e3 : ((nexts l s).map (nxS (cntF l n))).take 3 = (nexts l s).map (nxS (cntF l n)) := List.take_of_length_le (by simp [nexts])
      rw [e3, ← hsum] at hM8
      refine ⟨by rw [e3]; rfl, (Chg.of_kp k07).trans (C.trans c8), _, hM8, hG1.put hs⟩
    have hlt' : (j : Int) < ((3 : Nat) : Int) := by omega
    have hLr : RdC wr (.slice (some ⟨w6.heap.size, 0, none⟩) 3 3) ((nexts l s).map sI) := by
      obtain ⟨a', cap', e, hl', hc⟩ := hL
      refine ⟨a', cap', e, hl', fun h0 => ?_⟩
      obtain ⟨b', off', rfl, hcc⟩ := hc h0
      cases e
      exact ⟨_, _, rfl, fun i x hi j' u hu => C.cell (hcc i x hi j' u hu) (by show ¬ w6.heap.size = mb; omega)⟩
    have hjl : j < ((nexts l s).map sI).length := by simp [nexts]; omega
    have hjl' : j < (nexts l s).length := by simpa using hjl
    have hgt : ((nexts l s).map sI).getD j (0, 0) = sI ((nexts l s).getD j (0, 0)) := by rw [getD_lt _ _ _ hjl, List.getElem_map, ← getD_lt (nexts l s) j (0, 0) hjl']
    have htm : (nexts l s).getD j (0, 0) ∈ nexts l s := getD_mem hjl'
    have hts : (((nexts l s).map (nxS (cntF l n))).take (j + 1)).sum = (((nexts l s).map (nxS (cntF l n))).take j).sum + nxS (cntF l n) ((nexts l s).getD j (0, 0)) := by
      have hjl'' : j < ((nexts l s).map (nxS (cntF l n))).length := by simpa using hjl'
      rw [take_succ' _ _ hjl'', List.sum_append, List.getElem_map, ← getD_lt (nexts l s) j (0, 0) hjl']; simp
    have hst1 := sum_take_le (L := (nexts l s).map (nxS (cntF l n))) (j + 1)
    rw [r_lss, decide_eq_true hlt', r_condT, cell_at hLr hjl, hgt]
    generalize (nexts l s).getD j (0, 0) = t at *
    refine r_box fun b9 w8 e9 s9 h9 k8 => ?_
    have h9' : w8.heap[b9]? = some (.cells #[.int .i64 0, .int .i64 0] 126 (0, 0)) := h9
    refine st72 (p := sI t) h9' fun w9 c9 s9' h99 => ?_
    have k9 : Kp wr w9 := Kp.of_chg k8 c9 fun q e => by omega
    have C9 := C.trans (Chg.of_kp k9)
    obtain ⟨q0, q1⟩ := s_cells h99
    have q0' : w9.cell? ⟨b9, 0, none⟩ = some (.int .i64 ((t.1 : Nat) : Int)) := q0
    rw [r_fa, Nat.zero_add, r_ld q0', r_gtr]
    refine r_join1 (fun t7 w' => ∃ f2, t7 = .int .i64 (((((nexts l s).map (nxS (cntF l n))).take (j + 1)).sum : Nat) : Int) ∧ Chg (fun k => k = mb) w7 w' ∧ MapC w' mb f2 ∧ GoodF l f2) ?_ fun kk hkk => ?_
    · rintro _ w' ⟨f2, rfl, p1, p2, p3⟩
      rw [r_add _ _ (by omega) (by omega)]
      exact ⟨⟨j + 1, f2, by omega, by go_num, rfl, p1, p2, p3⟩, by simp only [intOf]; omega⟩
    by_cases hp : 0 < t.1
    · obtain ⟨ht1, ht2⟩ := next_ok hw8 h2 htm hp
      have hnx : nxS (cntF l n) t = cntF l n t := by unfold nxS; rw [if_pos hp]
      have hbnd := cntF_le l n t
      have hpn : 3 ^ n ≤ 3 ^ 16 := Nat.pow_le_pow_right (by omega) (by omega)
      rw [decide_eq_true (by omega), r_condT, r_ldRow (n := 4) (block_below g2r k9) rfl, s_box h99]
      have kw9 : Kp w0 w9 := Kp.of_chg (Kp.trans k0 k07) C9 fun q e => by omega
      refine r_use fok55 (ih (s := t) (by omega) ht2 kw9 (hM1.kp k9) hG1) rfl ?_
      rintro _ w10 ⟨rfl, C10, f2, hM10, hG10⟩
      refine ⟨_, rfl, ?_⟩
      rw [r_add _ _ (by omega) (by omega)]
      refine hkk _ _ ⟨f2, ?_, C9.trans C10, hM10, hG10⟩
      rw [hts, hnx]; go_num
    · have hnx : nxS (cntF l n) t = 0 := by unfold nxS; rw [if_neg hp]
      rw [decide_eq_false (by omega), r_condF]
      refine hkk _ _ ⟨f1, ?_, C9, hM1.kp k9, hG1⟩
      rw [hts, hnx, Nat.add_zero]

set_option maxRecDepth 100000 in
theorem bd68 {x y : Int} {a : Option Addr} {n c mb : Nat} {K : Value → Prop} : bdQ Tryz.prog 122 [(0, .agg #[.int .i64 x, .int .i64 y, .slice a n c]), (1, .map (some mb))] K = K (.agg #[.int .i64 x, .int .i64 y, .slice a n c, .map (some mb)]) := by kernel_rfl
set_option maxRecDepth 100000 in
theorem st68 {w : World} {b mb : Nat} {x y z u : Value} {p q : Int} {a : Option Addr} {m c : Nat} {K : World → Prop} (h : w.heap[b]? = some (.cells #[x, y, z, u] 122 (0, 0))) (hk : ∀ w', Chg (fun k => k = b) w w' → w'.heap.size = w.heap.size → w'.heap[b]? = some (.cells #[.int .i64 p, .int .i64 q, .slice a m c, .map (some mb)] 122 (0, 0)) → K w') : stW Tryz.prog 122 (ptrV b) (.agg #[.int .i64 p, .int .i64 q, .slice a m c, .map (some mb)]) w K :=
  r_stAll (n := 4) (by kernel_rfl) rfl (by intro u hu; simp [Value.cells] at hu; rcases hu with rfl | rfl | rfl | rfl <;> rfl) h rfl fun w' h1 h2 h3 => hk w' h1 h2 h3

set_option maxRecDepth 100000 in
theorem counter_calls {l : List ByteArray} {a : Option Addr} {n c : Nat} (w : World) : Calls Tryz.prog 54 #[rgV (wd l : Nat) l.length (.slice a n c)] w fun e w' => Kp w w' ∧ ∃ mb, e = .returned (cntV l (.slice a n c) mb) ∧ w.heap.size ≤ mb ∧ MapC w' mb (fun _ => none) := by
  refine lift54 ?_
  unfold S54
  refine r_box fun b1 w1 e1 s1 h1 k1 => ?_
  have h1' : w1.heap[b1]? = some (.cells #[.int .i64 (wd l : Nat), .int .i64 l.length, .slice a n c] 117 (0, 0)) := h1
  refine r_box fun b2 w2 e2 s2 h2 k2 => ?_
  have h2' : w2.heap[b2]? = some (.cells #[.int .i64 0, .int .i64 0, .slice none 0 0, .map none] 122 (0, 0)) := h2
  rw [rg_box (block_below h1' k2)]
  refine r_mm ?_
  have k3 : Kp w2 (w2.alloc (.map #[] 0)) := below_alloc _
  have hm3 := mapO_new cV okC w2
  have sz1 := k1.size
  have sz2 := k2.size
  have mbl := hm3.lt
  generalize hmb : w2.heap.size = mb at *
  generalize w2.alloc (.map #[] 0) = w3 at *
  rw [bd68]
  refine st68 (block_below h2' k3) fun w4 c4 s4 h4 => ?_
  rw [r_ldRow (n := 4) h4 rfl]
  exact ⟨Kp.of_chg (Kp.trans k1 (Kp.trans k2 k3)) c4 fun q e => by omega, mb, rfl, by omega, hm3.chg c4 fun e => by omega⟩

set_option maxRecDepth 100000 in
set_option maxHeartbeats 1000000 in
theorem Count_calls {v : Value} {l : List ByteArray} (w : World) (hr : RdB w v l) (hs : ∀ s ∈ l, s.size ≤ 9223372036854775807) (hN : wd l * l.length ≤ 16) :
    Calls Tryz.prog 28 #[v] w fun e w' => Kp w w' ∧ e = .returned (.tuple #[.int .i64 ((if ofB 8 l = true then cntF l (wd l * l.length) (0, 0) else 0 : Nat) : Int), .int .i64 (if ofB 8 l = true then 0 else 2)]) := by
  obtain ⟨a, cap, ev, _⟩ := hr.len
  refine lift28 ?_
  unfold S28
  refine r_use fok53 (Of_calls w hr hs) rfl ?_
  rintro _ w1 ⟨rfl, k1⟩
  refine ⟨_, rfl, ?_⟩
  rw [r_ex2a, r_ex2b]
  refine r_box fun b4 w2 e2 s2 h2 k2 => ?_
  have h2' : w2.heap[b4]? = some (.cells #[.int .i64 0, .int .i64 0, .slice none 0 0] 117 (0, 0)) := h2
  have sz1 := k1.size
  cases ho : ofB 8 l with
  | false =>
    have : regV v l = rgV 0 0 (.slice none 0 0) := by unfold regV; rw [ho]; rfl
    rw [this]
    refine st63 h2' fun w3 c3 s3 h3 => ?_
    rw [r_not, Bool.not_false, r_condT]
    exact ⟨Kp.of_chg (Kp.trans k1 k2) c3 fun q e => by omega, rfl⟩
  | true =>
  have : regV v l = rgV (wd l : Nat) l.length (.slice a l.length cap) := by unfold regV; rw [ho, ev]; rfl
  have hR := reg_ok ho
  rw [this]
  refine st63 h2' fun w3 c3 s3 h3 => ?_
  have k03 : Kp w w3 := Kp.of_chg (Kp.trans k1 k2) c3 fun q e => by omega
  rw [r_not, Bool.not_true, r_condF, rg_box h3]
  refine r_use fok54 (counter_calls w3) rfl ?_
  rintro _ w4 ⟨k4, mb, rfl, hmb, hM⟩
  refine ⟨_, rfl, ?_⟩
  rw [bd72_0]
  have sz3 := k03.size
  have hr3 := hr.kp k03
  rw [ev] at hr3
  refine r_use fok55 (from_calls (s := (0, 0)) hr3 hR hN hmb (wd l * l.length) (by simp) (by simp) k4 hM fun c v h => by cases h) rfl ?_
  rintro _ w5 ⟨rfl, C5, _⟩
  refine ⟨_, rfl, Kp.of_chg (Kp.trans k03 k4) C5 fun q e => by omega, ?_⟩
  simp

end Go.Proofs.YtfmppkplmfbjpaaGreatDoor
