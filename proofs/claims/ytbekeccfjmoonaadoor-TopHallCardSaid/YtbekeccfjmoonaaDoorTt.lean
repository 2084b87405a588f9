/- The law TopHall, the walk. -/
import Derived.Test.YtbekeccfjmoonaaDoorTs
set_option linter.all false
namespace Go.Proofs.YtbekeccfjmoonaaDoor
open Go.Lf Go.RowKit Go.Ht

theorem eqBl (x y : Bool) (w : World) (K : Value → Prop) : binQ Tryd.prog w .eql 4 false (.bool x) (.bool y) K = genQ Tryd.prog w (semBin .eql 4 false (.bool x) (.bool y)) K := by kernel_rfl
theorem r_eqlB {x y : Bool} {w : World} {K : Value → Prop} (h : K (.bool (x == y))) : binQ Tryd.prog w .eql 4 false (.bool x) (.bool y) K := by
  rw [eqBl]
  refine ⟨.bool (x == y), fun _ _ => ?_, h⟩
  cases x <;> cases y <;> kernel_rfl

theorem cell_x {w : World} {v : Value} {L : List C2} (h : RdC w v L) {i : Nat} (hi : i < L.length) (K : Value → Prop) : (iaS 2 v (.int .i64 i) fun p => fa1 p 0 fun q => ld1 w q K) = K (.int .i64 (L.getD i (0, 0)).1) := by
  obtain ⟨b, off, cap, e, _, hc⟩ := h.at (List.getElem?_eq_getElem hi)
  have hii : (i : Int).toNat = i := by omega
  have hA := hc 0 _ rfl
  rw [e, r_iaS _ _ _ _ _ _ _ (by omega) (by omega), hii, r_fa, r_ld hA, getD_lt _ _ _ hi]
theorem cell_y {w : World} {v : Value} {L : List C2} (h : RdC w v L) {i : Nat} (hi : i < L.length) (K : Value → Prop) : (iaS 2 v (.int .i64 i) fun p => fa1 p 1 fun q => ld1 w q K) = K (.int .i64 (L.getD i (0, 0)).2) := by
  obtain ⟨b, off, cap, e, _, hc⟩ := h.at (List.getElem?_eq_getElem hi)
  have hii : (i : Int).toNat = i := by omega
  have hA := hc 1 _ rfl
  rw [e, r_iaS _ _ _ _ _ _ _ (by omega) (by omega), hii, r_fa, r_ld hA, getD_lt _ _ _ hi]

structure TwoAt (w0 w : World) (b7 b8 : Nat) (nv vv : Value) (N V : List Int) : Prop where
  kp : Kp w0 w
  x7 : w.heap[b7]? = some (.cells #[nv, .int .i64 1] 33 (0, 0))
  x8 : w.heap[b8]? = some (.cells #[vv, .int .i64 2] 33 (0, 0))
  g7 : w0.heap.size ≤ b7
  g8 : w0.heap.size ≤ b8
  n : IntsAt w0.heap.size w nv N
  v : IntsAt w0.heap.size w vv V
  ne : ∀ k, nv.ownBlock = some k → vv.ownBlock ≠ some k
  d : b7 ≠ b8
theorem TwoAt.later {w0 w w' : World} {b7 b8 : Nat} {nv vv : Value} {N V : List Int} (h : TwoAt w0 w b7 b8 nv vv N V) (k : Kp w w') : TwoAt w0 w' b7 b8 nv vv N V :=
  ⟨Kp.trans h.kp k, block_below h.x7 k, block_below h.x8 k, h.g7, h.g8, h.n.kp k, h.v.kp k, h.ne, h.d⟩
theorem own_box {e t : TypeId} {α : Type} {m : Nat} {enc : α → List Value} {base : Nat} {w : World} {v : Value} {P : List α} {b : Nat} {cs : Array Value} {fr : Nat × Nat} (h : RecAt e m enc base w v P) (hb : w.heap[b]? = some (.cells cs t fr)) (ht : e ≠ t) : v.ownBlock ≠ some b := fun hk => by
  obtain ⟨cur, h1⟩ := own_type h hk
  rw [h1] at hb
  injection hb with hb
  injection hb with _ hb _
  exact ht hb

set_option maxRecDepth 100000 in
theorem two_n {w0 w : World} {b7 b8 : Nat} {nv vv : Value} {N V : List Int} {x : Int} (h : TwoAt w0 w b7 b8 nv vv N V) (hl : N.length + 1 ≤ 1000) {K : World → Prop} (hK : ∀ nv' w', TwoAt w0 w' b7 b8 nv' vv (N ++ [x]) V → K w') :
    bsW Tryd.prog 31 1 [(0, .int .i64 x)] w fun t111 w => semW Tryd.prog (apS [31, 31] 31 [nv, t111]) w fun t112 w => stW Tryd.prog 31 (ptrV b7) t112 w K := by
  have hsz := h.kp.size
  refine r_pushRec (x := x) (ty := 31) slt31 iC_len rfl (fun K => bs31 _ _ _ K) (by simp [iC]; rfl) (by omega) h.n (by omega) hsz fun v' w' o1 c1 at1 => ?_
  have x7' := c1.at h.x7 (fun e => own_box h.n h.x7 (by decide) e)
  have x8' := c1.at h.x8 (fun e => own_box h.n h.x8 (by decide) e)
  have hv' := RecAt.chg h.v c1 fun k hk e => h.ne k e hk
  have cc : w'.cell? ⟨b7, 0, none⟩ = some nv := by rw [cell_row x7']; rfl
  obtain ⟨a, cap, e, _⟩ := RecAt.len o1
  rw [e, st31 cc (frozen_row x7'), ← e]
  have c2 : Chg (fun k => k = b7) w' (w'.setCell ⟨b7, 0, none⟩ v') := Chg.setCell w' v' rfl
  have x72 := setCell_block (w' := w'.setCell ⟨b7, 0, none⟩ v') x7' rfl
  refine hK v' _ ⟨?_, x72, c2.at x8' h.d.symm, h.g7, h.g8, RecAt.chg o1 c2 fun k hk e => own_box o1 x7' (by decide) (e ▸ hk), RecAt.chg hv' c2 fun k hk e => own_box hv' x7' (by decide) (e ▸ hk), fun k hk hk' => ?_, h.d⟩
  · exact Kp.of_chg (Kp.of_chg h.kp c1 fun k hk => (RecAt.lt h.n hk).1) c2 fun k e => by have := h.g7; omega
  · rcases at1 k hk with h1 | h1
    · exact h.ne k h1 hk'
    · have := (RecAt.lt h.v hk').2; omega
set_option maxRecDepth 100000 in
theorem two_v {w0 w : World} {b7 b8 : Nat} {nv vv : Value} {N V : List Int} {x : Int} (h : TwoAt w0 w b7 b8 nv vv N V) (hl : V.length + 1 ≤ 1000) {K : World → Prop} (hK : ∀ vv' w', TwoAt w0 w' b7 b8 nv vv' N (V ++ [x]) → K w') :
    bsW Tryd.prog 31 1 [(0, .int .i64 x)] w fun t111 w => semW Tryd.prog (apS [31, 31] 31 [vv, t111]) w fun t112 w => stW Tryd.prog 31 (ptrV b8) t112 w K := by
  have hsz := h.kp.size
  refine r_pushRec (x := x) (ty := 31) slt31 iC_len rfl (fun K => bs31 _ _ _ K) (by simp [iC]; rfl) (by omega) h.v (by omega) hsz fun v' w' o1 c1 at1 => ?_
  have x7' := c1.at h.x7 (fun e => own_box h.v h.x7 (by decide) e)
  have x8' := c1.at h.x8 (fun e => own_box h.v h.x8 (by decide) e)
  have hn' := RecAt.chg h.n c1 fun k hk e => h.ne k hk e
  have cc : w'.cell? ⟨b8, 0, none⟩ = some vv := by rw [cell_row x8']; rfl
  obtain ⟨a, cap, e, _⟩ := RecAt.len o1
  rw [e, st31 cc (frozen_row x8'), ← e]
  have c2 : Chg (fun k => k = b8) w' (w'.setCell ⟨b8, 0, none⟩ v') := Chg.setCell w' v' rfl
  have x82 := setCell_block (w' := w'.setCell ⟨b8, 0, none⟩ v') x8' rfl
  refine hK v' _ ⟨?_, c2.at x7' h.d, x82, h.g7, h.g8, RecAt.chg hn' c2 fun k hk e => own_box hn' x8' (by decide) (e ▸ hk), RecAt.chg o1 c2 fun k hk e => own_box o1 x8' (by decide) (e ▸ hk), fun k hk hk' => ?_, h.d⟩
  · exact Kp.of_chg (Kp.of_chg h.kp c1 fun k hk => (RecAt.lt h.v hk).1) c2 fun k e => by have := h.g8; omega
  · rcases at1 k hk' with h1 | h1
    · exact h.ne k hk h1
    · have := (RecAt.lt h.n hk).2; omega

set_option maxRecDepth 100000 in
set_option maxHeartbeats 2000000 in
/-- One cell. -/
theorem r4_2 {w0 wr : World} {b7 b8 x y : Nat} {nv vv ov : Value} {l : List ByteArray} {out : List C2} {N V : List Int} {od : Int} {kk : Value → World → Prop} (hT : TwoAt w0 wr b7 b8 nv vv N V) (ho : RdC w0 ov out) (hl : out.length ≤ 64) (hH : HallOut l out) (hR : RegOk l 8) (hx : x < 8) (hy : y < 8)
    (hn : N.length + 1 ≤ 1000) (hv : V.length + 1 ≤ 1000) (hod : -1000 ≤ od ∧ od ≤ 1000)
    (hk : ∀ nv' vv' w', TwoAt w0 w' b7 b8 nv' vv' (N ++ [atW out ((x : Int), (y : Int))]) (V ++ [sgnC ((x : Int), (y : Int))]) → kk (.int .i64 (od + sgnC ((x : Int), (y : Int)))) w') :
    S4L2 (ptrV b7) (ptrV b8) (.int .i64 od) (.int .i64 y) (.int .i64 x) ov kk wr := by
  obtain ⟨a, cap, ev, _⟩ := ho.len
  have lnv : ∀ K : Value → Prop, ln1 ov K = K (.int .i64 out.length) := fun K => by rw [ev]; rfl
  generalize hcd : (((x : Nat) : Int), ((y : Nat) : Int)) = c at *
  have c1e : c.1 = (x : Int) := by rw [← hcd]
  have c2e : c.2 = (y : Int) := by rw [← hcd]
  obtain ⟨b, hb⟩ := hH.col
  unfold S4L2
  refine ⟨fun t12 t13 w' => ∃ i : Nat, i ≤ out.length ∧ t13 = .int .i64 i ∧ t12 = .int .i64 (atW (out.take i) c) ∧ TwoAt w0 w' b7 b8 nv vv N V, fun _ t13 _ => out.length - (intOf t13).toNat, ⟨0, by omega, rfl, rfl, hT⟩, ?_⟩
  rintro _ _ _ wq ⟨i, hi, rfl, rfl, hT⟩
  rw [lnv]
  by_cases hlt : i < out.length
  case neg =>
    have hlt' : ¬ (i : Int) < (out.length : Int) := by omega
    obtain rfl : i = out.length := by omega
    have c7 : wq.cell? ⟨b7, 0, none⟩ = some nv := by rw [cell_row hT.x7]; rfl
    rw [r_lss, decide_eq_false hlt', r_condF, r_fa, Nat.zero_add, r_ld c7, List.take_length]
    simp only [r_fa, Nat.zero_add]
    refine two_n hT hn fun nv' w1 hT1 => ?_
    have c8 : w1.cell? ⟨b8, 0, none⟩ = some vv := by rw [cell_row hT1.x8]; rfl
    have hm : (x + y) % 2 < 2 := Nat.mod_lt _ (by decide)
    have q1 : ∀ KK : Value → Prop, binQ Tryd.prog w1 .add 3 false (.int .i64 ((x : Nat) : Int)) (.int .i64 ((y : Nat) : Int)) KK = KK (.int .i64 ((x + y : Nat) : Int)) := fun KK => by rw [r_add _ _ (by omega) (by omega)]; rfl
    have q2 : ∀ KK : Value → Prop, binQ Tryd.prog w1 .rem 3 true (.int .i64 ((x + y : Nat) : Int)) (.int .i64 2) KK = KK (.int .i64 (((x + y) % 2 : Nat) : Int)) := fun KK => r_remN (x + y) 2 (by omega)
    rw [q1, q2, r_mul _ _ (by omega) (by omega), r_sub _ _ (by omega) (by omega)]
    have e1 : (1 : Int) - 2 * (((x + y) % 2 : Nat) : Int) = sgnC c := by
      unfold sgnC
      rw [c1e, c2e]; omega
    have hs := sgn_or c
    rw [e1, r_ld c8]
    refine two_v hT1 hv fun vv' w2 hT2 => ?_
    rw [r_add _ _ (by omega) (by omega)]
    exact hk nv' vv' w2 hT2
  have hlt' : (i : Int) < (out.length : Int) := by omega
  have hreg := has_small hR (hH.reg _ (getD_mem (d := (0, 0)) hlt))
  have hstep := atW_take hb hlt c
  rw [r_lss, decide_eq_true hlt', r_condT]
  refine r_drew fun w2 k2 _ => ?_
  have hT2 := hT.later k2
  have ho2 := ho.kp hT2.kp
  have hX := cell_x ho2 hlt
  have hY := cell_y ho2 hlt
  generalize out.getD i (0, 0) = d at *
  have hadj := adj_sub d c
  rw [c1e, c2e] at hadj
  have b1 : -8 ≤ d.1 - (x : Int) ∧ d.1 - (x : Int) ≤ 8 := by omega
  have b2 : -8 ≤ d.2 - (y : Int) ∧ d.2 - (y : Int) ≤ 8 := by omega
  have hdc : d = c ↔ d.1 - (x : Int) = 0 ∧ d.2 - (y : Int) = 0 := by
    rw [← c1e, ← c2e]
    constructor
    · rintro rfl; omega
    · rintro ⟨h1, h2⟩; exact Prod.ext (by omega) (by omega)
  have hsq := sq_one b1 b2
  have s1 := sq8 b1
  have s2 := sq8 b2
  rw [hX, r_sub _ _ (by omega) (by omega), hY, r_sub _ _ (by omega) (by omega)]
  generalize hdx : d.1 - (x : Int) = dx at *
  generalize hdy : d.2 - (y : Int) = dy at *
  rw [r_eql]
  have hnext : ∀ v : Int, v = atW (out.take (i + 1)) c → binQ Tryd.prog w2 .add 3 true (.int .i64 (i : Int)) (.int .i64 1) fun t79 => (∃ i' : Nat, i' ≤ out.length ∧ t79 = Value.int .i64 i' ∧ Value.int .i64 v = Value.int .i64 (atW (out.take i') c) ∧ TwoAt w0 w2 b7 b8 nv vv N V) ∧ out.length - (intOf t79).toNat < out.length - (intOf (Value.int .i64 (i : Int))).toNat := fun v hv => by
    rw [r_add _ _ (by omega) (by omega)]
    exact ⟨⟨i + 1, by omega, by go_num, by rw [hv], hT2⟩, by simp only [intOf]; omega⟩
  have tail : ∀ v : Int, v = (if d = c then 1 else atW (out.take i) c) → binQ Tryd.prog w2 .mul 3 false (.int .i64 dx) (.int .i64 dx) fun t102 => binQ Tryd.prog w2 .mul 3 false (.int .i64 dy) (.int .i64 dy) fun t105 => binQ Tryd.prog w2 .add 3 false t102 t105 fun t106 => binQ Tryd.prog w2 .eql 3 true t106 (.int .i64 1) fun t107 =>
      Join (fun (k_5 : Value → World → Prop) => condW t107 (k_5 (.int .i64 (-1)) w2) (k_5 (.int .i64 v) w2)) fun t12_4 w => binQ Tryd.prog w .add 3 true (.int .i64 (i : Int)) (.int .i64 1) fun t79 => (∃ i' : Nat, i' ≤ out.length ∧ t79 = Value.int .i64 i' ∧ t12_4 = Value.int .i64 (atW (out.take i') c) ∧ TwoAt w0 w b7 b8 nv vv N V) ∧ out.length - (intOf t79).toNat < out.length - (intOf (Value.int .i64 (i : Int))).toNat := fun v hv => by
    rw [r_mul _ _ (by omega) (by omega), r_mul _ _ (by omega) (by omega), r_add _ _ (by omega) (by omega), r_eql]
    by_cases ha : adjC d c
    · have h1 : dx * dx + dy * dy = 1 := hsq.2 (hadj.1 ha)
      rw [decide_eq_true h1]
      simp only [Join, r_condT]
      exact hnext (-1) (by rw [hstep, if_pos ha])
    · have h1 : ¬ dx * dx + dy * dy = 1 := fun h => ha (hadj.2 (hsq.1 h))
      rw [decide_eq_false h1]
      simp only [Join, r_condF]
      exact hnext v (by rw [hstep, if_neg ha]; exact hv)
  by_cases h1 : dx = 0
  · rw [decide_eq_true h1]
    simp only [r_gdTT, r_eql, r_pickT]
    by_cases h2 : dy = 0
    · rw [decide_eq_true h2]
      show Join _ _
      simp only [Join, r_condT]
      exact tail 1 (by rw [if_pos (hdc.2 ⟨h1, h2⟩)])
    · rw [decide_eq_false h2]
      simp only [Join, r_condF]
      exact tail _ (by rw [if_neg fun e => h2 (hdc.1 e).2])
  · rw [decide_eq_false h1]
    simp only [r_gdFT, r_gdU, r_pickF, Join, r_condF]
    exact tail _ (by rw [if_neg fun e => h1 (hdc.1 e).1])

end Go.Proofs.YtbekeccfjmoonaaDoor
