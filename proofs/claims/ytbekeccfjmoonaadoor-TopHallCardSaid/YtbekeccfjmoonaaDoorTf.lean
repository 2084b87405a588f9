/- Contract of domino: matched. -/
import Derived.Test.YtbekeccfjmoonaaDoorTe
set_option linter.all false
namespace Go.Proofs.YtbekeccfjmoonaaDoor
open Go.Lf Go.RowKit Go.Ht

theorem r_mm {w : World} {K : Value → World → Prop} (h : K (.map (some w.heap.size)) (w.alloc (.map #[] 0))) : mmW w K := h
set_option maxRecDepth 100000 in
theorem st87 {w : World} {b m : Nat} {x : Value} {K : World → Prop} (h : w.heap[b]? = some (.cells #[x] 87 (0, 0))) (hk : ∀ w', Chg (fun k => k = b) w w' → w'.heap.size = w.heap.size → w'.heap[b]? = some (.cells #[.map (some m)] 87 (0, 0)) → K w') : stW Tryd.prog 87 (ptrV b) (.map (some m)) w K :=
  r_stAll (n := 1) (by kernel_rfl) rfl (by intro u hu; simp [Value.cells] at hu; rcases hu with rfl; rfl) h rfl fun w' h1 h2 h3 => hk w' h1 h2 h3
set_option maxRecDepth 100000 in
theorem st79 {w : World} {b m : Nat} {x : Value} {K : World → Prop} (h : w.heap[b]? = some (.cells #[x] 79 (0, 0))) (hk : ∀ w', Chg (fun k => k = b) w w' → w'.heap.size = w.heap.size → w'.heap[b]? = some (.cells #[.map (some m)] 79 (0, 0)) → K w') : stW Tryd.prog 79 (ptrV b) (.map (some m)) w K :=
  r_stAll (n := 1) (by kernel_rfl) rfl (by intro u hu; simp [Value.cells] at hu; rcases hu with rfl; rfl) h rfl fun w' h1 h2 h3 => hk w' h1 h2 h3
set_option maxRecDepth 100000 in
theorem st74 {w : World} {b : Nat} {x : Value} {f : Fn} {a c : Array Value} {K : World → Prop} (h : w.heap[b]? = some (.cells #[x] 74 (0, 0))) (hk : ∀ w', Chg (fun k => k = b) w w' → w'.heap.size = w.heap.size → w'.heap[b]? = some (.cells #[.func f a c] 74 (0, 0)) → K w') : stW Tryd.prog 74 (ptrV b) (.func f a c) w K :=
  r_stAll (n := 1) (by kernel_rfl) rfl (by intro u hu; simp [Value.cells] at hu; rcases hu with rfl; rfl) h rfl fun w' h1 h2 h3 => hk w' h1 h2 h3

/-- What a matching is that the program made. -/
structure Made (l : List ByteArray) (μ : Mate) (D : C2 → Prop) : Prop where
  mt : Mt (fun n => hasB l n.1 n.2 = true) μ
  dz : Dz (fun n => hasB l n.1 n.2 = true) μ D
  all : ∀ b : C2, hasB l b.1 b.2 = true → blackC b = true → μ b ≠ none ∨ D b

set_option maxRecDepth 100000 in
set_option maxHeartbeats 4000000 in
theorem matched_calls {v : Value} {l : List ByteArray} (w : World) (hf : Wf w) (hr : RdB w v l) (hR : RegOk l 8) :
    Calls Tryd.prog 35 #[regW v l] w fun e w' => Kp w w' ∧ ∃ (mb : Nat) (μ : Mate) (D : C2 → Prop), e = .returned (.map (some mb)) ∧ MapM w' mb μ ∧ w.heap.size ≤ mb ∧ Made l μ D := by
  obtain ⟨a, cap, ev, _⟩ := hr.len
  refine lift35 ?_
  unfold S35
  refine r_box fun b1 w1 e1 s1 h1 k1 => ?_
  have h1' : w1.heap[b1]? = some (.cells #[.int .i64 (l.getD 0 dB).size, .int .i64 l.length, v] 63 (0, 0)) := by rw [ev] at h1 ⊢; exact h1
  refine r_mm ?_
  have k2 : Kp w1 (w1.alloc (.map #[] 0)) := below_alloc _
  have hm0 := mapO_new cV okC w1
  have smb : w1.heap.size < (w1.alloc (.map #[] 0)).heap.size := hm0.lt
  generalize hmb : w1.heap.size = mb at *
  generalize w1.alloc (.map #[] 0) = w2 at *
  refine r_box fun b3 w3 e3 s3 h3 k3 => ?_
  have h3' : w3.heap[b3]? = some (.cells #[.map none] 87 (0, 0)) := h3
  refine st87 h3' fun w4 c4 s4 h34 => ?_
  have k24 : Kp w2 w4 := Kp.of_chg k3 c4 fun q e => by omega
  have k14 := Kp.trans k2 k24
  have k04 := Kp.trans k1 k14
  have hm4 : MapM w4 mb (fun _ => none) := hm0.kp k24
  have h14 := block_below h1' k14
  rw [rg_box h14]
  refine r_use fok24 (Cells_calls w4 (hr.kp k04) hR) rfl ?_
  rintro _ w5 ⟨k5, t10, rfl, hO⟩
  refine ⟨_, rfl, ?_⟩
  have k05 := Kp.trans k04 k5
  have h15 := block_below h14 k5
  have h35 := block_below h34 k5
  have hm5 := hm4.kp k5
  have b1lt := block_lt h1'
  have b3lt := block_lt h35
  have sz04 := k04.size
  have sz4 := k5.size
  have sz01 := k1.size
  have mlt := hm4.lt
  obtain ⟨qa, qc, eq, _⟩ := RecAt.len hO
  have lnq : ∀ K : Value → Prop, ln1 t10 K = K (.int .i64 (cellsB l).length) := fun K => by rw [eq]; rfl
  have hcl : (cellsB l).length ≤ 64 := by
    have h1 := cellsP_le l l.length
    have h2 : l.length * (l.getD 0 dB).size ≤ 8 * 8 := Nat.mul_le_mul hR.len.2 hR.wid.2
    exact Nat.le_trans h1 h2
  have cb : ∀ {w' : World} {b : Nat} {x : Value} {t : TypeId}, w'.heap[b]? = some (.cells #[x] t (0, 0)) → w'.cell? ⟨b, 0, none⟩ = some x := fun h => by rw [cell_row h]; rfl
  rw [lnq]
  unfold S35L0
  refine ⟨fun t12 wr => ∃ (i : Nat) (μ : Mate) (D : C2 → Prop), i ≤ (cellsB l).length ∧ t12 = .int .i64 i ∧ Chg (fun k => k = mb) w5 wr ∧ MapM wr mb μ ∧ Mt (fun n => hasB l n.1 n.2 = true) μ ∧ Dz (fun n => hasB l n.1 n.2 = true) μ D ∧ (∀ j, j < i → blackC ((cellsB l).getD j (0, 0)) = true → μ ((cellsB l).getD j (0, 0)) ≠ none ∨ D ((cellsB l).getD j (0, 0))) ∧
      (∀ j, i ≤ j → j < (cellsB l).length → blackC ((cellsB l).getD j (0, 0)) = true → μ ((cellsB l).getD j (0, 0)) = none),
    fun t12 _ => (cellsB l).length - (intOf t12).toNat, ⟨0, fun _ => none, fun _ => False, by omega, rfl, Chg.refl _ _, hm5, (fun a b h => by cases h), ⟨fun _ _ h => h.elim, fun _ h => h.elim⟩, (fun j hj => by omega), fun _ _ _ _ => rfl⟩, ?_⟩
  rintro _ _ wr ⟨i, μ, D, hi, rfl, Cr, hm, hMt, hDz, hdone, htodo⟩
  have k0r : Kp w wr := Kp.of_chg k05 Cr fun k e => by omega
  by_cases hlt : i < (cellsB l).length
  case neg =>
    have hlt' : ¬ (i : Int) < ((cellsB l).length : Int) := by omega
    have h3r := Cr.at h35 (by omega)
    rw [r_lss, decide_eq_false hlt', r_condF, r_ld (cb h3r)]
    refine ⟨k0r, mb, μ, D, rfl, hm, by omega, hMt, hDz, fun b hb hbb => ?_⟩
    obtain ⟨j, hj, rfl⟩ := List.getElem_of_mem (cellsB_mem.2 hb)
    have := hdone j (by omega)
    rw [getD_lt _ _ _ hj] at this
    exact this hbb
  have hlt' : (i : Int) < ((cellsB l).length : Int) := by omega
  rw [r_lss, decide_eq_true hlt', r_condT]
  refine r_joinW (fun w' => ∃ (μ' : Mate) (D' : C2 → Prop), Chg (fun k => k = mb) w5 w' ∧ MapM w' mb μ' ∧ Mt (fun n => hasB l n.1 n.2 = true) μ' ∧ Dz (fun n => hasB l n.1 n.2 = true) μ' D' ∧ (∀ j, j < i + 1 → blackC ((cellsB l).getD j (0, 0)) = true → μ' ((cellsB l).getD j (0, 0)) ≠ none ∨ D' ((cellsB l).getD j (0, 0))) ∧
      (∀ j, i + 1 ≤ j → j < (cellsB l).length → blackC ((cellsB l).getD j (0, 0)) = true → μ' ((cellsB l).getD j (0, 0)) = none)) ?_ fun kk hkk => ?_
  · rintro w' ⟨μ', D', g1, g2, g3, g4, g5, g6⟩
    rw [r_add _ _ (by omega) (by omega)]
    exact ⟨⟨i + 1, μ', D', by omega, by go_num, g1, g2, g3, g4, g5, g6⟩, by simp only [intOf]; omega⟩
  have hOr : ClAt w4.heap.size wr t10 (cellsB l) := RecAt.chg hO Cr fun k hk hs => by have := (RecAt.lt hO hk).1; omega
  have hc := cellsB_mem.1 (getD_mem (d := (0, 0)) hlt)
  have hcs := has_small hR hc
  have hinj : ∀ j, j < (cellsB l).length → j ≠ i → (cellsB l).getD j (0, 0) ≠ (cellsB l).getD i (0, 0) := fun j hj hne => by
    have hp := List.pairwise_iff_getElem.1 (cellsB_nodup l)
    rw [getD_lt _ _ _ hj, getD_lt _ _ _ hlt]
    rcases Nat.lt_or_gt_of_ne hne with q | q
    · exact hp j i hj hlt q
    · exact fun e => hp i j hlt hj q e.symm
  have hc0 := htodo i (Nat.le_refl _) hlt
  rw [cell_at (hOr.rd cC_len) hlt]
  generalize hcd : (cellsB l).getD i (0, 0) = c at *
  refine r_box fun b5 w6 e5 s5 h5 k6 => ?_
  have h5' : w6.heap[b5]? = some (.cells #[.int .i64 0, .int .i64 0] 43 (0, 0)) := h5
  have szr := Cr.size
  refine st43 h5' fun w7 c7 s7 h57 => ?_
  have kr7 : Kp wr w7 := Kp.of_chg k6 c7 fun q e => by omega
  rw [c_box h57]
  refine r_use fok25 (black_calls (c := c) w7 (by omega) (by omega) (by omega) (by omega)) rfl ?_
  rintro _ w8 ⟨rfl, k8⟩
  refine ⟨_, rfl, ?_⟩
  have kr8 := Kp.trans kr7 k8
  have C8 : Chg (fun k => k = mb) w5 w8 := Cr.trans (Chg.of_kp kr8)
  have hm8 := hm.kp kr8
  have h58 := block_below h57 k8
  rw [r_not]
  cases hb : blackC c with
  | false =>
    rw [Bool.not_false, r_condT]
    refine hkk _ ⟨μ, D, C8, hm8, hMt, hDz, fun j hj => ?_, fun j hj hjl => htodo j (by omega) hjl⟩
    by_cases e : j = i
    · rw [e, hcd, hb]; intro h; cases h
    · exact hdone j (by omega)
  | true =>
  rw [Bool.not_true, r_condF]
  refine r_mm ?_
  have k9 : Kp w8 (w8.alloc (.map #[] 0)) := below_alloc _
  have hs0 := mapO_new cV okC w8
  have ssb : w8.heap.size < (w8.alloc (.map #[] 0)).heap.size := hs0.lt
  generalize hsb : w8.heap.size = sb at *
  generalize w8.alloc (.map #[] 0) = w9 at *
  refine r_box fun b6 w10 e6 s6 h6 k10 => ?_
  have h6' : w10.heap[b6]? = some (.cells #[.map none] 79 (0, 0)) := h6
  refine st79 h6' fun w11 c11 s11 h611 => ?_
  have k911 : Kp w9 w11 := Kp.of_chg k10 c11 fun q e => by omega
  refine r_box fun b7 w12 e7 s7' h7 k12 => ?_
  have h7' : w12.heap[b7]? = some (.cells #[.nilFunc] 74 (0, 0)) := h7
  have sz911 := k911.size
  refine st74 h7' fun w13 c13 s13 h713 => ?_
  have k1113 : Kp w11 w13 := Kp.of_chg k12 c13 fun q e => by omega
  have k913 := Kp.trans k911 k1113
  have k813 := Kp.trans k9 k913
  have C13 : Chg (fun k => k = mb) w5 w13 := C8.trans (Chg.of_kp k813)
  have hs13 : MapS w13 sb (fun _ => false) := by
    have := hs0.kp k913
    have e : (fun _ : C2 => (none : Option Value)) = fS (fun _ => false) := by funext x; simp [fS]
    rw [e] at this; exact this
  have hm13 := hm8.kp k813
  have szb := kr8.size
  have hb6' : sb < b6 := by omega
  have E : Env w w13 b1 b6 b3 b7 sb mb v l := by
    refine ⟨Kp.of_chg k05 C13 fun k e => by omega, by omega, by omega, by omega, hs13.lt, hm13.lt, C13.at h15 (by omega), block_below h611 k1113, C13.at h35 (by omega), h713, ⟨by omega, by omega⟩, ⟨by omega, by omega⟩, ⟨by omega, by omega⟩, ⟨by omega, by omega⟩⟩
  rw [r_ld (cb E.fn), c_box (block_below h58 k813)]
  refine r_use fok65 (try_calls hf hr hR hMt hDz (cntU l (fun _ => false) + 1) (by omega) E hm13 hs13 hc hb fun n0 h0 => by rw [hc0 hb] at h0; cases h0) rfl ?_
  rintro _ w14 ⟨C14, S', hs14, ⟨rfl, hDc, μ', hm14, hT⟩ | ⟨rfl, hm14, hF⟩⟩
  · refine ⟨_, rfl, ?_⟩
    have hT' : TryT (fun n => hasB l n.1 n.2 = true) D μ (fun _ => False) c μ' := by
      have e : (fun n : C2 => (fun _ : C2 => false) n = true) = fun _ => False := by funext n; simp
      rw [e] at hT; exact hT
    have C514 : Chg (fun k => k = mb) w5 w14 := (C13.mono (S' := fun k => k = mb ∨ k = sb) fun k _ e => .inl e).trans (C14.mono fun k _ e => e.symm) |>.mono fun k hk e => by omega
    refine hkk _ ⟨μ', D, C514, hm14, hT'.mt, hT'.dz hDz, fun j hj hbj => ?_, fun j hj hjl hbj => ?_⟩
    · by_cases e : j = i
      · rw [e, hcd]
        obtain ⟨n, h1, _⟩ := hT'.own
        exact .inl (by rw [h1]; simp)
      · rcases hdone j (by omega) hbj with h | h
        · exact .inl (hT'.more _ h)
        · exact .inr h
    · have h0 := htodo j (by omega) hjl hbj
      rw [hT'.far _ hbj (hinj j hjl (by omega)) (.inl h0)]; exact h0
  · refine ⟨_, rfl, ?_⟩
    have hF' : TryF (fun n => hasB l n.1 n.2 = true) μ (fun _ => False) c (fun n => S' n = true) := by
      have e : (fun n : C2 => (fun _ : C2 => false) n = true) = fun _ => False := by funext n; simp
      rw [e] at hF; exact hF
    have C514 : Chg (fun k => k = mb) w5 w14 := (C13.mono (S' := fun k => k = mb ∨ k = sb) fun k _ e => .inl e).trans (C14.mono fun k _ e => e.symm) |>.mono fun k hk e => by omega
    refine hkk _ ⟨μ, deadMore D μ c (fun n => S' n = true), C514, hm14, hMt, hF'.dz hMt hDz hb, fun j hj hbj => ?_, fun j hj hjl => htodo j (by omega) hjl⟩
    by_cases e : j = i
    · rw [e, hcd]; exact .inr (.inr (.inl rfl))
    · rcases hdone j (by omega) hbj with h | h
      · exact .inl h
      · exact .inr (.inl h)

end Go.Proofs.YtbekeccfjmoonaaDoor
