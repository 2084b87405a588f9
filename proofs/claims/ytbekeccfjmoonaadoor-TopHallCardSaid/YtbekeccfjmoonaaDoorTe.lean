/- Contract of domino: the try to match a cell (a closure that calls itself). -/
import Derived.Test.YtbekeccfjmoonaaDoorKy
set_option linter.all false
namespace Go.Proofs.YtbekeccfjmoonaaDoor
open Go.Lf Go.RowKit Go.Ht

abbrev MapM (w : World) (b : Nat) (μ : Mate) : Prop := MapO cV okC w b (fun c => (μ c).map cV)
def fS (S : C2 → Bool) : C2 → Option Value := fun c => if S c = true then some (.bool true) else none
abbrev MapS (w : World) (b : Nat) (S : C2 → Bool) : Prop := MapO cV okC w b (fS S)
def setS (S : C2 → Bool) (n : C2) : C2 → Bool := fun x => S x || decide (x = n)
theorem upd_fS (S : C2 → Bool) (n : C2) : updO (fS S) n (.bool true) = fS (setS S n) := by
  funext x
  unfold updO fS setS
  by_cases h : x = n
  · subst h; simp
  · simp [h]
theorem upd_mate (μ : Mate) (a b : C2) : updO (fun c => (μ c).map cV) a (cV b) = fun c => (upC μ a b c).map cV := by
  funext x
  unfold updO upC
  by_cases h : x = a
  · subst h; simp
  · simp [h]
theorem getD_fS (S : C2 → Bool) (n : C2) : (fS S n).getD (.bool false) = .bool (S n) := by
  unfold fS
  cases S n <;> simp

/-- How many cells are not seen. -/
def cntU (l : List ByteArray) (S : C2 → Bool) : Nat := ((cellsB l).filter fun c => !S c).length
theorem filter_mono {α : Type} {p q : α → Bool} : ∀ {L : List α}, (∀ x ∈ L, p x = true → q x = true) → (L.filter p).length ≤ (L.filter q).length
  | [], _ => Nat.le_refl _
  | a :: L, h => by
    have ih := filter_mono (L := L) fun x hx => h x (List.mem_cons_of_mem _ hx)
    rw [List.filter_cons, List.filter_cons]
    by_cases hp : p a = true
    · rw [if_pos hp, if_pos (h a (List.mem_cons_self ..) hp)]; simp only [List.length_cons]; omega
    · rw [if_neg hp]
      split
      · simp only [List.length_cons]; omega
      · exact ih
theorem filter_less {α : Type} {p q : α → Bool} {y : α} : ∀ {L : List α}, (∀ x ∈ L, p x = true → q x = true) → y ∈ L → p y = false → q y = true → (L.filter p).length < (L.filter q).length
  | [], _, hy, _, _ => by cases hy
  | a :: L, h, hy, h1, h2 => by
    have hm := filter_mono (L := L) fun x hx => h x (List.mem_cons_of_mem _ hx)
    rw [List.filter_cons, List.filter_cons]
    by_cases e : a = y
    · subst e
      rw [if_neg (by rw [h1]; simp), if_pos h2]; simp only [List.length_cons]; omega
    · have hy' : y ∈ L := by rcases List.mem_cons.1 hy with q | q; exact absurd q.symm e; exact q
      have ih := filter_less (L := L) (fun x hx => h x (List.mem_cons_of_mem _ hx)) hy' h1 h2
      by_cases hp : p a = true
      · rw [if_pos hp, if_pos (h a (List.mem_cons_self ..) hp)]; simp only [List.length_cons]; omega
      · rw [if_neg hp]
        split
        · simp only [List.length_cons]; omega
        · exact ih
theorem cntU_mono {l : List ByteArray} {S T : C2 → Bool} (h : ∀ c, S c = true → T c = true) : cntU l T ≤ cntU l S :=
  filter_mono fun x _ hx => by
    cases q : S x with
    | false => rfl
    | true => rw [h x q] at hx; cases hx
theorem cntU_less {l : List ByteArray} {S : C2 → Bool} {n : C2} (hn : hasB l n.1 n.2 = true) (h : S n = false) : cntU l (setS S n) < cntU l S :=
  filter_less (y := n) (fun x _ hx => by
    unfold setS at hx
    cases q : S x with
    | false => rfl
    | true => rw [q] at hx; cases hx) (cellsB_mem.2 hn) (by simp [setS]) (by rw [h]; rfl)

structure Env (w0 w : World) (b1 b6 b3 b7 sb mb : Nat) (v : Value) (l : List ByteArray) : Prop where
  kp : Kp w0 w
  s0 : w0.heap.size ≤ sb
  m0 : w0.heap.size ≤ mb
  ne : sb ≠ mb
  sl : sb < w.heap.size
  ml : mb < w.heap.size
  reg : w.heap[b1]? = some (.cells #[.int .i64 (l.getD 0 dB).size, .int .i64 l.length, v] 63 (0, 0))
  seenb : w.heap[b6]? = some (.cells #[.map (some sb)] 79 (0, 0))
  mateb : w.heap[b3]? = some (.cells #[.map (some mb)] 87 (0, 0))
  fn : w.heap[b7]? = some (.cells #[.func (.func 65) #[] #[ptrV b1, ptrV b6, ptrV b3, ptrV b7]] 74 (0, 0))
  d1 : b1 ≠ sb ∧ b1 ≠ mb
  d6 : b6 ≠ sb ∧ b6 ≠ mb
  d3 : b3 ≠ sb ∧ b3 ≠ mb
  d7 : b7 ≠ sb ∧ b7 ≠ mb
theorem Env.chg {w0 w w' : World} {b1 b6 b3 b7 sb mb : Nat} {v : Value} {l : List ByteArray} (h : Env w0 w b1 b6 b3 b7 sb mb v l) (c : Chg (fun k => k = sb ∨ k = mb) w w') : Env w0 w' b1 b6 b3 b7 sb mb v l :=
  ⟨Kp.of_chg h.kp c fun i hi => by have := h.s0; have := h.m0; omega, h.s0, h.m0, h.ne, Nat.lt_of_lt_of_le h.sl c.size, Nat.lt_of_lt_of_le h.ml c.size,
    c.at h.reg fun e => by have := h.d1; omega, c.at h.seenb fun e => by have := h.d6; omega, c.at h.mateb fun e => by have := h.d3; omega, c.at h.fn fun e => by have := h.d7; omega, h.d1, h.d6, h.d3, h.d7⟩
theorem BX.of_chg {X S : Nat → Prop} {w w' : World} (h : Chg S w w') (hs : ∀ k, S k → X k) : BX X w w' := ⟨h.os, h.tape, h.output, h.size, fun k hk hx => h.block k hk fun q => hx (hs k q)⟩

def TryPost (l : List ByteArray) (D : C2 → Prop) (μ : Mate) (S : C2 → Bool) (c : C2) (sb mb : Nat) (w : World) : Ending → World → Prop := fun e w' =>
  Chg (fun k => k = sb ∨ k = mb) w w' ∧ ∃ S' : C2 → Bool, MapS w' sb S' ∧
    ((e = .returned (.bool true) ∧ ¬ D c ∧ ∃ μ', MapM w' mb μ' ∧ TryT (fun n => hasB l n.1 n.2 = true) D μ (fun n => S n = true) c μ') ∨
     (e = .returned (.bool false) ∧ MapM w' mb μ ∧ TryF (fun n => hasB l n.1 n.2 = true) μ (fun n => S n = true) c (fun n => S' n = true)))

theorem r_joinW {F : (World → Prop) → Prop} {k : World → Prop} (J : World → Prop) (hk : ∀ w, J w → k w) (hF : ∀ k' : World → Prop, (∀ w, J w → k' w) → F k') : Join F k := hF k hk

set_option maxRecDepth 100000 in
set_option maxHeartbeats 4000000 in
theorem try_calls {w0 : World} {b1 b6 b3 b7 sb mb : Nat} {v : Value} {l : List ByteArray} {D : C2 → Prop} {μ : Mate} (hf : Wf w0) (hr : RdB w0 v l) (hR : RegOk l 8) (hM : Mt (fun n => hasB l n.1 n.2 = true) μ) (hD : Dz (fun n => hasB l n.1 n.2 = true) μ D) :
    ∀ (N : Nat) {w : World} {S : C2 → Bool} {c : C2}, cntU l S < N → Env w0 w b1 b6 b3 b7 sb mb v l → MapM w mb μ → MapS w sb S → hasB l c.1 c.2 = true → blackC c = true → (∀ n0, μ c = some n0 → S n0 = true) →
      Calls Tryd.prog 65 #[cV c, ptrV b1, ptrV b6, ptrV b3, ptrV b7] w (TryPost l D μ S c sb mb w) := by
  intro N
  induction N with
  | zero => intro w S c h; omega
  | succ N ih =>
    intro w S c hN E hMm hMs hc hcb hpre
    have hcs := has_small hR hc
    have okN : ∀ {n : C2}, hasB l n.1 n.2 = true → okC n := fun {n} hn => by
      have := has_small hR hn
      exact ⟨⟨by omega, by omega⟩, ⟨by omega, by omega⟩⟩
    refine lift65 ?_
    unfold S65
    refine r_box fun b5 w1 e5 s5 h5 k1 => ?_
    have h5' : w1.heap[b5]? = some (.cells #[.int .i64 c.1, .int .i64 c.2] 43 (0, 0)) := h5
    have C1 : Chg (fun k => k = sb ∨ k = mb) w w1 := Chg.of_kp k1
    have E1 := E.chg C1
    rw [rg_box E1.reg, c_box h5']
    refine r_use fok26 (nb_calls (c := c) w1 (hf.kp E1.kp) (hr.kp E1.kp) hR (by omega)) rfl ?_
    rintro _ w2 ⟨k2, t13, rfl, hO⟩
    refine ⟨_, rfl, ?_⟩
    have C2' : Chg (fun k => k = sb ∨ k = mb) w w2 := C1.trans (Chg.of_kp k2)
    have E2 := E.chg C2'
    have szw1 := k1.size
    have sl := E.sl
    have ml := E.ml
    obtain ⟨qa, qc, eq, _⟩ := RecAt.len hO
    have lnq : ∀ K : Value → Prop, ln1 t13 K = K (.int .i64 (nbL l c).length) := fun K => by rw [eq]; rfl
    have hnl := nbP_le l c 4
    have hnl : (nbL l c).length ≤ 4 := hnl
    have h52 := block_below h5' k2
    rw [lnq]
    unfold S65L0
    refine ⟨fun t15 wr => ∃ (i : Nat) (S1 : C2 → Bool), i ≤ (nbL l c).length ∧ t15 = .int .i64 i ∧ Chg (fun k => k = sb ∨ k = mb) w2 wr ∧ MapM wr mb μ ∧ MapS wr sb S1 ∧ (∀ n, S n = true → S1 n = true) ∧ (∀ j, j < i → S1 ((nbL l c).getD j (0, 0)) = true) ∧
        (∀ n, S1 n = true → S n = true ∨ (hasB l n.1 n.2 = true ∧ blackC n = false ∧ ∃ m, μ n = some m ∧ ∀ n' : C2, hasB l n'.1 n'.2 = true → adjC m n' → S1 n' = true)),
      fun t15 _ => (nbL l c).length - (intOf t15).toNat, ⟨0, S, by omega, rfl, Chg.refl _ _, hMm.kp (Kp.trans k1 k2), hMs.kp (Kp.trans k1 k2), fun n h => h, fun j hj => by omega, fun n h => .inl h⟩, ?_⟩
    rintro _ _ wr ⟨i, S1, hi, rfl, Cr, hMm1, hMs1, hsub, hdone, hclo⟩
    have Er := E2.chg Cr
    by_cases hlt : i < (nbL l c).length
    case neg =>
      have hlt' : ¬ (i : Int) < ((nbL l c).length : Int) := by omega
      rw [r_lss, decide_eq_false hlt', r_condF]
      refine ⟨C2'.trans Cr, S1, hMs1, .inr ⟨rfl, hMm1, hsub, fun n hn ha => ?_, hclo⟩⟩
      obtain ⟨j, hj, rfl⟩ := List.getElem_of_mem (nbL_mem.2 ⟨hn, ha⟩)
      have := hdone j (by omega)
      rwa [getD_lt _ _ _ hj] at this
    have hlt' : (i : Int) < ((nbL l c).length : Int) := by omega
    rw [r_lss, decide_eq_true hlt', r_condT]
    obtain ⟨hn, ha⟩ := nbL_mem.1 (getD_mem (d := (0, 0)) hlt)
    have hOr : ClAt w1.heap.size wr t13 (nbL l c) := RecAt.chg hO Cr fun k hk hs => by have := (RecAt.lt hO hk).1; omega
    have hnw : blackC ((nbL l c).getD i (0, 0)) = false := by have := ha.colour; rw [hcb] at this; simpa using this.symm
    refine r_joinW (fun w' => ∃ S2 : C2 → Bool, Chg (fun k => k = sb ∨ k = mb) w2 w' ∧ MapM w' mb μ ∧ MapS w' sb S2 ∧ (∀ n, S n = true → S2 n = true) ∧ (∀ j, j < i + 1 → S2 ((nbL l c).getD j (0, 0)) = true) ∧
        (∀ n, S2 n = true → S n = true ∨ (hasB l n.1 n.2 = true ∧ blackC n = false ∧ ∃ m, μ n = some m ∧ ∀ n' : C2, hasB l n'.1 n'.2 = true → adjC m n' → S2 n' = true))) ?_ fun kk hkk => ?_
    · rintro w' ⟨S2, g1, g2, g3, g4, g5, g6⟩
      rw [r_add _ _ (by omega) (by omega)]
      exact ⟨⟨i + 1, S2, by omega, by go_num, g1, g2, g3, g4, g5, g6⟩, by simp only [intOf]; omega⟩
    rw [cell_at (hOr.rd cC_len) hlt]
    generalize hnd : (nbL l c).getD i (0, 0) = n at *
    refine r_box fun b8 w3 e8 s8 h8 k3 => ?_
    have h8' : w3.heap[b8]? = some (.cells #[.int .i64 0, .int .i64 0] 43 (0, 0)) := h8
    have szr := Cr.size
    have sz2 := k2.size
    refine st43 h8' fun w4 c4 s4 h84 => ?_
    have kr4 : Kp wr w4 := Kp.of_chg k3 c4 fun q e => by omega
    have C4 : Chg (fun k => k = sb ∨ k = mb) w2 w4 := Cr.trans (Chg.of_kp kr4)
    have E4 := E2.chg C4
    have hMm4 := hMm1.kp kr4
    have hMs4 := hMs1.kp kr4
    have hb8 : wr.heap.size ≤ b8 := by omega
    have hb5 : b5 = w.heap.size := e5
    have cb : ∀ {w' : World} {b : Nat} {x : Value} {t : TypeId}, w'.heap[b]? = some (.cells #[x] t (0, 0)) → w'.cell? ⟨b, 0, none⟩ = some x := fun h => by rw [cell_row h]; rfl
    -- two cells are matched
    have fin : ∀ (w' : World) (μ1 : Mate) (S3 : C2 → Bool), Chg (fun k => k = sb ∨ k = mb) w2 w' → MapM w' mb μ1 → MapS w' sb S3 → w'.heap[b8]? = some (.cells #[.int .i64 n.1, .int .i64 n.2] 43 (0, 0)) →
        TryT (fun n => hasB l n.1 n.2 = true) D μ (fun n => S n = true) c (upC (upC μ1 n c) c n) → ¬ D c →
        (Drew w' fun w_1 => ∃ X : Nat → Prop,
            ld1 w_1 (ptrV b3) fun t37 =>
            ldN 2 w_1 (ptrV b8) fun t38 =>
            takeX X w_1 (fun w k => ld1 w (ptrV b3) k) fun t39 =>
            takeX X w_1 (fun w k => ldN 2 w (ptrV b5) k) fun t40 =>
            ldN 2 w_1 (ptrV b5) fun t41 =>
            takeX X w_1 (fun w k => ldN 2 w (ptrV b8) k) fun t42 =>
            semW Tryd.prog (muS 87 t37 t38 t41) w_1 <| keepX X w_1 fun _ w_2 =>
            semW Tryd.prog (muS 87 t39 t40 t42) w_2 fun _ w_3 =>
            TryPost l D μ S c sb mb w (.returned (.bool true)) w_3) := fun w' μ1 S3 C' hm hs h8w hT hDc => by
      refine r_drew fun w7 k7 _ => ⟨fun k => k = mb, ?_⟩
      have C7 := C'.trans (Chg.of_kp k7)
      have E7 := E2.chg C7
      have h57 : w7.heap[b5]? = _ := C7.at h52 fun e => by omega
      have h87 := block_below h8w k7
      have b8lt := Cr.size
      rw [r_ld (cb E7.mateb), c_box h87, r_txl (cb E7.mateb) (by show ¬ b3 = mb; exact E7.d3.2), r_txn (n := 2) h57 rfl (by omega), c_box h57, r_txn (n := 2) h87 rfl (by omega)]
      refine r_muO keyC und87 zero43 (hm.kp k7) (okN hn) fun w8 hM8 c8 s8 => ⟨BX.of_chg c8 fun k e => e, ?_⟩
      rw [upd_mate] at hM8
      refine r_muO keyC und87 zero43 hM8 (okN hc) fun w9 hM9 c9 s9 => ?_
      rw [upd_mate] at hM9
      have hS9 := ((hs.kp k7).chg c8 fun e => E.ne e).chg c9 fun e => E.ne e
      exact ⟨C2'.trans (C7.trans ((c8.trans c9).mono fun k _ e => .inr e)), S3, hS9, .inl ⟨rfl, hDc, _, hM9, hT⟩⟩
    rw [r_ld (cb E4.seenb), c_box h84, r_lkO keyC und79 zero4 hMs4 (okN hn), getD_fS]
    cases hq : S1 n with
    | true =>
      rw [r_condT]
      refine hkk _ ⟨S1, C4, hMm4, hMs4, hsub, fun j hj => ?_, hclo⟩
      by_cases e : j = i
      · rw [e, hnd]; exact hq
      · exact hdone j (by omega)
    | false =>
    rw [r_condF, r_ld (cb E4.seenb), c_box h84]
    refine r_muO keyC und79 zero4 hMs4 (okN hn) fun w5 hMs5 c5 s5' => ?_
    rw [upd_fS] at hMs5
    have C5 : Chg (fun k => k = sb ∨ k = mb) w2 w5 := C4.trans (c5.mono fun k _ e => .inl e)
    have E5 := E2.chg C5
    have hMm5 := hMm4.chg c5 fun e => E.ne e.symm
    have h85 : w5.heap[b8]? = _ := c5.at h84 (by omega)
    have hSn : ¬ S n = true := fun h => by rw [hsub n h] at hq; cases hq
    rw [r_ld (cb E5.mateb), c_box h85, r_lkO2 keyC und87 zero43 hMm5 (okN hn), r_ex2a, r_ex2b]
    refine r_box fun b9 w6 e9 s9 h9 k6 => ?_
    have h9' : w6.heap[b9]? = some (.cells #[.int .i64 0, .int .i64 0] 43 (0, 0)) := h9
    have hval : (Option.map cV (μ n)).getD (cV (0, 0)) = cV ((μ n).getD (0, 0)) := by cases μ n <;> rfl
    rw [hval]
    refine st43 h9' fun w7 c7 s7 h97 => ?_
    have k57 : Kp w5 w7 := Kp.of_chg k6 c7 fun q e => by omega
    have C7 := C5.trans (Chg.of_kp k57)
    have E7 := E2.chg C7
    have hMm7 := hMm5.kp k57
    have hMs7 := hMs5.kp k57
    have h87 := block_below h85 k57
    rw [r_not]
    cases hm : μ n with
    | none =>
      have e0 : (!(Option.map cV (none : Option C2)).isSome) = true := rfl
      rw [e0]
      simp only [r_gdTF, r_gdU, r_pickT, r_condT]
      refine fin w7 μ (setS S1 n) C7 hMm7 hMs7 h87 (try_free hM hD hc hcb hn ha hSn hpre hm) fun hDc => ?_
      obtain ⟨m, h1, _⟩ := hD.mw n (hD.nb c n hDc hcb hn ha) hnw
      rw [hm] at h1; cases h1
    | some m =>
      obtain ⟨_, hmR, hmn, hmm⟩ := hM n m hm
      have hmb : blackC m = true := by have := hmn.colour; rw [hnw] at this; simpa using this.symm
      have e0 : (!(Option.map cV (some m)).isSome) = false := rfl
      rw [e0]
      rw [hm] at h97
      have h97' : w7.heap[b9]? = some (.cells #[.int .i64 m.1, .int .i64 m.2] 43 (0, 0)) := h97
      simp only [r_gdFF, r_ld (cb E7.fn), c_box h97']
      refine r_use fok65 (ih (S := setS S1 n) (c := m) ?_ E7 hMm7 hMs7 hmR hmb fun n0 h0 => ?_) rfl ?_
      · have h1 := cntU_less hn hq
        have h2 := cntU_mono (l := l) hsub
        omega
      · rw [hmm] at h0
        injection h0 with h0
        rw [← h0]; simp [setS]
      rintro _ w8 ⟨C8, S3, hMs8, ⟨rfl, hDm, μ1, hMm8, hT⟩ | ⟨rfl, hMm8, hF⟩⟩
      · refine ⟨_, rfl, ?_⟩
        simp only [r_pickF, r_condT]
        have hDn : ¬ D n := fun hd => by
          obtain ⟨m', h1, h2⟩ := hD.mw n hd hnw
          rw [hm] at h1; injection h1 with h1
          exact hDm (by rw [h1]; exact h2)
        refine fin w8 μ1 S3 (C7.trans C8) hMm8 hMs8 (C8.at h87 fun e => by omega) ?_ fun hDc => hDn (hD.nb c n hDc hcb hn ha)
        exact try_on (seen1 := fun x => setS S1 n x = true) hM hc hcb hn ha hSn (by simp [setS]) (fun x hx => by simp [setS, hsub x hx]) hpre hm hDn hT
      · refine ⟨_, rfl, ?_⟩
        simp only [r_pickF, r_condF]
        have up : ∀ x, S1 x = true → S3 x = true := fun x hx => hF.sub x (by simp [setS, hx])
        have hn3 : S3 n = true := hF.sub n (by simp [setS])
        refine hkk _ ⟨S3, C7.trans C8, hMm8, hMs8, fun x hx => up x (hsub x hx), fun j hj => ?_, fun x hx => ?_⟩
        · by_cases e : j = i
          · rw [e, hnd]; exact hn3
          · exact up _ (hdone j (by omega))
        · have old : ∀ y, S1 y = true → S y = true ∨ (hasB l y.1 y.2 = true ∧ blackC y = false ∧ ∃ m, μ y = some m ∧ ∀ n' : C2, hasB l n'.1 n'.2 = true → adjC m n' → S3 n' = true) := fun y hy => by
            rcases hclo y hy with h | ⟨h1, h2, m', h3, h4⟩
            · exact .inl h
            · exact .inr ⟨h1, h2, m', h3, fun n' g1 g2 => up n' (h4 n' g1 g2)⟩
          rcases hF.clo x hx with h | h
          · unfold setS at h
            rw [Bool.or_eq_true] at h
            rcases h with h | h
            · exact old x h
            · obtain rfl := of_decide_eq_true h
              exact .inr ⟨hn, hnw, m, hm, fun n' g1 g2 => hF.near n' g1 g2⟩
          · exact .inr h

end Go.Proofs.YtbekeccfjmoonaaDoor
