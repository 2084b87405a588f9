/- Contract: Through of the program. -/
import Derived.Test.YtkdcldbedbagjaaDoorKi
set_option linter.all false
namespace Go.Proofs.YtkdcldbedbagjaaDoor
open Go.Lf Go.RowKit Go.Dt

theorem cnt_pow : ∀ (l : List Wr) (P : List Wr → Prop), cnt P l ≤ 2 ^ l.length
  | [], P => by unfold cnt; split <;> simp
  | e :: l, P => by
    unfold cnt
    have h1 := cnt_pow l P
    have h2 := cnt_pow l fun s => P (e :: s)
    rw [List.length_cons, Nat.pow_succ]
    omega
theorem cnt_small {l : List Wr} (h : l.length ≤ 16) (P : List Wr → Prop) : cnt P l ≤ 65536 :=
  Nat.le_trans (cnt_pow l P) (Nat.pow_le_pow_right (by omega) h)
theorem trees_small {n : Nat} {l : List Wr} (h : l.length ≤ 16) : trees n l ≤ 65536 := cnt_small h _
theorem volt_small {n : Nat} {l : List Wr} {s t : Nat} (h : l.length ≤ 16) : volt n l s t ≤ 65536 := cnt_small h _
theorem pot_small {n : Nat} {l : List Wr} {s t v : Nat} (h : l.length ≤ 16) : pot n l s t v ≤ 65536 := Nat.le_trans pot_le (volt_small h)

noncomputable def flowC (n : Nat) (ws : List Wr) (s t : Nat) : List Int := ws.map fun e => (pot n ws s t e.1 : Int) - pot n ws s t e.2
theorem flowC_at {n : Nat} {ws : List Wr} {s t k : Nat} (hk : k < ws.length) : (flowC n ws s t).getD k 0 = (pot n ws s t (ws.getD k (0, 0)).1 : Int) - pot n ws s t (ws.getD k (0, 0)).2 := by
  unfold flowC
  rw [List.getD_eq_getElem?_getD, List.getElem?_map, List.getElem?_eq_getElem hk, getD_lt _ _ _ hk]; rfl

/-- Through's error, total, voltage and currents. -/
noncomputable def thE (n : Int) (L : List (Int × Int)) (s t : Int) : Int := if endErr n L s t = 0 then (if trees n.toNat (L.map natW) = 0 then 10 else 0) else endErr n L s t
noncomputable def thT (n : Int) (L : List (Int × Int)) (s t : Int) : Int := if thE n L s t = 0 then trees n.toNat (L.map natW) else 0
noncomputable def thV (n : Int) (L : List (Int × Int)) (s t : Int) : Int := if thE n L s t = 0 then volt n.toNat (L.map natW) s.toNat t.toNat else 0
noncomputable def thC (n : Int) (L : List (Int × Int)) (s t : Int) : List Int := if thE n L s t = 0 then flowC n.toNat (L.map natW) s.toNat t.toNat else []

theorem flow_box {w : World} {b : Nat} {x : Value} {p q : Int} (h : w.heap[b]? = some (.cells #[x, .int .i64 p, .int .i64 q] 36 (0, 0))) (K : Value → Prop) : ldN 3 w (ptrV b) K = K (flV x p q) := r_ldRow h rfl

theorem type_ne {w : World} {a b : Nat} {cs cs' : Array Value} {t t' : TypeId} (h : w.heap[a]? = some (.cells cs t (0, 0))) (h' : w.heap[b]? = some (.cells cs' t' (0, 0))) (hne : t ≠ t') : a ≠ b := by
  rintro rfl
  rw [h] at h'
  injection h' with h'
  injection h' with _ h' _
  exact hne h'

set_option maxRecDepth 100000 in
set_option maxHeartbeats 2000000 in
/-- The currents. -/
theorem r22_1 {n s t b8 b12 b41 : Nat} {ws : List Wr} {t1 t41 : Value} {H : List Int} {w0 w1 : World} {p q : Int} {R : Ending → World → Prop} (hN : NetOk n ws) (hwv : Rd 2 wN w0 t1 ws) (h41 : IntsAt b41 w1 t41 H) (hHl : H.length = n) (hH : ∀ v, v < n → H.getD v 0 = pot n ws s t v)
    (h8 : w1.heap[b8]? = some (.cells #[nilS, .int .i64 0, .int .i64 0] 36 (0, 0))) (h12 : w1.heap[b12]? = some (.cells #[nilS, .int .i64 p, .int .i64 q] 36 (0, 0))) (h812 : b8 ≠ b12) (h08 : w0.heap.size ≤ b8) (h012 : w0.heap.size ≤ b12) (k01 : Kp w0 w1)
    (hR : ∀ cv w', Kp w0 w' → IntsAt w0.heap.size w' cv (flowC n ws s t) → R (.returned (.tuple #[flV cv p q, .int .i64 0])) w') : S22L1 t1 (ptrV b8) (ptrV b12) t41 (.int .i64 ws.length) R w1 := by
  have hfew := hN.few
  have hmost := hN.most
  unfold S22L1
  refine ⟨fun t57 wr => ∃ (k : Nat) (cv : Value), k ≤ ws.length ∧ t57 = .int .i64 k ∧ IntsAt w1.heap.size wr cv ((flowC n ws s t).take k) ∧ wr.heap[b12]? = some (.cells #[cv, .int .i64 p, .int .i64 q] 36 (0, 0)) ∧ wr.heap[b8]? = some (.cells #[nilS, .int .i64 0, .int .i64 0] 36 (0, 0)) ∧ IntsAt b41 wr t41 H ∧ Kp w0 wr ∧ w1.heap.size ≤ wr.heap.size, fun t57 _ => ws.length - (intOf t57).toNat,
    ⟨0, nilS, by omega, rfl, RecAt.nil, h12, h8, h41, k01, Nat.le_refl _⟩, ?_⟩
  rintro _ _ wr ⟨k, cv, hk, rfl, hC, g12, g8, g41, kr, hszr⟩
  have hfl : (flowC n ws s t).length = ws.length := by simp [flowC]
  have hsz0 := kr.size
  have hsz1 := k01.size
  obtain ⟨ca, cc, ecv, _⟩ := hC.len
  by_cases hlt : k < ws.length
  case neg =>
    have hlt' : ¬ (k : Int) < (ws.length : Int) := by omega
    rw [List.take_of_length_le (by omega)] at hC
    simp only [r_lss, hlt', decide_false, r_condF]
    rw [flow_box g12, ecv]
    refine st36 g8 fun w2 c2 s2 h2 => ?_
    rw [flow_box h2, ← ecv]
    refine hR cv w2 (Kp.of_chg kr c2 fun q e => by omega) ((hC.chg c2 fun k hk e => ?_).down hsz1)
    obtain ⟨cur, hcur⟩ := own_type hC hk
    exact type_ne hcur g8 (by decide) e
  have hlt' : (k : Int) < (ws.length : Int) := by omega
  simp only [r_lss, decide_eq_true hlt', r_condT]
  obtain ⟨hA, hB, hne⟩ := hN.wf _ (getD_mem (d := (0, 0)) hlt)
  have hcur := flowC_at (n := n) (s := s) (t := t) hlt
  rw [wire_at (hwv.kp kr) hlt]
  generalize ws.getD k (0, 0) = e at *
  obtain ⟨A, B⟩ := e
  dsimp only at hA hB hne hcur
  refine r_box fun b16 w2 e16 s16 h16 k2 => ?_
  have h16' : w2.heap[b16]? = some (.cells #[.int .i64 0, .int .i64 0] 40 (0, 0)) := h16
  refine st40 h16' fun w3 c3 s3 h163 => ?_
  have k3 : Kp wr w3 := Kp.of_chg k2 c3 fun q e => by omega
  refine r_drew fun w4 k4 _ => ?_
  have k34 := Kp.trans k3 k4
  have h164 := block_below h163 k4
  have g124 := block_below g12 k34
  have g84 := block_below g8 k34
  have c12 : w4.cell? ⟨b12, 0 + 0, none⟩ = some cv := by rw [cell_row g124]; rfl
  have cA : w4.cell? ⟨b16, 0 + 0, none⟩ = some (.int .i64 A) := by rw [cell_row h164]; rfl
  have cB : w4.cell? ⟨b16, 0 + 1, none⟩ = some (.int .i64 B) := by rw [cell_row h164]; rfl
  have g414 := g41.kp k34
  have s1 := pot_small (n := n) (s := s) (t := t) (v := A) hfew
  have s2 := pot_small (n := n) (s := s) (t := t) (v := B) hfew
  rw [r_fa, r_ld c12, r_fa, r_ld cA, own_ldK g414 (by omega), r_fa, r_ld cB, own_ldK g414 (by omega), hH A hA, hH B hB, r_sub _ _ (by omega) (by omega), ← hcur]
  have hC4 := hC.kp k34
  have hsz4 := k34.size
  have push := r_pushRec (x := (flowC n ws s t).getD k 0) (w := w4) (base := w1.heap.size) (K := fun t75 w => fa1 (ptrV b12) 0 fun t76 => stW Tryd.prog 34 t76 t75 w fun w => binQ Tryd.prog w .add 3 true (.int .i64 k) (.int .i64 1) fun t77 => (∃ (k : Nat) (cv : Value), k ≤ ws.length ∧ t77 = .int .i64 k ∧ IntsAt w1.heap.size w cv ((flowC n ws s t).take k) ∧ w.heap[b12]? = some (.cells #[cv, .int .i64 p, .int .i64 q] 36 (0, 0)) ∧ w.heap[b8]? = some (.cells #[nilS, .int .i64 0, .int .i64 0] 36 (0, 0)) ∧ IntsAt b41 w t41 H ∧ Kp w0 w ∧ w1.heap.size ≤ w.heap.size) ∧ ws.length - (intOf t77).toNat < ws.length - (intOf (.int .i64 (k : Int))).toNat)
    (ty := 34) (xv := .int .i64 ((flowC n ws s t).getD k 0)) slt34 iC_len rfl (bs34 _ _ _) (by intro u hu; simp [iC] at hu; rw [hu]; rfl) (by omega) hC4 (by rw [List.length_take]; omega) (by omega) fun v' w' o1 c1 o2 => by
      have hown : ∀ k, cv.ownBlock = some k → ∃ cur, w4.heap[k]? = some (.cells cur 3 (0, 0)) := fun k hk => own_type hC4 hk
      have g12' := c1.at g124 fun h => by obtain ⟨cur, hc⟩ := hown _ h; exact type_ne hc g124 (by decide) rfl
      have g8' := c1.at g84 fun h => by obtain ⟨cur, hc⟩ := hown _ h; exact type_ne hc g84 (by decide) rfl
      have c12' : w'.cell? ⟨b12, 0 + 0, none⟩ = some cv := by rw [cell_row g12']; rfl
      obtain ⟨va, vc, ev', _⟩ := o1.len
      rw [r_fa, ev', st34 c12' (frozen_row g12'), ← ev', r_add _ _ (by omega) (by omega)]
      have c2 : Chg (fun k => k = b12) w' (w'.setCell ⟨b12, 0 + 0, none⟩ v') := Chg.setCell _ _ rfl
      have k04 := Kp.trans kr k34
      have k0' : Kp w0 w' := Kp.of_chg k04 c1 fun i hi => by have := (hC4.lt hi).1; omega
      refine ⟨⟨k + 1, v', by omega, by go_num, ?_, ?_, c2.at g8' (by omega), ?_, Kp.of_chg k0' c2 fun q e => by omega, by have := c1.size; have := c2.size; omega⟩, by simp only [intOf]; omega⟩
      · rw [take_succ' _ _ (by omega), ← getD_lt _ _ 0 (by omega)]
        refine o1.chg c2 fun k hk e => ?_
        obtain ⟨cur, hc⟩ := own_type o1 hk
        exact type_ne hc g12' (by decide) e
      · rw [setCell_block g12' rfl]; rfl
      · -- the potentials stay
        refine (g414.chg c1 fun k hk e => ?_).chg c2 fun k hk e => ?_
        · have := (h41.lt hk).2; have := (hC4.lt e).1; omega
        · obtain ⟨cur, hc⟩ := own_type (g414.chg c1 fun k hk e => by have := (h41.lt hk).2; have := (hC4.lt e).1; omega) hk
          exact type_ne hc g12' (by decide) e
  rw [bs34] at push ⊢
  exact r_keep (below_alloc _) push

end Go.Proofs.YtkdcldbedbagjaaDoor
