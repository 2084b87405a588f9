/- Contract: the Laplacian of the program, whole. -/
import Derived.Test.YtkdcldbedbagjaaDoorKd
set_option linter.all false
namespace Go.Proofs.YtkdcldbedbagjaaDoor
open Go.Lf Go.RowKit Go.Dt

set_option maxRecDepth 100000 in
theorem st40 {w : World} {b : Nat} {x y : Value} {a c : Int} {K : World → Prop} (h : w.heap[b]? = some (.cells #[x, y] 40 (0, 0))) (hk : ∀ w', Chg (fun k => k = b) w w' → w'.heap.size = w.heap.size → w'.heap[b]? = some (.cells #[.int .i64 a, .int .i64 c] 40 (0, 0)) → K w') : stW Tryd.prog 40 (ptrV b) (wV a c) w K :=
  r_stAll (n := 2) (by kernel_rfl) rfl (by intro u hu; simp [Value.cells] at hu; rcases hu with rfl | rfl <;> rfl) h rfl fun w' h1 h2 h3 => hk w' h1 h2 h3

theorem wire_at {w : World} {v : Value} {ws : List Wr} (h : Rd 2 wN w v ws) {i : Nat} (hi : i < ws.length) : ∀ K : Value → Prop, (iaS 2 v (.int .i64 i) fun p => ldN 2 w p K) = K (wV (ws.getD i (0, 0)).1 (ws.getD i (0, 0)).2) := fun K => by
  obtain ⟨b, off, cap, e, _, hc⟩ := h.at (List.getElem?_eq_getElem hi)
  have hii : (i : Int).toNat = i := by omega
  rw [e, r_iaS _ _ _ _ _ _ _ (by omega) (by omega), hii, r_ldCells (n := 2) (l := wN ws[i]) rfl hc, getD_lt _ _ _ hi]
  rfl

theorem small16 {x : Int} (h : x.natAbs ≤ 16) : -16 ≤ x ∧ x ≤ 16 := by omega

set_option maxRecDepth 100000 in
set_option maxHeartbeats 2000000 in
theorem r71_1 {n : Nat} {wo : List Int} {ws : List Wr} {t1 t17 wv : Value} {F : List (List Int)} {w0 w1 : World} {R : Ending → World → Prop} (hn : n ≤ 1000) (hwo : RdInts w0 t1 wo) (hwl : wo.length ≤ 1000) (hwf : Wf n ws) (hws : ws.length ≤ 16)
    (hwv : Rd 2 wN w0 wv ws) (hF : IMat w0.heap.size w1 t17 F) (hFs : Sized n n F) (hF0 : ∀ a b, a < n → b < n → hat F a b = 0) (k01 : Kp w0 w1)
    (hR : ∀ v w', IMat w0.heap.size w' v (redM n wo (lap ws)) → Kp w0 w' → R (.returned v) w') : S71L1 t1 t17 wv (.int .i64 ws.length) R w1 := by
  obtain ⟨fa, fc, ef, _⟩ := hF.len
  have lnF : ∀ K : Value → Prop, ln1 t17 K = K (.int .i64 n) := fun K => by rw [ef, hFs.1]; rfl
  unfold S71L1
  refine ⟨fun t33 wr => ∃ (k : Nat) (F' : List (List Int)), k ≤ ws.length ∧ t33 = .int .i64 k ∧ IMat w0.heap.size wr t17 F' ∧ Sized n n F' ∧ (∀ a b, a < n → b < n → hat F' a b = lap (ws.take k) a b) ∧ Kp w0 wr, fun t33 _ => ws.length - (intOf t33).toNat,
    ⟨0, F, by omega, rfl, hF, hFs, fun a b ha hb => by rw [hF0 a b ha hb]; rfl, k01⟩, ?_⟩
  rintro _ _ wr ⟨k, F', hk, rfl, hM, hS, hL, kr⟩
  have hsz := kr.size
  by_cases hlt : k < ws.length
  case neg =>
    have hlt' : ¬ (k : Int) < (ws.length : Int) := by omega
    simp only [r_lss, hlt', decide_false, r_condF]
    rw [List.take_of_length_le (by omega)] at hL
    rw [lnF]
    refine r71_2 (f := lap ws) hn (hwo.below kr) hwl hM hS hL fun v w' o1 k1 => hR v w' (o1.down hsz) (Kp.trans kr k1)
  have hlt' : (k : Int) < (ws.length : Int) := by omega
  simp only [r_lss, decide_eq_true hlt', r_condT]
  have hmem : ws.getD k (0, 0) ∈ ws := getD_mem hlt
  obtain ⟨hA, hB, hne⟩ := hwf _ hmem
  have hbound : ∀ a b, (lap (ws.take k) a b).natAbs ≤ 16 := fun a b => by
    have := lap_abs (n := n) (l := ws.take k) (fun x hx => hwf x (List.mem_of_mem_take hx)) a b
    rw [List.length_take] at this
    omega
  have hsn : ∀ a b, lap (ws.take (k + 1)) a b = lap (ws.take k) a b + ends (ws.getD k (0, 0)) a * ends (ws.getD k (0, 0)) b := fun a b => by
    rw [take_succ' _ _ hlt, lap_snoc, getD_lt _ _ _ hlt]
  rw [wire_at (hwv.kp kr) hlt]
  generalize ws.getD k (0, 0) = e at *
  obtain ⟨A, B⟩ := e
  dsimp only at hA hB hne hsn
  refine r_box fun b8 w2 e8 s8 h8 k2 => ?_
  have h8' : w2.heap[b8]? = some (.cells #[.int .i64 0, .int .i64 0] 40 (0, 0)) := h8
  refine st40 h8' fun w3 c3 s3 h83 => ?_
  have k3 : Kp wr w3 := Kp.of_chg k2 c3 fun q e => by omega
  have hM3 := hM.kp k3
  have hw3 := k3.size
  -- what the box and the rows are in
  have ne8 : ∀ {w : World} {d : Nat} {x y : Value}, w.heap[b8]? = some (.cells #[x, y] 40 (0, 0)) → (∃ cur, w.heap[d]? = some (.cells cur 3 (0, 0))) → ¬ b8 = d := by
    rintro w d x y h ⟨cur, hc⟩ rfl
    rw [h] at hc
    injection hc with hc
    injection hc with _ hc _
    exact absurd hc (by decide)
  have step : ∀ {w : World} {d j : Nat} {x : Int}, w0.heap.size ≤ d → Kp w0 w → Kp w0 (w.setCell ⟨d, j, none⟩ (.int .i64 x)) := fun {w d j x} hd hk =>
    Kp.of_chg hk (Chg.setCell (S := fun k => k = d) w (p := ⟨d, j, none⟩) _ rfl) fun q e => by omega
  have keep8 : ∀ {w : World} {d j : Nat} {x : Int}, w.heap[b8]? = some (.cells #[.int .i64 A, .int .i64 B] 40 (0, 0)) → (∃ cur, w.heap[d]? = some (.cells cur 3 (0, 0))) → (w.setCell ⟨d, j, none⟩ (.int .i64 x)).heap[b8]? = some (.cells #[.int .i64 A, .int .i64 B] 40 (0, 0)) := fun {w d j x} h hc =>
    (Chg.setCell (S := fun k => k = d) w (p := ⟨d, j, none⟩) _ rfl).at h (ne8 h hc)
  have cA : ∀ {w : World}, w.heap[b8]? = some (.cells #[.int .i64 A, .int .i64 B] 40 (0, 0)) → w.cell? ⟨b8, 0 + 0, none⟩ = some (.int .i64 A) := fun h => by rw [cell_row h]; rfl
  have cB : ∀ {w : World}, w.heap[b8]? = some (.cells #[.int .i64 A, .int .i64 B] 40 (0, 0)) → w.cell? ⟨b8, 0 + 1, none⟩ = some (.int .i64 B) := fun h => by rw [cell_row h]; rfl
  have bA := small16 (hbound A A)
  have bB := small16 (hbound B B)
  have bAB := small16 (hbound A B)
  have bBA := small16 (hbound B A)
  have k03 := Kp.trans kr k3
  -- A A
  refine r_drew fun w4 k4 _ => ?_
  have h84 := block_below h83 k4
  have k04 := Kp.trans k03 k4
  obtain ⟨u1, d1, lu1, iu1, c1, f1, hb1, hc1, put1⟩ := (hM3.kp k4).bump hS hA hA hL
  rw [r_fa, r_ld (cA h84), lu1, r_fa, r_ld (cA h84), iu1, r_ld c1, r_add _ _ (by omega) (by omega), iu1, st3 c1 f1]
  obtain ⟨F1, hM5, hS5, hL5⟩ := put1 (lap (ws.take k) A A + 1)
  have k05 := step (j := A) (x := lap (ws.take k) A A + 1) hb1 k04
  have h85 := keep8 (j := A) (x := lap (ws.take k) A A + 1) h84 hc1
  generalize w4.setCell ⟨d1, A, none⟩ (.int .i64 (lap (ws.take k) A A + 1)) = w5 at *
  -- B B
  refine r_drew fun w6 k6 _ => ?_
  have h86 := block_below h85 k6
  have k06 := Kp.trans k05 k6
  obtain ⟨u2, d2, lu2, iu2, c2, f2, hb2, hc2, put2'⟩ := (hM5.kp k6).bump hS5 hB hB hL5
  rw [if_neg (by omega)] at c2
  rw [r_fa, r_ld (cB h86), lu2, r_fa, r_ld (cB h86), iu2, r_ld c2, r_add _ _ (by omega) (by omega), iu2, st3 c2 f2]
  obtain ⟨F2, hM7, hS7, hL7⟩ := put2' (lap (ws.take k) B B + 1)
  have k07 := step (j := B) (x := lap (ws.take k) B B + 1) hb2 k06
  have h87 := keep8 (j := B) (x := lap (ws.take k) B B + 1) h86 hc2
  generalize w6.setCell ⟨d2, B, none⟩ (.int .i64 (lap (ws.take k) B B + 1)) = w7 at *
  -- A B
  refine r_drew fun w8 k8 _ => ?_
  have h88 := block_below h87 k8
  have k08 := Kp.trans k07 k8
  obtain ⟨u3, d3, lu3, iu3, c3', f3, hb3, hc3, put3⟩ := (hM7.kp k8).bump hS7 hA hB hL7
  rw [if_neg (by omega), if_neg (by omega)] at c3'
  rw [r_fa, r_ld (cA h88), lu3, r_fa, r_ld (cB h88), iu3, r_ld c3', r_sub _ _ (by omega) (by omega), iu3, st3 c3' f3]
  obtain ⟨F3, hM9, hS9, hL9⟩ := put3 (lap (ws.take k) A B - 1)
  have k09 := step (j := B) (x := lap (ws.take k) A B - 1) hb3 k08
  have h89 := keep8 (j := B) (x := lap (ws.take k) A B - 1) h88 hc3
  generalize w8.setCell ⟨d3, B, none⟩ (.int .i64 (lap (ws.take k) A B - 1)) = w9 at *
  -- B A
  refine r_drew fun wa ka _ => ?_
  have h8a := block_below h89 ka
  have k0a := Kp.trans k09 ka
  obtain ⟨u4, d4, lu4, iu4, c4, f4, hb4, hc4, put4⟩ := (hM9.kp ka).bump hS9 hB hA hL9
  rw [if_neg (by omega), if_neg (by omega), if_neg (by omega)] at c4
  rw [r_fa, r_ld (cB h8a), lu4, r_fa, r_ld (cA h8a), iu4, r_ld c4, r_sub _ _ (by omega) (by omega), iu4, st3 c4 f4]
  obtain ⟨F4, hMb, hSb, hLb⟩ := put4 (lap (ws.take k) B A - 1)
  have k0b := step (j := A) (x := lap (ws.take k) B A - 1) hb4 k0a
  rw [r_add _ _ (by omega) (by omega)]
  refine ⟨⟨k + 1, F4, by omega, by go_num, hMb, hSb, fun a b ha hb => ?_, k0b⟩, by simp only [intOf]; omega⟩
  rw [hLb a b ha hb, hsn]
  simp only [ends, unit]
  by_cases a1 : a = A
  · by_cases b1 : b = A
    · subst a1; subst b1
      rw [if_neg (by omega), if_neg (by omega), if_neg (by omega), if_pos ⟨rfl, rfl⟩, if_pos rfl, if_neg hne]; omega
    · by_cases b2 : b = B
      · subst a1; subst b2
        rw [if_neg (by omega), if_pos ⟨rfl, rfl⟩, if_pos rfl, if_neg hne, if_neg (Ne.symm hne), if_pos rfl]; omega
      · rw [if_neg (by omega), if_neg (by omega), if_neg (by omega), if_neg (by omega), if_neg b1, if_neg b2]; omega
  · by_cases a2 : a = B
    · by_cases b1 : b = A
      · subst a2; subst b1
        rw [if_pos ⟨rfl, rfl⟩, if_neg (Ne.symm hne), if_pos rfl, if_pos rfl, if_neg hne]; omega
      · by_cases b2 : b = B
        · subst a2; subst b2
          rw [if_neg (by omega), if_neg (by omega), if_pos ⟨rfl, rfl⟩, if_neg (Ne.symm hne), if_pos rfl]; omega
        · rw [if_neg (by omega), if_neg (by omega), if_neg (by omega), if_neg (by omega), if_neg b1, if_neg b2]; omega
    · rw [if_neg (by omega), if_neg (by omega), if_neg (by omega), if_neg (by omega), if_neg a1, if_neg a2]; omega

set_option maxRecDepth 100000 in
set_option maxHeartbeats 2000000 in
theorem lap_calls {n : Nat} {wo : List Int} {ws : List Wr} {t1 wv : Value} (w : World) (hn : n ≤ 1000) (hwo : RdInts w t1 wo) (hwl : wo.length ≤ 1000) (hwf : Wf n ws) (hws : ws.length ≤ 16) (hwv : Rd 2 wN w wv ws) :
    Calls Tryd.prog 71 #[netV n wv, t1] w fun e w' => ∃ v, e = .returned v ∧ IMat w.heap.size w' v (redM n wo (lap ws)) ∧ Kp w w' := by
  obtain ⟨wa, wc, ewv, _⟩ := hwv.len
  have lnw : ∀ K : Value → Prop, ln1 wv K = K (.int .i64 ws.length) := fun K => by rw [ewv]; rfl
  refine lift71 ?_
  unfold S71
  refine r_box fun b2 w1 e2 s2 h2 k1 => ?_
  have h2' : w1.heap[b2]? = some (.cells #[.int .i64 n, wv] 80 (0, 0)) := h2
  have c0 : ∀ {w : World}, w.heap[b2]? = some (.cells #[.int .i64 n, wv] 80 (0, 0)) → w.cell? ⟨b2, 0 + 0, none⟩ = some (.int .i64 n) := fun h => by rw [cell_row h]; rfl
  have c1 : ∀ {w : World}, w.heap[b2]? = some (.cells #[.int .i64 n, wv] 80 (0, 0)) → w.cell? ⟨b2, 0 + 1, none⟩ = some wv := fun h => by rw [cell_row h]; rfl
  rw [r_fa, r_ld (c0 h2')]
  refine mk52 (by omega) fun t17 w2 o2 k2 => ?_
  obtain ⟨oa, oc, e17, _⟩ := o2.len
  rw [List.length_replicate] at e17
  have ln17 : ∀ K : Value → Prop, ln1 t17 K = K (.int .i64 n) := fun K => by rw [e17]; rfl
  rw [ln17]
  unfold S71L0
  refine ⟨fun t20 wr => ∃ (k : Nat) (vs : List Value), k ≤ n ∧ t20 = .int .i64 k ∧ Part w1.heap.size wr t17 vs n k ∧ Kp w1 wr, fun t20 _ => n - (intOf t20).toNat,
    ⟨0, _, by omega, rfl, ⟨o2, by simp, fun i u h => by omega, fun i j u u' q h => by omega⟩, k2⟩, ?_⟩
  rintro _ _ wr ⟨k, vs, hk, rfl, hP, kr⟩
  have h2r := block_below h2' kr
  have hszr := kr.size
  by_cases hlt : k < n
  case neg =>
    have hlt' : ¬ (k : Int) < (n : Int) := by omega
    obtain rfl : k = n := by omega
    simp only [r_lss, hlt', decide_false, r_condF]
    rw [r_fa, r_ld (c1 h2r), lnw]
    have hM : IMat w1.heap.size wr t17 (List.replicate k (List.replicate k 0)) := ⟨vs, hP.out, by rw [List.length_replicate]; exact hP.len, fun i u r hu hr => by
      have hi := (List.getElem?_eq_some_iff.1 hu).1
      rw [hP.len] at hi
      rw [List.getElem?_replicate, if_pos hi] at hr
      cases hr
      exact hP.rows i u hi hu, fun i j u u' q hu hu' h1 h2 => by
      have hi := (List.getElem?_eq_some_iff.1 hu).1
      have hj := (List.getElem?_eq_some_iff.1 hu').1
      rw [hP.len] at hi hj
      exact hP.apart i j u u' q hi hj hu hu' h1 h2⟩
    refine r71_1 (w0 := w1) hn (hwo.below k1) hwl hwf hws (hwv.kp k1) hM (zeros_sized k) (fun a b _ _ => zeros_hat k a b) kr fun v w' o k' => ⟨v, rfl, o.down (by omega), Kp.trans k1 k'⟩
  have hlt' : (k : Int) < (n : Int) := by omega
  simp only [r_lss, decide_eq_true hlt', r_condT]
  rw [r_fa, r_ld (c0 h2r)]
  refine mk34' (by omega) fun t27 w3 o3 k3 hb3 => ?_
  obtain ⟨pa, pc, e27, _⟩ := o3.len
  have hPo := hP.out.kp k3
  have hlk : k < vs.length := by rw [hP.len]; exact hlt
  obtain ⟨g, cap, ev, hbg, ⟨x, hx⟩, hfr, hset⟩ := RecAt.set (j := 0) (p' := t27) (u := t27) vE_len hPo (List.getElem?_eq_getElem hlk) (by omega) rfl
  simp only [Nat.mul_one, Nat.add_zero] at hx hfr hset
  have hkk : (k : Int).toNat = k := by omega
  rw [hP.len] at ev
  have hgo : t17.ownBlock = some g := by rw [ev]; rfl
  have ia : ∀ K : Value → Prop, iaS 1 t17 (.int .i64 k) K = K (.pointer (some ⟨g, k, none⟩)) := fun K => by rw [ev, r_iaS _ _ _ _ _ _ _ (by omega) (by omega), hkk, Nat.mul_one, Nat.zero_add]
  have hst : ∀ K : World → Prop, stW Tryd.prog 34 (.pointer (some ⟨g, k, none⟩)) t27 w3 K = K (w3.setCell ⟨g, k, none⟩ t27) := fun K => by rw [e27]; exact st34 hx hfr
  rw [ia, hst, r_add _ _ (by omega) (by omega)]
  have hch : Chg (fun q => q = g) w3 (w3.setCell ⟨g, k, none⟩ t27) := Chg.setCell _ _ rfl
  refine ⟨⟨k + 1, _, by omega, by go_num, ⟨hset, by rw [List.length_set]; exact hP.len, fun i u hi hu => ?_, fun i j u u' q hi hj hu hu' h1 h2 => ?_⟩, Kp.of_chg (Kp.trans kr k3) hch fun q e => by omega⟩, by simp only [intOf]; omega⟩
  · by_cases e : i = k
    · subst e
      rw [List.getElem?_set_self hlk] at hu
      cases hu
      exact (o3.chg hch fun q hq e => rec_ne o3 hPo (by decide) q hq (by rw [e]; exact hgo)).down (by omega)
    · rw [List.getElem?_set_ne (Ne.symm e)] at hu
      have I := (hP.rows i u (by omega) hu).kp k3
      exact I.chg hch fun q hq e => rec_ne I hPo (by decide) q hq (by rw [e]; exact hgo)
  · have old : ∀ (i : Nat) u, i < k → vs[i]? = some u → u.ownBlock = some q → q < wr.heap.size := fun i u hi hu h => ((hP.rows i u hi hu).lt h).2
    have new : t27.ownBlock = some q → wr.heap.size ≤ q := fun h => by rw [hb3] at h; injection h with h; omega
    by_cases e : i = k
    · subst e
      rw [List.getElem?_set_self hlk] at hu
      cases hu
      by_cases e' : j = i
      · exact e'.symm
      · rw [List.getElem?_set_ne (Ne.symm e')] at hu'
        have := new h1; have := old j u' (by omega) hu' h2; omega
    · rw [List.getElem?_set_ne (Ne.symm e)] at hu
      by_cases e' : j = k
      · subst e'
        rw [List.getElem?_set_self hlk] at hu'
        cases hu'
        have := new h2; have := old i u (by omega) hu h1; omega
      · rw [List.getElem?_set_ne (Ne.symm e')] at hu'
        exact hP.apart i j u u' q (by omega) (by omega) hu hu' h1 h2

end Go.Proofs.YtkdcldbedbagjaaDoor
