/- Texts of my own, merged by program: N4 N5 J11. -/
import Derived.Test.YtgalbokmgffhkaaM19
import Derived.Test.YtgalbokmgffhkaaM12
import Derived.Test.YtgalbokmgffhkaaM11
import Derived.Test.YtgalbokmgffhkaaM15
import Derived.Test.YtgalbokmgffhkaaM14
import Derived.Test.YtgalbokmgffhkaaM17
set_option linter.all false
/- Contracts: closed, Closed of the program. -/
namespace Go.Proofs.Ytgalbokmgffhkaa
open Go.Lf Go.RowKit Go.Wg

theorem closeF_state {N h : Nat} {C : List Line} (hC : LnOk N C) (M : List Line) (hM : ∀ x ∈ M, x ∈ C) : (M.foldl (closeF N h C) (0, List.replicate N false)).2.length = N ∧ 0 ≤ (M.foldl (closeF N h C) (0, List.replicate N false)).1 ∧ (M.foldl (closeF N h C) (0, List.replicate N false)).1 ≤ 1099511627777 := by
  have hf : ∀ a, (List.replicate N false).getD a false = false := fun a => by
    rw [List.getD_eq_getElem?_getD, List.getElem?_replicate]
    split <;> rfl
  obtain ⟨h1, h2, _⟩ := closeF_exact (h := h) hC M (0, List.replicate N false) hM (by simp) (by
    rw [tot_zero fun a _ => by rw [hf]; rfl]; rfl)
  refine ⟨h1, ?_, ?_⟩
  · rw [h2]; unfold capI; omega
  · rw [h2]; unfold capI; omega

set_option maxRecDepth 100000 in
theorem st78_box {w : World} {b : Nat} {x : Line} {K : World → Prop} (hb : w.heap[b]? = some (.cells (lnV ([0, 0, 0, 0], 0, 0, false)).cells 78 (0, 0))) (h0 : w.heap.size = b + 1)
    (hk : ∀ w', Chg (fun k => k = b) w w' → w'.heap[b]? = some (.cells (lnV x).cells 78 (0, 0)) → K w') : stW Try.prog 78 (.pointer (some ⟨b, 0, none⟩)) (lnV x) w K :=
  r_stAll (n := 7) (ty := 78) (by kernel_rfl) rfl (by intro u hu; simp [Value.cells] at hu; rcases hu with rfl | rfl | rfl | rfl | rfl | rfl | rfl <;> rfl) hb rfl fun w3 cg3 s3 h73 => hk w3 cg3 h73

set_option maxRecDepth 100000 in
set_option maxHeartbeats 1000000 in
theorem r86_1 {cv sv dv : Value} {C : List Line} {W h N b : Nat} {w1 w : World} {R : Ending → World → Prop} (hW : 1 ≤ W ∧ W ≤ 4) (eN : N = 8 ^ W) (hh : h ≤ 4) (hC : LnOk N C) (hCl : C.length ≤ 100000) (hcv : RdL w1 cv C) (hsv : BoolsAt b w1 sv (southL N C)) (hdv : BoolsAt w1.heap.size w dv (List.replicate N false)) (hk : Kp w1 w)
    (hR : ∀ w', Kp w1 w' → R (.returned (.int .i64 (closedS N h C).1)) w') : S86L1 (.int .i64 W) (.int .i64 h) cv sv dv (.int .i64 C.length) R w := by
  have hN : N ≤ 4096 := by rw [eN]; exact pow8N_le hW.2
  unfold S86L1
  refine ⟨fun t11 t39 wr => ∃ i : Nat, i ≤ C.length ∧ t39 = .int .i64 i ∧ t11 = .int .i64 ((C.take i).foldl (closeF N h C) (0, List.replicate N false)).1 ∧ BoolsAt w1.heap.size wr dv ((C.take i).foldl (closeF N h C) (0, List.replicate N false)).2 ∧ Kp w1 wr, fun _ t39 _ => C.length - (intOf t39).toNat, ⟨0, by omega, rfl, rfl, hdv, hk⟩, ?_⟩
  rintro _ _ _ wr ⟨i, hi, rfl, rfl, hdr, kr⟩
  by_cases hlt : i < C.length
  case neg =>
    have hlt' : ¬ (i : Int) < (C.length : Int) := by omega
    rw [List.take_of_length_le (by omega)]
    simp (disch := omega) only [r_ln, r_pick, r_pickT, r_pickF, r_condT, r_condF, r_gdTT, r_gdFF, r_gdTF, r_gdFT, r_gqTT, r_gqFF, r_gqTF, r_gqFT, r_not, r_lss, r_leq, r_gtr, r_geq, r_eql, r_neq, r_add, r_sub, r_min2, r_max2, r_min3, r_max3, r_fa, r_iaS, r_iaA, r_ex2a, r_ex2b, r_ex3a, r_ex3b, r_ex3c, r_nc, r_keepE, Nat.zero_add, Nat.add_zero, Nat.mul_one, Int.toNat_natCast, toNat_sub1, toNat_add1, decide_true, decide_false, Bool.not_true, Bool.not_false, if_true, if_false, Bool.false_eq_true, reduceCtorEq, hlt']
    exact hR wr kr
  have hlt' : (i : Int) < (C.length : Int) := by omega
  obtain ⟨y1, y2, y3⟩ := closeF_state (h := h) hC (C.take i) fun x hx => List.mem_of_mem_take hx
  have htake : ∀ s, (C.take (i + 1)).foldl (closeF N h C) s = closeF N h C ((C.take i).foldl (closeF N h C) s) C[i] := fun s => by
    rw [take_succ' _ _ hlt, List.foldl_append]; rfl
  simp (disch := omega) only [r_lss, decide_eq_true hlt', r_condT]
  have hx : C[i]? = some C[i] := List.getElem?_eq_getElem hlt
  have hxm : C[i] ∈ C := List.getElem_mem hlt
  refine r_join1 (fun v' w' => v' = .int .i64 ((C.take (i + 1)).foldl (closeF N h C) (0, List.replicate N false)).1 ∧ BoolsAt w1.heap.size w' dv ((C.take (i + 1)).foldl (closeF N h C) (0, List.replicate N false)).2 ∧ Kp w1 w') ?_ fun k' hk' => ?_
  · rintro v' w' ⟨rfl, g1, g2⟩
    rw [r_add _ _ (by omega) (by omega)]
    exact ⟨⟨i + 1, by omega, by go_num, rfl, g1, g2⟩, by simp only [intOf]; omega⟩
  rw [htake] at hk'
  generalize C[i] = x at *
  generalize (C.take i).foldl (closeF N h C) (0, List.replicate N false) = s at *
  obtain ⟨⟨x1, x2⟩, _⟩ := hC x hxm
  obtain ⟨lb, lo, lc, el, _, hld⟩ := RdL.line (hcv.kp kr) hx
  have hii : (i : Int).toNat = i := by omega
  have ia : ∀ K : Value → Prop, iaS 7 cv (.int .i64 i) K = K (.pointer (some ⟨lb, lo + i * 7, none⟩)) := fun K => by
    rw [el, r_iaS _ _ _ _ _ _ _ (by omega) (by omega), hii]
  rw [ia, hld]
  refine r_box fun b9 w2 e9 s9 h9 k9 => ?_
  refine st78_box h9 s9 fun w3 cg3 h93 => ?_
  have k03 : Kp wr w3 := Kp.of_chg k9 cg3 fun i e => by omega
  have c4 : w3.cell? ⟨b9, 4, none⟩ = some (.int .i64 x.2.1) := by rw [cell_row h93]; rfl
  obtain ⟨dg, dcap, ed, hdb, dc, df, dset⟩ := BoolsAt.put (hdr.kp k03) (q := x.2.1.toNat) (by omega) true
  have hsl : (southL N C).length = N := (south_at hC (c := x.2.1.toNat) (by omega)).1
  obtain ⟨sg, scap, es, _, sc, _, _⟩ := BoolsAt.put (hsv.kp (Kp.trans kr k03)) (q := x.2.1.toNat) (by omega) true
  have iad : ∀ K : Value → Prop, iaS 1 dv (.int .i64 x.2.1) K = K (.pointer (some ⟨dg, x.2.1.toNat, none⟩)) := fun K => by
    rw [ed, r_iaS _ _ _ _ _ _ _ (by omega) (by omega), Nat.mul_one, Nat.zero_add]
  have ias : ∀ K : Value → Prop, iaS 1 sv (.int .i64 x.2.1) K = K (.pointer (some ⟨sg, x.2.1.toNat, none⟩)) := fun K => by
    rw [es, r_iaS _ _ _ _ _ _ _ (by omega) (by omega), Nat.mul_one, Nat.zero_add]
  simp only [r_fa, Nat.zero_add, r_ld c4, iad, r_ld dc]
  have skip : (s.2.getD x.2.1.toNat false = true ∨ (southL N C).getD x.2.1.toNat false = false) → k' (.int .i64 s.1) w3 := fun hc => by
    have e : closeF N h C s x = s := if_pos hc
    rw [e] at hk'
    exact hk' _ _ ⟨rfl, hdr.kp k03, Kp.trans kr k03⟩
  cases hd : s.2.getD x.2.1.toNat false with
  | true =>
    simp only [r_gdTF, r_gdU, r_pickT, r_condT]
    exact skip (.inl hd)
  | false =>
    simp only [r_gdFF, r_fa, Nat.zero_add, r_ld c4, ias, r_ld sc, r_not, r_pickF]
    cases hso : (southL N C).getD x.2.1.toNat false with
    | false =>
      simp only [Bool.not_false, r_condT]
      exact skip (.inr hso)
    | true =>
      simp only [Bool.not_true, r_condF, r_fa, Nat.zero_add, r_ld c4, iad]
      have e : closeF N h C s x = (min (s.1 + (stepsL C (unitL N x.2.1.toNat) h).getD x.2.1.toNat 0) 1099511627777, s.2.set x.2.1.toNat true) := if_neg fun hc => by
        rcases hc with hc | hc
        · rw [show s.2.getD (lnN x).toNat false = false from hd] at hc; cases hc
        · rw [show (southL N C).getD (lnN x).toNat false = true from hso] at hc; cases hc
      rw [e] at hk'
      rw [st4 dc df]
      have hch : Chg (fun q => q = dg) w3 (w3.setCell ⟨dg, x.2.1.toNat, none⟩ (.bool true)) := Chg.setCell _ _ rfl
      have hsz : (w3.setCell ⟨dg, x.2.1.toNat, none⟩ (.bool true)).heap.size = w3.heap.size := setCell_size _ _ _
      have h94 : (w3.setCell ⟨dg, x.2.1.toNat, none⟩ (.bool true)).heap[b9]? = some (.cells (lnV x).cells 78 (0, 0)) := hch.at h93 fun e => by
        have := (hdr.lt (k := dg) (by rw [ed]; rfl)).2
        omega
      generalize w3.setCell ⟨dg, x.2.1.toNat, none⟩ (.bool true) = w4 at *
      have k14 : Kp w1 w4 := Kp.of_chg (Kp.trans kr k03) hch fun q e => by rw [e]; exact hdb
      refine r_use fok73 (codes_calls w4 hW.2) rfl ?_
      rintro _ _ ⟨rfl, rfl⟩
      refine ⟨_, rfl, ?_⟩
      rw [← eN]
      refine mk30' (by omega) fun uv w5 ou k5 hub => ?_
      have h95 := block_below h94 k5
      have c45 : w5.cell? ⟨b9, 4, none⟩ = some (.int .i64 x.2.1) := by rw [cell_row h95]; rfl
      obtain ⟨ug, ucap, eu, hub2, uc, uf, uset⟩ := IntsAt.put ou (q := x.2.1.toNat) (by rw [List.length_replicate]; omega) 1
      have iau : ∀ K : Value → Prop, iaS 1 uv (.int .i64 x.2.1) K = K (.pointer (some ⟨ug, x.2.1.toNat, none⟩)) := fun K => by
        rw [eu, r_iaS _ _ _ _ _ _ _ (by omega) (by rw [List.length_replicate]; omega), Nat.mul_one, Nat.zero_add]
      simp only [r_fa, Nat.zero_add, r_ld c45, iau]
      rw [st3 uc uf]
      have hch2 : Chg (fun q => q = ug) w5 (w5.setCell ⟨ug, x.2.1.toNat, none⟩ (.int .i64 1)) := Chg.setCell _ _ rfl
      have h96 : (w5.setCell ⟨ug, x.2.1.toNat, none⟩ (.int .i64 1)).heap[b9]? = some (.cells (lnV x).cells 78 (0, 0)) := hch2.at h95 fun e => by
        have := block_lt h94
        omega
      change IntsAt w4.heap.size _ uv (unitL N x.2.1.toNat) at uset
      generalize w5.setCell ⟨ug, x.2.1.toNat, none⟩ (.int .i64 1) = w6 at *
      have k46 : Kp w4 w6 := Kp.of_chg k5 hch2 fun q e => by rw [e]; exact hub2
      refine r_drew fun w7 k7 _ => ?_
      have k47 := Kp.trans k46 k7
      have h97 := block_below h96 k7
      have c47 : w7.cell? ⟨b9, 4, none⟩ = some (.int .i64 x.2.1) := by rw [cell_row h97]; rfl
      simp only [r_fa, Nat.zero_add, r_ld c47]
      have hul := unit_len N x.2.1.toNat
      have hur := unit_rng N x.2.1.toNat
      have huv : RdInts w7 uv (unitL N x.2.1.toNat) := ((uset.kp k7).rd iC_len).ints (by omega)
      refine r_use fok71 (steps_calls (h := h) w7 (hcv.kp (Kp.trans k14 k47)) (by rw [hul]; exact hC) huv hur (by omega) (by omega) hh) rfl ?_
      rintro _ w8 ⟨rv, rfl, k8, hrv⟩
      refine ⟨_, rfl, k8, ?_⟩
      obtain ⟨hrr, hrl⟩ := steps_rng (L := C) hur h
      rw [hul] at hrl
      obtain ⟨rb, ro, rc, er, rcell⟩ := hrv.at (j := x.2.1.toNat) (by omega)
      have hrg := rng_getD hrr x.2.1.toNat
      rw [er, r_iaS _ _ _ _ _ _ _ (by omega) (by omega), Nat.mul_one, r_ld rcell, r_add _ _ (by omega) (by omega), r_min2]
      refine hk' _ _ ⟨rfl, dset.kp (Kp.trans k47 k8), Kp.trans k14 (Kp.trans k47 k8)⟩

set_option maxRecDepth 100000 in
set_option maxHeartbeats 1000000 in
theorem r86_0 {cv sv : Value} {C : List Line} {W h N : Nat} {w1 w : World} {R : Ending → World → Prop} (hW : 1 ≤ W ∧ W ≤ 4) (eN : N = 8 ^ W) (hh : h ≤ 4) (hC : LnOk N C) (hCl : C.length ≤ 100000) (hcv : RdL w1 cv C) (hsv : BoolsAt w1.heap.size w sv (List.replicate N false)) (hk : Kp w1 w)
    (hR : ∀ w', Kp w1 w' → R (.returned (.int .i64 (closedS N h C).1)) w') : S86L0 (.int .i64 W) (.int .i64 h) cv sv (.int .i64 C.length) R w := by
  have hN : N ≤ 4096 := by rw [eN]; exact pow8N_le hW.2
  obtain ⟨ca, cc, ecv, _⟩ := hcv.len
  unfold S86L0
  refine ⟨fun t25 wr => ∃ i : Nat, i ≤ C.length ∧ t25 = .int .i64 i ∧ BoolsAt w1.heap.size wr sv ((C.take i).foldl (fun s x => s.set (lnS x).toNat true) (List.replicate N false)) ∧ Kp w1 wr, fun t25 _ => C.length - (intOf t25).toNat, ⟨0, by omega, rfl, hsv, hk⟩, ?_⟩
  rintro _ _ wr ⟨i, hi, rfl, hsr, kr⟩
  by_cases hlt : i < C.length
  case neg =>
    have hlt' : ¬ (i : Int) < (C.length : Int) := by omega
    rw [List.take_of_length_le (by omega)] at hsr
    simp only [r_lss, hlt', decide_false, r_condF]
    refine r_drew fun w2 k2 _ => ?_
    refine r_use fok73 (codes_calls w2 hW.2) rfl ?_
    rintro _ _ ⟨rfl, rfl⟩
    refine ⟨_, rfl, ?_⟩
    rw [← eN]
    refine mk91 (by omega) fun dv w3 od k3 _ => ⟨k3, ?_⟩
    dsimp only
    have lnc : ∀ K : Value → Prop, ln1 cv K = K (.int .i64 C.length) := fun K => by rw [ecv]; rfl
    rw [lnc]
    have k12 := Kp.trans kr k2
    exact r86_1 (w1 := w2) (b := w1.heap.size) hW eN hh hC hCl (hcv.kp k12) (hsr.kp k2) od k3 fun w' k' => hR w' (Kp.trans k12 k')
  have hlt' : (i : Int) < (C.length : Int) := by omega
  have hx : C[i]? = some C[i] := List.getElem?_eq_getElem hlt
  have hxm : C[i] ∈ C := List.getElem_mem hlt
  have htake : (C.take (i + 1)).foldl (fun s x => s.set (lnS x).toNat true) (List.replicate N false) = ((C.take i).foldl (fun s x => s.set (lnS x).toNat true) (List.replicate N false)).set (lnS C[i]).toNat true := by
    rw [take_succ' _ _ hlt, List.foldl_append]; rfl
  have hlen : ((C.take i).foldl (fun s x => s.set (lnS x).toNat true) (List.replicate N false)).length = N := by
    have key : ∀ (M : List Line) (s : List Bool), (M.foldl (fun s x => s.set (lnS x).toNat true) s).length = s.length := by
      intro M
      induction M with
      | nil => intro s; rfl
      | cons x M ih => intro s; rw [List.foldl_cons, ih]; simp
    rw [key]; simp
  generalize C[i] = x at *
  generalize (C.take i).foldl (fun s x => s.set (lnS x).toNat true) (List.replicate N false) = S at *
  obtain ⟨_, x1, x2⟩ := hC x hxm
  obtain ⟨lb, lo, lc, el, _, hld⟩ := RdL.line (hcv.kp kr) hx
  have hii : (i : Int).toNat = i := by omega
  have ia : ∀ K : Value → Prop, iaS 7 cv (.int .i64 i) K = K (.pointer (some ⟨lb, lo + i * 7, none⟩)) := fun K => by
    rw [el, r_iaS _ _ _ _ _ _ _ (by omega) (by omega), hii]
  simp only [r_lss, decide_eq_true hlt', r_condT]
  rw [ia, hld]
  refine r_box fun b9 w2 e9 s9 h9 k9 => ?_
  refine st78_box h9 s9 fun w3 cg3 h93 => ?_
  have k03 : Kp wr w3 := Kp.of_chg k9 cg3 fun i e => by omega
  have c5 : w3.cell? ⟨b9, 5, none⟩ = some (.int .i64 x.2.2.1) := by rw [cell_row h93]; rfl
  obtain ⟨dg, dcap, ed, hdb, dc, df, dset⟩ := BoolsAt.put (hsr.kp k03) (q := x.2.2.1.toNat) (by omega) true
  simp only [r_fa, Nat.zero_add, r_ld c5]
  rw [ed, r_iaS _ _ _ _ _ _ _ (by omega) (by omega), Nat.mul_one, Nat.zero_add, st4 dc df, r_add _ _ (by omega) (by omega), ← ed]
  refine ⟨⟨i + 1, by omega, by go_num, ?_, Kp.of_chg (Kp.trans kr k03) (Chg.setCell (S := fun q => q = dg) _ _ rfl) fun q e => by rw [e]; exact hdb⟩, by simp only [intOf]; omega⟩
  rw [htake]
  exact dset

set_option maxRecDepth 100000 in
theorem closed86_calls {v : Value} {l : List Tile} (hs : IsSet l) {W h : Nat} (hW : 1 ≤ W ∧ W ≤ 4) (hh : h ≤ 4) (w : World) (hr : RdT w v l) :
    Calls Try.prog 86 #[v, .int .i64 W, .int .i64 h] w fun e w' => e = .returned (.int .i64 (closedS (8 ^ W) h (closedL (linesL l W))).1) ∧ Kp w w' := by
  have h8 := pow8N_le hW.2
  have hll := lines_len hs hW.2
  have hlo := lines_ok hs hW.2
  refine lift86 ?_
  unfold S86
  refine r_use fok59 (rows_calls hs hW w hr) rfl ?_
  rintro _ w1 ⟨lv, rfl, k1, hL⟩
  refine ⟨_, rfl, ?_⟩
  change LnAt _ _ _ (linesL l W) at hL
  refine r_use fok111 (delete_calls w w1 hL k1 (by omega)) rfl ?_
  rintro _ w2 ⟨cv, rfl, k2, hC⟩
  refine ⟨_, rfl, ?_⟩
  refine r_use fok73 (codes_calls w2 hW.2) rfl ?_
  rintro _ _ ⟨rfl, rfl⟩
  refine ⟨_, rfl, ?_⟩
  refine mk91 (by omega) fun sv w3 os k3 _ => ?_
  obtain ⟨ca, cc, ecv, _⟩ := hC.len
  rw [ecv, r_ln, ← ecv]
  have hCl : (closedL (linesL l W)).length ≤ (linesL l W).length := List.length_filter_le _ _
  refine r86_0 (w1 := w2) hW rfl hh (fun x hx => hlo x (List.mem_filter.1 hx).1) (by omega) hC os k3 fun w' k' => ⟨rfl, Kp.trans k2 k'⟩

/-- What Closed returns. -/
def closeV (l : List Tile) (w h : Int) : Value := if ordErr l w h = 0 then limV (closedV l w.toNat h.toNat) else .tuple #[.int .i64 0, .int .i64 2]

set_option maxRecDepth 100000 in
theorem closed_calls {v : Value} {l : List Tile} (a b : Int) (w : World) (hr : RdT w v l) : Calls Try.prog 33 #[v, .int .i64 a, .int .i64 b] w fun e w' => e = .returned (closeV l a b) ∧ Kp w w' := by
  refine lift33 ?_
  unfold S33
  refine r_use fok53 (board_calls a b w hr) rfl ?_
  rintro _ w1 ⟨rfl, k1⟩
  refine ⟨_, rfl, ?_⟩
  unfold closeV
  have h20 : ¬ ((2 : Int) = 0) := by decide
  rcases ordErr_cases l a b with he | he
  rotate_left
  · simp (disch := omega) only [r_ln, r_pick, r_pickT, r_pickF, r_condT, r_condF, r_gdTT, r_gdFF, r_gdTF, r_gdFT, r_gqTT, r_gqFF, r_gqTF, r_gqFT, r_not, r_lss, r_leq, r_gtr, r_geq, r_eql, r_neq, r_add, r_sub, r_min2, r_max2, r_min3, r_max3, r_fa, r_iaS, r_iaA, r_ex2a, r_ex2b, r_ex3a, r_ex3b, r_ex3c, r_nc, r_keepE, Nat.zero_add, Nat.add_zero, Nat.mul_one, Int.toNat_natCast, toNat_sub1, toNat_add1, decide_true, decide_false, Bool.not_true, Bool.not_false, if_true, if_false, Bool.false_eq_true, reduceCtorEq, he, h20]
    exact ⟨by first | rfl | trivial, k1⟩
  obtain ⟨hs, a, b, rfl, rfl, ha, hb⟩ := ord_ok he
  simp (disch := omega) only [r_ln, r_pick, r_pickT, r_pickF, r_condT, r_condF, r_gdTT, r_gdFF, r_gdTF, r_gdFT, r_gqTT, r_gqFF, r_gqTF, r_gqFT, r_not, r_lss, r_leq, r_gtr, r_geq, r_eql, r_neq, r_add, r_sub, r_min2, r_max2, r_min3, r_max3, r_fa, r_iaS, r_iaA, r_ex2a, r_ex2b, r_ex3a, r_ex3b, r_ex3c, r_nc, r_keepE, Nat.zero_add, Nat.add_zero, Nat.mul_one, Int.toNat_natCast, toNat_sub1, toNat_add1, decide_true, decide_false, Bool.not_true, Bool.not_false, if_true, if_false, Bool.false_eq_true, reduceCtorEq, he, decide_eq_true (rfl : (0 : Int) = 0)]
  refine r_use fok86 (closed86_calls hs ha hb.2 w1 (hr.kp k1)) rfl ?_
  rintro _ w2 ⟨rfl, k2⟩
  refine ⟨_, rfl, ?_⟩
  refine r_use fok74 (limited_calls _ w2) rfl ?_
  rintro _ _ ⟨rfl, rfl⟩
  refine ⟨_, rfl, ?_⟩
  rw [closed_both hs ha (by omega)]
  try simp only [Int.toNat_natCast]
  unfold limV
  by_cases hc : (1099511627776 : Int) < closedV l a b
  · rw [if_pos hc]
    simp only [r_ln, r_pick, r_pickT, r_pickF, r_condT, r_condF, r_gdTT, r_gdFF, r_gdTF, r_gdFT, r_gqTT, r_gqFF, r_gqTF, r_gqFT, r_not, r_lss, r_leq, r_gtr, r_geq, r_eql, r_neq, r_add, r_sub, r_min2, r_max2, r_min3, r_max3, r_fa, r_iaS, r_iaA, r_ex2a, r_ex2b, r_ex3a, r_ex3b, r_ex3c, r_nc, r_keepE, Nat.zero_add, Nat.add_zero, Nat.mul_one, Int.toNat_natCast, toNat_sub1, toNat_add1, decide_true, decide_false, Bool.not_true, Bool.not_false, if_true, if_false, Bool.false_eq_true, reduceCtorEq]
    exact ⟨by first | rfl | trivial, Kp.trans k1 k2⟩
  · rw [if_neg hc]
    simp only [r_ln, r_pick, r_pickT, r_pickF, r_condT, r_condF, r_gdTT, r_gdFF, r_gdTF, r_gdFT, r_gqTT, r_gqFF, r_gqTF, r_gqFT, r_not, r_lss, r_leq, r_gtr, r_geq, r_eql, r_neq, r_add, r_sub, r_min2, r_max2, r_min3, r_max3, r_fa, r_iaS, r_iaA, r_ex2a, r_ex2b, r_ex3a, r_ex3b, r_ex3c, r_nc, r_keepE, Nat.zero_add, Nat.add_zero, Nat.mul_one, Int.toNat_natCast, toNat_sub1, toNat_add1, decide_true, decide_false, Bool.not_true, Bool.not_false, if_true, if_false, Bool.false_eq_true, reduceCtorEq]
    exact ⟨by first | rfl | trivial, Kp.trans k1 k2⟩

end Go.Proofs.Ytgalbokmgffhkaa

/- Contracts: ring, rings of the specification. -/
namespace Go.Proofs.Ytgalbokmgffhkaa
open Go.Lf Go.RowKit Go.Wg

abbrev C113 (t0 t1 t4 t6 t19 t35 : Value) (w : World) (K : Value → Prop) : Prop :=
      iaS 4 t0 t19 fun t44 =>
      fa1 t44 3 fun t45 =>
      ld1 w t45 fun t46 =>
      binQ Try.prog w .eql 3 false t46 t6 fun t48 =>
      gdQ t48 true (fun k => k t0) fun t50 =>
      gdQ t48 true (fun k => k t19) fun t51 =>
      gdQ t48 true (fun k => iaS 4 t50 t51 k) fun t52 =>
      gdQ t48 true (fun k => fa1 t52 0 k) fun t53 =>
      gdQ t48 true (fun k => ld1 w t53 k) fun t54 =>
      gdQ t48 true (fun k => k t1) fun t55 =>
      gdQ t48 true (fun k => k t4) fun t56 =>
      gdQ t48 true (fun k => k t35) fun t57 =>
      gdQ t48 true (fun k => binQ Try.prog w .quo 3 false t56 t57 k) fun t58 =>
      gdQ t48 true (fun k => k t1) fun t59 =>
      gdQ t48 true (fun k => ln1 t59 k) fun t60 =>
      gdQ t48 true (fun k => binQ Try.prog w .rem 3 false t58 t60 k) fun t61 =>
      gdQ t48 true (fun k => iaS 1 t55 t61 k) fun t62 =>
      gdQ t48 true (fun k => ld1 w t62 k) fun t63 =>
      gdQ t48 true (fun k => binQ Try.prog w .eql 3 false t54 t63 k) fun t64 =>
      pickQ t48 t64 (.bool false) fun t65 =>
      K t65

set_option maxRecDepth 100000 in
theorem cond113 {w : World} {t0 t1 : Value} {l : List Tile} {a x i : Nat} {e : Int} {t : Tile} {K : Value → Prop} (hr : RdT w t0 l) (ht : l[i]? = some t) (hL : RdInts w t1 (lineL l)) (hn : 0 < (lineL l).length) (ha : a ≤ 1000000) (hK : K (.bool (decide (ringC l a x e t)))) :
    C113 t0 t1 (.int .i64 a) (.int .i64 e) (.int .i64 i) (.int .i64 ((lineL l).length ^ x : Nat)) w K := by
  obtain ⟨b, off, cap, rfl, hlt, hc⟩ := hr.at ht
  have c0 : w.cell? ⟨b, off + i * 4, none⟩ = some (.int .i64 (tN t)) := hc 0 _ rfl
  have c3 : w.cell? ⟨b, off + i * 4 + 3, none⟩ = some (.int .i64 (tW t)) := hc 3 _ rfl
  have hdg : dgA l a x < (lineL l).length := Nat.mod_lt _ hn
  have hp : 0 < (lineL l).length ^ x := Nat.pow_pos hn
  obtain ⟨lb, lo, lcp, rfl, hla⟩ := hL.at hdg
  have hii : ((dgA l a x : Nat) : Int).toNat = dgA l a x := by omega
  unfold C113
  by_cases g1 : tW t = e
  case neg =>
    simp (disch := omega) only [r_ln, r_pick, r_pickT, r_pickF, r_condT, r_condF, r_gdTT, r_gdFF, r_gdTF, r_gdFT, r_gqTT, r_gqFF, r_gqTF, r_gqFT, r_not, r_lss, r_leq, r_gtr, r_geq, r_eql, r_neq, r_add, r_sub, r_min2, r_max2, r_min3, r_max3, r_fa, r_iaS, r_iaA, r_ex2a, r_ex2b, r_ex3a, r_ex3b, r_ex3c, r_nc, r_keepE, Nat.zero_add, Nat.add_zero, Nat.mul_one, Int.toNat_natCast, toNat_sub1, toNat_add1, decide_true, decide_false, Bool.not_true, Bool.not_false, if_true, if_false, Bool.false_eq_true, reduceCtorEq, r_ld c3, g1, r_gqU]
    have : decide (ringC l a x e t) = false := decide_eq_false fun h => g1 h.1
    rw [this] at hK
    exact hK
  simp (disch := omega) only [r_ln, r_pick, r_pickT, r_pickF, r_condT, r_condF, r_gdTT, r_gdFF, r_gdTF, r_gdFT, r_gqTT, r_gqFF, r_gqTF, r_gqFT, r_not, r_lss, r_leq, r_gtr, r_geq, r_eql, r_neq, r_add, r_sub, r_min2, r_max2, r_min3, r_max3, r_fa, r_iaS, r_iaA, r_ex2a, r_ex2b, r_ex3a, r_ex3b, r_ex3c, r_nc, r_keepE, Nat.zero_add, Nat.add_zero, Nat.mul_one, Int.toNat_natCast, toNat_sub1, toNat_add1, decide_true, decide_false, Bool.not_true, Bool.not_false, if_true, if_false, Bool.false_eq_true, reduceCtorEq, r_ld c3, decide_eq_true g1, r_ld c0]
  rw [r_quoN _ _ hp (by omega), r_remN _ _ hn]
  change iaS 1 _ (.int .i64 ((dgA l a x : Nat) : Int)) _
  simp (disch := omega) only [r_ln, r_pick, r_pickT, r_pickF, r_condT, r_condF, r_gdTT, r_gdFF, r_gdTF, r_gdFT, r_gqTT, r_gqFF, r_gqTF, r_gqFT, r_not, r_lss, r_leq, r_gtr, r_geq, r_eql, r_neq, r_add, r_sub, r_min2, r_max2, r_min3, r_max3, r_fa, r_iaS, r_iaA, r_ex2a, r_ex2b, r_ex3a, r_ex3b, r_ex3c, r_nc, r_keepE, Nat.zero_add, Nat.add_zero, Nat.mul_one, Int.toNat_natCast, toNat_sub1, toNat_add1, decide_true, decide_false, Bool.not_true, Bool.not_false, if_true, if_false, Bool.false_eq_true, reduceCtorEq, hii, r_ld hla]
  have : decide (ringC l a x e t) = decide (tN t = (lineL l).getD (dgA l a x) 0) := by
    unfold ringC
    simp [g1]
  rw [this] at hK
  exact hK

/-- What ring does with so many tiles. -/
def ringG (l : List Tile) (W a : Nat) (west : Int) (m s : Nat) (e : Int) (t : Tile) (row : List Int) : List Int := if ringC l a (W - (m + 1)) e t then ringF l W a west m (s + lidx l (tS t) * (lineL l).length ^ (W - (m + 1))) (tE t) row else row
theorem ringF_succ (l : List Tile) (W a : Nat) (west : Int) (m s : Nat) (e : Int) (row : List Int) : ringF l W a west (m + 1) s e row = l.foldl (fun row t => ringG l W a west m s e t row) row := rfl
theorem ringG_exact {l : List Tile} {W a : Nat} {west : Int} {m s : Nat} {e : Int} (M : List Tile) (row : List Int) : (M.foldl (fun row t => ringG l W a west m s e t row) row).length = row.length ∧
    ∀ b, b < row.length → ∃ g : Nat, (M.foldl (fun row t => ringG l W a west m s e t row) row).getD b 0 = row.getD b 0 + g ∧ g ≤ M.length * l.length ^ m := by
  obtain ⟨h1, h2⟩ := fold_add (f := fun t row => ringG l W a west m s e t row) (g := fun t b => if ringC l a (W - (m + 1)) e t then ringN l W a west b m (s + lidx l (tS t) * (lineL l).length ^ (W - (m + 1))) (tE t) else 0) (fun t row => by
    unfold ringG
    by_cases hc : ringC l a (W - (m + 1)) e t
    · rw [if_pos hc]
      obtain ⟨g1, g2⟩ := ringF_exact (l := l) (W := W) (a := a) (west := west) m (s + lidx l (tS t) * (lineL l).length ^ (W - (m + 1))) (tE t) row
      exact ⟨g1, fun b hb => by rw [if_pos hc]; exact g2 b hb⟩
    · rw [if_neg hc]
      exact ⟨rfl, fun b hb => by rw [if_neg hc]; simp⟩) M row
  refine ⟨h1, fun b hb => ⟨_, h2 b hb, tot_le fun t _ => ?_⟩⟩
  split
  · exact ringN_le m _ _
  · exact Nat.zero_le _

def RowOk (n m : Nat) (row : List Int) : Prop := row.length = n ∧ ∀ b, b < row.length → 0 ≤ row.getD b 0 ∧ row.getD b 0 + (16 ^ m : Nat) ≤ 4611686018427387904

set_option maxRecDepth 100000 in
set_option maxHeartbeats 1000000 in
theorem ring_calls {l : List Tile} (hs : IsSet l) {W a : Nat} {sv lv : Value} {w0 : World} (hW : W ≤ 4) (hr : RdT w0 sv l) (hL : RdInts w0 lv (lineL l)) (hnW : (lineL l).length ^ W ≤ 100000) (west : Int) (ha : a < (lineL l).length ^ W) :
    ∀ (m : Nat) (w : World) (s : Nat) (e : Int) (row : List Int) (rv : Value), m ≤ W → Kp w0 w → IntsAt w0.heap.size w rv row → s < (lineL l).length ^ (W - m) → RowOk ((lineL l).length ^ W) m row →
      Calls Try.prog 113 #[sv, lv, .int .i64 W, .int .i64 (W - m : Nat), .int .i64 a, .int .i64 s, .int .i64 e, .int .i64 west, rv] w fun r w' => r = .returned (.tuple #[]) ∧ Kp w0 w' ∧ IntsAt w0.heap.size w' rv (ringF l W a west m s e row)
  | 0, w, s, e, row, rv, hm, hk, hrow, hss, hok => by
    have hn := line_pos hs
    refine lift113 ?_
    unfold S113
    have e1 : ((W - 0 : Nat) : Int) = (W : Int) := by omega
    simp only [r_eql, decide_eq_true e1, r_condT]
    by_cases he : e = west
    · simp only [decide_eq_true he, r_condT]
      have hsl : s < row.length := by rw [hok.1]; exact hss
      obtain ⟨g, cap, ev, hb, gc, gf, gset⟩ := IntsAt.put hrow hsl (row.getD s 0 + 1)
      have hb2 := hok.2 s hsl
      have hss' : (s : Int).toNat = s := by omega
      have ia : ∀ K : Value → Prop, iaS 1 rv (.int .i64 s) K = K (.pointer (some ⟨g, s, none⟩)) := fun K => by
        rw [ev, r_iaS _ _ _ _ _ _ _ (by omega) (by omega), hss', Nat.mul_one, Nat.zero_add]
      rw [ia, r_ld gc, r_add _ _ (by omega) (by omega), ia, st3 gc gf]
      refine ⟨by first | rfl | trivial, Kp.of_chg hk (Chg.setCell (S := fun q => q = g) _ _ rfl) fun q e => by rw [e]; exact hb, ?_⟩
      unfold ringF
      rw [if_pos he]
      exact gset
    · simp only [he, decide_false, r_condF]
      refine ⟨by first | rfl | trivial, hk, ?_⟩
      unfold ringF
      rw [if_neg he]
      exact hrow
  | m + 1, w, s, e, row, rv, hm, hk, hrow, hss, hok => by
    have hn := line_pos hs
    have hn8 := line_len l
    have hlm := hs.most
    refine lift113 ?_
    unfold S113
    have e1 : ¬ ((W - (m + 1) : Nat) : Int) = (W : Int) := by omega
    obtain ⟨la, lc, elv, _, _⟩ := hL.len
    have lnl : ∀ K : Value → Prop, ln1 lv K = K (.int .i64 (lineL l).length) := fun K => by rw [elv]; rfl
    simp only [r_eql, e1, decide_false, r_condF]
    rw [lnl]
    have hpx : (lineL l).length ^ (W - (m + 1)) ≤ (lineL l).length ^ W := Nat.pow_le_pow_right hn (by omega)
    refine r_use fok69 (power_calls (n := (lineL l).length) (k := W - (m + 1)) w (by omega) hn (by omega)) rfl ?_
    rintro _ _ ⟨rfl, rfl⟩
    refine ⟨_, rfl, ?_⟩
    rw [ringF_succ]
    obtain ⟨sa, sc, esv, _⟩ := hr.len
    have lns : ∀ K : Value → Prop, ln1 sv K = K (.int .i64 l.length) := fun K => by rw [esv]; rfl
    unfold S113L0
    refine ⟨fun t19 wr => ∃ i : Nat, i ≤ l.length ∧ t19 = .int .i64 i ∧ IntsAt w0.heap.size wr rv ((l.take i).foldl (fun row t => ringG l W a west m s e t row) row) ∧ Kp w0 wr, fun t19 _ => l.length - (intOf t19).toNat, ⟨0, by omega, rfl, hrow, hk⟩, ?_⟩
    rintro _ _ wr ⟨i, hi, rfl, hrr, kr⟩
    rw [lns]
    by_cases hlt : i < l.length
    case neg =>
      have hlt' : ¬ (i : Int) < (l.length : Int) := by omega
      rw [List.take_of_length_le (by omega)] at hrr
      simp only [r_lss, hlt', decide_false, r_condF]
      exact ⟨by first | rfl | trivial, kr, hrr⟩
    have hlt' : (i : Int) < (l.length : Int) := by omega
    simp only [r_lss, decide_eq_true hlt', r_condT]
    refine r_drew fun wd kd _ => ?_
    have k0d := Kp.trans kr kd
    have ht : l[i]? = some (l[i]) := List.getElem?_eq_getElem hlt
    have htm : l[i] ∈ l := List.getElem_mem hlt
    have hfold : (l.take (i + 1)).foldl (fun row t => ringG l W a west m s e t row) row = ringG l W a west m s e l[i] ((l.take i).foldl (fun row t => ringG l W a west m s e t row) row) := by
      rw [take_succ' _ _ hlt, List.foldl_append]; rfl
    obtain ⟨hrl, hrb⟩ := ringG_exact (l := l) (W := W) (a := a) (west := west) (m := m) (s := s) (e := e) (l.take i) row
    have hpow : l.length ^ m ≤ 16 ^ m := Nat.pow_le_pow_left hlm m
    have hok2 : RowOk ((lineL l).length ^ W) m ((l.take i).foldl (fun row t => ringG l W a west m s e t row) row) := by
      refine ⟨hrl.trans hok.1, fun b hb => ?_⟩
      rw [hrl] at hb
      obtain ⟨g, e1, hg⟩ := hrb b hb
      have := hok.2 b hb
      rw [e1]
      rw [List.length_take] at hg
      have h1 : min i l.length * l.length ^ m ≤ 15 * 16 ^ m := Nat.mul_le_mul (by omega) hpow
      rw [Nat.pow_succ] at this
      omega
    refine cond113 (hr.kp k0d) ht (hL.below k0d) hn (by omega) ?_
    generalize l[i] = t at *
    generalize (l.take i).foldl (fun row t => ringG l W a west m s e t row) row = R at *
    show Join _ _
    refine r_join0 (fun w' => IntsAt w0.heap.size w' rv (ringG l W a west m s e t R) ∧ Kp w0 w') ?_ fun k' hk' => ?_
    · rintro w' ⟨g1, g2⟩
      rw [r_add _ _ (by omega) (by omega)]
      exact ⟨⟨i + 1, by omega, by go_num, by rw [hfold]; exact g1, g2⟩, by simp only [intOf]; omega⟩
    by_cases hc : ringC l a (W - (m + 1)) e t
    case neg =>
      simp only [hc, decide_false, r_condF]
      exact hk' _ ⟨by unfold ringG; rw [if_neg hc]; exact hrr.kp kd, k0d⟩
    simp only [decide_eq_true hc, r_condT]
    refine r_drew fun w2 k2 _ => ?_
    have k02 := Kp.trans k0d k2
    have eg : ringG l W a west m s e t R = ringF l W a west m (s + lidx l (tS t) * (lineL l).length ^ (W - (m + 1))) (tE t) R := if_pos hc
    rw [eg] at hk'
    obtain ⟨b, off, cap, ev, _, hcell⟩ := (hr.kp k02).at ht
    have hii : (i : Int).toNat = i := by omega
    have ia : ∀ K : Value → Prop, iaS 4 sv (.int .i64 i) K = K (.pointer (some ⟨b, off + i * 4, none⟩)) := fun K => by rw [ev, r_iaS _ _ _ _ _ _ _ (by omega) (by omega), hii]
    have c1 : w2.cell? ⟨b, off + i * 4 + 1, none⟩ = some (.int .i64 (tE t)) := hcell 1 _ rfl
    have c2 : w2.cell? ⟨b, off + i * 4 + 2, none⟩ = some (.int .i64 (tS t)) := hcell 2 _ rfl
    have hltS := mem_line hs.cols htm
    have hidx : idxI (lineL l) (tS t) = ((lidx l (tS t) : Nat) : Int) := by rw [idxI, if_pos hltS.2]; rfl
    have hil := lidx_lt hltS.2
    have ex : ((W - (m + 1) : Nat) : Int) + 1 = ((W - m : Nat) : Int) := by omega
    rw [r_add _ _ (by omega) (by omega), ex]
    simp only [ia, r_fa, r_ld c2, r_ld c1]
    refine r_use fok107 (index107_calls (tS t) w2 (hL.below k02)) rfl ?_
    rintro _ w3 ⟨rfl, k3⟩
    refine ⟨_, rfl, k3, ?_⟩
    dsimp only
    have hmul : lidx l (tS t) * (lineL l).length ^ (W - (m + 1)) + (lineL l).length ^ (W - (m + 1)) ≤ (lineL l).length ^ (W - m) := by
      have e2 : W - m = (W - (m + 1)) + 1 := by omega
      rw [e2, Nat.pow_succ, Nat.mul_comm _ (lineL l).length, ← Nat.succ_mul]
      exact Nat.mul_le_mul_right _ hil
    have hpm : (lineL l).length ^ (W - m) ≤ (lineL l).length ^ W := Nat.pow_le_pow_right hn (by omega)
    rw [hidx, r_mulN _ _ (by omega), r_add _ _ (by omega) (by omega)]
    have es : (s : Int) + ((lidx l (tS t) * (lineL l).length ^ (W - (m + 1)) : Nat) : Int) = ((s + lidx l (tS t) * (lineL l).length ^ (W - (m + 1)) : Nat) : Int) := by omega
    rw [es]
    have k03 := Kp.trans k02 k3
    refine r_use fok113 (ring_calls hs hW hr hL hnW west ha m w3 (s + lidx l (tS t) * (lineL l).length ^ (W - (m + 1))) (tE t) R rv (by omega) k03 (hrr.kp (Kp.trans kd (Kp.trans k2 k3))) (by omega) hok2) rfl ?_
    rintro _ w4 ⟨rfl, k4, h4⟩
    exact ⟨_, rfl, hk' _ ⟨h4, k4⟩⟩

theorem ringRow_part {l : List Tile} (hs : IsSet l) {W a : Nat} (hW : W ≤ 4) (c : Nat) (hc : c ≤ 8) : RowOk ((lineL l).length ^ W) W ((List.range c).foldl (fun row c => ringF l W a ((c : Nat) : Int) W 0 ((c : Nat) : Int) row) (List.replicate ((lineL l).length ^ W) 0)) := by
  obtain ⟨h1, h2⟩ := fold_add (f := fun c row => ringF l W a ((c : Nat) : Int) W 0 ((c : Nat) : Int) row) (g := fun c b => ringN l W a ((c : Nat) : Int) b W 0 ((c : Nat) : Int)) (fun c row => ringF_exact W 0 _ row) (List.range c) (List.replicate ((lineL l).length ^ W) 0)
  rw [List.length_replicate] at h1 h2
  refine ⟨h1, fun b hb => ?_⟩
  rw [h1] at hb
  rw [h2 b hb, getD_lt _ _ _ (by simpa using hb), List.getElem_replicate]
  have h3 : tot (fun x : Nat => ringN l W a (x : Int) b W 0 (x : Int)) (List.range c) ≤ (List.range c).length * l.length ^ W := tot_le fun c _ => ringN_le W _ _
  have h4 : l.length ^ W ≤ 16 ^ W := Nat.pow_le_pow_left hs.most W
  have h5 := pow16_le hW
  rw [List.length_range] at h3
  have h6 : c * l.length ^ W ≤ 8 * 65536 := Nat.mul_le_mul hc (by omega)
  omega

set_option maxRecDepth 100000 in
theorem rings_calls {sv : Value} {l : List Tile} {W : Nat} (w : World) (hr : RdT w sv l) (hs : IsSet l) (hW : 1 ≤ W ∧ W ≤ 4) (hnW : (lineL l).length ^ W ≤ 100000) :
    Calls Try.prog 87 #[sv, .int .i64 W] w fun e w' => ∃ v, e = .returned v ∧ Kp w w' ∧ IRows w.heap.size w' v (ringsL l W) := by
  have hlm := hs.most
  have hn := line_pos hs
  refine lift87 ?_
  unfold S87
  refine r_use fok70 (lines_calls w hr (by omega)) rfl ?_
  rintro _ w1 ⟨lv, rfl, o1, k1⟩
  refine ⟨_, rfl, ?_⟩
  obtain ⟨la, lc, elv, _⟩ := o1.len
  have hL : RdInts w1 lv (lineL l) := Rd.ints (o1.rd iC_len) (by have := line_len l; omega)
  have lnl : ∀ K : Value → Prop, ln1 lv K = K (.int .i64 (lineL l).length) := fun K => by rw [elv]; rfl
  rw [lnl]
  refine r_use fok69 (power_calls (n := (lineL l).length) (k := W) w1 (by omega) hn (by omega)) rfl ?_
  rintro _ _ ⟨rfl, rfl⟩
  refine ⟨_, rfl, ?_⟩
  unfold S87L0
  refine ⟨fun t7 t8 wr => ∃ a : Nat, a ≤ (lineL l).length ^ W ∧ t8 = .int .i64 a ∧ IRows w1.heap.size wr t7 ((List.range a).map (ringRow l W)) ∧ Kp w1 wr, fun _ t8 _ => (lineL l).length ^ W - (intOf t8).toNat, ⟨0, by omega, rfl, IRows.nil, Kp.refl _⟩, ?_⟩
  rintro _ t7 _ wr ⟨a, ha, rfl, hP, kr⟩
  by_cases hlt : a < (lineL l).length ^ W
  case neg =>
    have hlt' : ¬ (a : Int) < (((lineL l).length ^ W : Nat) : Int) := by omega
    have ea : a = (lineL l).length ^ W := by omega
    subst ea
    simp only [r_lss, hlt', decide_false, r_condF]
    exact ⟨_, rfl, Kp.trans k1 kr, hP.down k1.size⟩
  have hlt' : (a : Int) < (((lineL l).length ^ W : Nat) : Int) := by omega
  simp only [r_lss, decide_eq_true hlt', r_condT]
  refine mk30' (by omega) fun rv w2 o2 k2 _ => ?_
  have hrr := hr.kp (Kp.trans k1 kr)
  have hLr := hL.below kr
  unfold S87L1
  refine ⟨fun t10 wq => ∃ c : Nat, c ≤ 8 ∧ t10 = .int .i64 c ∧ IntsAt wr.heap.size wq rv ((List.range c).foldl (fun row c => ringF l W a ((c : Nat) : Int) W 0 ((c : Nat) : Int) row) (List.replicate ((lineL l).length ^ W) 0)) ∧ Kp wr wq, fun t10 _ => 8 - (intOf t10).toNat, ⟨0, by omega, rfl, o2, k2⟩, ?_⟩
  rintro _ _ wq ⟨c, hc, rfl, hrow, kq⟩
  by_cases hc8 : c < 8
  · have hc' : (c : Int) ≤ 7 := by omega
    simp only [r_leq, decide_eq_true hc', r_condT]
    have e0 : (0 : Int) = ((W - W : Nat) : Int) := by omega
    have hcalls := ring_calls (a := a) hs hW.2 hrr hLr hnW (c : Int) hlt W wq 0 (c : Int) _ rv (Nat.le_refl _) kq hrow (Nat.pow_pos hn) (ringRow_part hs hW.2 c hc)
    rw [Nat.sub_self] at hcalls
    refine r_use fok113 hcalls rfl ?_
    rintro _ w3 ⟨rfl, k3, h3⟩
    refine ⟨_, rfl, ?_⟩
    rw [r_add _ _ (by omega) (by omega)]
    refine ⟨⟨c + 1, by omega, by go_num, ?_, k3⟩, by simp only [intOf]; omega⟩
    rw [List.range_succ, List.foldl_append]
    exact h3
  · have hc' : ¬ (c : Int) ≤ 7 := by omega
    have ec : c = 8 := by omega
    subst ec
    simp only [r_leq, hc', decide_false, r_condF]
    obtain ⟨ra, rc, erv, _⟩ := hrow.len
    rw [erv] at hrow ⊢
    have s1 := kr.size
    have s2 := kq.size
    refine r_pushRow (hP.kp kq) (hrow.down s1) (by rw [List.length_map, List.length_range]; omega) (by omega) fun v3 w3 o3 c3 _ => ?_
    obtain ⟨vs, p1, _, _⟩ := hP.kp kq
    rw [r_add _ _ (by omega) (by omega)]
    refine ⟨⟨a + 1, by omega, by go_num, ?_, Kp.of_chg (Kp.trans kr kq) c3 fun k e => (p1.lt e).1⟩, by simp only [intOf]; omega⟩
    rw [List.range_succ, List.map_append]
    exact o3

end Go.Proofs.Ytgalbokmgffhkaa

/- Contract: WangCounts. -/
namespace Go.Proofs.Ytgalbokmgffhkaa
open Go.Lf Go.RowKit Go.Wg

theorem countV_form (l : List Tile) (a b : Int) : ∃ n e : Int, countV l a b = .tuple #[.int .i64 n, .int .i64 e] := by
  unfold countV limV
  split
  · split
    · exact ⟨_, _, rfl⟩
    · exact ⟨_, _, rfl⟩
  · exact ⟨_, _, rfl⟩

set_option maxRecDepth 100000 in
theorem counts_calls {v : Value} {l : List Tile} (a b : Int) (w : World) (hr : RdT w v l) : Calls Try.prog 6 #[v, .int .i64 a, .int .i64 b] w fun e w' => e = .returned (.bool true) ∧ Kp w w' := by
  have hr0 := hr
  obtain ⟨va, vcap, rfl, hvc⟩ := hr.len
  refine lift6 ?_
  unfold S6
  have fin : ∀ (w' : World), Kp w w' → Calls Try.prog 18 #[] w' fun e w'' => e = .returned (.bool true) ∧ Kp w w'' := fun w' k => (law_alive w').mono fun e w'' h => ⟨h.1, Kp.trans k h.2⟩
  by_cases hl : (40 : Int) < (l.length : Int)
  · simp (disch := omega) only [r_ln, r_pick, r_pickT, r_pickF, r_condT, r_condF, r_gdTT, r_gdFF, r_gdTF, r_gdFT, r_gqTT, r_gqFF, r_gqTF, r_gqFT, r_not, r_lss, r_leq, r_gtr, r_geq, r_eql, r_neq, r_add, r_sub, r_min2, r_max2, r_min3, r_max3, r_fa, r_iaS, r_iaA, r_ex2a, r_ex2b, r_ex3a, r_ex3b, r_ex3c, r_nc, r_keepE, Nat.zero_add, Nat.add_zero, Nat.mul_one, Int.toNat_natCast, toNat_sub1, toNat_add1, decide_true, decide_false, Bool.not_true, Bool.not_false, if_true, if_false, Bool.false_eq_true, reduceCtorEq, decide_eq_true hl, r_gdU]
    refine r_use fok18 (fin w (Kp.refl _)) rfl ?_
    rintro _ w1 ⟨rfl, k1⟩
    exact ⟨_, rfl, by first | rfl | trivial, k1⟩
  simp (disch := omega) only [r_ln, r_pick, r_pickT, r_pickF, r_condT, r_condF, r_gdTT, r_gdFF, r_gdTF, r_gdFT, r_gqTT, r_gqFF, r_gqTF, r_gqFT, r_not, r_lss, r_leq, r_gtr, r_geq, r_eql, r_neq, r_add, r_sub, r_min2, r_max2, r_min3, r_max3, r_fa, r_iaS, r_iaA, r_ex2a, r_ex2b, r_ex3a, r_ex3b, r_ex3c, r_nc, r_keepE, Nat.zero_add, Nat.add_zero, Nat.mul_one, Int.toNat_natCast, toNat_sub1, toNat_add1, decide_true, decide_false, Bool.not_true, Bool.not_false, if_true, if_false, Bool.false_eq_true, reduceCtorEq, hl, r_gdU]
  refine r_use fok23 (order_calls a b w hr0) rfl ?_
  rintro _ w1 ⟨rfl, k1⟩
  refine ⟨_, rfl, ?_⟩
  obtain ⟨n, e, hcv⟩ := countV_form l a b
  have hself : ∀ x : Int, decide (x = x) = true := fun x => decide_eq_true rfl
  have hselfR : ∀ x : List (List Int), decide (x = x) = true := fun x => decide_eq_true rfl
  have hselfT : ∀ x : List Tile, decide (x = x) = true := fun x => decide_eq_true rfl
  rcases ordErr_cases l a b with he | he
  · obtain ⟨hs, W, H, rfl, rfl, hW, hH⟩ := ord_ok he
    have hal := allS_le (l := l) hW.2
    have hst : ¬ (60000 : Int) < ((allS l W : Nat) : Int) := by omega
    rw [he]
    simp (disch := omega) only [r_ln, r_pick, r_pickT, r_pickF, r_condT, r_condF, r_gdTT, r_gdFF, r_gdTF, r_gdFT, r_gqTT, r_gqFF, r_gqTF, r_gqFT, r_not, r_lss, r_leq, r_gtr, r_geq, r_eql, r_neq, r_add, r_sub, r_min2, r_max2, r_min3, r_max3, r_fa, r_iaS, r_iaA, r_ex2a, r_ex2b, r_ex3a, r_ex3b, r_ex3c, r_nc, r_keepE, Nat.zero_add, Nat.add_zero, Nat.mul_one, Int.toNat_natCast, toNat_sub1, toNat_add1, decide_true, decide_false, Bool.not_true, Bool.not_false, if_true, if_false, Bool.false_eq_true, reduceCtorEq, hself, r_gdU]
    refine r_use fok24 (states_calls w1 (hr0.kp k1) hs hW.2) rfl ?_
    rintro _ w2 ⟨rfl, k2⟩
    refine ⟨_, rfl, ?_⟩
    have k02 := Kp.trans k1 k2
    simp (disch := omega) only [r_ln, r_pick, r_pickT, r_pickF, r_condT, r_condF, r_gdTT, r_gdFF, r_gdTF, r_gdFT, r_gqTT, r_gqFF, r_gqTF, r_gqFT, r_not, r_lss, r_leq, r_gtr, r_geq, r_eql, r_neq, r_add, r_sub, r_min2, r_max2, r_min3, r_max3, r_fa, r_iaS, r_iaA, r_ex2a, r_ex2b, r_ex3a, r_ex3b, r_ex3c, r_nc, r_keepE, Nat.zero_add, Nat.add_zero, Nat.mul_one, Int.toNat_natCast, toNat_sub1, toNat_add1, decide_true, decide_false, Bool.not_true, Bool.not_false, if_true, if_false, Bool.false_eq_true, reduceCtorEq, hst, r_gdU]
    generalize hA : ((W : Nat) : Int) = a at *
    generalize hB : ((H : Nat) : Int) = b at *
    refine r_copyT (hr0.kp k02) (by omega) fun cv w3 o3 k3 => ?_
    have k03 := Kp.trans k02 k3
    refine r_use fok25 (count_calls a b w3 (o3.rd tlC_len)) rfl ?_
    rintro _ w4 ⟨rfl, k4⟩
    refine ⟨_, rfl, ?_⟩
    have k04 := Kp.trans k03 k4
    rw [hcv]
    simp (disch := omega) only [r_ln, r_pick, r_pickT, r_pickF, r_condT, r_condF, r_gdTT, r_gdFF, r_gdTF, r_gdFT, r_gqTT, r_gqFF, r_gqTF, r_gqFT, r_not, r_lss, r_leq, r_gtr, r_geq, r_eql, r_neq, r_add, r_sub, r_min2, r_max2, r_min3, r_max3, r_fa, r_iaS, r_iaA, r_ex2a, r_ex2b, r_ex3a, r_ex3b, r_ex3c, r_nc, r_keepE, Nat.zero_add, Nat.add_zero, Nat.mul_one, Int.toNat_natCast, toNat_sub1, toNat_add1, decide_true, decide_false, Bool.not_true, Bool.not_false, if_true, if_false, Bool.false_eq_true, reduceCtorEq]
    refine r_use fok26 (refcount_calls a b w4 (hr0.kp k04)) rfl ?_
    rintro _ w5 ⟨rfl, k5⟩
    refine ⟨_, rfl, ?_⟩
    have k05 := Kp.trans k04 k5
    rw [hcv]
    simp (disch := omega) only [r_ln, r_pick, r_pickT, r_pickF, r_condT, r_condF, r_gdTT, r_gdFF, r_gdTF, r_gdFT, r_gqTT, r_gqFF, r_gqTF, r_gqFT, r_not, r_lss, r_leq, r_gtr, r_geq, r_eql, r_neq, r_add, r_sub, r_min2, r_max2, r_min3, r_max3, r_fa, r_iaS, r_iaA, r_ex2a, r_ex2b, r_ex3a, r_ex3b, r_ex3c, r_nc, r_keepE, Nat.zero_add, Nat.add_zero, Nat.mul_one, Int.toNat_natCast, toNat_sub1, toNat_add1, decide_true, decide_false, Bool.not_true, Bool.not_false, if_true, if_false, Bool.false_eq_true, reduceCtorEq, hself]
    have o5 := (o3.kp k4).kp k5
    refine r_use fok27 (fill_calls a b w5 (o5.rd tlC_len)) rfl ?_
    rintro _ w6 ⟨k6, p6⟩
    obtain ⟨v6, rfl, r6⟩ := p6.form
    refine ⟨_, rfl, ?_⟩
    have k06 := Kp.trans k05 k6
    simp (disch := omega) only [r_ln, r_pick, r_pickT, r_pickF, r_condT, r_condF, r_gdTT, r_gdFF, r_gdTF, r_gdFT, r_gqTT, r_gqFF, r_gqTF, r_gqFT, r_not, r_lss, r_leq, r_gtr, r_geq, r_eql, r_neq, r_add, r_sub, r_min2, r_max2, r_min3, r_max3, r_fa, r_iaS, r_iaA, r_ex2a, r_ex2b, r_ex3a, r_ex3b, r_ex3c, r_nc, r_keepE, Nat.zero_add, Nat.add_zero, Nat.mul_one, Int.toNat_natCast, toNat_sub1, toNat_add1, decide_true, decide_false, Bool.not_true, Bool.not_false, if_true, if_false, Bool.false_eq_true, reduceCtorEq]
    refine r_use fok28 (reffill_calls a b w6 (hr0.kp k06)) rfl ?_
    rintro _ w7 ⟨k7, p7⟩
    obtain ⟨v7, rfl, r7⟩ := p7.form
    refine ⟨_, rfl, ?_⟩
    have k07 := Kp.trans k06 k7
    obtain ⟨f1, f2⟩ := fillR_small l a b
    simp (disch := omega) only [r_ln, r_pick, r_pickT, r_pickF, r_condT, r_condF, r_gdTT, r_gdFF, r_gdTF, r_gdFT, r_gqTT, r_gqFF, r_gqTF, r_gqFT, r_not, r_lss, r_leq, r_gtr, r_geq, r_eql, r_neq, r_add, r_sub, r_min2, r_max2, r_min3, r_max3, r_fa, r_iaS, r_iaA, r_ex2a, r_ex2b, r_ex3a, r_ex3b, r_ex3c, r_nc, r_keepE, Nat.zero_add, Nat.add_zero, Nat.mul_one, Int.toNat_natCast, toNat_sub1, toNat_add1, decide_true, decide_false, Bool.not_true, Bool.not_false, if_true, if_false, Bool.false_eq_true, reduceCtorEq, hself]
    refine r_use fok29 (lists_calls w7 ((r6.kp k7).rd (by omega) fun r h => by have := f2 r h; omega) (r7.rd (by omega) fun r h => by have := f2 r h; omega)) rfl ?_
    rintro _ w8 ⟨rfl, k8⟩
    refine ⟨_, rfl, ?_⟩
    have k08 := Kp.trans k07 k8
    simp (disch := omega) only [r_ln, r_pick, r_pickT, r_pickF, r_condT, r_condF, r_gdTT, r_gdFF, r_gdTF, r_gdFT, r_gqTT, r_gqFF, r_gqTF, r_gqFT, r_not, r_lss, r_leq, r_gtr, r_geq, r_eql, r_neq, r_add, r_sub, r_min2, r_max2, r_min3, r_max3, r_fa, r_iaS, r_iaA, r_ex2a, r_ex2b, r_ex3a, r_ex3b, r_ex3c, r_nc, r_keepE, Nat.zero_add, Nat.add_zero, Nat.mul_one, Int.toNat_natCast, toNat_sub1, toNat_add1, decide_true, decide_false, Bool.not_true, Bool.not_false, if_true, if_false, Bool.false_eq_true, reduceCtorEq, hselfR]
    refine r_use fok30 (sets_calls w8 ((((o5.kp k6).kp k7).kp k8).rd tlC_len) (hr0.kp k08) (by omega)) rfl ?_
    rintro _ w9 ⟨rfl, k9⟩
    refine ⟨_, rfl, ?_⟩
    simp (disch := omega) only [r_ln, r_pick, r_pickT, r_pickF, r_condT, r_condF, r_gdTT, r_gdFF, r_gdTF, r_gdFT, r_gqTT, r_gqFF, r_gqTF, r_gqFT, r_not, r_lss, r_leq, r_gtr, r_geq, r_eql, r_neq, r_add, r_sub, r_min2, r_max2, r_min3, r_max3, r_fa, r_iaS, r_iaA, r_ex2a, r_ex2b, r_ex3a, r_ex3b, r_ex3c, r_nc, r_keepE, Nat.zero_add, Nat.add_zero, Nat.mul_one, Int.toNat_natCast, toNat_sub1, toNat_add1, decide_true, decide_false, Bool.not_true, Bool.not_false, if_true, if_false, Bool.false_eq_true, reduceCtorEq, hselfT]
    refine r_use fok18 (fin w9 (Kp.trans k08 k9)) rfl ?_
    rintro _ w10 ⟨rfl, k10⟩
    refine ⟨_, rfl, ?_⟩
    simp (disch := omega) only [r_ln, r_pick, r_pickT, r_pickF, r_condT, r_condF, r_gdTT, r_gdFF, r_gdTF, r_gdFT, r_gqTT, r_gqFF, r_gqTF, r_gqFT, r_not, r_lss, r_leq, r_gtr, r_geq, r_eql, r_neq, r_add, r_sub, r_min2, r_max2, r_min3, r_max3, r_fa, r_iaS, r_iaA, r_ex2a, r_ex2b, r_ex3a, r_ex3b, r_ex3c, r_nc, r_keepE, Nat.zero_add, Nat.add_zero, Nat.mul_one, Int.toNat_natCast, toNat_sub1, toNat_add1, decide_true, decide_false, Bool.not_true, Bool.not_false, if_true, if_false, Bool.false_eq_true, reduceCtorEq]
    exact ⟨by first | rfl | trivial, k10⟩
  · have h20 : ¬ ((2 : Int) = 0) := by decide
    rw [he]
    simp (disch := omega) only [r_ln, r_pick, r_pickT, r_pickF, r_condT, r_condF, r_gdTT, r_gdFF, r_gdTF, r_gdFT, r_gqTT, r_gqFF, r_gqTF, r_gqFT, r_not, r_lss, r_leq, r_gtr, r_geq, r_eql, r_neq, r_add, r_sub, r_min2, r_max2, r_min3, r_max3, r_fa, r_iaS, r_iaA, r_ex2a, r_ex2b, r_ex3a, r_ex3b, r_ex3c, r_nc, r_keepE, Nat.zero_add, Nat.add_zero, Nat.mul_one, Int.toNat_natCast, toNat_sub1, toNat_add1, decide_true, decide_false, Bool.not_true, Bool.not_false, if_true, if_false, Bool.false_eq_true, reduceCtorEq, h20, r_gdU]
    refine r_copyT (hr0.kp k1) (by omega) fun cv w3 o3 k3 => ?_
    have k03 := Kp.trans k1 k3
    refine r_use fok25 (count_calls a b w3 (o3.rd tlC_len)) rfl ?_
    rintro _ w4 ⟨rfl, k4⟩
    refine ⟨_, rfl, ?_⟩
    have k04 := Kp.trans k03 k4
    rw [hcv]
    simp (disch := omega) only [r_ln, r_pick, r_pickT, r_pickF, r_condT, r_condF, r_gdTT, r_gdFF, r_gdTF, r_gdFT, r_gqTT, r_gqFF, r_gqTF, r_gqFT, r_not, r_lss, r_leq, r_gtr, r_geq, r_eql, r_neq, r_add, r_sub, r_min2, r_max2, r_min3, r_max3, r_fa, r_iaS, r_iaA, r_ex2a, r_ex2b, r_ex3a, r_ex3b, r_ex3c, r_nc, r_keepE, Nat.zero_add, Nat.add_zero, Nat.mul_one, Int.toNat_natCast, toNat_sub1, toNat_add1, decide_true, decide_false, Bool.not_true, Bool.not_false, if_true, if_false, Bool.false_eq_true, reduceCtorEq]
    refine r_use fok26 (refcount_calls a b w4 (hr0.kp k04)) rfl ?_
    rintro _ w5 ⟨rfl, k5⟩
    refine ⟨_, rfl, ?_⟩
    have k05 := Kp.trans k04 k5
    rw [hcv]
    simp (disch := omega) only [r_ln, r_pick, r_pickT, r_pickF, r_condT, r_condF, r_gdTT, r_gdFF, r_gdTF, r_gdFT, r_gqTT, r_gqFF, r_gqTF, r_gqFT, r_not, r_lss, r_leq, r_gtr, r_geq, r_eql, r_neq, r_add, r_sub, r_min2, r_max2, r_min3, r_max3, r_fa, r_iaS, r_iaA, r_ex2a, r_ex2b, r_ex3a, r_ex3b, r_ex3c, r_nc, r_keepE, Nat.zero_add, Nat.add_zero, Nat.mul_one, Int.toNat_natCast, toNat_sub1, toNat_add1, decide_true, decide_false, Bool.not_true, Bool.not_false, if_true, if_false, Bool.false_eq_true, reduceCtorEq, hself]
    have o5 := (o3.kp k4).kp k5
    refine r_use fok27 (fill_calls a b w5 (o5.rd tlC_len)) rfl ?_
    rintro _ w6 ⟨k6, p6⟩
    obtain ⟨v6, rfl, r6⟩ := p6.form
    refine ⟨_, rfl, ?_⟩
    have k06 := Kp.trans k05 k6
    simp (disch := omega) only [r_ln, r_pick, r_pickT, r_pickF, r_condT, r_condF, r_gdTT, r_gdFF, r_gdTF, r_gdFT, r_gqTT, r_gqFF, r_gqTF, r_gqFT, r_not, r_lss, r_leq, r_gtr, r_geq, r_eql, r_neq, r_add, r_sub, r_min2, r_max2, r_min3, r_max3, r_fa, r_iaS, r_iaA, r_ex2a, r_ex2b, r_ex3a, r_ex3b, r_ex3c, r_nc, r_keepE, Nat.zero_add, Nat.add_zero, Nat.mul_one, Int.toNat_natCast, toNat_sub1, toNat_add1, decide_true, decide_false, Bool.not_true, Bool.not_false, if_true, if_false, Bool.false_eq_true, reduceCtorEq]
    refine r_use fok28 (reffill_calls a b w6 (hr0.kp k06)) rfl ?_
    rintro _ w7 ⟨k7, p7⟩
    obtain ⟨v7, rfl, r7⟩ := p7.form
    refine ⟨_, rfl, ?_⟩
    have k07 := Kp.trans k06 k7
    obtain ⟨f1, f2⟩ := fillR_small l a b
    simp (disch := omega) only [r_ln, r_pick, r_pickT, r_pickF, r_condT, r_condF, r_gdTT, r_gdFF, r_gdTF, r_gdFT, r_gqTT, r_gqFF, r_gqTF, r_gqFT, r_not, r_lss, r_leq, r_gtr, r_geq, r_eql, r_neq, r_add, r_sub, r_min2, r_max2, r_min3, r_max3, r_fa, r_iaS, r_iaA, r_ex2a, r_ex2b, r_ex3a, r_ex3b, r_ex3c, r_nc, r_keepE, Nat.zero_add, Nat.add_zero, Nat.mul_one, Int.toNat_natCast, toNat_sub1, toNat_add1, decide_true, decide_false, Bool.not_true, Bool.not_false, if_true, if_false, Bool.false_eq_true, reduceCtorEq, hself]
    refine r_use fok29 (lists_calls w7 ((r6.kp k7).rd (by omega) fun r h => by have := f2 r h; omega) (r7.rd (by omega) fun r h => by have := f2 r h; omega)) rfl ?_
    rintro _ w8 ⟨rfl, k8⟩
    refine ⟨_, rfl, ?_⟩
    have k08 := Kp.trans k07 k8
    simp (disch := omega) only [r_ln, r_pick, r_pickT, r_pickF, r_condT, r_condF, r_gdTT, r_gdFF, r_gdTF, r_gdFT, r_gqTT, r_gqFF, r_gqTF, r_gqFT, r_not, r_lss, r_leq, r_gtr, r_geq, r_eql, r_neq, r_add, r_sub, r_min2, r_max2, r_min3, r_max3, r_fa, r_iaS, r_iaA, r_ex2a, r_ex2b, r_ex3a, r_ex3b, r_ex3c, r_nc, r_keepE, Nat.zero_add, Nat.add_zero, Nat.mul_one, Int.toNat_natCast, toNat_sub1, toNat_add1, decide_true, decide_false, Bool.not_true, Bool.not_false, if_true, if_false, Bool.false_eq_true, reduceCtorEq, hselfR]
    refine r_use fok30 (sets_calls w8 ((((o5.kp k6).kp k7).kp k8).rd tlC_len) (hr0.kp k08) (by omega)) rfl ?_
    rintro _ w9 ⟨rfl, k9⟩
    refine ⟨_, rfl, ?_⟩
    simp (disch := omega) only [r_ln, r_pick, r_pickT, r_pickF, r_condT, r_condF, r_gdTT, r_gdFF, r_gdTF, r_gdFT, r_gqTT, r_gqFF, r_gqTF, r_gqFT, r_not, r_lss, r_leq, r_gtr, r_geq, r_eql, r_neq, r_add, r_sub, r_min2, r_max2, r_min3, r_max3, r_fa, r_iaS, r_iaA, r_ex2a, r_ex2b, r_ex3a, r_ex3b, r_ex3c, r_nc, r_keepE, Nat.zero_add, Nat.add_zero, Nat.mul_one, Int.toNat_natCast, toNat_sub1, toNat_add1, decide_true, decide_false, Bool.not_true, Bool.not_false, if_true, if_false, Bool.false_eq_true, reduceCtorEq, hselfT]
    refine r_use fok18 (fin w9 (Kp.trans k08 k9)) rfl ?_
    rintro _ w10 ⟨rfl, k10⟩
    refine ⟨_, rfl, ?_⟩
    simp (disch := omega) only [r_ln, r_pick, r_pickT, r_pickF, r_condT, r_condF, r_gdTT, r_gdFF, r_gdTF, r_gdFT, r_gqTT, r_gqFF, r_gqTF, r_gqFT, r_not, r_lss, r_leq, r_gtr, r_geq, r_eql, r_neq, r_add, r_sub, r_min2, r_max2, r_min3, r_max3, r_fa, r_iaS, r_iaA, r_ex2a, r_ex2b, r_ex3a, r_ex3b, r_ex3c, r_nc, r_keepE, Nat.zero_add, Nat.add_zero, Nat.mul_one, Int.toNat_natCast, toNat_sub1, toNat_add1, decide_true, decide_false, Bool.not_true, Bool.not_false, if_true, if_false, Bool.false_eq_true, reduceCtorEq]
    exact ⟨by first | rfl | trivial, k10⟩

end Go.Proofs.Ytgalbokmgffhkaa
