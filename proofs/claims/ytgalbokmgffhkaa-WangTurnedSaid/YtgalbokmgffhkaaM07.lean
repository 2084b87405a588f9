/- Texts of my own, merged by program: A5 J2 N1. -/
import Derived.Test.YtgalbokmgffhkaaM06
import Derived.Test.YtgalbokmgffhkaaM00
set_option linter.all false
/- Contracts: steps, Count of the program. -/
namespace Go.Proofs.Ytgalbokmgffhkaa
open Go.Lf Go.RowKit Go.Wg

theorem IntsAt.put {base : Nat} {w : World} {v : Value} {l : List Int} (h : IntsAt base w v l) {q : Nat} (hq : q < l.length) (x : Int) :
    ∃ g cap, v = .slice (some ⟨g, 0, none⟩) l.length cap ∧ base ≤ g ∧ w.cell? ⟨g, q, none⟩ = some (.int .i64 (l.getD q 0)) ∧ w.frozen? ⟨g, q, none⟩ = false ∧ IntsAt base (w.setCell ⟨g, q, none⟩ (.int .i64 x)) v (l.set q x) := by
  obtain ⟨g, cap, e, hb, _, hf, hr⟩ := RecAt.set (j := 0) (p' := x) (u := .int .i64 x) iC_len h (List.getElem?_eq_getElem hq) (by omega) rfl
  simp only [Nat.mul_one, Nat.add_zero] at hf hr
  refine ⟨g, cap, e, hb, ?_, hf, hr⟩
  obtain ⟨b, off, _, e2, _, hc⟩ := (h.rd iC_len).at (List.getElem?_eq_getElem hq)
  rw [e] at e2
  cases e2
  have := hc 0 _ rfl
  rw [getD_lt _ _ _ hq]
  simpa using this
theorem BoolsAt.put {base : Nat} {w : World} {v : Value} {l : List Bool} (h : BoolsAt base w v l) {q : Nat} (hq : q < l.length) (x : Bool) :
    ∃ g cap, v = .slice (some ⟨g, 0, none⟩) l.length cap ∧ base ≤ g ∧ w.cell? ⟨g, q, none⟩ = some (.bool (l.getD q false)) ∧ w.frozen? ⟨g, q, none⟩ = false ∧ BoolsAt base (w.setCell ⟨g, q, none⟩ (.bool x)) v (l.set q x) := by
  obtain ⟨g, cap, e, hb, _, hf, hr⟩ := RecAt.set (j := 0) (p' := x) (u := .bool x) bC_len h (List.getElem?_eq_getElem hq) (by omega) rfl
  simp only [Nat.mul_one, Nat.add_zero] at hf hr
  refine ⟨g, cap, e, hb, ?_, hf, hr⟩
  obtain ⟨b, off, _, e2, _, hc⟩ := (h.rd bC_len).at (List.getElem?_eq_getElem hq)
  rw [e] at e2
  cases e2
  have := hc 0 _ rfl
  rw [getD_lt _ _ _ hq]
  simpa using this

theorem RdL.line {w : World} {v : Value} {L : List Line} (h : RdL w v L) {i : Nat} {x : Line} (hi : L[i]? = some x) :
    ∃ b off cap, v = .slice (some ⟨b, off, none⟩) L.length cap ∧ i < L.length ∧ ∀ K : Value → Prop, ldN 7 w (.pointer (some ⟨b, off + i * 7, none⟩)) K = K (lnV x) := by
  obtain ⟨b, off, cap, e, hlt, hc⟩ := h.at hi
  exact ⟨b, off, cap, e, hlt, fun K => r_ldCells (l := lnC x) rfl hc⟩

/-- Lines whose numbers are below N. -/
def LnOk (N : Nat) (L : List Line) : Prop := ∀ x ∈ L, (0 ≤ x.2.1 ∧ x.2.1 < N) ∧ 0 ≤ x.2.2.1 ∧ x.2.2.1 < N
def Rng (l : List Int) : Prop := ∀ x ∈ l, 0 ≤ x ∧ x ≤ 1099511627777

def stepF (fr nx : List Int) (x : Line) : List Int := nx.set x.2.2.1.toNat (min (nx.getD x.2.2.1.toNat 0 + fr.getD x.2.1.toNat 0) 1099511627777)
def stepL (L : List Line) (fr : List Int) : List Int := L.foldl (stepF fr) (List.replicate fr.length 0)
def stepsL (L : List Line) (fr : List Int) : Nat → List Int
  | 0 => fr
  | k + 1 => stepL L (stepsL L fr k)

theorem rng_getD {l : List Int} (h : Rng l) (i : Nat) : 0 ≤ l.getD i 0 ∧ l.getD i 0 ≤ 1099511627777 := by
  by_cases hi : i < l.length
  · exact h _ (getD_mem hi)
  · rw [List.getD_eq_getElem?_getD, List.getElem?_eq_none (by omega)]
    exact ⟨Int.le_refl _, by decide⟩
theorem stepF_rng {fr nx : List Int} (h1 : Rng fr) (h2 : Rng nx) (x : Line) : Rng (stepF fr nx x) ∧ (stepF fr nx x).length = nx.length := by
  refine ⟨fun y hy => ?_, by simp [stepF]⟩
  rcases List.mem_or_eq_of_mem_set hy with h | rfl
  · exact h2 y h
  · have := rng_getD h1 x.2.1.toNat
    have := rng_getD h2 x.2.2.1.toNat
    omega
theorem fold_rng {fr : List Int} (h1 : Rng fr) : ∀ (L : List Line) (nx : List Int), Rng nx → Rng (L.foldl (stepF fr) nx) ∧ (L.foldl (stepF fr) nx).length = nx.length
  | [], nx, h => ⟨h, rfl⟩
  | x :: L, nx, h => by
    have h2 := stepF_rng h1 h x
    have h3 := fold_rng h1 L _ h2.1
    exact ⟨h3.1, by rw [List.foldl_cons, h3.2, h2.2]⟩
theorem rng_zero (n : Nat) : Rng (List.replicate n 0) := fun x hx => by rw [List.eq_of_mem_replicate hx]; decide
theorem steps_rng {L : List Line} {fr : List Int} (h : Rng fr) : ∀ k, Rng (stepsL L fr k) ∧ (stepsL L fr k).length = fr.length
  | 0 => ⟨h, rfl⟩
  | k + 1 => by
    have h1 := steps_rng (L := L) h k
    have h2 := fold_rng h1.1 L _ (rng_zero (stepsL L fr k).length)
    refine ⟨h2.1, ?_⟩
    rw [stepsL, stepL, h2.2, List.length_replicate, h1.2]

set_option maxRecDepth 100000 in
set_option maxHeartbeats 400000 in
theorem steps_calls {lv fv : Value} {L : List Line} {fr : List Int} {h : Nat} (w : World) (hL : RdL w lv L) (hok : LnOk fr.length L) (hf : RdInts w fv fr) (hr : Rng fr) (hLl : L.length ≤ 1000000) (hfl : fr.length ≤ 1000000) (hh : h ≤ 4) :
    Calls Try.prog 71 #[lv, fv, .int .i64 h] w fun e w' => ∃ v', e = .returned v' ∧ Kp w w' ∧ RdInts w' v' (stepsL L fr h) := by
  obtain ⟨la, lcap, rfl, hlc⟩ := hL.len
  refine lift71 ?_
  unfold S71
  refine ⟨fun t1 t11 wr => ∃ k : Nat, k ≤ h ∧ t11 = .int .i64 k ∧ Kp w wr ∧ RdInts wr t1 (stepsL L fr k), fun _ t11 _ => h - (intOf t11).toNat, ⟨0, by omega, rfl, Kp.refl _, hf⟩, ?_⟩
  rintro _ t1 _ wr ⟨k, hk, rfl, hkr, hfr⟩
  have hrk := steps_rng (L := L) hr k
  have hnext : stepsL L fr (k + 1) = stepL L (stepsL L fr k) := rfl
  by_cases hlt : k < h
  case neg =>
    have hlt' : ¬ (k : Int) < (h : Int) := by omega
    have : k = h := by omega
    subst this
    simp (disch := omega) only [r_ln, r_pick, r_pickT, r_pickF, r_condT, r_condF, r_gdTT, r_gdFF, r_gdTF, r_gdFT, r_gqTT, r_gqFF, r_gqTF, r_gqFT, r_not, r_lss, r_leq, r_gtr, r_geq, r_eql, r_neq, r_add, r_sub, r_min2, r_max2, r_min3, r_max3, r_fa, r_iaS, r_iaA, r_ex2a, r_ex2b, r_ex3a, r_ex3b, r_ex3c, r_nc, r_keepE, Nat.zero_add, Nat.add_zero, Nat.mul_one, Int.toNat_natCast, toNat_sub1, toNat_add1, decide_true, decide_false, Bool.not_true, Bool.not_false, if_true, if_false, Bool.false_eq_true, reduceCtorEq, hlt']
    exact ⟨_, rfl, hkr, hfr⟩
  have hlt' : (k : Int) < (h : Int) := by omega
  generalize stepsL L fr k = F at *
  obtain ⟨hrF, hlF⟩ := hrk
  obtain ⟨fa, fcap, rfl, _⟩ := hfr.len
  simp (disch := omega) only [r_ln, r_pick, r_pickT, r_pickF, r_condT, r_condF, r_gdTT, r_gdFF, r_gdTF, r_gdFT, r_gqTT, r_gqFF, r_gqTF, r_gqFT, r_not, r_lss, r_leq, r_gtr, r_geq, r_eql, r_neq, r_add, r_sub, r_min2, r_max2, r_min3, r_max3, r_fa, r_iaS, r_iaA, r_ex2a, r_ex2b, r_ex3a, r_ex3b, r_ex3c, r_nc, r_keepE, Nat.zero_add, Nat.add_zero, Nat.mul_one, Int.toNat_natCast, toNat_sub1, toNat_add1, decide_true, decide_false, Bool.not_true, Bool.not_false, if_true, if_false, Bool.false_eq_true, reduceCtorEq, hlt']
  refine mk30' (by omega) fun v w1 hv k1 hvb => ?_
  have k1s := k1.size
  refine ⟨fun t18 wq => ∃ i : Nat, i ≤ L.length ∧ t18 = .int .i64 i ∧ Kp wr wq ∧ IntsAt wr.heap.size wq v ((L.take i).foldl (stepF F) (List.replicate F.length 0)), fun t18 _ => L.length - (intOf t18).toNat,
    ⟨0, by omega, rfl, k1, by simpa using hv⟩, ?_⟩
  rintro _ _ wq ⟨i, hi, rfl, hkq, hvq⟩
  by_cases hil : i < L.length
  case neg =>
    have hil' : ¬ (i : Int) < (L.length : Int) := by omega
    rw [List.take_of_length_le (by omega)] at hvq
    simp (disch := omega) only [r_ln, r_pick, r_pickT, r_pickF, r_condT, r_condF, r_gdTT, r_gdFF, r_gdTF, r_gdFT, r_gqTT, r_gqFF, r_gqTF, r_gqFT, r_not, r_lss, r_leq, r_gtr, r_geq, r_eql, r_neq, r_add, r_sub, r_min2, r_max2, r_min3, r_max3, r_fa, r_iaS, r_iaA, r_ex2a, r_ex2b, r_ex3a, r_ex3b, r_ex3c, r_nc, r_keepE, Nat.zero_add, Nat.add_zero, Nat.mul_one, Int.toNat_natCast, toNat_sub1, toNat_add1, decide_true, decide_false, Bool.not_true, Bool.not_false, if_true, if_false, Bool.false_eq_true, reduceCtorEq, hil']
    refine ⟨⟨k + 1, by omega, by go_num, Kp.trans hkr hkq, ?_⟩, by simp only [intOf]; omega⟩
    rw [hnext]
    refine (hvq.rd iC_len).ints ?_
    have := (fold_rng hrF L _ (rng_zero F.length)).2
    rw [this, List.length_replicate]
    omega
  have hil' : (i : Int) < (L.length : Int) := by omega
  obtain ⟨x, hx⟩ : ∃ x, L[i]? = some x := ⟨_, List.getElem?_eq_getElem hil⟩
  obtain ⟨lb, lo, lc, el, _, hld⟩ := RdL.line (hL.kp (Kp.trans hkr hkq)) hx
  cases el
  simp (disch := omega) only [r_ln, r_pick, r_pickT, r_pickF, r_condT, r_condF, r_gdTT, r_gdFF, r_gdTF, r_gdFT, r_gqTT, r_gqFF, r_gqTF, r_gqFT, r_not, r_lss, r_leq, r_gtr, r_geq, r_eql, r_neq, r_add, r_sub, r_min2, r_max2, r_min3, r_max3, r_fa, r_iaS, r_iaA, r_ex2a, r_ex2b, r_ex3a, r_ex3b, r_ex3c, r_nc, r_keepE, Nat.zero_add, Nat.add_zero, Nat.mul_one, Int.toNat_natCast, toNat_sub1, toNat_add1, decide_true, decide_false, Bool.not_true, Bool.not_false, if_true, if_false, Bool.false_eq_true, reduceCtorEq, decide_eq_true hil', hld]
  refine r_box fun b9 w2 e9 s9 h9 k9 => ?_
  refine r_stAll (n := 7) (ty := 78) (by kernel_rfl) rfl (by intro u hu; simp [Value.cells] at hu; rcases hu with rfl | rfl | rfl | rfl | rfl | rfl | rfl <;> rfl) h9 rfl fun w3 cg3 s3 h93 => ?_
  have k03 : Kp wq w3 := Kp.of_chg k9 cg3 fun i e => by omega
  refine r_drew fun w4 k4 _ => ?_
  have kq4 := Kp.trans k03 k4
  have h94 := block_below h93 k4
  have c4 : w4.cell? ⟨b9, 4, none⟩ = some (.int .i64 x.2.1) := by rw [cell_row h94]; rfl
  have c5 : w4.cell? ⟨b9, 5, none⟩ = some (.int .i64 x.2.2.1) := by rw [cell_row h94]; rfl
  obtain ⟨⟨x1, x2⟩, x3, x4⟩ := hok x (List.mem_of_getElem? hx)
  have hNx := fold_rng hrF (L.take i) _ (rng_zero F.length)
  rw [List.length_replicate] at hNx
  have htake : (L.take (i + 1)).foldl (stepF F) (List.replicate F.length 0) = stepF F ((L.take i).foldl (stepF F) (List.replicate F.length 0)) x := by
    rw [List.take_add_one, hx]
    simp
  obtain ⟨hrN, hlN⟩ := hNx
  generalize (L.take i).foldl (stepF F) (List.replicate F.length 0) = N at *
  obtain ⟨g, cap, ev, hgb, gc, gf, gset⟩ := IntsAt.put (hvq.kp kq4) (q := x.2.2.1.toNat) (by omega) (min (N.getD x.2.2.1.toNat 0 + F.getD x.2.1.toNat 0) 1099511627777)
  have hF4 := hfr.below (Kp.trans hkq kq4)
  obtain ⟨fb, fo, _, ef, fc⟩ := hF4.at (j := x.2.1.toNat) (by omega)
  cases ef
  have y1 := rng_getD hrN x.2.2.1.toNat
  have y2 := rng_getD hrF x.2.1.toNat
  subst ev
  simp (disch := omega) only [r_ln, r_pick, r_pickT, r_pickF, r_condT, r_condF, r_gdTT, r_gdFF, r_gdTF, r_gdFT, r_gqTT, r_gqFF, r_gqTF, r_gqFT, r_not, r_lss, r_leq, r_gtr, r_geq, r_eql, r_neq, r_add, r_sub, r_min2, r_max2, r_min3, r_max3, r_fa, r_iaS, r_iaA, r_ex2a, r_ex2b, r_ex3a, r_ex3b, r_ex3c, r_nc, r_keepE, Nat.zero_add, Nat.add_zero, Nat.mul_one, Int.toNat_natCast, toNat_sub1, toNat_add1, decide_true, decide_false, Bool.not_true, Bool.not_false, if_true, if_false, Bool.false_eq_true, reduceCtorEq, r_ld c4, r_ld c5, r_ld gc, r_ld fc]
  rw [st3 gc gf]
  try simp (disch := omega) only [r_ln, r_pick, r_pickT, r_pickF, r_condT, r_condF, r_gdTT, r_gdFF, r_gdTF, r_gdFT, r_gqTT, r_gqFF, r_gqTF, r_gqFT, r_not, r_lss, r_leq, r_gtr, r_geq, r_eql, r_neq, r_add, r_sub, r_min2, r_max2, r_min3, r_max3, r_fa, r_iaS, r_iaA, r_ex2a, r_ex2b, r_ex3a, r_ex3b, r_ex3c, r_nc, r_keepE, Nat.zero_add, Nat.add_zero, Nat.mul_one, Int.toNat_natCast, toNat_sub1, toNat_add1, decide_true, decide_false, Bool.not_true, Bool.not_false, if_true, if_false, Bool.false_eq_true, reduceCtorEq]
  refine ⟨⟨i + 1, by omega, by go_num, Kp.of_chg (Kp.trans hkq kq4) (Chg.setCell (S := fun k => k = g) _ _ rfl) fun k e => by omega, ?_⟩, by simp only [intOf]; omega⟩
  rw [htake]
  exact gset

def sumC (fr : List Int) : Int := fr.foldl (fun s n => min (s + n) 1099511627777) 0
def linesL (l : List Tile) (w : Nat) : List Line := (rowsL l w).map (lineOf l)
def limV (n : Int) : Value := if 1099511627776 < n then .tuple #[.int .i64 0, .int .i64 8] else .tuple #[.int .i64 n, .int .i64 0]

theorem lines_ok {l : List Tile} (hs : IsSet l) {a : Nat} (ha : a ≤ 4) : LnOk (8 ^ a) (linesL l a) := by
  intro x hx
  simp only [linesL, List.mem_map] at hx
  obtain ⟨r, hr, rfl⟩ := hx
  obtain ⟨hl, hrow⟩ := mem_rowsL.1 hr
  obtain ⟨q1, q2⟩ := cols_norths hs hrow.lt
  have q3 := code_range q1 (by simp [norths]; omega)
  have q4 := code_range q2 (by simp [souths]; omega)
  have e1 : (norths l r).length = a := by simp [norths, hl]
  have e2 : (souths l r).length = a := by simp [souths, hl]
  rw [e1] at q3
  rw [e2] at q4
  have e3 : ((8 ^ a : Nat) : Int) = 8 ^ a := by simp
  rw [e3]
  exact ⟨⟨q3.1, q3.2.1⟩, q4.1, q4.2.1⟩
theorem lines_len {l : List Tile} (hs : IsSet l) {a : Nat} (ha : a ≤ 4) : (linesL l a).length ≤ 65536 := by
  rw [linesL, List.length_map]
  exact Nat.le_trans (exts_length_le hs.most a []) (pow16_le ha)

theorem limited_calls (n : Int) (w : World) : Calls Try.prog 74 #[.int .i64 n] w fun e w' => e = .returned (limV n) ∧ w = w' := by
  refine lift74 ?_
  unfold S74 limV
  by_cases h : (1099511627776 : Int) < n
  · simp only [r_ln, r_pick, r_pickT, r_pickF, r_condT, r_condF, r_gdTT, r_gdFF, r_gdTF, r_gdFT, r_gqTT, r_gqFF, r_gqTF, r_gqFT, r_not, r_lss, r_leq, r_gtr, r_geq, r_eql, r_neq, r_add, r_sub, r_min2, r_max2, r_min3, r_max3, r_fa, r_iaS, r_iaA, r_ex2a, r_ex2b, r_ex3a, r_ex3b, r_ex3c, r_nc, r_keepE, Nat.zero_add, Nat.add_zero, Nat.mul_one, Int.toNat_natCast, toNat_sub1, toNat_add1, decide_true, decide_false, Bool.not_true, Bool.not_false, if_true, if_false, Bool.false_eq_true, reduceCtorEq, h]
    exact ⟨by first | rfl | trivial, by first | rfl | trivial⟩
  · simp only [r_ln, r_pick, r_pickT, r_pickF, r_condT, r_condF, r_gdTT, r_gdFF, r_gdTF, r_gdFT, r_gqTT, r_gqFF, r_gqTF, r_gqFT, r_not, r_lss, r_leq, r_gtr, r_geq, r_eql, r_neq, r_add, r_sub, r_min2, r_max2, r_min3, r_max3, r_fa, r_iaS, r_iaA, r_ex2a, r_ex2b, r_ex3a, r_ex3b, r_ex3c, r_nc, r_keepE, Nat.zero_add, Nat.add_zero, Nat.mul_one, Int.toNat_natCast, toNat_sub1, toNat_add1, decide_true, decide_false, Bool.not_true, Bool.not_false, if_true, if_false, Bool.false_eq_true, reduceCtorEq, h]
    exact ⟨by first | rfl | trivial, by first | rfl | trivial⟩

/-- What Count returns. -/
def countV (l : List Tile) (w h : Int) : Value := if ordErr l w h = 0 then limV (sumC (stepsL (linesL l w.toNat) (List.replicate (8 ^ w.toNat) 1) h.toNat)) else .tuple #[.int .i64 0, .int .i64 2]

theorem sum_rng {l : List Int} (h : Rng l) (i : Nat) : 0 ≤ sumC (l.take i) ∧ sumC (l.take i) ≤ 1099511627777 := by
  have key : ∀ (l : List Int) (s : Int), Rng l → 0 ≤ s → s ≤ 1099511627777 → 0 ≤ l.foldl (fun s n => min (s + n) 1099511627777) s ∧ l.foldl (fun s n => min (s + n) 1099511627777) s ≤ 1099511627777 := by
    intro l
    induction l with
    | nil => intro s _ h1 h2; exact ⟨h1, h2⟩
    | cons x l ih =>
      intro s h h1 h2
      have := h x (by simp)
      exact ih _ (fun y hy => h y (by simp [hy])) (by show 0 ≤ min (s + x) 1099511627777; omega) (by show min (s + x) 1099511627777 ≤ 1099511627777; omega)
  exact key _ 0 (fun x hx => h x (List.mem_of_mem_take hx)) (by decide) (by decide)

set_option maxRecDepth 100000 in
set_option maxHeartbeats 400000 in
theorem count_calls {v : Value} {l : List Tile} (a b : Int) (w : World) (hr : RdT w v l) : Calls Try.prog 25 #[v, .int .i64 a, .int .i64 b] w fun e w' => e = .returned (countV l a b) ∧ Kp w w' := by
  refine lift25 ?_
  unfold S25
  refine r_use fok53 (board_calls a b w hr) rfl ?_
  rintro _ w1 ⟨rfl, k1⟩
  refine ⟨_, rfl, ?_⟩
  unfold countV
  have h20 : ¬ ((2 : Int) = 0) := by decide
  rcases ordErr_cases l a b with he | he
  rotate_left
  · simp (disch := omega) only [r_ln, r_pick, r_pickT, r_pickF, r_condT, r_condF, r_gdTT, r_gdFF, r_gdTF, r_gdFT, r_gqTT, r_gqFF, r_gqTF, r_gqFT, r_not, r_lss, r_leq, r_gtr, r_geq, r_eql, r_neq, r_add, r_sub, r_min2, r_max2, r_min3, r_max3, r_fa, r_iaS, r_iaA, r_ex2a, r_ex2b, r_ex3a, r_ex3b, r_ex3c, r_nc, r_keepE, Nat.zero_add, Nat.add_zero, Nat.mul_one, Int.toNat_natCast, toNat_sub1, toNat_add1, decide_true, decide_false, Bool.not_true, Bool.not_false, if_true, if_false, Bool.false_eq_true, reduceCtorEq, he, h20]
    exact ⟨by first | rfl | trivial, k1⟩
  obtain ⟨hs, a, b, rfl, rfl, ha, hb⟩ := ord_ok he
  simp (disch := omega) only [r_ln, r_pick, r_pickT, r_pickF, r_condT, r_condF, r_gdTT, r_gdFF, r_gdTF, r_gdFT, r_gqTT, r_gqFF, r_gqTF, r_gqFT, r_not, r_lss, r_leq, r_gtr, r_geq, r_eql, r_neq, r_add, r_sub, r_min2, r_max2, r_min3, r_max3, r_fa, r_iaS, r_iaA, r_ex2a, r_ex2b, r_ex3a, r_ex3b, r_ex3c, r_nc, r_keepE, Nat.zero_add, Nat.add_zero, Nat.mul_one, Int.toNat_natCast, toNat_sub1, toNat_add1, decide_true, decide_false, Bool.not_true, Bool.not_false, if_true, if_false, Bool.false_eq_true, reduceCtorEq, he, decide_eq_true (rfl : (0 : Int) = 0)]
  refine r_use fok59 (rows_calls hs ha w1 (hr.kp k1)) rfl ?_
  rintro _ w2 ⟨lv, rfl, k2, hL⟩
  refine ⟨_, rfl, ?_⟩
  rw [bs30]
  have k3 : Kp w2 (w2.alloc (.cells #[.int .i64 1] 3)) := below_alloc _
  have n3 := heap_alloc_new w2 (.cells #[.int .i64 1] 3)
  generalize w2.alloc (.cells #[.int .i64 1] 3) = w3 at *
  refine r_use fok73 (codes_calls w3 ha.2) rfl ?_
  rintro _ _ ⟨rfl, rfl⟩
  refine ⟨_, rfl, ?_⟩
  have h8 := pow8N_le ha.2
  have hm := mulOk ha
  have hlo := lines_ok hs ha.2
  have hll := lines_len hs ha.2
  change LnAt _ _ _ (linesL l a) at hL
  generalize 8 ^ a = N at *
  refine r_use fok72 (repeatI_calls (b := w2.heap.size) (off := 0) (x := 1) hm w3 (by rw [cell_row n3]; rfl)) rfl ?_
  rintro _ w4 ⟨rv, rfl, k4, hrv⟩
  refine ⟨_, rfl, ?_⟩
  have k24 := Kp.trans k3 k4
  have hone : Rng (List.replicate N (1 : Int)) := fun x hx => by rw [List.eq_of_mem_replicate hx]; decide
  refine r_use fok71 (steps_calls (h := b) w4 ((hL.rd lnC_len).kp k24) (by rw [List.length_replicate]; exact hlo) ((hrv.rd iC_len).ints (by rw [List.length_replicate]; omega)) hone (by omega) (by rw [List.length_replicate]; omega) hb.2) rfl ?_
  rintro _ w5 ⟨sv, rfl, k5, hsv⟩
  refine ⟨_, rfl, ?_⟩
  obtain ⟨hr5, hl5⟩ := steps_rng (L := linesL l a) hone b
  try simp only [Int.toNat_natCast]
  rw [List.length_replicate] at hl5
  generalize stepsL (linesL l a) (List.replicate N 1) b = F at *
  obtain ⟨sa, scap, rfl, _⟩ := hsv.len
  have kall := Kp.trans (Kp.trans k1 k2) (Kp.trans k24 k5)
  try simp only [r_ln, r_pick, r_pickT, r_pickF, r_condT, r_condF, r_gdTT, r_gdFF, r_gdTF, r_gdFT, r_gqTT, r_gqFF, r_gqTF, r_gqFT, r_not, r_lss, r_leq, r_gtr, r_geq, r_eql, r_neq, r_add, r_sub, r_min2, r_max2, r_min3, r_max3, r_fa, r_iaS, r_iaA, r_ex2a, r_ex2b, r_ex3a, r_ex3b, r_ex3c, r_nc, r_keepE, Nat.zero_add, Nat.add_zero, Nat.mul_one, Int.toNat_natCast, toNat_sub1, toNat_add1, decide_true, decide_false, Bool.not_true, Bool.not_false, if_true, if_false, Bool.false_eq_true, reduceCtorEq]
  refine ⟨fun t9 t29 wr => ∃ i : Nat, i ≤ F.length ∧ t29 = .int .i64 i ∧ t9 = .int .i64 (sumC (F.take i)) ∧ w5 = wr, fun _ t29 _ => F.length - (intOf t29).toNat, ⟨0, by omega, rfl, rfl, rfl⟩, ?_⟩
  rintro _ _ _ _ ⟨i, hi, rfl, rfl, rfl⟩
  by_cases hlt : i < F.length
  case neg =>
    have hlt' : ¬ (i : Int) < (F.length : Int) := by omega
    rw [List.take_of_length_le (by omega)]
    simp (disch := omega) only [r_ln, r_pick, r_pickT, r_pickF, r_condT, r_condF, r_gdTT, r_gdFF, r_gdTF, r_gdFT, r_gqTT, r_gqFF, r_gqTF, r_gqFT, r_not, r_lss, r_leq, r_gtr, r_geq, r_eql, r_neq, r_add, r_sub, r_min2, r_max2, r_min3, r_max3, r_fa, r_iaS, r_iaA, r_ex2a, r_ex2b, r_ex3a, r_ex3b, r_ex3c, r_nc, r_keepE, Nat.zero_add, Nat.add_zero, Nat.mul_one, Int.toNat_natCast, toNat_sub1, toNat_add1, decide_true, decide_false, Bool.not_true, Bool.not_false, if_true, if_false, Bool.false_eq_true, reduceCtorEq, hlt']
    refine r_use fok74 (limited_calls _ w5) rfl ?_
    rintro _ _ ⟨rfl, rfl⟩
    refine ⟨_, rfl, ?_⟩
    unfold limV
    by_cases hc : (1099511627776 : Int) < sumC F
    · rw [if_pos hc]
      simp only [r_ln, r_pick, r_pickT, r_pickF, r_condT, r_condF, r_gdTT, r_gdFF, r_gdTF, r_gdFT, r_gqTT, r_gqFF, r_gqTF, r_gqFT, r_not, r_lss, r_leq, r_gtr, r_geq, r_eql, r_neq, r_add, r_sub, r_min2, r_max2, r_min3, r_max3, r_fa, r_iaS, r_iaA, r_ex2a, r_ex2b, r_ex3a, r_ex3b, r_ex3c, r_nc, r_keepE, Nat.zero_add, Nat.add_zero, Nat.mul_one, Int.toNat_natCast, toNat_sub1, toNat_add1, decide_true, decide_false, Bool.not_true, Bool.not_false, if_true, if_false, Bool.false_eq_true, reduceCtorEq]
      exact ⟨by first | rfl | trivial, kall⟩
    · rw [if_neg hc]
      simp only [r_ln, r_pick, r_pickT, r_pickF, r_condT, r_condF, r_gdTT, r_gdFF, r_gdTF, r_gdFT, r_gqTT, r_gqFF, r_gqTF, r_gqFT, r_not, r_lss, r_leq, r_gtr, r_geq, r_eql, r_neq, r_add, r_sub, r_min2, r_max2, r_min3, r_max3, r_fa, r_iaS, r_iaA, r_ex2a, r_ex2b, r_ex3a, r_ex3b, r_ex3c, r_nc, r_keepE, Nat.zero_add, Nat.add_zero, Nat.mul_one, Int.toNat_natCast, toNat_sub1, toNat_add1, decide_true, decide_false, Bool.not_true, Bool.not_false, if_true, if_false, Bool.false_eq_true, reduceCtorEq]
      exact ⟨by first | rfl | trivial, kall⟩
  have hlt' : (i : Int) < (F.length : Int) := by omega
  obtain ⟨fb, fo, _, ef, fc⟩ := hsv.at hlt
  cases ef
  have y1 := sum_rng hr5 i
  have y2 := rng_getD hr5 i
  simp (disch := omega) only [r_ln, r_pick, r_pickT, r_pickF, r_condT, r_condF, r_gdTT, r_gdFF, r_gdTF, r_gdFT, r_gqTT, r_gqFF, r_gqTF, r_gqFT, r_not, r_lss, r_leq, r_gtr, r_geq, r_eql, r_neq, r_add, r_sub, r_min2, r_max2, r_min3, r_max3, r_fa, r_iaS, r_iaA, r_ex2a, r_ex2b, r_ex3a, r_ex3b, r_ex3c, r_nc, r_keepE, Nat.zero_add, Nat.add_zero, Nat.mul_one, Int.toNat_natCast, toNat_sub1, toNat_add1, decide_true, decide_false, Bool.not_true, Bool.not_false, if_true, if_false, Bool.false_eq_true, reduceCtorEq, decide_eq_true hlt', r_ld fc]
  refine ⟨⟨i + 1, by omega, by go_num, ?_, by first | rfl | trivial⟩, by simp only [intOf]; omega⟩
  rw [take_succ' _ _ hlt, sumC, sumC, List.foldl_append, ← getD_lt F i 0 hlt]
  rfl

end Go.Proofs.Ytgalbokmgffhkaa

/- Boards, plainly: cell by cell is row by row, from above is from below. No program. -/
namespace Go.Proofs.Ytgalbokmgffhkaa
open Go.Wg

/-- In how many ways k rows lie under colours. -/
def Bk (l : List Tile) (w : Nat) : Nat → Int → Nat
  | 0, _ => 1
  | k + 1, c => tot (fun r => if code (norths l r) = c then Bk l w k (code (souths l r)) else 0) (rowsL l w)

theorem line_range {l : List Tile} {c : Int} (h : c ∈ lineL l) : 0 ≤ c ∧ c ≤ 7 := by
  simp only [lineL, List.mem_map, List.mem_filter, List.mem_range] at h
  obtain ⟨n, ⟨hn, _⟩, rfl⟩ := h
  omega

theorem row_line {l : List Tile} (hs : IsSet l) {w : Nat} {r : List Nat} (hr : r ∈ rowsL l w) : r.length = w ∧ (∀ c ∈ norths l r, c ∈ lineL l) ∧ (∀ c ∈ souths l r, c ∈ lineL l) ∧ endE l r < 8 := by
  obtain ⟨h1, h2, _⟩ := mem_rowsL.1 hr
  have hm : ∀ i ∈ r, tl l i ∈ l := fun i hi => by unfold tl; exact getD_mem (h2 i hi)
  refine ⟨h1, fun c hc => ?_, fun c hc => ?_, ?_⟩
  · simp only [norths, List.mem_map] at hc
    obtain ⟨i, hi, rfl⟩ := hc
    exact (mem_line hs.cols (hm i hi)).1
  · simp only [souths, List.mem_map] at hc
    obtain ⟨i, hi, rfl⟩ := hc
    exact (mem_line hs.cols (hm i hi)).2
  · unfold endE
    have hlt : r.getLastD 0 < l.length := by
      by_cases h0 : r = []
      · rw [h0]; have := hs.pos; simp; omega
      · refine h2 _ ?_
        rw [List.getLastD_eq_getLast?, List.getLast?_eq_some_getLast h0]
        exact List.getLast_mem h0
    have := cols_range (hs.cols (tl l (r.getLastD 0)) (by unfold tl; exact getD_mem hlt))
    omega

theorem match_iff {l : List Tile} {w : Nat} {cs : List Int} {r : List Nat} (hc : ∀ c ∈ cs, c ∈ lineL l) (hw : cs.length = w) (hr : r.length = w) (hn : ∀ c ∈ norths l r, c ∈ lineL l) : matchN l (cs.map (lidx l)) 0 w r ↔ code (norths l r) = code cs := by
  have hlen : (norths l r).length = cs.length := by simp [norths]; omega
  have e : matchN l (cs.map (lidx l)) 0 w r ↔ norths l r = cs := by
    constructor
    · intro h
      refine List.ext_getElem hlen fun j h1 h2 => ?_
      have hj := h j (by omega) (by omega)
      have hjr : j < r.length := by omega
      rw [List.getD_eq_getElem?_getD (l := cs.map (lidx l)), List.getElem?_map, List.getElem?_eq_getElem h2] at hj
      simp only [Option.map_some, Option.getD_some] at hj
      rw [lidx_get (hc _ (List.getElem_mem h2))] at hj
      rw [hj]
      simp [norths, List.getD_eq_getElem?_getD, hjr]
    · intro h j _ hj
      have hjc : j < cs.length := by omega
      have hjr : j < r.length := by omega
      rw [List.getD_eq_getElem?_getD (l := cs.map (lidx l)), List.getElem?_map, List.getElem?_eq_getElem hjc]
      simp only [Option.map_some, Option.getD_some]
      rw [lidx_get (hc _ (List.getElem_mem hjc))]
      have : cs[j] = (norths l r)[j]'(by omega) := by simp only [h]
      rw [this]
      simp [norths, List.getD_eq_getElem?_getD, hjr]
  rw [e]
  exact ⟨fun h => by rw [h], fun h => code_inj hlen (fun x hx => line_range (hn x hx)) (fun x hx => line_range (hc x hx)) h⟩

theorem ways_rows {l : List Tile} (hs : IsSet l) {w h : Nat} (hw : 0 < w) : ∀ (k y : Nat) (cs : List Int) (e : Nat), 0 < y → y + k = h → cs.length = w → (∀ c ∈ cs, c ∈ lineL l) → e < 8 →
    Wq l w h (k * w) (encS (lineL l).length (cs.map (lidx l)) e) = Bk l w k (code cs)
  | 0, y, cs, e, hy, hyk, hcl, hc, he => by simp [Wq, Bk]
  | k + 1, y, cs, e, hy, hyk, hcl, hc, he => by
    rw [Nat.add_mul, Nat.one_mul, row_ways hs hw (y := y) (by omega) w 0 [] (cs.map (lidx l)) e (by omega) rfl (by simp) (by simpa using hcl) (fun a ha => by
      obtain ⟨c, hcm, rfl⟩ := List.mem_map.1 ha
      exact lidx_lt (hc c hcm)) he (by omega)]
    show _ = tot _ (rowsL l w)
    refine tot_congr fun r hr => ?_
    obtain ⟨hrl, hn, hso, hE⟩ := row_line hs hr
    have hm := match_iff hc hcl hrl hn
    by_cases hcn : code (norths l r) = code cs
    · rw [if_pos (.inr (hm.2 hcn)), if_pos hcn]
      have hsl : (souths l r).length = w := by simp [souths, hrl]
      have := ways_rows (h := h) hs hw k (y + 1) (souths l r) (endE l r) (by omega) (by omega) hsl hso hE
      simpa [digS] using this
    · rw [if_neg hcn, if_neg]
      rintro (h1 | h1)
      · omega
      · exact hcn (hm.1 h1)

/-- All of a board. -/
theorem ways_all {l : List Tile} (hs : IsSet l) {w h : Nat} (hw : 0 < w) (hh : 0 < h) : Wq l w h (w * h) 0 = tot (fun r => Bk l w (h - 1) (code (souths l r))) (rowsL l w) := by
  have h0 : 0 = encS (lineL l).length (List.replicate w 0) 0 := by rw [encS, encD_zero]
  have hlp := line_pos hs
  have e1 : w * h = (h - 1) * w + w := by
    have : h = h - 1 + 1 := by omega
    conv => lhs; rw [this, Nat.mul_comm, Nat.add_mul, Nat.one_mul]
  have key := row_ways hs hw (h := h) (k := h - 1) (y := 0) (by omega) w 0 [] (List.replicate w 0) 0 (by omega) rfl (by simp) (by simp) (fun a ha => by rw [List.eq_of_mem_replicate ha]; exact hlp) (by omega) (by omega)
  rw [← h0, ← e1] at key
  rw [key]
  show tot _ (rowsL l w) = _
  refine tot_congr fun r hr => ?_
  obtain ⟨hrl, hn, hso, hE⟩ := row_line hs hr
  rw [if_pos (.inl rfl)]
  have hsl : (souths l r).length = w := by simp [souths, hrl]
  have := ways_rows (h := h) hs hw (h - 1) 1 (souths l r) (endE l r) (by omega) (by omega) hsl hso hE
  simpa [digS] using this

/-! ### from above and from below -/
def Fk (L : List Line) : Nat → Int → Nat
  | 0, _ => 1
  | k + 1, c => tot (fun x => if x.2.2.1 = c then Fk L k x.2.1 else 0) L
def Gk (L : List Line) : Nat → Int → Nat
  | 0, _ => 1
  | k + 1, c => tot (fun x => if x.2.1 = c then Gk L k x.2.2.1 else 0) L
theorem Bk_eq (l : List Tile) (w : Nat) : ∀ (k : Nat) (c : Int), Bk l w k c = Gk (linesL l w) k c
  | 0, _ => rfl
  | k + 1, c => by
    rw [Bk, Gk, linesL, tot_map]
    refine tot_congr fun r _ => ?_
    show _ = if code (norths l r) = c then Gk (linesL l w) k (code (souths l r)) else 0
    rw [← Bk_eq l w k]

theorem tot_swap {α : Type} {N : Nat} {f : α → Int} {g : α → Nat → Nat} : ∀ {L : List α}, (∀ x ∈ L, 0 ≤ f x ∧ f x < N) → tot (fun c : Nat => tot (fun x => if f x = (c : Int) then g x c else 0) L) (List.range N) = tot (fun x => g x (f x).toNat) L
  | [], _ => tot_zero fun _ _ => rfl
  | x :: L, h => by
    simp only [tot]
    rw [tot_add, tot_swap fun y hy => h y (by simp [hy])]
    congr 1
    have hx := h x (by simp)
    rw [tot_range_eq (i := (f x).toNat) (by omega) fun j _ hji => if_neg (by omega), if_pos (by omega)]

theorem fg_step {L : List Line} {N : Nat} (hL : LnOk N L) (k j : Nat) : tot (fun c : Nat => Fk L (k + 1) c * Gk L j c) (List.range N) = tot (fun c : Nat => Fk L k c * Gk L (j + 1) c) (List.range N) := by
  have e1 : tot (fun c : Nat => Fk L (k + 1) c * Gk L j c) (List.range N) = tot (fun c : Nat => tot (fun x => if x.2.2.1 = (c : Int) then Fk L k x.2.1 * Gk L j c else 0) L) (List.range N) := tot_congr fun c _ => by
    rw [Fk, ← tot_mul]
    refine tot_congr fun x _ => ?_
    split
    · rfl
    · simp
  have e2 : tot (fun c : Nat => Fk L k c * Gk L (j + 1) c) (List.range N) = tot (fun c : Nat => tot (fun x => if x.2.1 = (c : Int) then Gk L j x.2.2.1 * Fk L k c else 0) L) (List.range N) := tot_congr fun c _ => by
    rw [Gk, Nat.mul_comm, ← tot_mul]
    refine tot_congr fun x _ => ?_
    split
    · rfl
    · simp
  rw [e1, e2, tot_swap (f := fun x : Line => x.2.2.1) (g := fun x c => Fk L k x.2.1 * Gk L j (c : Int)) fun x hx => (hL x hx).2,
    tot_swap (f := fun x : Line => x.2.1) (g := fun x c => Gk L j x.2.2.1 * Fk L k (c : Int)) fun x hx => (hL x hx).1]
  refine tot_congr fun x hx => ?_
  have := hL x hx
  have a1 : ((x.2.2.1.toNat : Nat) : Int) = x.2.2.1 := by omega
  have a2 : ((x.2.1.toNat : Nat) : Int) = x.2.1 := by omega
  rw [a1, a2, Nat.mul_comm]
theorem fg_all {L : List Line} {N : Nat} (hL : LnOk N L) : ∀ (k j : Nat), tot (fun c : Nat => Fk L k c * Gk L j c) (List.range N) = tot (fun c : Nat => Gk L (k + j) c) (List.range N)
  | 0, j => tot_congr fun c _ => by rw [Fk, Nat.one_mul, Nat.zero_add]
  | k + 1, j => by
    rw [fg_step hL, fg_all hL k (j + 1)]
    rw [show k + (j + 1) = k + 1 + j by omega]
/-- How many boards of h rows there are. -/
def boards (L : List Line) (h : Nat) : Nat := tot (fun x => Gk L (h - 1) x.2.2.1) L
theorem f_total {L : List Line} {N h : Nat} (hL : LnOk N L) (hh : 0 < h) : tot (fun c : Nat => Fk L h c) (List.range N) = boards L h := by
  have h1 := fg_all hL h 0
  have h2 : tot (fun c : Nat => Fk L h c * Gk L 0 c) (List.range N) = tot (fun c : Nat => Fk L h c) (List.range N) := tot_congr fun c _ => by rw [Gk, Nat.mul_one]
  rw [h2] at h1
  rw [h1, Nat.add_zero]
  obtain ⟨m, rfl⟩ : ∃ m, h = m + 1 := ⟨h - 1, by omega⟩
  have h3 : tot (fun c : Nat => Gk L (m + 1) c) (List.range N) = tot (fun c : Nat => tot (fun x => if x.2.1 = (c : Int) then Gk L m x.2.2.1 else 0) L) (List.range N) := rfl
  rw [h3, tot_swap (f := fun x : Line => x.2.1) (g := fun x _ => Gk L m x.2.2.1) fun x hx => (hL x hx).1]
  rfl
theorem ways_boards {l : List Tile} (hs : IsSet l) {w h : Nat} (hw : 0 < w) (hh : 0 < h) : Wq l w h (w * h) 0 = boards (linesL l w) h := by
  rw [ways_all hs hw hh, boards, linesL, tot_map]
  exact tot_congr fun r _ => Bk_eq l w _ _

/-! ### numbers that are capped -/
def capI (n : Nat) : Int := min (n : Int) 1099511627777
theorem capI_add (a b : Nat) : min (capI a + capI b) 1099511627777 = capI (a + b) := by unfold capI; omega
theorem capI_zero : capI 0 = 0 := rfl

theorem stepF_exact {L : List Line} {N : Nat} (hL : LnOk N L) {fr : List Int} {F : Int → Nat} (hf : fr.length = N) (hF : ∀ c : Nat, c < N → fr.getD c 0 = capI (F c)) :
    ∀ (M : List Line) (nx : List Int) (G : Nat → Nat), (∀ x ∈ M, x ∈ L) → nx.length = N → (∀ c, c < N → nx.getD c 0 = capI (G c)) →
      ∀ c, c < N → (M.foldl (stepF fr) nx).getD c 0 = capI (G c + tot (fun x => if x.2.2.1 = (c : Int) then F x.2.1 else 0) M)
  | [], nx, G, _, hn, hG, c, hc => by simp only [List.foldl_nil, tot, Nat.add_zero]; exact hG c hc
  | x :: M, nx, G, hM, hn, hG, c, hc => by
    obtain ⟨⟨x1, x2⟩, x3, x4⟩ := hL x (hM x (by simp))
    rw [List.foldl_cons]
    have hstep : ∀ c, c < N → (stepF fr nx x).getD c 0 = capI (G c + if x.2.2.1 = (c : Int) then F x.2.1 else 0) := fun c hc => by
      unfold stepF
      by_cases e : x.2.2.1.toNat = c
      · subst e
        rw [List.getD_eq_getElem?_getD, List.getElem?_set_self (by omega), Option.getD_some, hG _ hc, hF _ (by omega), if_pos (by omega)]
        have : ((x.2.1.toNat : Nat) : Int) = x.2.1 := by omega
        rw [this, capI_add]
      · rw [List.getD_eq_getElem?_getD, List.getElem?_set_ne e, ← List.getD_eq_getElem?_getD, hG c hc, if_neg (by omega), Nat.add_zero]
    have := stepF_exact hL hf hF M (stepF fr nx x) (fun c => G c + if x.2.2.1 = (c : Int) then F x.2.1 else 0) (fun y hy => hM y (by simp [hy])) (by simp [stepF, hn]) hstep c hc
    rw [this]
    simp only [tot]
    congr 1
    omega

theorem steps_exact {L : List Line} {N : Nat} (hL : LnOk N L) : ∀ k, (stepsL L (List.replicate N 1) k).length = N ∧ ∀ c : Nat, c < N → (stepsL L (List.replicate N 1) k).getD c 0 = capI (Fk L k c)
  | 0 => ⟨by simp [stepsL], fun c hc => by
    rw [stepsL, getD_lt _ _ _ (by simpa using hc), List.getElem_replicate]; rfl⟩
  | k + 1 => by
    obtain ⟨h1, h2⟩ := steps_exact hL k
    have hl : (stepsL L (List.replicate N 1) (k + 1)).length = N := by
      have hr : Rng (List.replicate N 1) := fun x hx => by rw [List.eq_of_mem_replicate hx]; decide
      have := (steps_rng (L := L) hr (k + 1)).2
      simpa using this
    refine ⟨hl, fun c hc => ?_⟩
    have := stepF_exact hL h1 h2 L (List.replicate N 0) (fun _ => 0) (fun x hx => hx) (by simp) (fun c hc => by rw [getD_lt _ _ _ (by simpa using hc), List.getElem_replicate]; rfl) c hc
    rw [stepsL, stepL, h1, this, Nat.zero_add]
    rfl

theorem sumC_exact {fr : List Int} {N : Nat} {G : Nat → Nat} (hf : fr.length = N) (hG : ∀ c, c < N → fr.getD c 0 = capI (G c)) : sumC fr = capI (tot G (List.range N)) := by
  have key : ∀ n, n ≤ N → sumC (fr.take n) = capI (tot G (List.range n)) := by
    intro n
    induction n with
    | zero => intro _; rfl
    | succ n ih =>
      intro hn
      have hlt : n < fr.length := by omega
      rw [take_succ' _ _ hlt, List.range_succ, tot_append]
      have : sumC (fr.take n ++ [fr[n]]) = min (sumC (fr.take n) + fr[n]) 1099511627777 := by
        unfold sumC; rw [List.foldl_append]; rfl
      rw [this, ih (by omega), ← getD_lt fr n 0 hlt, hG n (by omega), capI_add]
      simp [tot]
  have := key N (Nat.le_refl _)
  rwa [List.take_of_length_le (by omega)] at this

/-- What Count counts. -/
theorem count_exact {l : List Tile} (hs : IsSet l) {w h : Nat} (hw : 1 ≤ w ∧ w ≤ 4) (hh : 0 < h) : sumC (stepsL (linesL l w) (List.replicate (8 ^ w) 1) h) = capI (boards (linesL l w) h) := by
  have hL := lines_ok hs hw.2
  obtain ⟨h1, h2⟩ := steps_exact hL h
  rw [sumC_exact h1 h2, f_total hL hh]

end Go.Proofs.Ytgalbokmgffhkaa

/- Closed boards, plainly: ways round. No program. -/
namespace Go.Proofs.Ytgalbokmgffhkaa
open Go.Wg

/-- In how many ways k rows lead from a to c. -/
def Pt {α : Type} (C : List α) (f g : α → Int) (a : Int) : Nat → Int → Nat
  | 0, c => if a = c then 1 else 0
  | k + 1, c => tot (fun x => if g x = c then Pt C f g a k (f x) else 0) C
/-- Ways round, by their last row. -/
def roundN {α : Type} (C : List α) (f g : α → Int) (h : Nat) : Nat := tot (fun x => Pt C f g (g x) (h - 1) (f x)) C

theorem pt_label {α : Type} {C : List α} {f g f' g' : α → Int} (h : ∀ x ∈ C, ∀ y ∈ C, g x = f y ↔ g' x = f' y) {x : α} (hx : x ∈ C) : ∀ (k : Nat) {y : α}, y ∈ C → Pt C f g (g x) k (f y) = Pt C f' g' (g' x) k (f' y)
  | 0, y, hy => by
    unfold Pt
    by_cases e : g x = f y
    · rw [if_pos e, if_pos ((h x hx y hy).1 e)]
    · rw [if_neg e, if_neg fun e' => e ((h x hx y hy).2 e')]
  | k + 1, y, hy => by
    unfold Pt
    refine tot_congr fun z hz => ?_
    by_cases e : g z = f y
    · rw [if_pos e, if_pos ((h z hz y hy).1 e), pt_label h hx k hz]
    · rw [if_neg e, if_neg fun e' => e ((h z hz y hy).2 e')]
theorem round_label {α : Type} {C : List α} {f g f' g' : α → Int} (h : ∀ x ∈ C, ∀ y ∈ C, g x = f y ↔ g' x = f' y) (n : Nat) : roundN C f g n = roundN C f' g' n :=
  tot_congr fun _ hx => pt_label h hx (n - 1) hx
theorem pt_map {α β : Type} (φ : α → β) (C : List α) (f g : β → Int) (a : Int) : ∀ (k : Nat) (c : Int), Pt (C.map φ) f g a k c = Pt C (fun x => f (φ x)) (fun x => g (φ x)) a k c
  | 0, _ => rfl
  | k + 1, c => by
    unfold Pt
    rw [tot_map]
    refine tot_congr fun x _ => ?_
    rw [pt_map φ C f g a k]
theorem round_map {α β : Type} (φ : α → β) (C : List α) (f g : β → Int) (n : Nat) : roundN (C.map φ) f g n = roundN C (fun x => f (φ x)) (fun x => g (φ x)) n := by
  unfold roundN
  rw [tot_map]
  exact tot_congr fun x _ => pt_map φ C f g _ _ _

theorem round_sum {α : Type} {N h : Nat} {C : List α} {f g : α → Int} (hg : ∀ x ∈ C, 0 ≤ g x ∧ g x < N) (hh : 0 < h) : tot (fun a : Nat => Pt C f g (a : Int) h (a : Int)) (List.range N) = roundN C f g h := by
  obtain ⟨m, rfl⟩ : ∃ m, h = m + 1 := ⟨h - 1, by omega⟩
  have e : tot (fun a : Nat => Pt C f g (a : Int) (m + 1) (a : Int)) (List.range N) = tot (fun a : Nat => tot (fun x => if g x = (a : Int) then Pt C f g (a : Int) m (f x) else 0) C) (List.range N) := rfl
  rw [e, tot_swap (f := g) (g := fun x c => Pt C f g (c : Int) m (f x)) hg]
  refine tot_congr fun x hx => ?_
  have := hg x hx
  rw [show (((g x).toNat : Nat) : Int) = g x by omega, Nat.add_sub_cancel]

theorem pt_south {α : Type} {C : List α} {f g : α → Int} {a c : Int} {k : Nat} (h : ∀ x ∈ C, g x ≠ c) : Pt C f g a (k + 1) c = 0 := by
  unfold Pt
  exact tot_zero fun x hx => if_neg (h x hx)
theorem pt_north {α : Type} {C : List α} {f g : α → Int} {a : Int} (h : ∀ x ∈ C, f x ≠ a) : ∀ (k : Nat) (c : Int), Pt C f g a (k + 1) c = 0
  | 0, c => by
    unfold Pt
    refine tot_zero fun x hx => ?_
    split
    · exact if_neg fun e => h x hx e.symm
    · rfl
  | k + 1, c => by
    rw [Pt]
    refine tot_zero fun x hx => ?_
    split
    · exact pt_north h k _
    · rfl

/-! ### the program's way: steps from one list of Norths -/
def unitL (N : Nat) (a : Nat) : List Int := (List.replicate N 0).set a 1
abbrev lnN (x : Line) : Int := x.2.1
abbrev lnS (x : Line) : Int := x.2.2.1
theorem unit_len (N a : Nat) : (unitL N a).length = N := by simp [unitL]
theorem unit_rng (N a : Nat) : Rng (unitL N a) := fun x hx => by
  rcases List.mem_or_eq_of_mem_set hx with h | h
  · rw [List.eq_of_mem_replicate h]; decide
  · rw [h]; decide
theorem steps_from {L : List Line} {N a : Nat} (hL : LnOk N L) : ∀ k, (stepsL L (unitL N a) k).length = N ∧ ∀ c : Nat, c < N → (stepsL L (unitL N a) k).getD c 0 = capI (Pt L lnN lnS (a : Int) k (c : Int))
  | 0 => ⟨by simp [stepsL, unit_len], fun c hc => by
    rw [stepsL, unitL, Pt]
    by_cases e : a = c
    · subst e
      rw [List.getD_eq_getElem?_getD, List.getElem?_set_self (by simpa using hc), if_pos rfl]; rfl
    · rw [List.getD_eq_getElem?_getD, List.getElem?_set_ne e, List.getElem?_replicate, if_pos hc, if_neg (by omega)]; rfl⟩
  | k + 1 => by
    obtain ⟨h1, h2⟩ := steps_from (a := a) hL k
    have hl : (stepsL L (unitL N a) (k + 1)).length = N := by
      have := (steps_rng (L := L) (unit_rng N a) (k + 1)).2
      rw [unit_len] at this
      exact this
    refine ⟨hl, fun c hc => ?_⟩
    have := stepF_exact hL h1 h2 L (List.replicate N 0) (fun _ => 0) (fun x hx => hx) (by simp) (fun c hc => by rw [getD_lt _ _ _ (by simpa using hc), List.getElem_replicate]; rfl) c hc
    rw [stepsL, stepL, h1, this, Nat.zero_add]
    rfl

/-- Of all lines, those that close. -/
def closedL (L : List Line) : List Line := L.filter fun x => x.2.2.2
def southL (N : Nat) (C : List Line) : List Bool := C.foldl (fun s x => s.set (lnS x).toNat true) (List.replicate N false)
theorem south_at {N : Nat} {C : List Line} (hC : LnOk N C) {c : Nat} (hc : c < N) : (southL N C).length = N ∧ ((southL N C).getD c false = true ↔ ∃ x ∈ C, lnS x = (c : Int)) := by
  have key : ∀ (M : List Line) (s : List Bool), (∀ x ∈ M, x ∈ C) → s.length = N → (M.foldl (fun s x => s.set (lnS x).toNat true) s).length = N ∧ ((M.foldl (fun s x => s.set (lnS x).toNat true) s).getD c false = true ↔ s.getD c false = true ∨ ∃ x ∈ M, lnS x = (c : Int)) := by
    intro M
    induction M with
    | nil => intro s _ hs; simp [hs]
    | cons x M ih =>
      intro s hM hs
      rw [List.foldl_cons]
      obtain ⟨h1, h2⟩ := ih (s.set (lnS x).toNat true) (fun y hy => hM y (by simp [hy])) (by simpa using hs)
      refine ⟨h1, h2.trans ?_⟩
      have hx := (hC x (hM x (by simp))).2
      have e : (s.set (lnS x).toNat true).getD c false = true ↔ s.getD c false = true ∨ lnS x = (c : Int) := by
        by_cases e : (lnS x).toNat = c
        · subst e
          rw [List.getD_eq_getElem?_getD, List.getElem?_set_self (by omega)]
          simp only [Option.getD_some, true_iff]
          right; show x.2.2.1 = ((x.2.2.1.toNat : Nat) : Int); omega
        · rw [List.getD_eq_getElem?_getD, List.getElem?_set_ne e, ← List.getD_eq_getElem?_getD]
          refine ⟨.inl, fun h => h.resolve_right fun h => e ?_⟩
          show x.2.2.1.toNat = c
          have : x.2.2.1 = (c : Int) := h
          omega
      rw [e]
      simp only [List.mem_cons, exists_eq_or_imp, or_assoc]
  obtain ⟨h1, h2⟩ := key C (List.replicate N false) (fun x hx => hx) (by simp)
  refine ⟨h1, h2.trans ⟨fun h => h.resolve_left (by rw [List.getD_eq_getElem?_getD, List.getElem?_replicate, if_pos hc]; simp), .inr⟩⟩

def closeF (N h : Nat) (C : List Line) (s : Int × List Bool) (x : Line) : Int × List Bool :=
  if s.2.getD (lnN x).toNat false = true ∨ (southL N C).getD (lnN x).toNat false = false then s
  else (min (s.1 + (stepsL C (unitL N (lnN x).toNat) h).getD (lnN x).toNat 0) 1099511627777, s.2.set (lnN x).toNat true)
/-- What the program counts. -/
def closedS (N h : Nat) (C : List Line) : Int × List Bool := C.foldl (closeF N h C) (0, List.replicate N false)

theorem tot_update {N i : Nat} {F G G' : Nat → Nat} (hi : i < N) (h1 : G i = 0) (h2 : G' i = F i) (h3 : ∀ j, j ≠ i → G' j = G j) : tot G' (List.range N) = tot G (List.range N) + F i := by
  have e : tot G' (List.range N) = tot (fun j => G j + if j = i then F i else 0) (List.range N) := tot_congr fun j _ => by
    by_cases e : j = i
    · subst e; rw [h2, h1, if_pos rfl, Nat.zero_add]
    · rw [h3 j e, if_neg e, Nat.add_zero]
  rw [e, tot_add, tot_range_eq (i := i) hi fun j _ hj => if_neg hj, if_pos rfl]

theorem closeF_exact {N h : Nat} {C : List Line} (hC : LnOk N C) : ∀ (M : List Line) (s : Int × List Bool), (∀ x ∈ M, x ∈ C) → s.2.length = N → s.1 = capI (tot (fun a : Nat => if s.2.getD a false = true then Pt C lnN lnS (a : Int) h (a : Int) else 0) (List.range N)) →
    (M.foldl (closeF N h C) s).2.length = N ∧ (M.foldl (closeF N h C) s).1 = capI (tot (fun a : Nat => if (M.foldl (closeF N h C) s).2.getD a false = true then Pt C lnN lnS (a : Int) h (a : Int) else 0) (List.range N)) ∧
    ∀ a, a < N → ((M.foldl (closeF N h C) s).2.getD a false = true ↔ s.2.getD a false = true ∨ ((∃ x ∈ M, lnN x = (a : Int)) ∧ (southL N C).getD a false = true))
  | [], s, _, hl, hs => ⟨hl, hs, fun a _ => by simp⟩
  | x :: M, s, hM, hl, hs => by
    have hx := (hC x (hM x (by simp))).1
    have hxc : (((lnN x).toNat : Nat) : Int) = lnN x := by show ((x.2.1.toNat : Nat) : Int) = x.2.1; omega
    have hlt : (lnN x).toNat < N := by show x.2.1.toNat < N; omega
    rw [List.foldl_cons]
    by_cases hc : s.2.getD (lnN x).toNat false = true ∨ (southL N C).getD (lnN x).toNat false = false
    · have e : closeF N h C s x = s := if_pos hc
      rw [e]
      obtain ⟨h1, h2, h3⟩ := closeF_exact hC M s (fun y hy => hM y (by simp [hy])) hl hs
      refine ⟨h1, h2, fun a ha => (h3 a ha).trans ?_⟩
      simp only [List.mem_cons, exists_eq_or_imp]
      constructor
      · rintro (h4 | ⟨h4, h5⟩)
        · exact .inl h4
        · exact .inr ⟨.inr h4, h5⟩
      · rintro (h4 | ⟨h4 | h4, h5⟩)
        · exact .inl h4
        · have e2 : (lnN x).toNat = a := by omega
          rw [e2] at hc
          rcases hc with h6 | h6
          · exact .inl h6
          · rw [h6] at h5; cases h5
        · exact .inr ⟨h4, h5⟩
    · have e : closeF N h C s x = (min (s.1 + (stepsL C (unitL N (lnN x).toNat) h).getD (lnN x).toNat 0) 1099511627777, s.2.set (lnN x).toNat true) := if_neg hc
      have hd : s.2.getD (lnN x).toNat false = false := by
        cases hh : s.2.getD (lnN x).toNat false with
        | false => rfl
        | true => exact absurd (.inl hh) hc
      have hso : (southL N C).getD (lnN x).toNat false = true := by
        cases hh : (southL N C).getD (lnN x).toNat false with
        | true => rfl
        | false => exact absurd (.inr hh) hc
      have hset : ∀ a, a ≠ (lnN x).toNat → (s.2.set (lnN x).toNat true).getD a false = s.2.getD a false := fun a ha => by
        rw [List.getD_eq_getElem?_getD, List.getElem?_set_ne (Ne.symm ha), ← List.getD_eq_getElem?_getD]
      have hself : (s.2.set (lnN x).toNat true).getD (lnN x).toNat false = true := by
        rw [List.getD_eq_getElem?_getD, List.getElem?_set_self (by omega)]; rfl
      rw [e]
      obtain ⟨h1, h2, h3⟩ := closeF_exact (h := h) hC M (min (s.1 + (stepsL C (unitL N (lnN x).toNat) h).getD (lnN x).toNat 0) 1099511627777, s.2.set (lnN x).toNat true) (fun y hy => hM y (by simp [hy])) (by simpa using hl) (by
        dsimp only
        rw [hs, (steps_from hC h).2 _ hlt, capI_add]
        congr 1
        symm
        refine tot_update (F := fun a : Nat => Pt C lnN lnS (a : Int) h (a : Int)) hlt ?_ ?_ fun j hj => ?_
        · rw [if_neg (by rw [hd]; decide)]
        · rw [if_pos hself]
        · rw [hset j hj])
      refine ⟨h1, h2, fun a ha => (h3 a ha).trans ?_⟩
      simp only [List.mem_cons, exists_eq_or_imp]
      by_cases ea : a = (lnN x).toNat
      · subst ea
        rw [hself]
        simp only [true_or, true_iff]
        exact .inr ⟨.inl (by omega), hso⟩
      · rw [hset a ea]
        constructor
        · rintro (h4 | ⟨h4, h5⟩)
          · exact .inl h4
          · exact .inr ⟨.inr h4, h5⟩
        · rintro (h4 | ⟨h4 | h4, h5⟩)
          · exact .inl h4
          · exact absurd (by omega) ea
          · exact .inr ⟨h4, h5⟩

/-- What closed counts. -/
theorem closed_exact {N h : Nat} {C : List Line} (hC : LnOk N C) (hh : 0 < h) : (closedS N h C).1 = capI (roundN C lnN lnS h) := by
  obtain ⟨m, rfl⟩ : ∃ m, h = m + 1 := ⟨h - 1, by omega⟩
  have hf : ∀ a, (List.replicate N false).getD a false = false := fun a => by
    rw [List.getD_eq_getElem?_getD, List.getElem?_replicate]
    split <;> rfl
  obtain ⟨h1, h2, h3⟩ := closeF_exact (h := m + 1) hC C (0, List.replicate N false) (fun x hx => hx) (by simp) (by
    rw [tot_zero fun a _ => by rw [hf]; rfl]; rfl)
  rw [closedS, h2, ← round_sum (N := N) (fun x hx => (hC x hx).2) hh]
  congr 1
  refine tot_congr fun a ha => ?_
  have hal := List.mem_range.1 ha
  have h4 := h3 a hal
  by_cases hd : (C.foldl (closeF N (m + 1) C) (0, List.replicate N false)).2.getD a false = true
  · rw [if_pos hd]
  · rw [if_neg hd]
    symm
    by_cases hn : ∃ x ∈ C, lnN x = (a : Int)
    · refine pt_south fun x hx e => hd (h4.2 (.inr ⟨hn, ((south_at hC hal).2).2 ⟨x, hx, e⟩⟩))
    · exact pt_north (fun x hx e => hn ⟨x, hx, e⟩) m _

end Go.Proofs.Ytgalbokmgffhkaa
