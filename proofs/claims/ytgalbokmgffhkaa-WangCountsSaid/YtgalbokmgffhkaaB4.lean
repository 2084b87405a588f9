/- Contract: alive: which lists of Norths can be gone on from. -/
import Derived.Test.YtgalbokmgffhkaaB3
set_option linter.all false
namespace Go.Proofs.Ytgalbokmgffhkaa
open Go.Lf Go.RowKit Go.Wg

abbrev vE (u : Value) : List Value := [u]
theorem vE_len (u : Value) : (vE u).length = 1 := rfl

theorem rec_one {α : Type} {e : TypeId} {enc : α → List Value} {x : α} {z : Value} (hz : enc x = [z]) (w : World) : RecAt e 1 enc w.heap.size (w.alloc (.cells #[z] e)) (.slice (some ⟨w.heap.size, 0, none⟩) 1 1) [x] := by
  have e1 : recCells enc [x] = [z] := by simp [recCells, hz]
  refine ⟨by rw [e1]; rfl, .inr ⟨w.heap.size, 1, _, rfl, Nat.le_refl _, heap_alloc_new w _, Nat.le_refl _, by unfold maxLen; omega, rfl, ?_⟩⟩
  rw [e1]
  rfl

/-- Lists of booleans, each in memory of its own. -/
def BRows (base : Nat) (w : World) (v : Value) (R : List (List Bool)) : Prop :=
  ∃ vs : List Value, RecAt 91 1 vE base w v vs ∧ vs.length = R.length ∧ ∀ (i : Nat) (u : Value) (r : List Bool), vs[i]? = some u → R[i]? = some r → BoolsAt base w u r

theorem BRows.kp {base : Nat} {w w' : World} {v : Value} {R : List (List Bool)} (h : BRows base w v R) (hk : Kp w w') : BRows base w' v R :=
  let ⟨vs, h1, h2, h3⟩ := h; ⟨vs, h1.kp hk, h2, fun i u r hu hr => (h3 i u r hu hr).kp hk⟩
theorem BRows.len {base : Nat} {w : World} {v : Value} {R : List (List Bool)} (h : BRows base w v R) : ∃ a cap, v = .slice a R.length cap ∧ R.length ≤ cap := by
  obtain ⟨vs, h1, h2, _⟩ := h
  have := h1.len
  rwa [h2] at this
theorem BRows.row {base : Nat} {w : World} {v : Value} {R : List (List Bool)} (h : BRows base w v R) {i : Nat} {r : List Bool} (hi : R[i]? = some r) :
    ∃ b off cap u, v = .slice (some ⟨b, off, none⟩) R.length cap ∧ w.cell? ⟨b, off + i, none⟩ = some u ∧ BoolsAt base w u r := by
  obtain ⟨vs, h1, h2, h3⟩ := h
  have hlt : i < vs.length := by rw [h2]; exact (List.getElem?_eq_some_iff.1 hi).1
  obtain ⟨b, off, cap, e, _, hc⟩ := (h1.rd vE_len).at (List.getElem?_eq_getElem hlt)
  exact ⟨b, off, cap, vs[i], by rw [← h2]; exact e, by simpa using hc 0 _ rfl, h3 i _ r (List.getElem?_eq_getElem hlt) hi⟩

/-- Blocks of different types are different. -/
theorem rec_ne {α β : Type} {e e' : TypeId} {m m' : Nat} {enc : α → List Value} {enc' : β → List Value} {base base' : Nat} {w : World} {v v' : Value} {P : List α} {Q : List β} (h : RecAt e m enc base w v P) (h' : RecAt e' m' enc' base' w v' Q) (hne : e ≠ e') : ∀ k, v.ownBlock = some k → v'.ownBlock ≠ some k := by
  intro k hk hk'
  rcases h.2 with ⟨rfl, _⟩ | ⟨g, cap, cur, rfl, _, hg, _⟩
  · cases hk
  rcases h'.2 with ⟨rfl, _⟩ | ⟨g', cap', cur', rfl, _, hg', _⟩
  · cases hk'
  cases hk
  injection hk' with hk'
  dsimp only at hk'
  subst hk'
  rw [hg] at hg'
  injection hg' with hg'
  injection hg' with _ h3 _
  exact hne h3

def alvF (prev a : List Bool) (x : Line) : List Bool := a.set x.2.1.toNat (a.getD x.2.1.toNat false || prev.getD x.2.2.1.toNat false)
def alvL (L : List Line) (N : Nat) : Nat → List Bool
  | 0 => List.replicate N true
  | k + 1 => L.foldl (alvF (alvL L N k)) (List.replicate N false)
theorem alvF_len (prev : List Bool) : ∀ (L : List Line) (a : List Bool), (L.foldl (alvF prev) a).length = a.length
  | [], _ => rfl
  | x :: L, a => by rw [List.foldl_cons, alvF_len prev L]; simp [alvF]
theorem alvL_len (L : List Line) (N : Nat) : ∀ k, (alvL L N k).length = N
  | 0 => by simp [alvL]
  | k + 1 => by rw [alvL, alvF_len]; simp

set_option maxRecDepth 100000 in
set_option maxHeartbeats 800000 in
theorem alive_calls {lv : Value} {L : List Line} {a h : Nat} (w : World) (ha : 1 ≤ a ∧ a ≤ 4) (hh : h ≤ 100) (hL : RdL w lv L) (hok : LnOk (8 ^ a) L) (hLl : L.length ≤ 1000000) :
    Calls Try.prog 76 #[lv, .int .i64 a, .int .i64 h] w fun e w' => ∃ v', e = .returned v' ∧ Kp w w' ∧ BRows w.heap.size w' v' ((List.range (h + 1)).map (alvL L (8 ^ a))) := by
  obtain ⟨la, lcap, rfl, hlc⟩ := hL.len
  refine lift76 ?_
  unfold S76
  rw [bs91]
  have k1 : Kp w (w.alloc (.cells #[.bool true] 4)) := below_alloc _
  have n1 := heap_alloc_new w (.cells #[.bool true] 4)
  generalize w.alloc (.cells #[.bool true] 4) = w1 at *
  refine r_use fok73 (codes_calls w1 ha.2) rfl ?_
  rintro _ _ ⟨rfl, rfl⟩
  refine ⟨_, rfl, ?_⟩
  have h8 := pow8N_le ha.2
  have hm := mulOk ha
  have hcodes := fun w => codes_calls w ha.2
  generalize 8 ^ a = N at *
  refine r_use fok106 (repeatB_calls (b := w.heap.size) (off := 0) (x := true) hm w1 (by rw [cell_row n1]; rfl)) rfl ?_
  rintro _ w2 ⟨rv, rfl, k2, hrv⟩
  refine ⟨_, rfl, ?_⟩
  clear hm
  have k02 := Kp.trans k1 k2
  have s1 := k1.size
  have s2 := k2.size
  obtain ⟨ra, rcap, rfl, _⟩ := hrv.len
  rw [bs88]
  have k3 : Kp w2 (w2.alloc (.cells #[.slice ra (List.replicate N true).length rcap] 91)) := below_alloc _
  have o3 := rec_one (e := 91) (enc := vE) (x := .slice ra (List.replicate N true).length rcap) rfl w2
  generalize hsz2 : w2.heap.size = sz2 at *
  generalize w2.alloc (.cells #[.slice ra (List.replicate N true).length rcap] 91) = w3 at *
  have B0 : BRows w.heap.size w3 (.slice (some ⟨sz2, 0, none⟩) 1 1) ((List.range 1).map (alvL L N)) := by
    refine ⟨[.slice ra (List.replicate N true).length rcap], o3.down (by omega), rfl, fun i u r hu hr => ?_⟩
    match i with
    | 0 =>
      cases hu
      cases hr
      exact (hrv.kp k3).down (by omega)
    | i + 1 => simp at hu
  have k03 := Kp.trans k02 k3
  refine ⟨fun t7 t8 wr => ∃ k : Nat, 1 ≤ k ∧ k ≤ h + 1 ∧ t8 = .int .i64 k ∧ BRows w.heap.size wr t7 ((List.range k).map (alvL L N)) ∧ Kp w wr, fun _ t8 _ => h + 1 - (intOf t8).toNat, ⟨1, by omega, by omega, rfl, B0, k03⟩, ?_⟩
  rintro _ t7 _ wr ⟨k, hk1, hk, rfl, hB, kr⟩
  by_cases hkl : k ≤ h
  case neg =>
    have hkl' : ¬ (k : Int) ≤ (h : Int) := by omega
    have : k = h + 1 := by omega
    subst this
    simp (disch := omega) only [r_ln, r_pick, r_pickT, r_pickF, r_condT, r_condF, r_gdTT, r_gdFF, r_gdTF, r_gdFT, r_gqTT, r_gqFF, r_gqTF, r_gqFT, r_not, r_lss, r_leq, r_gtr, r_geq, r_eql, r_neq, r_add, r_sub, r_min2, r_max2, r_min3, r_max3, r_fa, r_iaS, r_iaA, r_ex2a, r_ex2b, r_ex3a, r_ex3b, r_ex3c, r_nc, r_keepE, Nat.zero_add, Nat.add_zero, Nat.mul_one, Int.toNat_natCast, toNat_sub1, toNat_add1, decide_true, decide_false, Bool.not_true, Bool.not_false, if_true, if_false, Bool.false_eq_true, reduceCtorEq, hkl']
    exact ⟨_, rfl, kr, hB⟩
  have hkl' : (k : Int) ≤ (h : Int) := by omega
  simp (disch := omega) only [r_ln, r_pick, r_pickT, r_pickF, r_condT, r_condF, r_gdTT, r_gdFF, r_gdTF, r_gdFT, r_gqTT, r_gqFF, r_gqTF, r_gqFT, r_not, r_lss, r_leq, r_gtr, r_geq, r_eql, r_neq, r_add, r_sub, r_min2, r_max2, r_min3, r_max3, r_fa, r_iaS, r_iaA, r_ex2a, r_ex2b, r_ex3a, r_ex3b, r_ex3c, r_nc, r_keepE, Nat.zero_add, Nat.add_zero, Nat.mul_one, Int.toNat_natCast, toNat_sub1, toNat_add1, decide_true, decide_false, Bool.not_true, Bool.not_false, if_true, if_false, Bool.false_eq_true, reduceCtorEq, decide_eq_true hkl']
  refine r_use fok73 (hcodes wr) rfl ?_
  rintro _ _ ⟨rfl, rfl⟩
  refine ⟨_, rfl, ?_⟩
  refine mk91 (by omega) fun v w4 hv k4 hvb => ?_
  have sr := kr.size
  have s4 := k4.size
  obtain ⟨oa, ocap, rfl, _⟩ := hB.len
  try simp only [r_ln, r_pick, r_pickT, r_pickF, r_condT, r_condF, r_gdTT, r_gdFF, r_gdTF, r_gdFT, r_gqTT, r_gqFF, r_gqTF, r_gqFT, r_not, r_lss, r_leq, r_gtr, r_geq, r_eql, r_neq, r_add, r_sub, r_min2, r_max2, r_min3, r_max3, r_fa, r_iaS, r_iaA, r_ex2a, r_ex2b, r_ex3a, r_ex3b, r_ex3c, r_nc, r_keepE, Nat.zero_add, Nat.add_zero, Nat.mul_one, Int.toNat_natCast, toNat_sub1, toNat_add1, decide_true, decide_false, Bool.not_true, Bool.not_false, if_true, if_false, Bool.false_eq_true, reduceCtorEq]
  refine ⟨fun t27 wq => ∃ i : Nat, i ≤ L.length ∧ t27 = .int .i64 i ∧ Kp wr wq ∧ BoolsAt wr.heap.size wq v ((L.take i).foldl (alvF (alvL L N (k - 1))) (List.replicate N false)), fun t27 _ => L.length - (intOf t27).toNat,
    ⟨0, by omega, rfl, k4, by simpa using hv⟩, ?_⟩
  rintro _ _ wq ⟨i, hi, rfl, kq, hvq⟩
  have hBq := hB.kp kq
  have hNl := alvF_len (alvL L N (k - 1)) (L.take i) (List.replicate N false)
  rw [List.length_replicate] at hNl
  have sq := kq.size
  by_cases hil : i < L.length
  case neg =>
    have hil' : ¬ (i : Int) < (L.length : Int) := by omega
    rw [List.take_of_length_le (by omega)] at hvq hNl
    simp (disch := omega) only [r_ln, r_pick, r_pickT, r_pickF, r_condT, r_condF, r_gdTT, r_gdFF, r_gdTF, r_gdFT, r_gqTT, r_gqFF, r_gqTF, r_gqFT, r_not, r_lss, r_leq, r_gtr, r_geq, r_eql, r_neq, r_add, r_sub, r_min2, r_max2, r_min3, r_max3, r_fa, r_iaS, r_iaA, r_ex2a, r_ex2b, r_ex3a, r_ex3b, r_ex3c, r_nc, r_keepE, Nat.zero_add, Nat.add_zero, Nat.mul_one, Int.toNat_natCast, toNat_sub1, toNat_add1, decide_true, decide_false, Bool.not_true, Bool.not_false, if_true, if_false, Bool.false_eq_true, reduceCtorEq, hil']
    obtain ⟨va, vcap, rfl, _⟩ := hvq.len
    obtain ⟨vs, o1, o2, o3'⟩ := hBq
    refine r_pushRec (x := .slice va _ vcap) slt88 vE_len rfl (bs88 _ _ _ _) (by intro u hu; simp at hu; subst hu; rfl) (by omega) o1 (by rw [o2]; simp; omega) (by omega) fun v' w5 p1 p2 p3 => ?_
    try simp (disch := omega) only [r_ln, r_pick, r_pickT, r_pickF, r_condT, r_condF, r_gdTT, r_gdFF, r_gdTF, r_gdFT, r_gqTT, r_gqFF, r_gqTF, r_gqFT, r_not, r_lss, r_leq, r_gtr, r_geq, r_eql, r_neq, r_add, r_sub, r_min2, r_max2, r_min3, r_max3, r_fa, r_iaS, r_iaA, r_ex2a, r_ex2b, r_ex3a, r_ex3b, r_ex3c, r_nc, r_keepE, Nat.zero_add, Nat.add_zero, Nat.mul_one, Int.toNat_natCast, toNat_sub1, toNat_add1, decide_true, decide_false, Bool.not_true, Bool.not_false, if_true, if_false, Bool.false_eq_true, reduceCtorEq]
    refine ⟨⟨k + 1, by omega, by omega, by go_num, ⟨_, p1, by simp [o2], fun j u r hu hr => ?_⟩, Kp.of_chg (Kp.trans kr kq) p2 fun q hq => (o1.lt hq).1⟩, by simp only [intOf]; omega⟩
    have key : ∀ u r, BoolsAt w.heap.size wq u r → BoolsAt w.heap.size w5 u r := fun u r hb => hb.chg p2 fun q hq => rec_ne hb o1 (by decide) q hq
    rw [List.range_succ, List.map_append] at hr
    by_cases hj : j < vs.length
    · rw [List.getElem?_append_left hj] at hu
      rw [List.getElem?_append_left (by rw [← o2]; exact hj)] at hr
      exact key u r (o3' j u r hu hr)
    · rw [List.getElem?_append_right (by omega)] at hu
      rw [List.getElem?_append_right (by rw [← o2]; omega), ← o2] at hr
      match hjj : j - vs.length with
      | 0 =>
        rw [hjj] at hu hr
        cases hu
        simp at hr
        subst hr
        refine key _ _ (RecAt.down ?_ sr)
        have e : alvL L N k = L.foldl (alvF (alvL L N (k - 1))) (List.replicate N false) := by
          obtain ⟨k', rfl⟩ : ∃ k', k = k' + 1 := ⟨k - 1, by omega⟩
          rfl
        rw [e]
        exact hvq
      | n + 1 => rw [hjj] at hu; simp at hu
  have hil' : (i : Int) < (L.length : Int) := by omega
  obtain ⟨x, hx⟩ : ∃ x, L[i]? = some x := ⟨_, List.getElem?_eq_getElem hil⟩
  obtain ⟨lb, lo, lc, el, _, hld⟩ := RdL.line (hL.kp (Kp.trans kr kq)) hx
  cases el
  simp (disch := omega) only [r_ln, r_pick, r_pickT, r_pickF, r_condT, r_condF, r_gdTT, r_gdFF, r_gdTF, r_gdFT, r_gqTT, r_gqFF, r_gqTF, r_gqFT, r_not, r_lss, r_leq, r_gtr, r_geq, r_eql, r_neq, r_add, r_sub, r_min2, r_max2, r_min3, r_max3, r_fa, r_iaS, r_iaA, r_ex2a, r_ex2b, r_ex3a, r_ex3b, r_ex3c, r_nc, r_keepE, Nat.zero_add, Nat.add_zero, Nat.mul_one, Int.toNat_natCast, toNat_sub1, toNat_add1, decide_true, decide_false, Bool.not_true, Bool.not_false, if_true, if_false, Bool.false_eq_true, reduceCtorEq, decide_eq_true hil', hld]
  refine r_box fun b11 x2 e11 s11 h11 y2 => ?_
  refine r_stAll (n := 7) (ty := 78) (by kernel_rfl) rfl (by intro u hu; simp [Value.cells] at hu; rcases hu with rfl | rfl | rfl | rfl | rfl | rfl | rfl <;> rfl) h11 rfl fun x3 c11 s11' h113 => ?_
  have y3 : Kp wq x3 := Kp.of_chg y2 c11 fun i e => by omega
  refine r_drew fun x4 y4 _ => ?_
  have y04 := Kp.trans y3 y4
  have h114 := block_below h113 y4
  have c4 : x4.cell? ⟨b11, 4, none⟩ = some (.int .i64 x.2.1) := by rw [cell_row h114]; rfl
  have c5 : x4.cell? ⟨b11, 5, none⟩ = some (.int .i64 x.2.2.1) := by rw [cell_row h114]; rfl
  obtain ⟨⟨x1, x2'⟩, x3', x4'⟩ := hok x (List.mem_of_getElem? hx)
  have htake : (L.take (i + 1)).foldl (alvF (alvL L N (k - 1))) (List.replicate N false) = alvF (alvL L N (k - 1)) ((L.take i).foldl (alvF (alvL L N (k - 1))) (List.replicate N false)) x := by
    rw [List.take_add_one, hx]
    simp
  have hpl := alvL_len L N (k - 1)
  obtain ⟨ob, oo, _, u, eo, ocell, hu⟩ := (hBq.kp y04).row (i := k - 1) (r := alvL L N (k - 1)) (by rw [List.getElem?_map, List.getElem?_range (by omega)]; rfl)
  cases eo
  generalize alvL L N (k - 1) = prev at *
  generalize (L.take i).foldl (alvF prev) (List.replicate N false) = A at *
  obtain ⟨g, cap, ev, hgb, gc, gf, gset⟩ := BoolsAt.put (hvq.kp y04) (q := x.2.1.toNat) (by omega) (A.getD x.2.1.toNat false || prev.getD x.2.2.1.toNat false)
  obtain ⟨ub, uo, uc, eu, _, hus⟩ := (hu.rd bC_len).at (i := x.2.2.1.toNat) (x := prev.getD x.2.2.1.toNat false) (by rw [List.getElem?_eq_getElem (by omega), getD_lt _ _ _ (by omega)])
  have hus0 := hus 0 _ rfl
  simp only [Nat.mul_one, Nat.add_zero] at hus0
  subst ev
  subst eu
  cases hA : A.getD x.2.1.toNat false with
  | true =>
    rw [hA] at gset
    simp (disch := omega) only [r_ln, r_pick, r_pickT, r_pickF, r_condT, r_condF, r_gdTT, r_gdFF, r_gdTF, r_gdFT, r_gqTT, r_gqFF, r_gqTF, r_gqFT, r_not, r_lss, r_leq, r_gtr, r_geq, r_eql, r_neq, r_add, r_sub, r_min2, r_max2, r_min3, r_max3, r_fa, r_iaS, r_iaA, r_ex2a, r_ex2b, r_ex3a, r_ex3b, r_ex3c, r_nc, r_keepE, Nat.zero_add, Nat.add_zero, Nat.mul_one, Int.toNat_natCast, toNat_sub1, toNat_add1, decide_true, decide_false, Bool.not_true, Bool.not_false, if_true, if_false, Bool.false_eq_true, reduceCtorEq, r_ld c4, r_ld c5, r_ld gc, hA]
    rw [st4 gc gf]
    try simp (disch := omega) only [r_ln, r_pick, r_pickT, r_pickF, r_condT, r_condF, r_gdTT, r_gdFF, r_gdTF, r_gdFT, r_gqTT, r_gqFF, r_gqTF, r_gqFT, r_not, r_lss, r_leq, r_gtr, r_geq, r_eql, r_neq, r_add, r_sub, r_min2, r_max2, r_min3, r_max3, r_fa, r_iaS, r_iaA, r_ex2a, r_ex2b, r_ex3a, r_ex3b, r_ex3c, r_nc, r_keepE, Nat.zero_add, Nat.add_zero, Nat.mul_one, Int.toNat_natCast, toNat_sub1, toNat_add1, decide_true, decide_false, Bool.not_true, Bool.not_false, if_true, if_false, Bool.false_eq_true, reduceCtorEq]
    refine ⟨⟨i + 1, by omega, by go_num, Kp.of_chg (Kp.trans kq y04) (Chg.setCell (S := fun k => k = g) _ _ rfl) fun k e => by omega, ?_⟩, by simp only [intOf]; omega⟩
    rw [htake, alvF, hA]
    simpa using gset
  | false =>
    rw [hA] at gset
    have hlm : (List.map (alvL L N) (List.range k)).length = k := by simp
    simp (disch := omega) only [r_ln, r_pick, r_pickT, r_pickF, r_condT, r_condF, r_gdTT, r_gdFF, r_gdTF, r_gdFT, r_gqTT, r_gqFF, r_gqTF, r_gqFT, r_not, r_lss, r_leq, r_gtr, r_geq, r_eql, r_neq, r_add, r_sub, r_min2, r_max2, r_min3, r_max3, r_fa, r_iaS, r_iaA, r_ex2a, r_ex2b, r_ex3a, r_ex3b, r_ex3c, r_nc, r_keepE, Nat.zero_add, Nat.add_zero, Nat.mul_one, Int.toNat_natCast, toNat_sub1, toNat_add1, decide_true, decide_false, Bool.not_true, Bool.not_false, if_true, if_false, Bool.false_eq_true, reduceCtorEq, r_ld c4, r_ld c5, r_ld gc, hA, hlm, r_ld ocell, r_ld hus0]
    rw [st4 gc gf]
    try simp (disch := omega) only [r_ln, r_pick, r_pickT, r_pickF, r_condT, r_condF, r_gdTT, r_gdFF, r_gdTF, r_gdFT, r_gqTT, r_gqFF, r_gqTF, r_gqFT, r_not, r_lss, r_leq, r_gtr, r_geq, r_eql, r_neq, r_add, r_sub, r_min2, r_max2, r_min3, r_max3, r_fa, r_iaS, r_iaA, r_ex2a, r_ex2b, r_ex3a, r_ex3b, r_ex3c, r_nc, r_keepE, Nat.zero_add, Nat.add_zero, Nat.mul_one, Int.toNat_natCast, toNat_sub1, toNat_add1, decide_true, decide_false, Bool.not_true, Bool.not_false, if_true, if_false, Bool.false_eq_true, reduceCtorEq]
    refine ⟨⟨i + 1, by omega, by go_num, Kp.of_chg (Kp.trans kq y04) (Chg.setCell (S := fun k => k = g) _ _ rfl) fun k e => by omega, ?_⟩, by simp only [intOf]; omega⟩
    rw [htake, alvF, hA]
    simpa using gset

end Go.Proofs.Ytgalbokmgffhkaa
