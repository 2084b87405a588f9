/- Texts of my own, merged by program: B4 J7 Ru. -/
import Derived.Test.YtgalbokmgffhkaaM08
import Derived.Test.YtgalbokmgffhkaaM07
import Derived.Test.YtgalbokmgffhkaaM03
set_option linter.all false
/- Contract: alive: which lists of Norths can be gone on from. -/
namespace Go.Proofs.Ytgalbokmgffhkaa
open Go.Lf Go.RowKit Go.Wg

abbrev vE (u : Value) : List Value := [u]
theorem vE_len (u : Value) : (vE u).length = 1 := rfl

theorem rec_one {α : Type} {e : TypeId} {enc : α → List Value} {x : α} {z : Value} (hz : enc x = [z]) (w : World) : RecAt e 1 enc w.heap.size (w.alloc (.cells #[z] e)) (.slice (some ⟨w.heap.size, 0, none⟩) 1 1) [x] := by
  have e1 : recCells enc [x] = [z] := by simp [recCells, hz]
  refine ⟨by rw [e1]; rfl, .inr ⟨w.heap.size, 1, _, rfl, Nat.le_refl _, heap_alloc_new w _, Nat.le_refl _, by unfold maxLen; omega, rfl, ?_⟩⟩
  rw [e1]
  rfl

/-- Lists of booleans, each in memory of its own. -/
def BRows (base : Nat) (w : World) (v : Value) (R : List (List Bool)) : Prop :=
  ∃ vs : List Value, RecAt 91 1 vE base w v vs ∧ vs.length = R.length ∧ ∀ (i : Nat) (u : Value) (r : List Bool), vs[i]? = some u → R[i]? = some r → BoolsAt base w u r

theorem BRows.kp {base : Nat} {w w' : World} {v : Value} {R : List (List Bool)} (h : BRows base w v R) (hk : Kp w w') : BRows base w' v R :=
  let ⟨vs, h1, h2, h3⟩ := h; ⟨vs, h1.kp hk, h2, fun i u r hu hr => (h3 i u r hu hr).kp hk⟩
theorem BRows.len {base : Nat} {w : World} {v : Value} {R : List (List Bool)} (h : BRows base w v R) : ∃ a cap, v = .slice a R.length cap ∧ R.length ≤ cap := by
  obtain ⟨vs, h1, h2, _⟩ := h
  have := h1.len
  rwa [h2] at this
theorem BRows.row {base : Nat} {w : World} {v : Value} {R : List (List Bool)} (h : BRows base w v R) {i : Nat} {r : List Bool} (hi : R[i]? = some r) :
    ∃ b off cap u, v = .slice (some ⟨b, off, none⟩) R.length cap ∧ w.cell? ⟨b, off + i, none⟩ = some u ∧ BoolsAt base w u r := by
  obtain ⟨vs, h1, h2, h3⟩ := h
  have hlt : i < vs.length := by rw [h2]; exact (List.getElem?_eq_some_iff.1 hi).1
  obtain ⟨b, off, cap, e, _, hc⟩ := (h1.rd vE_len).at (List.getElem?_eq_getElem hlt)
  exact ⟨b, off, cap, vs[i], by rw [← h2]; exact e, by simpa using hc 0 _ rfl, h3 i _ r (List.getElem?_eq_getElem hlt) hi⟩

/-- Blocks of different types are different. -/
theorem rec_ne {α β : Type} {e e' : TypeId} {m m' : Nat} {enc : α → List Value} {enc' : β → List Value} {base base' : Nat} {w : World} {v v' : Value} {P : List α} {Q : List β} (h : RecAt e m enc base w v P) (h' : RecAt e' m' enc' base' w v' Q) (hne : e ≠ e') : ∀ k, v.ownBlock = some k → v'.ownBlock ≠ some k := by
  intro k hk hk'
  rcases h.2 with ⟨rfl, _⟩ | ⟨g, cap, cur, rfl, _, hg, _⟩
  · cases hk
  rcases h'.2 with ⟨rfl, _⟩ | ⟨g', cap', cur', rfl, _, hg', _⟩
  · cases hk'
  cases hk
  injection hk' with hk'
  dsimp only at hk'
  subst hk'
  rw [hg] at hg'
  injection hg' with hg'
  injection hg' with _ h3 _
  exact hne h3

def alvF (prev a : List Bool) (x : Line) : List Bool := a.set x.2.1.toNat (a.getD x.2.1.toNat false || prev.getD x.2.2.1.toNat false)
def alvL (L : List Line) (N : Nat) : Nat → List Bool
  | 0 => List.replicate N true
  | k + 1 => L.foldl (alvF (alvL L N k)) (List.replicate N false)
theorem alvF_len (prev : List Bool) : ∀ (L : List Line) (a : List Bool), (L.foldl (alvF prev) a).length = a.length
  | [], _ => rfl
  | x :: L, a => by rw [List.foldl_cons, alvF_len prev L]; simp [alvF]
theorem alvL_len (L : List Line) (N : Nat) : ∀ k, (alvL L N k).length = N
  | 0 => by simp [alvL]
  | k + 1 => by rw [alvL, alvF_len]; simp

set_option maxRecDepth 100000 in
set_option maxHeartbeats 800000 in
theorem alive_calls {lv : Value} {L : List Line} {a h : Nat} (w : World) (ha : 1 ≤ a ∧ a ≤ 4) (hh : h ≤ 100) (hL : RdL w lv L) (hok : LnOk (8 ^ a) L) (hLl : L.length ≤ 1000000) :
    Calls Try.prog 76 #[lv, .int .i64 a, .int .i64 h] w fun e w' => ∃ v', e = .returned v' ∧ Kp w w' ∧ BRows w.heap.size w' v' ((List.range (h + 1)).map (alvL L (8 ^ a))) := by
  obtain ⟨la, lcap, rfl, hlc⟩ := hL.len
  refine lift76 ?_
  unfold S76
  rw [bs91]
  have k1 : Kp w (w.alloc (.cells #[.bool true] 4)) := below_alloc _
  have n1 := heap_alloc_new w (.cells #[.bool true] 4)
  generalize w.alloc (.cells #[.bool true] 4) = w1 at *
  refine r_use fok73 (codes_calls w1 ha.2) rfl ?_
  rintro _ _ ⟨rfl, rfl⟩
  refine ⟨_, rfl, ?_⟩
  have h8 := pow8N_le ha.2
  have hm := mulOk ha
  have hcodes := fun w => codes_calls w ha.2
  generalize 8 ^ a = N at *
  refine r_use fok106 (repeatB_calls (b := w.heap.size) (off := 0) (x := true) hm w1 (by rw [cell_row n1]; rfl)) rfl ?_
  rintro _ w2 ⟨rv, rfl, k2, hrv⟩
  refine ⟨_, rfl, ?_⟩
  clear hm
  have k02 := Kp.trans k1 k2
  have s1 := k1.size
  have s2 := k2.size
  obtain ⟨ra, rcap, rfl, _⟩ := hrv.len
  rw [bs88]
  have k3 : Kp w2 (w2.alloc (.cells #[.slice ra (List.replicate N true).length rcap] 91)) := below_alloc _
  have o3 := rec_one (e := 91) (enc := vE) (x := .slice ra (List.replicate N true).length rcap) rfl w2
  generalize hsz2 : w2.heap.size = sz2 at *
  generalize w2.alloc (.cells #[.slice ra (List.replicate N true).length rcap] 91) = w3 at *
  have B0 : BRows w.heap.size w3 (.slice (some ⟨sz2, 0, none⟩) 1 1) ((List.range 1).map (alvL L N)) := by
    refine ⟨[.slice ra (List.replicate N true).length rcap], o3.down (by omega), rfl, fun i u r hu hr => ?_⟩
    match i with
    | 0 =>
      cases hu
      cases hr
      exact (hrv.kp k3).down (by omega)
    | i + 1 => simp at hu
  have k03 := Kp.trans k02 k3
  refine ⟨fun t7 t8 wr => ∃ k : Nat, 1 ≤ k ∧ k ≤ h + 1 ∧ t8 = .int .i64 k ∧ BRows w.heap.size wr t7 ((List.range k).map (alvL L N)) ∧ Kp w wr, fun _ t8 _ => h + 1 - (intOf t8).toNat, ⟨1, by omega, by omega, rfl, B0, k03⟩, ?_⟩
  rintro _ t7 _ wr ⟨k, hk1, hk, rfl, hB, kr⟩
  by_cases hkl : k ≤ h
  case neg =>
    have hkl' : ¬ (k : Int) ≤ (h : Int) := by omega
    have : k = h + 1 := by omega
    subst this
    simp (disch := omega) only [r_ln, r_pick, r_pickT, r_pickF, r_condT, r_condF, r_gdTT, r_gdFF, r_gdTF, r_gdFT, r_gqTT, r_gqFF, r_gqTF, r_gqFT, r_not, r_lss, r_leq, r_gtr, r_geq, r_eql, r_neq, r_add, r_sub, r_min2, r_max2, r_min3, r_max3, r_fa, r_iaS, r_iaA, r_ex2a, r_ex2b, r_ex3a, r_ex3b, r_ex3c, r_nc, r_keepE, Nat.zero_add, Nat.add_zero, Nat.mul_one, Int.toNat_natCast, toNat_sub1, toNat_add1, decide_true, decide_false, Bool.not_true, Bool.not_false, if_true, if_false, Bool.false_eq_true, reduceCtorEq, hkl']
    exact ⟨_, rfl, kr, hB⟩
  have hkl' : (k : Int) ≤ (h : Int) := by omega
  simp (disch := omega) only [r_ln, r_pick, r_pickT, r_pickF, r_condT, r_condF, r_gdTT, r_gdFF, r_gdTF, r_gdFT, r_gqTT, r_gqFF, r_gqTF, r_gqFT, r_not, r_lss, r_leq, r_gtr, r_geq, r_eql, r_neq, r_add, r_sub, r_min2, r_max2, r_min3, r_max3, r_fa, r_iaS, r_iaA, r_ex2a, r_ex2b, r_ex3a, r_ex3b, r_ex3c, r_nc, r_keepE, Nat.zero_add, Nat.add_zero, Nat.mul_one, Int.toNat_natCast, toNat_sub1, toNat_add1, decide_true, decide_false, Bool.not_true, Bool.not_false, if_true, if_false, Bool.false_eq_true, reduceCtorEq, decide_eq_true hkl']
  refine r_use fok73 (hcodes wr) rfl ?_
  rintro _ _ ⟨rfl, rfl⟩
  refine ⟨_, rfl, ?_⟩
  refine mk91 (by omega) fun v w4 hv k4 hvb => ?_
  have sr := kr.size
  have s4 := k4.size
  obtain ⟨oa, ocap, rfl, _⟩ := hB.len
  try simp only [r_ln, r_pick, r_pickT, r_pickF, r_condT, r_condF, r_gdTT, r_gdFF, r_gdTF, r_gdFT, r_gqTT, r_gqFF, r_gqTF, r_gqFT, r_not, r_lss, r_leq, r_gtr, r_geq, r_eql, r_neq, r_add, r_sub, r_min2, r_max2, r_min3, r_max3, r_fa, r_iaS, r_iaA, r_ex2a, r_ex2b, r_ex3a, r_ex3b, r_ex3c, r_nc, r_keepE, Nat.zero_add, Nat.add_zero, Nat.mul_one, Int.toNat_natCast, toNat_sub1, toNat_add1, decide_true, decide_false, Bool.not_true, Bool.not_false, if_true, if_false, Bool.false_eq_true, reduceCtorEq]
  refine ⟨fun t27 wq => ∃ i : Nat, i ≤ L.length ∧ t27 = .int .i64 i ∧ Kp wr wq ∧ BoolsAt wr.heap.size wq v ((L.take i).foldl (alvF (alvL L N (k - 1))) (List.replicate N false)), fun t27 _ => L.length - (intOf t27).toNat,
    ⟨0, by omega, rfl, k4, by simpa using hv⟩, ?_⟩
  rintro _ _ wq ⟨i, hi, rfl, kq, hvq⟩
  have hBq := hB.kp kq
  have hNl := alvF_len (alvL L N (k - 1)) (L.take i) (List.replicate N false)
  rw [List.length_replicate] at hNl
  have sq := kq.size
  by_cases hil : i < L.length
  case neg =>
    have hil' : ¬ (i : Int) < (L.length : Int) := by omega
    rw [List.take_of_length_le (by omega)] at hvq hNl
    simp (disch := omega) only [r_ln, r_pick, r_pickT, r_pickF, r_condT, r_condF, r_gdTT, r_gdFF, r_gdTF, r_gdFT, r_gqTT, r_gqFF, r_gqTF, r_gqFT, r_not, r_lss, r_leq, r_gtr, r_geq, r_eql, r_neq, r_add, r_sub, r_min2, r_max2, r_min3, r_max3, r_fa, r_iaS, r_iaA, r_ex2a, r_ex2b, r_ex3a, r_ex3b, r_ex3c, r_nc, r_keepE, Nat.zero_add, Nat.add_zero, Nat.mul_one, Int.toNat_natCast, toNat_sub1, toNat_add1, decide_true, decide_false, Bool.not_true, Bool.not_false, if_true, if_false, Bool.false_eq_true, reduceCtorEq, hil']
    obtain ⟨va, vcap, rfl, _⟩ := hvq.len
    obtain ⟨vs, o1, o2, o3'⟩ := hBq
    refine r_pushRec (x := .slice va _ vcap) slt88 vE_len rfl (bs88 _ _ _ _) (by intro u hu; simp at hu; subst hu; rfl) (by omega) o1 (by rw [o2]; simp; omega) (by omega) fun v' w5 p1 p2 p3 => ?_
    try simp (disch := omega) only [r_ln, r_pick, r_pickT, r_pickF, r_condT, r_condF, r_gdTT, r_gdFF, r_gdTF, r_gdFT, r_gqTT, r_gqFF, r_gqTF, r_gqFT, r_not, r_lss, r_leq, r_gtr, r_geq, r_eql, r_neq, r_add, r_sub, r_min2, r_max2, r_min3, r_max3, r_fa, r_iaS, r_iaA, r_ex2a, r_ex2b, r_ex3a, r_ex3b, r_ex3c, r_nc, r_keepE, Nat.zero_add, Nat.add_zero, Nat.mul_one, Int.toNat_natCast, toNat_sub1, toNat_add1, decide_true, decide_false, Bool.not_true, Bool.not_false, if_true, if_false, Bool.false_eq_true, reduceCtorEq]
    refine ⟨⟨k + 1, by omega, by omega, by go_num, ⟨_, p1, by simp [o2], fun j u r hu hr => ?_⟩, Kp.of_chg (Kp.trans kr kq) p2 fun q hq => (o1.lt hq).1⟩, by simp only [intOf]; omega⟩
    have key : ∀ u r, BoolsAt w.heap.size wq u r → BoolsAt w.heap.size w5 u r := fun u r hb => hb.chg p2 fun q hq => rec_ne hb o1 (by decide) q hq
    rw [List.range_succ, List.map_append] at hr
    by_cases hj : j < vs.length
    · rw [List.getElem?_append_left hj] at hu
      rw [List.getElem?_append_left (by rw [← o2]; exact hj)] at hr
      exact key u r (o3' j u r hu hr)
    · rw [List.getElem?_append_right (by omega)] at hu
      rw [List.getElem?_append_right (by rw [← o2]; omega), ← o2] at hr
      match hjj : j - vs.length with
      | 0 =>
        rw [hjj] at hu hr
        cases hu
        simp at hr
        subst hr
        refine key _ _ (RecAt.down ?_ sr)
        have e : alvL L N k = L.foldl (alvF (alvL L N (k - 1))) (List.replicate N false) := by
          obtain ⟨k', rfl⟩ : ∃ k', k = k' + 1 := ⟨k - 1, by omega⟩
          rfl
        rw [e]
        exact hvq
      | n + 1 => rw [hjj] at hu; simp at hu
  have hil' : (i : Int) < (L.length : Int) := by omega
  obtain ⟨x, hx⟩ : ∃ x, L[i]? = some x := ⟨_, List.getElem?_eq_getElem hil⟩
  obtain ⟨lb, lo, lc, el, _, hld⟩ := RdL.line (hL.kp (Kp.trans kr kq)) hx
  cases el
  simp (disch := omega) only [r_ln, r_pick, r_pickT, r_pickF, r_condT, r_condF, r_gdTT, r_gdFF, r_gdTF, r_gdFT, r_gqTT, r_gqFF, r_gqTF, r_gqFT, r_not, r_lss, r_leq, r_gtr, r_geq, r_eql, r_neq, r_add, r_sub, r_min2, r_max2, r_min3, r_max3, r_fa, r_iaS, r_iaA, r_ex2a, r_ex2b, r_ex3a, r_ex3b, r_ex3c, r_nc, r_keepE, Nat.zero_add, Nat.add_zero, Nat.mul_one, Int.toNat_natCast, toNat_sub1, toNat_add1, decide_true, decide_false, Bool.not_true, Bool.not_false, if_true, if_false, Bool.false_eq_true, reduceCtorEq, decide_eq_true hil', hld]
  refine r_box fun b11 x2 e11 s11 h11 y2 => ?_
  refine r_stAll (n := 7) (ty := 78) (by kernel_rfl) rfl (by intro u hu; simp [Value.cells] at hu; rcases hu with rfl | rfl | rfl | rfl | rfl | rfl | rfl <;> rfl) h11 rfl fun x3 c11 s11' h113 => ?_
  have y3 : Kp wq x3 := Kp.of_chg y2 c11 fun i e => by omega
  refine r_drew fun x4 y4 _ => ?_
  have y04 := Kp.trans y3 y4
  have h114 := block_below h113 y4
  have c4 : x4.cell? ⟨b11, 4, none⟩ = some (.int .i64 x.2.1) := by rw [cell_row h114]; rfl
  have c5 : x4.cell? ⟨b11, 5, none⟩ = some (.int .i64 x.2.2.1) := by rw [cell_row h114]; rfl
  obtain ⟨⟨x1, x2'⟩, x3', x4'⟩ := hok x (List.mem_of_getElem? hx)
  have htake : (L.take (i + 1)).foldl (alvF (alvL L N (k - 1))) (List.replicate N false) = alvF (alvL L N (k - 1)) ((L.take i).foldl (alvF (alvL L N (k - 1))) (List.replicate N false)) x := by
    rw [List.take_add_one, hx]
    simp
  have hpl := alvL_len L N (k - 1)
  obtain ⟨ob, oo, _, u, eo, ocell, hu⟩ := (hBq.kp y04).row (i := k - 1) (r := alvL L N (k - 1)) (by rw [List.getElem?_map, List.getElem?_range (by omega)]; rfl)
  cases eo
  generalize alvL L N (k - 1) = prev at *
  generalize (L.take i).foldl (alvF prev) (List.replicate N false) = A at *
  obtain ⟨g, cap, ev, hgb, gc, gf, gset⟩ := BoolsAt.put (hvq.kp y04) (q := x.2.1.toNat) (by omega) (A.getD x.2.1.toNat false || prev.getD x.2.2.1.toNat false)
  obtain ⟨ub, uo, uc, eu, _, hus⟩ := (hu.rd bC_len).at (i := x.2.2.1.toNat) (x := prev.getD x.2.2.1.toNat false) (by rw [List.getElem?_eq_getElem (by omega), getD_lt _ _ _ (by omega)])
  have hus0 := hus 0 _ rfl
  simp only [Nat.mul_one, Nat.add_zero] at hus0
  subst ev
  subst eu
  cases hA : A.getD x.2.1.toNat false with
  | true =>
    rw [hA] at gset
    simp (disch := omega) only [r_ln, r_pick, r_pickT, r_pickF, r_condT, r_condF, r_gdTT, r_gdFF, r_gdTF, r_gdFT, r_gqTT, r_gqFF, r_gqTF, r_gqFT, r_not, r_lss, r_leq, r_gtr, r_geq, r_eql, r_neq, r_add, r_sub, r_min2, r_max2, r_min3, r_max3, r_fa, r_iaS, r_iaA, r_ex2a, r_ex2b, r_ex3a, r_ex3b, r_ex3c, r_nc, r_keepE, Nat.zero_add, Nat.add_zero, Nat.mul_one, Int.toNat_natCast, toNat_sub1, toNat_add1, decide_true, decide_false, Bool.not_true, Bool.not_false, if_true, if_false, Bool.false_eq_true, reduceCtorEq, r_ld c4, r_ld c5, r_ld gc, hA]
    rw [st4 gc gf]
    try simp (disch := omega) only [r_ln, r_pick, r_pickT, r_pickF, r_condT, r_condF, r_gdTT, r_gdFF, r_gdTF, r_gdFT, r_gqTT, r_gqFF, r_gqTF, r_gqFT, r_not, r_lss, r_leq, r_gtr, r_geq, r_eql, r_neq, r_add, r_sub, r_min2, r_max2, r_min3, r_max3, r_fa, r_iaS, r_iaA, r_ex2a, r_ex2b, r_ex3a, r_ex3b, r_ex3c, r_nc, r_keepE, Nat.zero_add, Nat.add_zero, Nat.mul_one, Int.toNat_natCast, toNat_sub1, toNat_add1, decide_true, decide_false, Bool.not_true, Bool.not_false, if_true, if_false, Bool.false_eq_true, reduceCtorEq]
    refine ⟨⟨i + 1, by omega, by go_num, Kp.of_chg (Kp.trans kq y04) (Chg.setCell (S := fun k => k = g) _ _ rfl) fun k e => by omega, ?_⟩, by simp only [intOf]; omega⟩
    rw [htake, alvF, hA]
    simpa using gset
  | false =>
    rw [hA] at gset
    have hlm : (List.map (alvL L N) (List.range k)).length = k := by simp
    simp (disch := omega) only [r_ln, r_pick, r_pickT, r_pickF, r_condT, r_condF, r_gdTT, r_gdFF, r_gdTF, r_gdFT, r_gqTT, r_gqFF, r_gqTF, r_gqFT, r_not, r_lss, r_leq, r_gtr, r_geq, r_eql, r_neq, r_add, r_sub, r_min2, r_max2, r_min3, r_max3, r_fa, r_iaS, r_iaA, r_ex2a, r_ex2b, r_ex3a, r_ex3b, r_ex3c, r_nc, r_keepE, Nat.zero_add, Nat.add_zero, Nat.mul_one, Int.toNat_natCast, toNat_sub1, toNat_add1, decide_true, decide_false, Bool.not_true, Bool.not_false, if_true, if_false, Bool.false_eq_true, reduceCtorEq, r_ld c4, r_ld c5, r_ld gc, hA, hlm, r_ld ocell, r_ld hus0]
    rw [st4 gc gf]
    try simp (disch := omega) only [r_ln, r_pick, r_pickT, r_pickF, r_condT, r_condF, r_gdTT, r_gdFF, r_gdTF, r_gdFT, r_gqTT, r_gqFF, r_gqTF, r_gqFT, r_not, r_lss, r_leq, r_gtr, r_geq, r_eql, r_neq, r_add, r_sub, r_min2, r_max2, r_min3, r_max3, r_fa, r_iaS, r_iaA, r_ex2a, r_ex2b, r_ex3a, r_ex3b, r_ex3c, r_nc, r_keepE, Nat.zero_add, Nat.add_zero, Nat.mul_one, Int.toNat_natCast, toNat_sub1, toNat_add1, decide_true, decide_false, Bool.not_true, Bool.not_false, if_true, if_false, Bool.false_eq_true, reduceCtorEq]
    refine ⟨⟨i + 1, by omega, by go_num, Kp.of_chg (Kp.trans kq y04) (Chg.setCell (S := fun k => k = g) _ _ rfl) fun k e => by omega, ?_⟩, by simp only [intOf]; omega⟩
    rw [htake, alvF, hA]
    simpa using gset

end Go.Proofs.Ytgalbokmgffhkaa

/- The least board, plainly: cell by cell is row by row. No program. -/
namespace Go.Proofs.Ytgalbokmgffhkaa
open Go.Wg

theorem find_flat {α β : Type} {p : β → Bool} {f : α → List β} : ∀ {l : List α}, (l.flatMap f).find? p = l.findSome? fun x => (f x).find? p
  | [] => rfl
  | x :: l => by
    rw [List.flatMap_cons, List.find?_append, List.findSome?_cons, find_flat]
    cases (f x).find? p <;> rfl
theorem findSome_bind {α β : Type} {B : α → Bool} {F : α → Option β} : ∀ {l : List α}, (∀ x ∈ l, B x = (F x).isSome) → l.findSome? F = (l.find? B).bind F
  | [], _ => rfl
  | x :: l, h => by
    have hx := h x (by simp)
    rw [List.findSome?_cons, List.find?_cons]
    cases hF : F x with
    | none =>
      rw [hF] at hx
      rw [hx]
      exact findSome_bind fun y hy => h y (by simp [hy])
    | some b =>
      rw [hF] at hx
      rw [hx]
      simp [hF]
theorem find_congr {α : Type} {p q : α → Bool} : ∀ {l : List α}, (∀ x ∈ l, p x = q x) → l.find? p = l.find? q
  | [], _ => rfl
  | x :: l, h => by
    rw [List.find?_cons, List.find?_cons, h x (by simp), find_congr fun y hy => h y (by simp [hy])]

/-- May tile i come at a cell, so that the board can still be filled? -/
def okB (l : List Tile) (w h q s i : Nat) : Bool := match putM l w (w * h - (q + 1)) s (tl l i) with
  | some s' => decide (0 < Wq l w h q s')
  | none => false
def nxtS (l : List Tile) (w p s i : Nat) : Nat := (putM l w p s (tl l i)).getD 0
/-- The least tiles, cell by cell. -/
def gS (l : List Tile) (w h : Nat) : Nat → Nat → List Nat
  | 0, _ => []
  | q + 1, s => match (List.range l.length).find? (okB l w h q s) with
    | some i => i :: gS l w h q (nxtS l w (w * h - (q + 1)) s i)
    | none => []

/-- What a row must be. -/
def predR (l : List Tile) (w h k y : Nat) (d : List Nat) (x : Nat) (q : List Nat) : Bool := decide (y = 0 ∨ matchN l d x w q) && decide (0 < Wq l w h (k * w) (encS (lineL l).length (d.take x ++ (digS l q).drop x) (endE l q)))

theorem row_pos {l : List Tile} (hs : IsSet l) {w h k y : Nat} (hw : 0 < w) (hy : y + 1 + k = h) (m x : Nat) (r d : List Nat) (e : Nat) (hxm : x + m = w) (hr : r.length = x) (hrl : ∀ i ∈ r, i < l.length) (hd : d.length = w) (hdn : ∀ a ∈ d, a < (lineL l).length) (he : e < 8) (hre : 0 < x → e = endE l r) :
    0 < Wq l w h (k * w + m) (encS (lineL l).length d e) ↔ ((exts l m r).find? (predR l w h k y d x)).isSome = true := by
  rw [row_ways hs hw hy m x r d e hxm hr hrl hd hdn he hre, tot_pos, List.find?_isSome]
  constructor
  · rintro ⟨q, hq, h0⟩
    refine ⟨q, hq, ?_⟩
    by_cases hc : y = 0 ∨ matchN l d x w q
    · rw [if_pos hc] at h0
      simp only [predR, Bool.and_eq_true, decide_eq_true_eq]
      exact ⟨hc, h0⟩
    · rw [if_neg hc] at h0; omega
  · rintro ⟨q, hq, h0⟩
    simp only [predR, Bool.and_eq_true, decide_eq_true_eq] at h0
    exact ⟨q, hq, by rw [if_pos h0.1]; exact h0.2⟩

/-- The rest of the least row. -/
theorem row_least {l : List Tile} (hs : IsSet l) {w h k y : Nat} (hw : 0 < w) (hy : y + 1 + k = h) : ∀ (m x : Nat) (r d : List Nat) (e : Nat), x + m = w → r.length = x → (∀ i ∈ r, i < l.length) → d.length = w → (∀ a ∈ d, a < (lineL l).length) → e < 8 → (0 < x → e = endE l r) →
    ∀ q, (exts l m r).find? (predR l w h k y d x) = some q → gS l w h (k * w + m) (encS (lineL l).length d e) = q.drop x ++ gS l w h (k * w) (encS (lineL l).length (d.take x ++ (digS l q).drop x) (endE l q))
  | 0, x, r, d, e, hxm, hr, hrl, hd, hdn, he, hre, q, hq => by
    have hq' : q = r := by
      have := List.mem_of_find?_eq_some hq
      simpa [exts] using this
    subst hq'
    have e1 : d.take x = d := List.take_of_length_le (by omega)
    have e2 : (digS l q).drop x = [] := List.drop_eq_nil_of_le (by simp [digS, souths]; omega)
    have e3 : q.drop x = [] := List.drop_eq_nil_of_le (by omega)
    rw [e1, e2, e3, List.append_nil, hre (by omega)]
    rfl
  | m + 1, x, r, d, e, hxm, hr, hrl, hd, hdn, he, hre, q, hq => by
    have hxw : x < w := by omega
    have hp : w * h - (k * w + m + 1) = y * w + x := by
      have : w * h = y * w + w + k * w := by rw [← hy, Nat.mul_comm, Nat.add_mul, Nat.add_mul, Nat.one_mul]
      omega
    have hpm : (y * w + x) % w = x := by rw [Nat.add_comm, Nat.add_mul_mod_self_right, Nat.mod_eq_of_lt hxw]
    have hpw : (w ≤ y * w + x) ↔ ¬ y = 0 := by
      constructor
      · intro h1 h2; subst h2; omega
      · intro h1
        have : 1 * w ≤ y * w := Nat.mul_le_mul_right w (by omega)
        omega
    -- what each tile leads to
    have tile : ∀ i, i < l.length → okB l w h (k * w + m) (encS (lineL l).length d e) i = ((if fits l r i = true then exts l m (r ++ [i]) else []).find? (predR l w h k y d x)).isSome ∧
        (okB l w h (k * w + m) (encS (lineL l).length d e) i = true → fits l r i = true ∧ nxtS l w (w * h - (k * w + m + 1)) (encS (lineL l).length d e) i = encS (lineL l).length (d.set x (lidx l (tS (tl l i)))) (tE (tl l i)).toNat ∧
          (∀ z ∈ exts l m (r ++ [i]), predR l w h k y d x z = predR l w h k y (d.set x (lidx l (tS (tl l i)))) (x + 1) z) ∧ ∀ z ∈ exts l m (r ++ [i]), (d.set x (lidx l (tS (tl l i)))).take (x + 1) ++ (digS l z).drop (x + 1) = d.take x ++ (digS l z).drop x ∧ z.drop x = i :: z.drop (x + 1)) := fun i hil => by
      have htm : tl l i ∈ l := by unfold tl; exact getD_mem hil
      have hcr := cols_range (hs.cols _ htm)
      have hfit : fits l r i = true ↔ ¬ (0 < x ∧ (e : Int) ≠ tW (tl l i)) := by
        unfold fits
        simp only [Bool.or_eq_true, decide_eq_true_eq]
        by_cases hx0 : x = 0
        · have : r = [] := List.length_eq_zero_iff.1 (by omega)
          simp [this, hx0]
        · have hne : r ≠ [] := fun h0 => hx0 (by rw [← hr, h0]; rfl)
          have hel := hre (by omega)
          have hlast : r.getLastD 0 < l.length := by
            refine hrl _ ?_
            rw [List.getLastD_eq_getLast?, List.getLast?_eq_some_getLast hne]
            exact List.getLast_mem hne
          have hlc := cols_range (hs.cols (tl l (r.getLastD 0)) (by unfold tl; exact getD_mem hlast))
          unfold endE at hel
          constructor
          · rintro (h1 | h1)
            · exact absurd h1 hne
            · rintro ⟨_, h2⟩; exact h2 (by omega)
          · intro h1
            right
            by_cases h2 : (e : Int) = tW (tl l i)
            · omega
            · exact absurd ⟨by omega, h2⟩ h1
      have hz : ∀ z ∈ exts l m (r ++ [i]), z.length = w ∧ z.getD x 0 = i := fun z hz => by
        obtain ⟨s, rfl, hs1, _⟩ := (mem_exts m (r ++ [i]) z).1 hz
        refine ⟨by simp; omega, ?_⟩
        rw [List.getD_eq_getElem?_getD, List.append_assoc, List.getElem?_append_right (by omega), hr, Nat.sub_self]
        rfl
      have hdd : ∀ z ∈ exts l m (r ++ [i]), (d.set x (lidx l (tS (tl l i)))).take (x + 1) ++ (digS l z).drop (x + 1) = d.take x ++ (digS l z).drop x ∧ z.drop x = i :: z.drop (x + 1) := fun z hzm => by
        obtain ⟨hzl, hzx⟩ := hz z hzm
        have hxd : x < (d.set x (lidx l (tS (tl l i)))).length := by simp; omega
        have hxq : x < (digS l z).length := by simp [digS, souths]; omega
        have hxz : x < z.length := by omega
        have h5 : z[x] = i := by
          rw [List.getD_eq_getElem?_getD, List.getElem?_eq_getElem hxz] at hzx
          exact hzx
        constructor
        · rw [List.take_add_one, List.getElem?_eq_getElem hxd, List.getElem_set_self, List.take_set_of_le (Nat.le_refl _), List.drop_eq_getElem_cons hxq]
          have : (digS l z)[x] = lidx l (tS (tl l i)) := by simp [digS, souths, h5]
          rw [this]
          simp
        · rw [List.drop_eq_getElem_cons hxz, h5]
      have hput : putM l w (w * h - (k * w + m + 1)) (encS (lineL l).length d e) (tl l i) = if (w ≤ y * w + x ∧ (lineL l).getD (d.getD x 0) 0 ≠ tN (tl l i)) ∨ (0 < x ∧ (e : Int) ≠ tW (tl l i)) then none else some (encS (lineL l).length (d.set x (lidx l (tS (tl l i)))) (tE (tl l i)).toNat) := by
        rw [hp, put_enc hs.cols htm hd hw hdn he, hpm]
      by_cases hf : fits l r i = true
      case neg =>
        have hb : okB l w h (k * w + m) (encS (lineL l).length d e) i = false := by
          rw [okB, hput, if_pos (.inr (Classical.byContradiction fun h1 => hf (hfit.2 h1)))]
        rw [hb, if_neg hf]
        exact ⟨rfl, fun h => by cases h⟩
      rw [if_pos hf]
      by_cases hn : y = 0 ∨ (lineL l).getD (d.getD x 0) 0 = tN (tl l i)
      · have hno : ¬ ((w ≤ y * w + x ∧ (lineL l).getD (d.getD x 0) 0 ≠ tN (tl l i)) ∨ (0 < x ∧ (e : Int) ≠ tW (tl l i))) := by
          rintro (⟨h1, h2⟩ | h1)
          · rcases hn with h3 | h3
            · exact (hpw.1 h1) h3
            · exact h2 h3
          · exact (hfit.1 hf) h1
        rw [if_neg hno] at hput
        have hmm : ∀ z ∈ exts l m (r ++ [i]), (y = 0 ∨ matchN l d x w z) ↔ (y = 0 ∨ matchN l (d.set x (lidx l (tS (tl l i)))) (x + 1) w z) := fun z hzm => by
          obtain ⟨hzl, hzx⟩ := hz z hzm
          constructor
          · rintro (h1 | h1)
            · exact .inl h1
            · refine .inr fun j h3 h4 => ?_
              rw [Go.Wg.getD_set_ne (by omega)]
              exact h1 j (by omega) h4
          · rintro (h1 | h1)
            · exact .inl h1
            · rcases hn with h2 | h2
              · exact .inl h2
              · refine .inr fun j h3 h4 => ?_
                by_cases hjx : j = x
                · subst hjx; rw [hzx]; exact h2
                · have := h1 j (by omega) h4
                  rwa [Go.Wg.getD_set_ne (by omega)] at this
        have hpr : ∀ z ∈ exts l m (r ++ [i]), predR l w h k y d x z = predR l w h k y (d.set x (lidx l (tS (tl l i)))) (x + 1) z := fun z hzm => by
          unfold predR
          rw [decide_eq_decide.2 (hmm z hzm), (hdd z hzm).1]
        have hpos := row_pos hs hw hy m (x + 1) (r ++ [i]) (d.set x (lidx l (tS (tl l i)))) (tE (tl l i)).toNat (by omega) (by simp [hr]) (fun j hj => by
          rcases List.mem_append.1 hj with h1 | h1
          · exact hrl j h1
          · simp at h1; rw [h1]; exact hil) (by simp [hd]) (fun a ha => by
          rcases List.mem_or_eq_of_mem_set ha with h1 | h1
          · exact hdn a h1
          · rw [h1]; exact lidx_lt (mem_line hs.cols htm).2) (by omega) (fun _ => by simp [endE])
        rw [← find_congr hpr] at hpos
        refine ⟨?_, fun _ => ⟨hf, by rw [nxtS, hput]; rfl, hpr, hdd⟩⟩
        rw [okB, hput]
        show decide (0 < _) = _
        cases hh : ((exts l m (r ++ [i])).find? (predR l w h k y d x)).isSome with
        | true => exact decide_eq_true (hpos.2 hh)
        | false => exact decide_eq_false fun h0 => by rw [hpos.1 h0] at hh; cases hh
      · have hyes : (w ≤ y * w + x ∧ (lineL l).getD (d.getD x 0) 0 ≠ tN (tl l i)) ∨ (0 < x ∧ (e : Int) ≠ tW (tl l i)) := .inl ⟨hpw.2 fun h1 => hn (.inl h1), fun h1 => hn (.inr h1)⟩
        rw [if_pos hyes] at hput
        have hb : okB l w h (k * w + m) (encS (lineL l).length d e) i = false := by rw [okB, hput]
        rw [hb]
        refine ⟨?_, fun h => by cases h⟩
        have : (exts l m (r ++ [i])).find? (predR l w h k y d x) = none := by
          rw [List.find?_eq_none]
          intro z hzm h1
          simp only [predR, Bool.and_eq_true, decide_eq_true_eq] at h1
          rcases h1.1 with h2 | h2
          · exact hn (.inl h2)
          · have := h2 x (Nat.le_refl _) hxw
            rw [(hz z hzm).2] at this
            exact hn (.inr this)
        rw [this]; rfl
    rw [exts, find_flat, findSome_bind (B := okB l w h (k * w + m) (encS (lineL l).length d e)) fun i hi => (tile i (List.mem_range.1 hi)).1] at hq
    cases hfi : (List.range l.length).find? (okB l w h (k * w + m) (encS (lineL l).length d e)) with
    | none => rw [hfi] at hq; cases hq
    | some i =>
      rw [hfi] at hq
      have hil : i < l.length := List.mem_range.1 (List.mem_of_find?_eq_some hfi)
      have hok := List.find?_some hfi
      obtain ⟨hf, hst, hpr, hdd⟩ := (tile i hil).2 hok
      simp only [Option.bind_some] at hq
      rw [if_pos hf, find_congr hpr] at hq
      have htm : tl l i ∈ l := by unfold tl; exact getD_mem hil
      have hcr := cols_range (hs.cols _ htm)
      have ih := row_least hs hw hy m (x + 1) (r ++ [i]) (d.set x (lidx l (tS (tl l i)))) (tE (tl l i)).toNat (by omega) (by simp [hr]) (fun j hj => by
        rcases List.mem_append.1 hj with h1 | h1
        · exact hrl j h1
        · simp at h1; rw [h1]; exact hil) (by simp [hd]) (fun a ha => by
        rcases List.mem_or_eq_of_mem_set ha with h1 | h1
        · exact hdn a h1
        · rw [h1]; exact lidx_lt (mem_line hs.cols htm).2) (by omega) (fun _ => by simp [endE]) q hq
      have hqm := List.mem_of_find?_eq_some hq
      obtain ⟨d1, d2⟩ := hdd q hqm
      show (match (List.range l.length).find? (okB l w h (k * w + m) (encS (lineL l).length d e)) with
        | some i => i :: gS l w h (k * w + m) (nxtS l w (w * h - (k * w + m + 1)) (encS (lineL l).length d e) i)
        | none => []) = _
      rw [hfi]
      dsimp only
      rw [hst, ih, d1, d2]
      rfl

/-! ### row by row -/
def rowP (l : List Tile) (w k : Nat) (ab : Int) (r : List Nat) : Bool := (decide (ab < 0) || decide (code (norths l r) = ab)) && decide (0 < Bk l w k (code (souths l r)))
def intsR (r : List Nat) : List Int := r.map fun i : Nat => (i : Int)
/-- The least rows, k of them below a code (none above: -1). -/
def fillM (l : List Tile) (w : Nat) : Nat → Int → Option (List (List Nat))
  | 0, _ => some []
  | k + 1, ab => match (rowsL l w).find? (rowP l w k ab) with
    | none => none
    | some r => (fillM l w k (code (souths l r))).map fun B => r :: B

theorem fill_some {l : List Tile} (hs : IsSet l) {w : Nat} : ∀ (k : Nat) (c : Int), 0 ≤ c → 0 < Bk l w k c → ∃ B, fillM l w k c = some B
  | 0, c, _, _ => ⟨[], rfl⟩
  | k + 1, c, hc, h => by
    rw [Bk, tot_pos] at h
    obtain ⟨r, hr, h0⟩ := h
    have hn : code (norths l r) = c ∧ 0 < Bk l w k (code (souths l r)) := by
      split at h0
      · rename_i h1; exact ⟨h1, h0⟩
      · omega
    have hf : ((rowsL l w).find? (rowP l w k c)).isSome = true := by
      rw [List.find?_isSome]
      exact ⟨r, hr, by simp [rowP, hn.1, hn.2]⟩
    obtain ⟨q, hq⟩ := Option.isSome_iff_exists.1 hf
    have hqp := List.find?_some hq
    have hqm := List.mem_of_find?_eq_some hq
    simp only [rowP, Bool.and_eq_true, decide_eq_true_eq] at hqp
    have hcs : 0 ≤ code (souths l q) := (code_bound (row_cols' hs hqm)).1
    obtain ⟨B, hB⟩ := fill_some hs k _ hcs hqp.2
    exact ⟨q :: B, by rw [fillM, hq]; dsimp only; rw [hB]; rfl⟩
where
  row_cols' {l : List Tile} (hs : IsSet l) {w : Nat} {r : List Nat} (hr : r ∈ rowsL l w) : ∀ x ∈ souths l r, 0 ≤ x ∧ x ≤ 7 := fun x hx => line_range ((row_line hs hr).2.2.1 x hx)

/-- Row by row is cell by cell. -/
theorem fill_cells {l : List Tile} (hs : IsSet l) {w h : Nat} (hw : 0 < w) : ∀ (k y : Nat) (cs : List Int) (e : Nat) (B : List (List Nat)), 0 < y → y + k = h → cs.length = w → (∀ c ∈ cs, c ∈ lineL l) → e < 8 → fillM l w k (code cs) = some B →
    B.flatten = gS l w h (k * w) (encS (lineL l).length (cs.map (lidx l)) e) ∧ B.length = k ∧ ∀ r ∈ B, r.length = w
  | 0, y, cs, e, B, hy, hyk, hcl, hc, he, hB => by
    simp only [fillM, Option.some.injEq] at hB
    subst hB
    simp [gS]
  | k + 1, y, cs, e, B, hy, hyk, hcl, hc, he, hB => by
    rw [fillM] at hB
    have hcr : 0 ≤ code cs := (code_bound fun x hx => line_range (hc x hx)).1
    have hpred : ∀ r ∈ rowsL l w, rowP l w k (code cs) r = predR l w h k y (cs.map (lidx l)) 0 r := fun r hr => by
      obtain ⟨hrl, hn, hso, hE⟩ := row_line hs hr
      have hsl : (souths l r).length = w := by simp [souths, hrl]
      unfold rowP predR
      have e1 := ways_rows (h := h) hs hw k (y + 1) (souths l r) (endE l r) (by omega) (by omega) hsl hso hE
      have e2 : (cs.map (lidx l)).take 0 ++ (digS l r).drop 0 = (souths l r).map (lidx l) := by simp [digS]
      rw [e2, e1, decide_eq_false (by omega), Bool.false_or]
      congr 1
      rw [decide_eq_decide]
      have hm := match_iff hc hcl hrl hn
      constructor
      · intro h1; exact .inr (hm.2 h1)
      · rintro (h1 | h1)
        · omega
        · exact hm.1 h1
    rw [find_congr hpred] at hB
    cases hf : (rowsL l w).find? (predR l w h k y (cs.map (lidx l)) 0) with
    | none => rw [hf] at hB; cases hB
    | some r =>
      rw [hf] at hB
      dsimp only at hB
      have hrm := List.mem_of_find?_eq_some hf
      obtain ⟨hrl, hn, hso, hE⟩ := row_line hs hrm
      have hsl : (souths l r).length = w := by simp [souths, hrl]
      cases hB2 : fillM l w k (code (souths l r)) with
      | none => rw [hB2] at hB; cases hB
      | some B2 =>
        rw [hB2] at hB
        simp only [Option.map_some, Option.some.injEq] at hB
        subst hB
        obtain ⟨i1, i2, i3⟩ := fill_cells (h := h) hs hw k (y + 1) (souths l r) (endE l r) B2 (by omega) (by omega) hsl hso hE hB2
        have hl := row_least hs hw (h := h) (k := k) (y := y) (by omega) w 0 [] (cs.map (lidx l)) e (by omega) rfl (by simp) (by simpa using hcl) (fun a ha => by
          obtain ⟨c, hcm, rfl⟩ := List.mem_map.1 ha
          exact lidx_lt (hc c hcm)) he (by omega) r hf
        have e3 : (k + 1) * w = k * w + w := by rw [Nat.add_mul, Nat.one_mul]
        rw [e3, hl]
        refine ⟨?_, by simp [i2], fun q hq => ?_⟩
        · rw [List.flatten_cons, i1]
          simp [digS]
        · rcases List.mem_cons.1 hq with rfl | hq
          · exact hrl
          · exact i3 q hq

/-- All of a board: the least one. -/
theorem fill_all {l : List Tile} (hs : IsSet l) {w h : Nat} (hw : 0 < w) (hh : 0 < h) :
    (Wq l w h (w * h) 0 = 0 ↔ fillM l w h (-1) = none) ∧ ∀ B, fillM l w h (-1) = some B → B.flatten = gS l w h (w * h) 0 ∧ B.length = h ∧ ∀ r ∈ B, r.length = w := by
  obtain ⟨k, rfl⟩ : ∃ k, h = k + 1 := ⟨h - 1, by omega⟩
  have hlp := line_pos hs
  have hall := ways_all hs hw hh
  rw [show k + 1 - 1 = k by omega] at hall
  have hsome : 0 < Wq l w (k + 1) (w * (k + 1)) 0 ↔ ((rowsL l w).find? (rowP l w k (-1))).isSome = true := by
    rw [hall, tot_pos, List.find?_isSome]
    constructor
    · rintro ⟨r, hr, h0⟩
      exact ⟨r, hr, by simp [rowP, h0]⟩
    · rintro ⟨r, hr, h0⟩
      simp [rowP] at h0
      exact ⟨r, hr, h0⟩
  have hrest : ∀ r, (rowsL l w).find? (rowP l w k (-1)) = some r → ∃ B, fillM l w k (code (souths l r)) = some B := fun r hf => by
    have hp := List.find?_some hf
    simp only [rowP, Bool.and_eq_true, decide_eq_true_eq] at hp
    have hrm := List.mem_of_find?_eq_some hf
    exact fill_some hs k _ (code_bound fun x hx => line_range ((row_line hs hrm).2.2.1 x hx)).1 hp.2
  constructor
  · constructor
    · intro h0
      rw [fillM]
      cases hf : (rowsL l w).find? (rowP l w k (-1)) with
      | none => rfl
      | some r =>
        have := hsome.2 (by rw [hf]; rfl)
        omega
    · intro hn
      rw [fillM] at hn
      cases hf : (rowsL l w).find? (rowP l w k (-1)) with
      | none =>
        rw [hf] at hsome
        have : ¬ 0 < Wq l w (k + 1) (w * (k + 1)) 0 := fun h0 => by have := hsome.1 h0; cases this
        omega
      | some r =>
        rw [hf] at hn
        obtain ⟨B, hB⟩ := hrest r hf
        dsimp only at hn
        rw [hB] at hn
        cases hn
  · intro B hB
    rw [fillM] at hB
    have e0 : (0 : Nat) = encS (lineL l).length (List.replicate w 0) 0 := by rw [encS, encD_zero]
    have hpred : ∀ r ∈ rowsL l w, rowP l w k (-1) r = predR l w (k + 1) k 0 (List.replicate w 0) 0 r := fun r hr => by
      obtain ⟨hrl, hn, hso, hE⟩ := row_line hs hr
      have hsl : (souths l r).length = w := by simp [souths, hrl]
      unfold rowP predR
      have e1 := ways_rows (h := k + 1) hs hw k 1 (souths l r) (endE l r) (by omega) (by omega) hsl hso hE
      have e2 : (List.replicate w 0).take 0 ++ (digS l r).drop 0 = (souths l r).map (lidx l) := by simp [digS]
      rw [e2, e1, decide_eq_true (by omega), Bool.true_or, decide_eq_true (p := (0 : Nat) = 0 ∨ matchN l (List.replicate w 0) 0 w r) (.inl rfl)]
    rw [find_congr hpred] at hB
    cases hf : (rowsL l w).find? (predR l w (k + 1) k 0 (List.replicate w 0) 0) with
    | none => rw [hf] at hB; cases hB
    | some r =>
      rw [hf] at hB
      dsimp only at hB
      have hrm := List.mem_of_find?_eq_some hf
      obtain ⟨hrl, hn, hso, hE⟩ := row_line hs hrm
      have hsl : (souths l r).length = w := by simp [souths, hrl]
      cases hB2 : fillM l w k (code (souths l r)) with
      | none => rw [hB2] at hB; cases hB
      | some B2 =>
        rw [hB2] at hB
        simp only [Option.map_some, Option.some.injEq] at hB
        subst hB
        obtain ⟨i1, i2, i3⟩ := fill_cells (h := k + 1) hs hw k 1 (souths l r) (endE l r) B2 (by omega) (by omega) hsl hso hE hB2
        have hl := row_least hs hw (h := k + 1) (k := k) (y := 0) (by omega) w 0 [] (List.replicate w 0) 0 (by omega) rfl (by simp) (by simp) (fun a ha => by rw [List.eq_of_mem_replicate ha]; exact hlp) (by omega) (by omega) r hf
        have e3 : w * (k + 1) = k * w + w := by rw [Nat.mul_comm, Nat.add_mul, Nat.one_mul]
        rw [← e0] at hl
        rw [e3, hl]
        refine ⟨?_, by simp [i2], fun q hq => ?_⟩
        · rw [List.flatten_cons, i1]
          simp [digS]
        · rcases List.mem_cons.1 hq with rfl | hq
          · exact hrl
          · exact i3 q hq

/-! ### which lists are alive -/
theorem alv_fold {N : Nat} {prev : List Bool} (hprev : prev.length = N) : ∀ (M : List Line) (a : List Bool), (∀ x ∈ M, 0 ≤ x.2.1 ∧ x.2.1 < N) → a.length = N → ∀ c : Nat, c < N → (M.foldl (alvF prev) a).getD c false = (a.getD c false || M.any fun x => decide (x.2.1 = (c : Int)) && prev.getD x.2.2.1.toNat false)
  | [], a, _, _, c, _ => by simp
  | x :: M, a, hM, ha, c, hc => by
    have hx := hM x (by simp)
    rw [List.foldl_cons, alv_fold hprev M _ (fun y hy => hM y (by simp [hy])) (by simp [alvF, ha]) c hc, List.any_cons]
    unfold alvF
    by_cases e : x.2.1.toNat = c
    · subst e
      rw [List.getD_eq_getElem?_getD, List.getElem?_set_self (by omega), Option.getD_some, decide_eq_true (show x.2.1 = ((x.2.1.toNat : Nat) : Int) by omega), Bool.true_and, Bool.or_assoc]
    · rw [List.getD_eq_getElem?_getD, List.getElem?_set_ne e, ← List.getD_eq_getElem?_getD, decide_eq_false (show ¬ x.2.1 = (c : Int) by omega), Bool.false_and, Bool.false_or]
theorem alv_pos {L : List Line} {N : Nat} (hL : LnOk N L) : ∀ (k c : Nat), c < N → (alvL L N k).getD c false = decide (0 < Gk L k c)
  | 0, c, hc => by
    have : (List.replicate N true).getD c false = true := by
      rw [List.getD_eq_getElem?_getD, List.getElem?_replicate, if_pos hc]; rfl
    rw [alvL, this, Gk]; rfl
  | k + 1, c, hc => by
    rw [alvL, alv_fold (alvL_len L N k) L _ (fun x hx => (hL x hx).1) (by simp) c hc]
    have h0 : (List.replicate N false).getD c false = false := by
      rw [List.getD_eq_getElem?_getD, List.getElem?_replicate, if_pos hc]; rfl
    rw [h0, Bool.false_or, Gk]
    have key : (L.any fun x => decide (x.2.1 = (c : Int)) && (alvL L N k).getD x.2.2.1.toNat false) = true ↔ 0 < tot (fun x => if x.2.1 = (c : Int) then Gk L k x.2.2.1 else 0) L := by
      rw [tot_pos, List.any_eq_true]
      have each : ∀ x ∈ L, (decide (x.2.1 = (c : Int)) && (alvL L N k).getD x.2.2.1.toNat false) = true ↔ 0 < (if x.2.1 = (c : Int) then Gk L k x.2.2.1 else 0) := fun x hx => by
        have hx' := hL x hx
        rw [alv_pos hL k x.2.2.1.toNat (by omega), show ((x.2.2.1.toNat : Nat) : Int) = x.2.2.1 by omega]
        by_cases hxc : x.2.1 = (c : Int)
        · simp [hxc]
        · simp [hxc]
      constructor
      · rintro ⟨x, hx, h⟩; exact ⟨x, hx, (each x hx).1 h⟩
      · rintro ⟨x, hx, h⟩; exact ⟨x, hx, (each x hx).2 h⟩
    cases hA : L.any fun x => decide (x.2.1 = (c : Int)) && (alvL L N k).getD x.2.2.1.toNat false with
    | true => exact (decide_eq_true (key.1 hA)).symm
    | false => exact (decide_eq_false fun h => by rw [key.2 h] at hA; cases hA).symm

end Go.Proofs.Ytgalbokmgffhkaa

/- Rules for what is not asked. -/
namespace Go.Proofs.Ytgalbokmgffhkaa
open Go.Lf Go.RowKit

theorem r_gqU {want : Bool} {run : (Value → Prop) → Prop} {K : Value → Prop} : gdQ undef want run K = K undef := rfl
theorem r_gdU {want : Bool} {run : (Value → World → Prop) → Prop} {w : World} {K : Value → World → Prop} : gd undef want run w K = K undef w := rfl

end Go.Proofs.Ytgalbokmgffhkaa
