/- Texts of my own, merged by program: G4 D1 D2. -/
import Derived.Test.YtgalbokmgffhkaaN16
import Derived.Test.YtgalbokmgffhkaaN17
import Derived.Test.YtgalbokmgffhkaaN08
import Derived.Test.YtgalbokmgffhkaaN11
set_option linter.all false
/- Contract: WangRows. -/
namespace Go.Proofs.Ytgalbokmgffhkaa
open Go.Lf Go.RowKit Go.Wg

/-- A store into the first cell of a list. -/
theorem IRows.store {base : Nat} {w : World} {v : Value} {R : List (List Int)} (h : IRows base w v R) (hne : ∀ r ∈ R, 0 < r.length) {i : Nat} (hi : i < R.length) (x : Int) :
    ∃ b off cap g n c u, v = .slice (some ⟨b, off, none⟩) R.length cap ∧ w.cell? ⟨b, off + i, none⟩ = some (.slice (some ⟨g, 0, none⟩) n c) ∧ 0 < n ∧ w.cell? ⟨g, 0, none⟩ = some u ∧ w.frozen? ⟨g, 0, none⟩ = false ∧ base ≤ g ∧
      ∃ R', IRows base (w.setCell ⟨g, 0, none⟩ (.int .i64 x)) v R' ∧ R'.length = R.length ∧ ∀ r ∈ R', 0 < r.length := by
  obtain ⟨vs, h1, h2, h3⟩ := h
  have hlt : i < vs.length := by omega
  obtain ⟨b, off, cap, e, _, hc⟩ := (h1.rd vE_len).at (List.getElem?_eq_getElem hlt)
  have hI := h3 i _ _ (List.getElem?_eq_getElem hlt) (List.getElem?_eq_getElem hi)
  have hpos := hne _ (List.getElem_mem hi)
  obtain ⟨g, c, eu, hbg, hcell, hfr, hset⟩ := hI.put hpos x
  have hcell0 := hc 0 _ rfl
  simp only [Nat.mul_one, Nat.add_zero] at hcell0
  rw [eu] at hcell0
  refine ⟨b, off, cap, g, R[i].length, c, _, by rw [← h2]; exact e, hcell0, hpos, hcell, hfr, hbg, ?_⟩
  have hch : Chg (fun k => k = g) w (w.setCell ⟨g, 0, none⟩ (.int .i64 x)) := Chg.setCell _ _ rfl
  have hgI : (vs[i]'hlt).ownBlock = some g := by rw [eu]; rfl
  have hout : RecAt 30 1 vE base (w.setCell ⟨g, 0, none⟩ (.int .i64 x)) v vs := h1.chg hch fun k hk e => by
    subst e
    exact rec_ne hI h1 (by decide) k hgI hk
  -- each list: written, or as it was
  have each : ∀ j (hj : j < R.length), ∃ r, IntsAt base (w.setCell ⟨g, 0, none⟩ (.int .i64 x)) (vs[j]'(by omega)) r ∧ 0 < r.length := fun j hj => by
    have hJ := h3 j _ _ (List.getElem?_eq_getElem (show j < vs.length by omega)) (List.getElem?_eq_getElem hj)
    have hpj := hne _ (List.getElem_mem hj)
    by_cases he : (vs[j]'(by omega)).ownBlock = some g
    · obtain ⟨g', c', eu', _, _, _, hset'⟩ := hJ.put hpj x
      have : g' = g := by
        rw [eu'] at he
        injection he
      subst this
      exact ⟨_, hset', by simpa using hpj⟩
    · exact ⟨_, hJ.chg hch fun k hk e => he (by rw [hk, e]), hpj⟩
  have each' : ∀ j, ∃ r, ∀ hj : j < R.length, IntsAt base (w.setCell ⟨g, 0, none⟩ (.int .i64 x)) (vs[j]'(by omega)) r ∧ 0 < r.length := fun j => by
    by_cases hj : j < R.length
    · obtain ⟨r, h⟩ := each j hj
      exact ⟨r, fun _ => h⟩
    · exact ⟨[], fun h => absurd h hj⟩
  have hch2 := Classical.axiomOfChoice each'
  obtain ⟨F, hF⟩ := hch2
  refine ⟨(List.range R.length).map F, ⟨vs, hout, by simp [h2], fun j u r hu hr => ?_⟩, by simp, fun r hr => ?_⟩
  · have hj : j < vs.length := (List.getElem?_eq_some_iff.1 hu).1
    have hj' : j < R.length := by omega
    rw [List.getElem?_map, List.getElem?_range hj'] at hr
    cases hr
    rw [List.getElem?_eq_getElem hj] at hu
    cases hu
    exact (hF j hj').1
  · simp only [List.mem_map, List.mem_range] at hr
    obtain ⟨j, hj, rfl⟩ := hr
    exact (hF j hj).2

theorem RowsPost.form {l : List Tile} {n : List Int} {base : Nat} {w : World} {e : Ending} (h : RowsPost l n base w e) :
    ∃ v, e = .returned (.tuple #[v, .int .i64 (if rowsOk l n = true then 0 else 2)]) ∧ IRows base w v (if rowsOk l n = true then rfrom l (some n) n.length [] 255 else []) := by
  rcases h with ⟨h, rfl⟩ | ⟨h, v, rfl, ho⟩
  · rw [h]
    exact ⟨_, rfl, IRows.nil⟩
  · rw [h]
    exact ⟨_, rfl, ho⟩

set_option maxRecDepth 100000 in
theorem r14_1 {w0 w : World} {base : Nat} {v : Value} {R : List (List Int)} {t : Int} {next : Value → World → Prop} (hb : w0.heap.size ≤ base) (hR : IRows base w v R) (hl : R.length ≤ 100000) (hne : ∀ r ∈ R, 0 < r.length) (ht : 0 ≤ t ∧ t ≤ 10) (hk : Kp w0 w)
    (hn : ∀ w', Kp w0 w' → next (.int .i64 (t + 1)) w') : S14L1 (.int .i64 t) v next w := by
  unfold S14L1
  refine ⟨fun t10 wr => ∃ (i : Nat) (R' : List (List Int)), i ≤ R.length ∧ t10 = .int .i64 i ∧ IRows base wr v R' ∧ R'.length = R.length ∧ (∀ r ∈ R', 0 < r.length) ∧ Kp w0 wr, fun t10 _ => R.length - (intOf t10).toNat, ⟨0, R, by omega, rfl, hR, rfl, hne, hk⟩, ?_⟩
  rintro _ _ wr ⟨i, R', hi, rfl, hR', hl', hne', kr⟩
  have hln : ∀ K : Value → Prop, ln1 v K = K (.int .i64 R.length) := fun K => by
    obtain ⟨vs, h1, h2, _⟩ := hR'
    obtain ⟨a, c, e, _⟩ := h1.len
    rw [e, show vs.length = R.length by omega]
    rfl
  rw [hln]
  by_cases hlt : i < R.length
  case neg =>
    have hlt' : ¬ (i : Int) < (R.length : Int) := by omega
    simp (disch := omega) only [r_ln, r_pick, r_pickT, r_pickF, r_condT, r_condF, r_gdTT, r_gdFF, r_gdTF, r_gdFT, r_gqTT, r_gqFF, r_gqTF, r_gqFT, r_not, r_lss, r_leq, r_gtr, r_geq, r_eql, r_neq, r_add, r_sub, r_min2, r_max2, r_min3, r_max3, r_fa, r_iaS, r_iaA, r_ex2a, r_ex2b, r_ex3a, r_ex3b, r_ex3c, r_nc, r_keepE, Nat.zero_add, Nat.add_zero, Nat.mul_one, Int.toNat_natCast, toNat_sub1, toNat_add1, decide_true, decide_false, Bool.not_true, Bool.not_false, if_true, if_false, Bool.false_eq_true, reduceCtorEq, hlt']
    exact hn wr kr
  have hlt' : (i : Int) < (R.length : Int) := by omega
  obtain ⟨b, off, cap, g, n, c, u, e, hcell, hn0, hu, hfr, hbg, R2, hR2, hl2, hne2⟩ := hR'.store hne' (i := i) (by omega) 99
  subst e
  have hii : (i : Int).toNat = i := by omega
  have i0 : (0 : Int).toNat = 0 := rfl
  simp (disch := omega) only [r_ln, r_pick, r_pickT, r_pickF, r_condT, r_condF, r_gdTT, r_gdFF, r_gdTF, r_gdFT, r_gqTT, r_gqFF, r_gqTF, r_gqFT, r_not, r_lss, r_leq, r_gtr, r_geq, r_eql, r_neq, r_add, r_sub, r_min2, r_max2, r_min3, r_max3, r_fa, r_iaS, r_iaA, r_ex2a, r_ex2b, r_ex3a, r_ex3b, r_ex3c, r_nc, r_keepE, Nat.zero_add, Nat.add_zero, Nat.mul_one, Int.toNat_natCast, toNat_sub1, toNat_add1, decide_true, decide_false, Bool.not_true, Bool.not_false, if_true, if_false, Bool.false_eq_true, reduceCtorEq, decide_eq_true hlt', hii, r_ld hcell, i0, Nat.zero_mul]
  rw [st3 hu hfr]
  try simp (disch := omega) only [r_ln, r_pick, r_pickT, r_pickF, r_condT, r_condF, r_gdTT, r_gdFF, r_gdTF, r_gdFT, r_gqTT, r_gqFF, r_gqTF, r_gqFT, r_not, r_lss, r_leq, r_gtr, r_geq, r_eql, r_neq, r_add, r_sub, r_min2, r_max2, r_min3, r_max3, r_fa, r_iaS, r_iaA, r_ex2a, r_ex2b, r_ex3a, r_ex3b, r_ex3c, r_nc, r_keepE, Nat.zero_add, Nat.add_zero, Nat.mul_one, Int.toNat_natCast, toNat_sub1, toNat_add1, decide_true, decide_false, Bool.not_true, Bool.not_false, if_true, if_false, Bool.false_eq_true, reduceCtorEq]
  refine ⟨⟨i + 1, R2, by omega, by go_num, hR2, by omega, hne2, Kp.of_chg kr (Chg.setCell (S := fun k => k = g) _ _ rfl) fun k e => by omega⟩, by simp only [intOf]; omega⟩

set_option maxRecDepth 100000 in
theorem rowslaw_calls {v nv : Value} {l : List Tile} {n : List Int} (w : World) (hr : RdT w v l) (hn : RdI w nv n) : Calls Try.prog 14 #[v, nv] w fun e w' => e = .returned (.bool true) ∧ Kp w w' := by
  obtain ⟨va, vcap, rfl, hvc⟩ := hr.len
  have hn' := hn
  obtain ⟨na, nc, rfl, _, _⟩ := hn'
  refine lift14 ?_
  unfold S14
  have fin : ∀ (w' : World), Kp w w' → Calls Try.prog 18 #[] w' fun e w'' => e = .returned (.bool true) ∧ Kp w w'' := fun w' k => (law_alive w').mono fun e w'' h => ⟨h.1, Kp.trans k h.2⟩
  by_cases hl : (40 : Int) < (l.length : Int)
  · simp (disch := omega) only [r_ln, r_pick, r_pickT, r_pickF, r_condT, r_condF, r_gdTT, r_gdFF, r_gdTF, r_gdFT, r_gqTT, r_gqFF, r_gqTF, r_gqFT, r_not, r_lss, r_leq, r_gtr, r_geq, r_eql, r_neq, r_add, r_sub, r_min2, r_max2, r_min3, r_max3, r_fa, r_iaS, r_iaA, r_ex2a, r_ex2b, r_ex3a, r_ex3b, r_ex3c, r_nc, r_keepE, Nat.zero_add, Nat.add_zero, Nat.mul_one, Int.toNat_natCast, toNat_sub1, toNat_add1, decide_true, decide_false, Bool.not_true, Bool.not_false, if_true, if_false, Bool.false_eq_true, reduceCtorEq, decide_eq_true hl]
    refine r_use fok18 (fin w (Kp.refl _)) rfl ?_
    rintro _ w1 ⟨rfl, k1⟩
    exact ⟨_, rfl, by first | rfl | trivial, k1⟩
  by_cases hl2 : (20 : Int) < (n.length : Int)
  · simp (disch := omega) only [r_ln, r_pick, r_pickT, r_pickF, r_condT, r_condF, r_gdTT, r_gdFF, r_gdTF, r_gdFT, r_gqTT, r_gqFF, r_gqTF, r_gqFT, r_not, r_lss, r_leq, r_gtr, r_geq, r_eql, r_neq, r_add, r_sub, r_min2, r_max2, r_min3, r_max3, r_fa, r_iaS, r_iaA, r_ex2a, r_ex2b, r_ex3a, r_ex3b, r_ex3c, r_nc, r_keepE, Nat.zero_add, Nat.add_zero, Nat.mul_one, Int.toNat_natCast, toNat_sub1, toNat_add1, decide_true, decide_false, Bool.not_true, Bool.not_false, if_true, if_false, Bool.false_eq_true, reduceCtorEq, hl, decide_eq_true hl2]
    refine r_use fok18 (fin w (Kp.refl _)) rfl ?_
    rintro _ w1 ⟨rfl, k1⟩
    exact ⟨_, rfl, by first | rfl | trivial, k1⟩
  simp (disch := omega) only [r_ln, r_pick, r_pickT, r_pickF, r_condT, r_condF, r_gdTT, r_gdFF, r_gdTF, r_gdFT, r_gqTT, r_gqFF, r_gqTF, r_gqFT, r_not, r_lss, r_leq, r_gtr, r_geq, r_eql, r_neq, r_add, r_sub, r_min2, r_max2, r_min3, r_max3, r_fa, r_iaS, r_iaA, r_ex2a, r_ex2b, r_ex3a, r_ex3b, r_ex3c, r_nc, r_keepE, Nat.zero_add, Nat.add_zero, Nat.mul_one, Int.toNat_natCast, toNat_sub1, toNat_add1, decide_true, decide_false, Bool.not_true, Bool.not_false, if_true, if_false, Bool.false_eq_true, reduceCtorEq, hl, hl2]
  have hni := hn.small (by omega)
  refine r_use fok48 (refrows_calls w hr hni) rfl ?_
  rintro _ w1 ⟨k1, p1⟩
  obtain ⟨bv, rfl, hB⟩ := p1.form
  refine ⟨_, rfl, ?_⟩
  simp (disch := omega) only [r_ln, r_pick, r_pickT, r_pickF, r_condT, r_condF, r_gdTT, r_gdFF, r_gdTF, r_gdFT, r_gqTT, r_gqFF, r_gqTF, r_gqFT, r_not, r_lss, r_leq, r_gtr, r_geq, r_eql, r_neq, r_add, r_sub, r_min2, r_max2, r_min3, r_max3, r_fa, r_iaS, r_iaA, r_ex2a, r_ex2b, r_ex3a, r_ex3b, r_ex3c, r_nc, r_keepE, Nat.zero_add, Nat.add_zero, Nat.mul_one, Int.toNat_natCast, toNat_sub1, toNat_add1, decide_true, decide_false, Bool.not_true, Bool.not_false, if_true, if_false, Bool.false_eq_true, reduceCtorEq]
  have hRl : ∀ r ∈ (if rowsOk l n = true then rfrom l (some n) n.length [] 255 else []), r.length = n.length ∧ 0 < r.length := fun r h => by
    split at h
    · rename_i hok
      have h1 := rfrom_row n.length [] 255 r h
      simp only [rowsOk, Bool.and_eq_true, sideB, decide_eq_true_eq] at hok
      simp at h1
      omega
    · cases h
  have hRn : (if rowsOk l n = true then rfrom l (some n) n.length [] 255 else []).length ≤ 4096 := by
    split
    · rename_i hok
      simp only [rowsOk, Bool.and_eq_true, sideB, decide_eq_true_eq] at hok
      exact Nat.le_trans (rfrom_len n.length [] 255) (Nat.le_trans (Nat.pow_le_pow_right (by omega) (show n.length ≤ 4 by omega)) (by decide))
    · simp
  have hBr : RdRows w1 bv (if rowsOk l n = true then rfrom l (some n) n.length [] 255 else []) := hB.rd (by omega) fun r h => by have := (hRl r h).1; omega
  have hself : ∀ x : Int, decide (x = x) = true := fun x => decide_eq_true rfl
  have hselfR : ∀ x : List (List Int), decide (x = x) = true := fun x => decide_eq_true rfl
  unfold S14L0
  refine ⟨fun t7 wr => ∃ i : Nat, i ≤ 2 ∧ t7 = .int .i64 i ∧ Kp w1 wr, fun t7 _ => 2 - (intOf t7).toNat, ⟨0, by omega, rfl, Kp.refl _⟩, ?_⟩
  rintro _ _ wr ⟨i, hi, rfl, kr⟩
  have k0r := Kp.trans k1 kr
  by_cases hlt : i < 2
  case neg =>
    have hlt' : ¬ (i : Int) < 2 := by omega
    simp (disch := omega) only [r_ln, r_pick, r_pickT, r_pickF, r_condT, r_condF, r_gdTT, r_gdFF, r_gdTF, r_gdFT, r_gqTT, r_gqFF, r_gqTF, r_gqFT, r_not, r_lss, r_leq, r_gtr, r_geq, r_eql, r_neq, r_add, r_sub, r_min2, r_max2, r_min3, r_max3, r_fa, r_iaS, r_iaA, r_ex2a, r_ex2b, r_ex3a, r_ex3b, r_ex3c, r_nc, r_keepE, Nat.zero_add, Nat.add_zero, Nat.mul_one, Int.toNat_natCast, toNat_sub1, toNat_add1, decide_true, decide_false, Bool.not_true, Bool.not_false, if_true, if_false, Bool.false_eq_true, reduceCtorEq, hlt']
    refine r_use fok18 (fin wr k0r) rfl ?_
    rintro _ w2 ⟨rfl, k2⟩
    exact ⟨_, rfl, by first | rfl | trivial, k2⟩
  have hlt' : (i : Int) < 2 := by omega
  simp (disch := omega) only [r_ln, r_pick, r_pickT, r_pickF, r_condT, r_condF, r_gdTT, r_gdFF, r_gdTF, r_gdFT, r_gqTT, r_gqFF, r_gqTF, r_gqFT, r_not, r_lss, r_leq, r_gtr, r_geq, r_eql, r_neq, r_add, r_sub, r_min2, r_max2, r_min3, r_max3, r_fa, r_iaS, r_iaA, r_ex2a, r_ex2b, r_ex3a, r_ex3b, r_ex3c, r_nc, r_keepE, Nat.zero_add, Nat.add_zero, Nat.mul_one, Int.toNat_natCast, toNat_sub1, toNat_add1, decide_true, decide_false, Bool.not_true, Bool.not_false, if_true, if_false, Bool.false_eq_true, reduceCtorEq, decide_eq_true hlt']
  refine r_use fok49 (rows49_calls wr (hr.kp k0r) (hni.below k0r)) rfl ?_
  rintro _ w2 ⟨k2, p2⟩
  obtain ⟨av, rfl, hA⟩ := p2.form
  refine ⟨_, rfl, ?_⟩
  simp (disch := omega) only [r_ln, r_pick, r_pickT, r_pickF, r_condT, r_condF, r_gdTT, r_gdFF, r_gdTF, r_gdFT, r_gqTT, r_gqFF, r_gqTF, r_gqFT, r_not, r_lss, r_leq, r_gtr, r_geq, r_eql, r_neq, r_add, r_sub, r_min2, r_max2, r_min3, r_max3, r_fa, r_iaS, r_iaA, r_ex2a, r_ex2b, r_ex3a, r_ex3b, r_ex3c, r_nc, r_keepE, Nat.zero_add, Nat.add_zero, Nat.mul_one, Int.toNat_natCast, toNat_sub1, toNat_add1, decide_true, decide_false, Bool.not_true, Bool.not_false, if_true, if_false, Bool.false_eq_true, reduceCtorEq, hself]
  have hAr : RdRows w2 av (if rowsOk l n = true then rfrom l (some n) n.length [] 255 else []) := hA.rd (by omega) fun r h => by have := (hRl r h).1; omega
  refine r_use fok29 (lists_calls w2 hAr (hBr.below (Kp.trans kr k2))) rfl ?_
  rintro _ w3 ⟨rfl, k3⟩
  refine ⟨_, rfl, ?_⟩
  simp (disch := omega) only [r_ln, r_pick, r_pickT, r_pickF, r_condT, r_condF, r_gdTT, r_gdFF, r_gdTF, r_gdFT, r_gqTT, r_gqFF, r_gqTF, r_gqFT, r_not, r_lss, r_leq, r_gtr, r_geq, r_eql, r_neq, r_add, r_sub, r_min2, r_max2, r_min3, r_max3, r_fa, r_iaS, r_iaA, r_ex2a, r_ex2b, r_ex3a, r_ex3b, r_ex3c, r_nc, r_keepE, Nat.zero_add, Nat.add_zero, Nat.mul_one, Int.toNat_natCast, toNat_sub1, toNat_add1, decide_true, decide_false, Bool.not_true, Bool.not_false, if_true, if_false, Bool.false_eq_true, reduceCtorEq, hselfR]
  refine r14_1 (w0 := w1) kr.size (hA.kp k3) (by omega) (fun r h => (hRl r h).2) (by omega) (Kp.trans kr (Kp.trans k2 k3)) fun w' kk => ?_
  exact ⟨⟨i + 1, by omega, by go_num, kk⟩, by simp only [intOf]; omega⟩

end Go.Proofs.Ytgalbokmgffhkaa

/- Contracts: machines: which are right (program and specification). -/
namespace Go.Proofs.Ytgalbokmgffhkaa
open Go.Lf Go.RowKit Go.Wg

/-- What is written, whether the head goes to the right, the next state. -/
abbrev Ent := Int × Bool × Int
def enC (e : Ent) : List Value := [.int .i64 e.1, .bool e.2.1, .int .i64 e.2.2]
abbrev enV (e : Ent) : Value := .agg #[.int .i64 e.1, .bool e.2.1, .int .i64 e.2.2]
theorem enC_len (e : Ent) : (enC e).length = 3 := rfl
abbrev RdE (w : World) (v : Value) (T : List Ent) : Prop := Rd 3 enC w v T
abbrev macV (S : Int) (tv : Value) : Value := .agg #[.int .i64 S, tv]

def entB (S : Int) (e : Ent) : Bool := decide (0 ≤ e.1 ∧ e.1 ≤ 1) && decide (-1 ≤ e.2.2 ∧ e.2.2 < S)
def macB (S : Int) (T : List Ent) : Bool := decide (1 ≤ S ∧ S ≤ 2) && decide ((T.length : Int) = 2 * S) && T.all (entB S)

theorem RdE.ent {w : World} {v : Value} {T : List Ent} (h : RdE w v T) {i : Nat} {e : Ent} (hi : T[i]? = some e) :
    ∃ b off cap, v = .slice (some ⟨b, off, none⟩) T.length cap ∧ i < T.length ∧ ∀ K : Value → Prop, ldN 3 w (.pointer (some ⟨b, off + i * 3, none⟩)) K = K (enV e) := by
  obtain ⟨b, off, cap, e', hlt, hc⟩ := h.at hi
  exact ⟨b, off, cap, e', hlt, fun K => r_ldCells (l := enC e) rfl hc⟩

set_option maxRecDepth 100000 in
/-- The test of machine: is an entry wrong? -/
theorem badent_call {S : Int} {tv : Value} {b1 : Nat} (w : World) (h1 : w.heap[b1]? = some (.cells #[.int .i64 S, tv] 51 (0, 0))) (e : Ent) (w' : World) (hk : Kp w w') (K : Value → World → Prop) (h : ∀ w'', Kp w' w'' → K (.bool (!entB S e)) w'') :
    callW Try.prog (.func (.func 115) #[] #[.pointer (some ⟨b1, 0, none⟩)]) [enV e] w' K := by
  have hc : Calls Try.prog 115 #[enV e, .pointer (some ⟨b1, 0, none⟩)] w' fun r w'' => r = .returned (.bool (!entB S e)) ∧ Kp w' w'' := by
    refine lift115 ?_
    unfold S115
    refine r_box fun b w1 eb sb hb kb => ?_
    have c0 : w1.cell? ⟨b, 0, none⟩ = some (.int .i64 e.1) := by rw [cell_row hb]; rfl
    have c2 : w1.cell? ⟨b, 2, none⟩ = some (.int .i64 e.2.2) := by rw [cell_row hb]; rfl
    have cS : w1.cell? ⟨b1, 0, none⟩ = some (.int .i64 S) := by rw [cell_row (block_below h1 (Kp.trans hk kb))]; rfl
    have fin : ∀ r : Bool, r = (!entB S e) → Ending.returned (.bool r) = .returned (.bool (!entB S e)) ∧ Kp w' w1 := fun r h => ⟨by rw [h], kb⟩
    by_cases g1 : e.1 < 0
    · simp (disch := omega) only [r_ln, r_pick, r_pickT, r_pickF, r_condT, r_condF, r_gdTT, r_gdFF, r_gdTF, r_gdFT, r_gqTT, r_gqFF, r_gqTF, r_gqFT, r_not, r_lss, r_leq, r_gtr, r_geq, r_eql, r_neq, r_add, r_sub, r_min2, r_max2, r_min3, r_max3, r_fa, r_iaS, r_iaA, r_ex2a, r_ex2b, r_ex3a, r_ex3b, r_ex3c, r_nc, r_keepE, Nat.zero_add, Nat.add_zero, Nat.mul_one, Int.toNat_natCast, toNat_sub1, toNat_add1, decide_true, decide_false, Bool.not_true, Bool.not_false, if_true, if_false, Bool.false_eq_true, reduceCtorEq, r_ld c0, decide_eq_true g1]
      exact fin true (by simp only [entB]; rw [decide_eq_false (by omega)]; rfl)
    by_cases g2 : 1 < e.1
    · simp (disch := omega) only [r_ln, r_pick, r_pickT, r_pickF, r_condT, r_condF, r_gdTT, r_gdFF, r_gdTF, r_gdFT, r_gqTT, r_gqFF, r_gqTF, r_gqFT, r_not, r_lss, r_leq, r_gtr, r_geq, r_eql, r_neq, r_add, r_sub, r_min2, r_max2, r_min3, r_max3, r_fa, r_iaS, r_iaA, r_ex2a, r_ex2b, r_ex3a, r_ex3b, r_ex3c, r_nc, r_keepE, Nat.zero_add, Nat.add_zero, Nat.mul_one, Int.toNat_natCast, toNat_sub1, toNat_add1, decide_true, decide_false, Bool.not_true, Bool.not_false, if_true, if_false, Bool.false_eq_true, reduceCtorEq, r_ld c0, g1, decide_eq_true g2]
      exact fin true (by simp only [entB]; rw [decide_eq_false (by omega)]; rfl)
    by_cases g3 : e.2.2 < -1
    · simp (disch := omega) only [r_ln, r_pick, r_pickT, r_pickF, r_condT, r_condF, r_gdTT, r_gdFF, r_gdTF, r_gdFT, r_gqTT, r_gqFF, r_gqTF, r_gqFT, r_not, r_lss, r_leq, r_gtr, r_geq, r_eql, r_neq, r_add, r_sub, r_min2, r_max2, r_min3, r_max3, r_fa, r_iaS, r_iaA, r_ex2a, r_ex2b, r_ex3a, r_ex3b, r_ex3c, r_nc, r_keepE, Nat.zero_add, Nat.add_zero, Nat.mul_one, Int.toNat_natCast, toNat_sub1, toNat_add1, decide_true, decide_false, Bool.not_true, Bool.not_false, if_true, if_false, Bool.false_eq_true, reduceCtorEq, r_ld c0, r_ld c2, g1, g2, decide_eq_true g3]
      exact fin true (by simp only [entB]; rw [decide_eq_false (show ¬ (-1 ≤ e.2.2 ∧ e.2.2 < S) by omega), Bool.and_false]; rfl)
    by_cases g4 : S ≤ e.2.2
    · simp (disch := omega) only [r_ln, r_pick, r_pickT, r_pickF, r_condT, r_condF, r_gdTT, r_gdFF, r_gdTF, r_gdFT, r_gqTT, r_gqFF, r_gqTF, r_gqFT, r_not, r_lss, r_leq, r_gtr, r_geq, r_eql, r_neq, r_add, r_sub, r_min2, r_max2, r_min3, r_max3, r_fa, r_iaS, r_iaA, r_ex2a, r_ex2b, r_ex3a, r_ex3b, r_ex3c, r_nc, r_keepE, Nat.zero_add, Nat.add_zero, Nat.mul_one, Int.toNat_natCast, toNat_sub1, toNat_add1, decide_true, decide_false, Bool.not_true, Bool.not_false, if_true, if_false, Bool.false_eq_true, reduceCtorEq, r_ld c0, r_ld c2, r_ld cS, g1, g2, g3, decide_eq_true g4]
      exact fin true (by simp only [entB]; rw [decide_eq_false (show ¬ (-1 ≤ e.2.2 ∧ e.2.2 < S) by omega), Bool.and_false]; rfl)
    · simp (disch := omega) only [r_ln, r_pick, r_pickT, r_pickF, r_condT, r_condF, r_gdTT, r_gdFF, r_gdTF, r_gdFT, r_gqTT, r_gqFF, r_gqTF, r_gqFT, r_not, r_lss, r_leq, r_gtr, r_geq, r_eql, r_neq, r_add, r_sub, r_min2, r_max2, r_min3, r_max3, r_fa, r_iaS, r_iaA, r_ex2a, r_ex2b, r_ex3a, r_ex3b, r_ex3c, r_nc, r_keepE, Nat.zero_add, Nat.add_zero, Nat.mul_one, Int.toNat_natCast, toNat_sub1, toNat_add1, decide_true, decide_false, Bool.not_true, Bool.not_false, if_true, if_false, Bool.false_eq_true, reduceCtorEq, r_ld c0, r_ld c2, r_ld cS, g1, g2, g3, g4]
      exact fin false (by simp only [entB]; rw [decide_eq_true (by omega), decide_eq_true (by omega)]; rfl)
  refine r_use fok115 hc rfl ?_
  rintro _ w2 ⟨rfl, k2⟩
  exact ⟨_, rfl, h w2 k2⟩

end Go.Proofs.Ytgalbokmgffhkaa

/- Contracts: machine of the program, Valid of the specification. -/
namespace Go.Proofs.Ytgalbokmgffhkaa
open Go.Lf Go.RowKit Go.Wg

set_option maxRecDepth 100000 in
/-- slices.ContainsFunc at entries. -/
theorem containsE_calls {v fv : Value} {T : List Ent} (p : Ent → Bool) (w : World) (hr : RdE w v T) (hT : T.length ≤ 1000000)
    (hc : ∀ x ∈ T, ∀ (w' : World) (K : Value → World → Prop), Kp w w' → (∀ w'', Kp w' w'' → K (.bool (p x)) w'') → callW Try.prog fv [enV x] w' K) :
    Calls Try.prog 114 #[v, fv] w fun e w' => e = .returned (.bool (T.any p)) ∧ Kp w w' := by
  have hidx : Calls Try.prog 131 #[v, fv] w fun e w' => ∃ n : Int, e = .returned (.int .i64 n) ∧ decide (0 ≤ n) = T.any p ∧ Kp w w' := by
    obtain ⟨a, cap, rfl, hl⟩ := hr.len
    refine lift131 ?_
    unfold S131
    simp only [r_ln, r_pick, r_pickT, r_pickF, r_condT, r_condF, r_gdTT, r_gdFF, r_gdTF, r_gdFT, r_gqTT, r_gqFF, r_gqTF, r_gqFT, r_not, r_lss, r_leq, r_gtr, r_geq, r_eql, r_neq, r_add, r_sub, r_min2, r_max2, r_min3, r_max3, r_fa, r_iaS, r_iaA, r_ex2a, r_ex2b, r_ex3a, r_ex3b, r_ex3c, r_nc, r_keepE, Nat.zero_add, Nat.add_zero, Nat.mul_one, Int.toNat_natCast, toNat_sub1, toNat_add1, decide_true, decide_false, Bool.not_true, Bool.not_false, if_true, if_false, Bool.false_eq_true, reduceCtorEq]
    refine ⟨fun t8 wr => ∃ i : Nat, i ≤ T.length ∧ t8 = .int .i64 i ∧ (T.take i).any p = false ∧ Kp w wr, fun t8 _ => T.length - (intOf t8).toNat, ⟨0, by omega, rfl, by simp, Kp.refl _⟩, ?_⟩
    rintro _ _ wr ⟨i, hi, rfl, hn, hk⟩
    by_cases hlt : i < T.length
    case neg =>
      have hlt' : ¬ (i : Int) < (T.length : Int) := by omega
      rw [List.take_of_length_le (by omega)] at hn
      simp (disch := omega) only [r_ln, r_pick, r_pickT, r_pickF, r_condT, r_condF, r_gdTT, r_gdFF, r_gdTF, r_gdFT, r_gqTT, r_gqFF, r_gqTF, r_gqFT, r_not, r_lss, r_leq, r_gtr, r_geq, r_eql, r_neq, r_add, r_sub, r_min2, r_max2, r_min3, r_max3, r_fa, r_iaS, r_iaA, r_ex2a, r_ex2b, r_ex3a, r_ex3b, r_ex3c, r_nc, r_keepE, Nat.zero_add, Nat.add_zero, Nat.mul_one, Int.toNat_natCast, toNat_sub1, toNat_add1, decide_true, decide_false, Bool.not_true, Bool.not_false, if_true, if_false, Bool.false_eq_true, reduceCtorEq, hlt']
      exact ⟨-1, rfl, by rw [hn]; decide, hk⟩
    have hlt' : (i : Int) < (T.length : Int) := by omega
    obtain ⟨x, hx⟩ : ∃ x, T[i]? = some x := ⟨_, List.getElem?_eq_getElem hlt⟩
    obtain ⟨b, off, _, e, _, hld⟩ := RdE.ent (hr.kp hk) hx
    cases e
    simp (disch := omega) only [r_ln, r_pick, r_pickT, r_pickF, r_condT, r_condF, r_gdTT, r_gdFF, r_gdTF, r_gdFT, r_gqTT, r_gqFF, r_gqTF, r_gqFT, r_not, r_lss, r_leq, r_gtr, r_geq, r_eql, r_neq, r_add, r_sub, r_min2, r_max2, r_min3, r_max3, r_fa, r_iaS, r_iaA, r_ex2a, r_ex2b, r_ex3a, r_ex3b, r_ex3c, r_nc, r_keepE, Nat.zero_add, Nat.add_zero, Nat.mul_one, Int.toNat_natCast, toNat_sub1, toNat_add1, decide_true, decide_false, Bool.not_true, Bool.not_false, if_true, if_false, Bool.false_eq_true, reduceCtorEq, decide_eq_true hlt', hld]
    refine hc x (List.mem_of_getElem? hx) wr _ hk fun w2 k2 => ?_
    have htk : T.take (i + 1) = T.take i ++ [x] := by rw [List.take_add_one, hx]; rfl
    cases hp : p x with
    | true =>
      simp (disch := omega) only [r_ln, r_pick, r_pickT, r_pickF, r_condT, r_condF, r_gdTT, r_gdFF, r_gdTF, r_gdFT, r_gqTT, r_gqFF, r_gqTF, r_gqFT, r_not, r_lss, r_leq, r_gtr, r_geq, r_eql, r_neq, r_add, r_sub, r_min2, r_max2, r_min3, r_max3, r_fa, r_iaS, r_iaA, r_ex2a, r_ex2b, r_ex3a, r_ex3b, r_ex3c, r_nc, r_keepE, Nat.zero_add, Nat.add_zero, Nat.mul_one, Int.toNat_natCast, toNat_sub1, toNat_add1, decide_true, decide_false, Bool.not_true, Bool.not_false, if_true, if_false, Bool.false_eq_true, reduceCtorEq]
      refine ⟨i, rfl, ?_, Kp.trans hk k2⟩
      have : T.any p = true := List.any_eq_true.2 ⟨x, List.mem_of_getElem? hx, hp⟩
      rw [this]
      exact decide_eq_true (by omega)
    | false =>
      simp (disch := omega) only [r_ln, r_pick, r_pickT, r_pickF, r_condT, r_condF, r_gdTT, r_gdFF, r_gdTF, r_gdFT, r_gqTT, r_gqFF, r_gqTF, r_gqFT, r_not, r_lss, r_leq, r_gtr, r_geq, r_eql, r_neq, r_add, r_sub, r_min2, r_max2, r_min3, r_max3, r_fa, r_iaS, r_iaA, r_ex2a, r_ex2b, r_ex3a, r_ex3b, r_ex3c, r_nc, r_keepE, Nat.zero_add, Nat.add_zero, Nat.mul_one, Int.toNat_natCast, toNat_sub1, toNat_add1, decide_true, decide_false, Bool.not_true, Bool.not_false, if_true, if_false, Bool.false_eq_true, reduceCtorEq]
      exact ⟨⟨i + 1, by omega, by go_num, by rw [htk, List.any_append, hn, List.any_cons, List.any_nil, hp]; rfl, Kp.trans hk k2⟩, by simp only [intOf]; omega⟩
  refine lift114 ?_
  unfold S114
  refine r_use fok131 hidx rfl ?_
  rintro _ w1 ⟨n, rfl, hn, k1⟩
  refine ⟨_, rfl, ?_⟩
  simp only [r_ln, r_pick, r_pickT, r_pickF, r_condT, r_condF, r_gdTT, r_gdFF, r_gdTF, r_gdFT, r_gqTT, r_gqFF, r_gqTF, r_gqFT, r_not, r_lss, r_leq, r_gtr, r_geq, r_eql, r_neq, r_add, r_sub, r_min2, r_max2, r_min3, r_max3, r_fa, r_iaS, r_iaA, r_ex2a, r_ex2b, r_ex3a, r_ex3b, r_ex3c, r_nc, r_keepE, Nat.zero_add, Nat.add_zero, Nat.mul_one, Int.toNat_natCast, toNat_sub1, toNat_add1, decide_true, decide_false, Bool.not_true, Bool.not_false, if_true, if_false, Bool.false_eq_true, reduceCtorEq, hn]
  exact ⟨by first | rfl | trivial, k1⟩

theorem any_ent (S : Int) (T : List Ent) : (T.any fun x => !entB S x) = !(T.all (entB S)) := by
  induction T with
  | nil => rfl
  | cons x T ih => simp [ih]

set_option maxRecDepth 100000 in
/-- machine: is a machine right? -/
theorem machine_calls {S : Int} {tv : Value} {T : List Ent} (w : World) (hr : RdE w tv T) (hT : T.length ≤ 1000) : Calls Try.prog 89 #[macV S tv] w fun e w' => e = .returned (.bool (macB S T)) ∧ Kp w w' := by
  obtain ⟨ta, tcap, rfl, _⟩ := hr.len
  refine lift89 ?_
  unfold S89
  refine r_box fun b1 w1 e1 s1 h1 k1 => ?_
  have h1' : w1.heap[b1]? = some (.cells #[.int .i64 S, .slice ta T.length tcap] 51 (0, 0)) := h1
  have cS : w1.cell? ⟨b1, 0, none⟩ = some (.int .i64 S) := by rw [cell_row h1']; rfl
  have cT : w1.cell? ⟨b1, 1, none⟩ = some (.slice ta T.length tcap) := by rw [cell_row h1']; rfl
  have fin : ∀ (r : Bool) (w' : World), r = macB S T → Kp w1 w' → Ending.returned (.bool r) = .returned (.bool (macB S T)) ∧ Kp w w' := fun r w' h k => ⟨by rw [h], Kp.trans k1 k⟩
  by_cases g1 : 1 ≤ S
  case neg =>
    simp (disch := omega) only [r_ln, r_pick, r_pickT, r_pickF, r_condT, r_condF, r_gdTT, r_gdFF, r_gdTF, r_gdFT, r_gqTT, r_gqFF, r_gqTF, r_gqFT, r_not, r_lss, r_leq, r_gtr, r_geq, r_eql, r_neq, r_add, r_sub, r_min2, r_max2, r_min3, r_max3, r_fa, r_iaS, r_iaA, r_ex2a, r_ex2b, r_ex3a, r_ex3b, r_ex3c, r_nc, r_keepE, Nat.zero_add, Nat.add_zero, Nat.mul_one, Int.toNat_natCast, toNat_sub1, toNat_add1, decide_true, decide_false, Bool.not_true, Bool.not_false, if_true, if_false, Bool.false_eq_true, reduceCtorEq, r_ld cS, g1]
    exact fin false w1 (by simp only [macB]; rw [decide_eq_false (by omega)]; rfl) (Kp.refl _)
  by_cases g2 : S ≤ 2
  case neg =>
    simp (disch := omega) only [r_ln, r_pick, r_pickT, r_pickF, r_condT, r_condF, r_gdTT, r_gdFF, r_gdTF, r_gdFT, r_gqTT, r_gqFF, r_gqTF, r_gqFT, r_not, r_lss, r_leq, r_gtr, r_geq, r_eql, r_neq, r_add, r_sub, r_min2, r_max2, r_min3, r_max3, r_fa, r_iaS, r_iaA, r_ex2a, r_ex2b, r_ex3a, r_ex3b, r_ex3c, r_nc, r_keepE, Nat.zero_add, Nat.add_zero, Nat.mul_one, Int.toNat_natCast, toNat_sub1, toNat_add1, decide_true, decide_false, Bool.not_true, Bool.not_false, if_true, if_false, Bool.false_eq_true, reduceCtorEq, r_ld cS, decide_eq_true g1, g2]
    exact fin false w1 (by simp only [macB]; rw [decide_eq_false (show ¬ (1 ≤ S ∧ S ≤ 2) by omega)]; rfl) (Kp.refl _)
  by_cases g3 : (T.length : Int) = 2 * S
  case neg =>
    simp (disch := omega) only [r_ln, r_pick, r_pickT, r_pickF, r_condT, r_condF, r_gdTT, r_gdFF, r_gdTF, r_gdFT, r_gqTT, r_gqFF, r_gqTF, r_gqFT, r_not, r_lss, r_leq, r_gtr, r_geq, r_eql, r_neq, r_add, r_sub, r_min2, r_max2, r_min3, r_max3, r_fa, r_iaS, r_iaA, r_ex2a, r_ex2b, r_ex3a, r_ex3b, r_ex3c, r_nc, r_keepE, Nat.zero_add, Nat.add_zero, Nat.mul_one, Int.toNat_natCast, toNat_sub1, toNat_add1, decide_true, decide_false, Bool.not_true, Bool.not_false, if_true, if_false, Bool.false_eq_true, reduceCtorEq, r_ld cS, r_ld cT, decide_eq_true g1, decide_eq_true g2, r_mul, g3]
    exact fin false w1 (by simp only [macB]; rw [decide_eq_false g3]; simp) (Kp.refl _)
  simp (disch := omega) only [r_ln, r_pick, r_pickT, r_pickF, r_condT, r_condF, r_gdTT, r_gdFF, r_gdTF, r_gdFT, r_gqTT, r_gqFF, r_gqTF, r_gqFT, r_not, r_lss, r_leq, r_gtr, r_geq, r_eql, r_neq, r_add, r_sub, r_min2, r_max2, r_min3, r_max3, r_fa, r_iaS, r_iaA, r_ex2a, r_ex2b, r_ex3a, r_ex3b, r_ex3c, r_nc, r_keepE, Nat.zero_add, Nat.add_zero, Nat.mul_one, Int.toNat_natCast, toNat_sub1, toNat_add1, decide_true, decide_false, Bool.not_true, Bool.not_false, if_true, if_false, Bool.false_eq_true, reduceCtorEq, r_ld cS, r_ld cT, decide_eq_true g1, decide_eq_true g2, r_mul, decide_eq_true g3]
  refine r_use fok114 (containsE_calls (fun x => !entB S x) w1 (hr.kp k1) (by omega) fun x _ w' K hk hK => badent_call w1 h1' x w' hk K hK) rfl ?_
  rintro _ w2 ⟨rfl, k2⟩
  refine ⟨_, rfl, ?_⟩
  rw [any_ent]
  simp (disch := omega) only [r_ln, r_pick, r_pickT, r_pickF, r_condT, r_condF, r_gdTT, r_gdFF, r_gdTF, r_gdFT, r_gqTT, r_gqFF, r_gqTF, r_gqFT, r_not, r_lss, r_leq, r_gtr, r_geq, r_eql, r_neq, r_add, r_sub, r_min2, r_max2, r_min3, r_max3, r_fa, r_iaS, r_iaA, r_ex2a, r_ex2b, r_ex3a, r_ex3b, r_ex3c, r_nc, r_keepE, Nat.zero_add, Nat.add_zero, Nat.mul_one, Int.toNat_natCast, toNat_sub1, toNat_add1, decide_true, decide_false, Bool.not_true, Bool.not_false, if_true, if_false, Bool.false_eq_true, reduceCtorEq, Bool.not_not]
  exact fin _ w2 (by simp only [macB]; rw [decide_eq_true ⟨g1, g2⟩, decide_eq_true g3]; simp) k2

end Go.Proofs.Ytgalbokmgffhkaa
