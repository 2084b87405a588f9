/- Texts of my own, merged by program: R1 K1 K2. -/
import Derived.Test.YtaephdjmpmbfpaaM15
import Derived.Test.YtaephdjmpmbfpaaM05
import Derived.Maps.AppendAt
import Derived.Laws.StructEq
set_option linter.all false
/- Contracts: complement, transpose, turn, Changed of the specification. -/
namespace Go.Proofs.Ytaephdjmpmbfpaa
open Go.Lf Go.RowKit Go.Hp

/-- What is written into a table, row by row. -/
structure Filled (r c : Nat) (F : Nat → Nat → Int) (done : Nat → Nat → Prop) (h : List (List Int)) : Prop where
  sized : Sized r c h
  at_ : ∀ i j, i < r → j < c → done i j → hat h i j = F i j

theorem Filled.put {r c : Nat} {F : Nat → Nat → Int} {done done' : Nat → Nat → Prop} {h : List (List Int)} (f : Filled r c F done h) {i j : Nat} (hi : i < r) (hj : j < c) (hd : ∀ a b, done' a b → done a b ∨ a = i ∧ b = j) : Filled r c F done' (put2 h i j (F i j)) := by
  refine ⟨put2_sized f.sized hi _, fun a b ha hb hab => ?_⟩
  rw [put2_hat h i j a b _ (by rw [f.sized.1]; exact hi) (by rw [f.sized.2 i hi]; exact hj)]
  by_cases he : a = i ∧ b = j
  · rw [if_pos he, he.1, he.2]
  · rw [if_neg he]
    exact f.at_ a b ha hb ((hd a b hab).resolve_right he)

theorem Filled.mono {r c : Nat} {F : Nat → Nat → Int} {done done' : Nat → Nat → Prop} {h : List (List Int)} (f : Filled r c F done h) (hd : ∀ a b, a < r → b < c → done' a b → done a b) : Filled r c F done' h :=
  ⟨f.sized, fun a b ha hb h => f.at_ a b ha hb (hd a b ha hb h)⟩

theorem Filled.all {r c : Nat} {F : Nat → Nat → Int} {done : Nat → Nat → Prop} {h : List (List Int)} (f : Filled r c F done h) (hd : ∀ a b, a < r → b < c → done a b) : h = tabM r c F :=
  heap_ext f.sized (tabM_sized _ _ _) fun i j hi hj => by rw [tabM_hat hi hj]; exact f.at_ i j hi hj (hd i j hi hj)

theorem new_of {w w' w1 : World} {v : Value} {g : Nat} {bs : Nat → Nat} {h : List (List Int)} (ho : OwnRows w' v g bs h) (hg : w1.heap.size ≤ g) (hbs : ∀ i, i < h.length → w1.heap.size ≤ bs i) (hk : w.heap.size ≤ w1.heap.size) : NewRows w w' v h :=
  ⟨g, bs, ho, by omega, fun i hi => by have := hbs i hi; omega⟩

set_option maxRecDepth 100000 in
theorem refcomp_calls {A B C : Nat} {h : List (List Int)} (hh : IsHeap A B C h) (hA : 1 ≤ A ∧ A ≤ 4) (hB : 1 ≤ B ∧ B ≤ 4) (hC : 1 ≤ C ∧ C ≤ 4) (v : Value) (w : World) (hr : RdRows w v h) :
    Calls Try.prog 49 #[boxV A B C, v] w fun e w' => ∃ v', e = .returned v' ∧ Kp w w' ∧ NewRows w w' v' (compM A B C h) := by
  have hs := sized_of hh
  refine lift49 ?_
  unfold S49
  refine r_box fun b w1 hbw hsz hb hk => ?_
  rw [r_ldRow (n := 3) hb rfl]
  refine r_use fok66 (empty_calls A B C w1 (by omega) (by omega) (by omega)) rfl ?_
  rintro _ w2 ⟨vo, rfl, k2, g, bs, ho, hg, hbs⟩
  refine ⟨_, rfl, ?_⟩
  have hb2 := block_below hb k2
  have hbs' : ∀ i, i < A → w1.heap.size ≤ bs i := fun i hi => hbs i (by simpa using hi)
  have hblt := block_lt hb
  have hks := hk.size
  obtain ⟨va, vc, hv, _⟩ := hr.len
  refine ⟨fun t6 wr => ∃ (i : Nat) (o : List (List Int)), i ≤ A ∧ t6 = .int .i64 i ∧ OwnRows wr vo g bs o ∧ Filled A B (fun i j => (C : Int) - hat h (A - 1 - i) (B - 1 - j)) (fun a _ => a < i) o ∧ Chg (fun k => ∃ q, q < A ∧ k = bs q) w2 wr, fun t6 _ => A - (intOf t6).toNat,
    ⟨0, zeros A B, by omega, rfl, ho, ⟨zeros_sized A B, fun _ _ _ _ h => absurd h (by omega)⟩, Chg.refl _ _⟩, ?_⟩
  rintro _ _ wr ⟨i, o, hi, rfl, hor, hfi, hch⟩
  have nb : ¬ ∃ q, q < A ∧ b = bs q := fun ⟨q, hq, e⟩ => by have := hbs' q hq; omega
  obtain ⟨c0, c1, c2⟩ := box3 (hch.at hb2 nb)
  have hkr : Kp w wr := Kp.of_chg (Kp.trans hk k2) hch fun k ⟨q, hq, e⟩ => by have := hbs' q hq; omega
  by_cases hlt : i < A
  case neg =>
    have hlt' : ¬ (i : Int) < (A : Int) := by omega
    simp (disch := omega) only [r_ln, r_pick, r_pickT, r_pickF, r_condT, r_condF, r_gdTT, r_gdFF, r_gdTF, r_gdFT, r_gqTT, r_gqFF, r_gqTF, r_gqFT, r_not, r_lss, r_leq, r_gtr, r_geq, r_eql, r_neq, r_add, r_sub, r_min2, r_max2, r_min3, r_max3, r_fa, r_iaS, r_iaA, r_ex2a, r_ex2b, r_ex3a, r_ex3b, r_ex3c, r_nc, r_keepE, Nat.zero_add, Nat.add_zero, Nat.mul_one, Int.toNat_natCast, toNat_sub1, toNat_add1, decide_true, decide_false, Bool.not_true, Bool.not_false, if_true, if_false, Bool.false_eq_true, reduceCtorEq, r_ld c0, hlt']
    have e := hfi.all fun a b ha _ => by omega
    subst e
    exact ⟨vo, rfl, hkr, new_of hor (by omega) (fun q hq => hbs' q (by simpa [compM, tabM] using hq)) (by omega)⟩
  have hlt' : (i : Int) < (A : Int) := by omega
  simp (disch := omega) only [r_ln, r_pick, r_pickT, r_pickF, r_condT, r_condF, r_gdTT, r_gdFF, r_gdTF, r_gdFT, r_gqTT, r_gqFF, r_gqTF, r_gqFT, r_not, r_lss, r_leq, r_gtr, r_geq, r_eql, r_neq, r_add, r_sub, r_min2, r_max2, r_min3, r_max3, r_fa, r_iaS, r_iaA, r_ex2a, r_ex2b, r_ex3a, r_ex3b, r_ex3c, r_nc, r_keepE, Nat.zero_add, Nat.add_zero, Nat.mul_one, Int.toNat_natCast, toNat_sub1, toNat_add1, decide_true, decide_false, Bool.not_true, Bool.not_false, if_true, if_false, Bool.false_eq_true, reduceCtorEq, r_ld c0, hlt']
  refine ⟨fun t7 wq => ∃ (j : Nat) (o : List (List Int)), j ≤ B ∧ t7 = .int .i64 j ∧ OwnRows wq vo g bs o ∧ Filled A B (fun i j => (C : Int) - hat h (A - 1 - i) (B - 1 - j)) (fun a b => a < i ∨ a = i ∧ b < j) o ∧ Chg (fun k => ∃ q, q < A ∧ k = bs q) w2 wq, fun t7 _ => B - (intOf t7).toNat,
    ⟨0, o, by omega, rfl, hor, hfi.mono fun a b _ _ h => by omega, hch⟩, ?_⟩
  rintro _ _ wq ⟨j, o2, hj, rfl, hoq, hfj, hcq⟩
  have hbq := hcq.at hb2 nb
  obtain ⟨d0, d1, d2⟩ := box3 hbq
  have hkq : Kp w wq := Kp.of_chg (Kp.trans hk k2) hcq fun k ⟨q, hq, e⟩ => by have := hbs' q hq; omega
  by_cases hjl : j < B
  case neg =>
    have hjl' : ¬ (j : Int) < (B : Int) := by omega
    simp (disch := omega) only [r_ln, r_pick, r_pickT, r_pickF, r_condT, r_condF, r_gdTT, r_gdFF, r_gdTF, r_gdFT, r_gqTT, r_gqFF, r_gqTF, r_gqFT, r_not, r_lss, r_leq, r_gtr, r_geq, r_eql, r_neq, r_add, r_sub, r_min2, r_max2, r_min3, r_max3, r_fa, r_iaS, r_iaA, r_ex2a, r_ex2b, r_ex3a, r_ex3b, r_ex3c, r_nc, r_keepE, Nat.zero_add, Nat.add_zero, Nat.mul_one, Int.toNat_natCast, toNat_sub1, toNat_add1, decide_true, decide_false, Bool.not_true, Bool.not_false, if_true, if_false, Bool.false_eq_true, reduceCtorEq, r_ld d1, hjl']
    exact ⟨⟨i + 1, o2, by omega, by go_num, hoq, hfj.mono fun a b _ hb h => by omega, hcq⟩, by simp only [intOf]; omega⟩
  have hjl' : (j : Int) < (B : Int) := by omega
  simp (disch := omega) only [r_ln, r_pick, r_pickT, r_pickF, r_condT, r_condF, r_gdTT, r_gdFF, r_gdTF, r_gdFT, r_gqTT, r_gqFF, r_gqTF, r_gqFT, r_not, r_lss, r_leq, r_gtr, r_geq, r_eql, r_neq, r_add, r_sub, r_min2, r_max2, r_min3, r_max3, r_fa, r_iaS, r_iaA, r_ex2a, r_ex2b, r_ex3a, r_ex3b, r_ex3c, r_nc, r_keepE, Nat.zero_add, Nat.add_zero, Nat.mul_one, Int.toNat_natCast, toNat_sub1, toNat_add1, decide_true, decide_false, Bool.not_true, Bool.not_false, if_true, if_false, Bool.false_eq_true, reduceCtorEq, r_ld d1, hjl']
  refine r_drew fun wx kx _ => ?_
  have hox := hoq.kp kx
  have hl2 := hfj.sized.1
  have hrl2 := hfj.sized.2 i hlt
  obtain ⟨cap, c, hvo, hgc, hslot⟩ := hox.slot (i := i) (by omega)
  obtain ⟨f0, f1, f2⟩ := box3 (block_below hbq kx)
  have hrx := hr.below (Kp.trans hkq kx)
  have hl := hs.1
  have hlr := hs.2 (A - 1 - i) (by omega)
  obtain ⟨sb, so, sc, rv, hv2, hc, hrow⟩ := hrx.row (i := A - 1 - i) (by omega)
  obtain ⟨rb, ro, rcap, rfl, hx⟩ := hrow.at (j := B - 1 - j) (by omega)
  have e1 : ((A : Int) - 1 - i).toNat = A - 1 - i := by omega
  have e2 : ((B : Int) - 1 - j).toNat = B - 1 - j := by omega
  have p1 := hh.pos (A - 1 - i) (B - 1 - j) (by omega) (by omega)
  have p2 := hh.top (A - 1 - i) (B - 1 - j) (by omega) (by omega)
  unfold hat at p1 p2
  obtain ⟨hxs, hfz⟩ := hslot j (by omega)
  rw [hvo, hv2]
  simp (disch := omega) only [r_ln, r_pick, r_pickT, r_pickF, r_condT, r_condF, r_gdTT, r_gdFF, r_gdTF, r_gdFT, r_gqTT, r_gqFF, r_gqTF, r_gqFT, r_not, r_lss, r_leq, r_gtr, r_geq, r_eql, r_neq, r_add, r_sub, r_min2, r_max2, r_min3, r_max3, r_fa, r_iaS, r_iaA, r_ex2a, r_ex2b, r_ex3a, r_ex3b, r_ex3c, r_nc, r_keepE, Nat.zero_add, Nat.add_zero, Nat.mul_one, Int.toNat_natCast, toNat_sub1, toNat_add1, decide_true, decide_false, Bool.not_true, Bool.not_false, if_true, if_false, Bool.false_eq_true, reduceCtorEq, r_ld hgc, r_ld f0, r_ld f1, r_ld f2, e1, e2, r_ld hc, r_ld hx]
  rw [st3 hxs hfz]
  have hset := hox.set (i := i) (j := j) (by omega) (by omega) ((C : Int) - hat h (A - 1 - i) (B - 1 - j))
  rw [hvo] at hset
  exact ⟨⟨j + 1, _, by omega, by go_num, hset, hfj.put hlt hjl fun a b h => by omega, (hcq.trans (Chg.of_kp kx)).trans (Chg.setCell _ _ ⟨i, hlt, rfl⟩)⟩, by simp only [intOf]; omega⟩

set_option maxRecDepth 100000 in
theorem reftrans_calls {A B C : Nat} {h : List (List Int)} (hh : IsHeap A B C h) (hA : 1 ≤ A ∧ A ≤ 4) (hB : 1 ≤ B ∧ B ≤ 4) (hC : 1 ≤ C ∧ C ≤ 4) (v : Value) (w : World) (hr : RdRows w v h) :
    Calls Try.prog 50 #[boxV A B C, v] w fun e w' => ∃ v', e = .returned v' ∧ Kp w w' ∧ NewRows w w' v' (transM A B h) := by
  have hs := sized_of hh
  refine lift50 ?_
  unfold S50
  refine r_box fun b w1 hbw hsz hb hk => ?_
  obtain ⟨z0, z1, z2⟩ := box3 hb
  simp only [r_ln, r_pick, r_pickT, r_pickF, r_condT, r_condF, r_gdTT, r_gdFF, r_gdTF, r_gdFT, r_gqTT, r_gqFF, r_gqTF, r_gqFT, r_not, r_lss, r_leq, r_gtr, r_geq, r_eql, r_neq, r_add, r_sub, r_min2, r_max2, r_min3, r_max3, r_fa, r_iaS, r_iaA, r_ex2a, r_ex2b, r_ex3a, r_ex3b, r_ex3c, r_nc, r_keepE, Nat.zero_add, Nat.add_zero, Nat.mul_one, Int.toNat_natCast, toNat_sub1, toNat_add1, decide_true, decide_false, Bool.not_true, Bool.not_false, if_true, if_false, Bool.false_eq_true, reduceCtorEq, r_ld z0, r_ld z1, r_ld z2, bd25']
  refine r_use fok66 (empty_calls B A C w1 (by omega) (by omega) (by omega)) rfl ?_
  rintro _ w2 ⟨vo, rfl, k2, g, bs, ho, hg, hbs⟩
  refine ⟨_, rfl, ?_⟩
  have hb2 := block_below hb k2
  have hbs' : ∀ i, i < B → w1.heap.size ≤ bs i := fun i hi => hbs i (by simpa using hi)
  have hblt := block_lt hb
  have hks := hk.size
  obtain ⟨va, vc, hv, _⟩ := hr.len
  refine ⟨fun t6 wr => ∃ (i : Nat) (o : List (List Int)), i ≤ A ∧ t6 = .int .i64 i ∧ OwnRows wr vo g bs o ∧ Filled B A (fun j i => hat h i j) (fun _ a => a < i) o ∧ Chg (fun k => ∃ q, q < B ∧ k = bs q) w2 wr, fun t6 _ => A - (intOf t6).toNat,
    ⟨0, zeros B A, by omega, rfl, ho, ⟨zeros_sized B A, fun _ _ _ _ h => absurd h (by omega)⟩, Chg.refl _ _⟩, ?_⟩
  rintro _ _ wr ⟨i, o, hi, rfl, hor, hfi, hch⟩
  have nb : ¬ ∃ q, q < B ∧ b = bs q := fun ⟨q, hq, e⟩ => by have := hbs' q hq; omega
  obtain ⟨c0, c1, c2⟩ := box3 (hch.at hb2 nb)
  have hkr : Kp w wr := Kp.of_chg (Kp.trans hk k2) hch fun k ⟨q, hq, e⟩ => by have := hbs' q hq; omega
  by_cases hlt : i < A
  case neg =>
    have hlt' : ¬ (i : Int) < (A : Int) := by omega
    simp (disch := omega) only [r_ln, r_pick, r_pickT, r_pickF, r_condT, r_condF, r_gdTT, r_gdFF, r_gdTF, r_gdFT, r_gqTT, r_gqFF, r_gqTF, r_gqFT, r_not, r_lss, r_leq, r_gtr, r_geq, r_eql, r_neq, r_add, r_sub, r_min2, r_max2, r_min3, r_max3, r_fa, r_iaS, r_iaA, r_ex2a, r_ex2b, r_ex3a, r_ex3b, r_ex3c, r_nc, r_keepE, Nat.zero_add, Nat.add_zero, Nat.mul_one, Int.toNat_natCast, toNat_sub1, toNat_add1, decide_true, decide_false, Bool.not_true, Bool.not_false, if_true, if_false, Bool.false_eq_true, reduceCtorEq, r_ld c0, hlt']
    have e := hfi.all fun a b ha _ => by omega
    subst e
    exact ⟨vo, rfl, hkr, new_of hor (by omega) (fun q hq => hbs' q (by simpa [transM, tabM] using hq)) (by omega)⟩
  have hlt' : (i : Int) < (A : Int) := by omega
  simp (disch := omega) only [r_ln, r_pick, r_pickT, r_pickF, r_condT, r_condF, r_gdTT, r_gdFF, r_gdTF, r_gdFT, r_gqTT, r_gqFF, r_gqTF, r_gqFT, r_not, r_lss, r_leq, r_gtr, r_geq, r_eql, r_neq, r_add, r_sub, r_min2, r_max2, r_min3, r_max3, r_fa, r_iaS, r_iaA, r_ex2a, r_ex2b, r_ex3a, r_ex3b, r_ex3c, r_nc, r_keepE, Nat.zero_add, Nat.add_zero, Nat.mul_one, Int.toNat_natCast, toNat_sub1, toNat_add1, decide_true, decide_false, Bool.not_true, Bool.not_false, if_true, if_false, Bool.false_eq_true, reduceCtorEq, r_ld c0, hlt']
  refine ⟨fun t7 wq => ∃ (j : Nat) (o : List (List Int)), j ≤ B ∧ t7 = .int .i64 j ∧ OwnRows wq vo g bs o ∧ Filled B A (fun j i => hat h i j) (fun b a => a < i ∨ a = i ∧ b < j) o ∧ Chg (fun k => ∃ q, q < B ∧ k = bs q) w2 wq, fun t7 _ => B - (intOf t7).toNat,
    ⟨0, o, by omega, rfl, hor, hfi.mono fun a b _ _ h => by omega, hch⟩, ?_⟩
  rintro _ _ wq ⟨j, o2, hj, rfl, hoq, hfj, hcq⟩
  have hbq := hcq.at hb2 nb
  obtain ⟨d0, d1, d2⟩ := box3 hbq
  have hkq : Kp w wq := Kp.of_chg (Kp.trans hk k2) hcq fun k ⟨q, hq, e⟩ => by have := hbs' q hq; omega
  by_cases hjl : j < B
  case neg =>
    have hjl' : ¬ (j : Int) < (B : Int) := by omega
    simp (disch := omega) only [r_ln, r_pick, r_pickT, r_pickF, r_condT, r_condF, r_gdTT, r_gdFF, r_gdTF, r_gdFT, r_gqTT, r_gqFF, r_gqTF, r_gqFT, r_not, r_lss, r_leq, r_gtr, r_geq, r_eql, r_neq, r_add, r_sub, r_min2, r_max2, r_min3, r_max3, r_fa, r_iaS, r_iaA, r_ex2a, r_ex2b, r_ex3a, r_ex3b, r_ex3c, r_nc, r_keepE, Nat.zero_add, Nat.add_zero, Nat.mul_one, Int.toNat_natCast, toNat_sub1, toNat_add1, decide_true, decide_false, Bool.not_true, Bool.not_false, if_true, if_false, Bool.false_eq_true, reduceCtorEq, r_ld d1, hjl']
    exact ⟨⟨i + 1, o2, by omega, by go_num, hoq, hfj.mono fun a b _ hb h => by omega, hcq⟩, by simp only [intOf]; omega⟩
  have hjl' : (j : Int) < (B : Int) := by omega
  simp (disch := omega) only [r_ln, r_pick, r_pickT, r_pickF, r_condT, r_condF, r_gdTT, r_gdFF, r_gdTF, r_gdFT, r_gqTT, r_gqFF, r_gqTF, r_gqFT, r_not, r_lss, r_leq, r_gtr, r_geq, r_eql, r_neq, r_add, r_sub, r_min2, r_max2, r_min3, r_max3, r_fa, r_iaS, r_iaA, r_ex2a, r_ex2b, r_ex3a, r_ex3b, r_ex3c, r_nc, r_keepE, Nat.zero_add, Nat.add_zero, Nat.mul_one, Int.toNat_natCast, toNat_sub1, toNat_add1, decide_true, decide_false, Bool.not_true, Bool.not_false, if_true, if_false, Bool.false_eq_true, reduceCtorEq, r_ld d1, hjl']
  refine r_drew fun wx kx _ => ?_
  have hox := hoq.kp kx
  have hl2 := hfj.sized.1
  have hrl2 := hfj.sized.2 j hjl
  obtain ⟨cap, c, hvo, hgc, hslot⟩ := hox.slot (i := j) (by omega)
  have hrx := hr.below (Kp.trans hkq kx)
  have hl := hs.1
  have hlr := hs.2 i (by omega)
  obtain ⟨sb, so, sc, rv, hv2, hc, hrow⟩ := hrx.row (i := i) (by omega)
  obtain ⟨rb, ro, rcap, rfl, hx⟩ := hrow.at (j := j) (by omega)
  obtain ⟨hxs, hfz⟩ := hslot i (by omega)
  rw [hvo, hv2]
  simp (disch := omega) only [r_ln, r_pick, r_pickT, r_pickF, r_condT, r_condF, r_gdTT, r_gdFF, r_gdTF, r_gdFT, r_gqTT, r_gqFF, r_gqTF, r_gqFT, r_not, r_lss, r_leq, r_gtr, r_geq, r_eql, r_neq, r_add, r_sub, r_min2, r_max2, r_min3, r_max3, r_fa, r_iaS, r_iaA, r_ex2a, r_ex2b, r_ex3a, r_ex3b, r_ex3c, r_nc, r_keepE, Nat.zero_add, Nat.add_zero, Nat.mul_one, Int.toNat_natCast, toNat_sub1, toNat_add1, decide_true, decide_false, Bool.not_true, Bool.not_false, if_true, if_false, Bool.false_eq_true, reduceCtorEq, r_ld hgc, r_ld hc, r_ld hx]
  rw [st3 hxs hfz]
  have hset := hox.set (i := j) (j := i) (by omega) (by omega) (hat h i j)
  rw [hvo] at hset
  exact ⟨⟨j + 1, _, by omega, by go_num, hset, hfj.put (F := fun j i => hat h i j) hjl hlt fun a b h => by omega, (hcq.trans (Chg.of_kp kx)).trans (Chg.setCell _ _ ⟨j, hjl, rfl⟩)⟩, by simp only [intOf]; omega⟩

set_option maxRecDepth 100000 in
theorem above_calls (v : Value) (l : List Int) (k : Int) (w : World) (h : RdInts w v l) : Calls Try.prog 82 #[v, .int .i64 k] w fun e w' => e = .returned (.int .i64 (cnt l k : Nat)) ∧ w = w' := by
  obtain ⟨a, cap, rfl, hlen⟩ := h.len
  refine lift82 ?_
  unfold S82
  refine ⟨fun t5 t10 wr => ∃ j : Nat, j ≤ l.length ∧ t10 = .int .i64 j ∧ t5 = .int .i64 (cnt (l.take j) k : Nat) ∧ w = wr, fun _ t10 _ => l.length - (intOf t10).toNat, ⟨0, by omega, rfl, rfl, rfl⟩, ?_⟩
  rintro _ _ _ _ ⟨j, hj, rfl, rfl, rfl⟩
  by_cases hlt : j < l.length
  case neg =>
    have hlt' : ¬ (j : Int) < (l.length : Int) := by omega
    have e : j = l.length := by omega
    subst e
    simp (disch := omega) only [r_ln, r_pick, r_pickT, r_pickF, r_condT, r_condF, r_gdTT, r_gdFF, r_gdTF, r_gdFT, r_gqTT, r_gqFF, r_gqTF, r_gqFT, r_not, r_lss, r_leq, r_gtr, r_geq, r_eql, r_neq, r_add, r_sub, r_min2, r_max2, r_min3, r_max3, r_fa, r_iaS, r_iaA, r_ex2a, r_ex2b, r_ex3a, r_ex3b, r_ex3c, r_nc, r_keepE, Nat.zero_add, Nat.add_zero, Nat.mul_one, Int.toNat_natCast, toNat_sub1, toNat_add1, decide_true, decide_false, Bool.not_true, Bool.not_false, if_true, if_false, Bool.false_eq_true, reduceCtorEq, hlt', List.take_length]
    exact ⟨trivial, trivial⟩
  have hlt' : (j : Int) < (l.length : Int) := by omega
  obtain ⟨b, off, _, e1, hc⟩ := h.at hlt
  cases e1
  have hle := cnt_le (l.take j) k
  rw [List.length_take] at hle
  have hst := cnt_step k l j hlt
  simp (disch := omega) only [r_ln, r_pick, r_pickT, r_pickF, r_condT, r_condF, r_gdTT, r_gdFF, r_gdTF, r_gdFT, r_gqTT, r_gqFF, r_gqTF, r_gqFT, r_not, r_lss, r_leq, r_gtr, r_geq, r_eql, r_neq, r_add, r_sub, r_min2, r_max2, r_min3, r_max3, r_fa, r_iaS, r_iaA, r_ex2a, r_ex2b, r_ex3a, r_ex3b, r_ex3c, r_nc, r_keepE, Nat.zero_add, Nat.add_zero, Nat.mul_one, Int.toNat_natCast, toNat_sub1, toNat_add1, decide_true, decide_false, Bool.not_true, Bool.not_false, if_true, if_false, Bool.false_eq_true, reduceCtorEq, hlt', r_ld hc]
  refine r_join1 (fun t5 w' => t5 = .int .i64 (cnt (l.take (j + 1)) k : Nat) ∧ w = w') ?_ ?_
  · rintro _ _ ⟨rfl, rfl⟩
    simp (disch := omega) only [r_ln, r_pick, r_pickT, r_pickF, r_condT, r_condF, r_gdTT, r_gdFF, r_gdTF, r_gdFT, r_gqTT, r_gqFF, r_gqTF, r_gqFT, r_not, r_lss, r_leq, r_gtr, r_geq, r_eql, r_neq, r_add, r_sub, r_min2, r_max2, r_min3, r_max3, r_fa, r_iaS, r_iaA, r_ex2a, r_ex2b, r_ex3a, r_ex3b, r_ex3c, r_nc, r_keepE, Nat.zero_add, Nat.add_zero, Nat.mul_one, Int.toNat_natCast, toNat_sub1, toNat_add1, decide_true, decide_false, Bool.not_true, Bool.not_false, if_true, if_false, Bool.false_eq_true, reduceCtorEq]
    exact ⟨⟨j + 1, by omega, by go_num, rfl, trivial⟩, by simp only [intOf]; omega⟩
  · intro kk hkk
    by_cases hx : k < l.getD j 0
    · simp (disch := omega) only [r_ln, r_pick, r_pickT, r_pickF, r_condT, r_condF, r_gdTT, r_gdFF, r_gdTF, r_gdFT, r_gqTT, r_gqFF, r_gqTF, r_gqFT, r_not, r_lss, r_leq, r_gtr, r_geq, r_eql, r_neq, r_add, r_sub, r_min2, r_max2, r_min3, r_max3, r_fa, r_iaS, r_iaA, r_ex2a, r_ex2b, r_ex3a, r_ex3b, r_ex3c, r_nc, r_keepE, Nat.zero_add, Nat.add_zero, Nat.mul_one, Int.toNat_natCast, toNat_sub1, toNat_add1, decide_true, decide_false, Bool.not_true, Bool.not_false, if_true, if_false, Bool.false_eq_true, reduceCtorEq, hx]
      rw [if_pos hx] at hst
      exact hkk _ _ ⟨by rw [hst]; go_num, rfl⟩
    · simp (disch := omega) only [r_ln, r_pick, r_pickT, r_pickF, r_condT, r_condF, r_gdTT, r_gdFF, r_gdTF, r_gdFT, r_gqTT, r_gqFF, r_gqTF, r_gqFT, r_not, r_lss, r_leq, r_gtr, r_geq, r_eql, r_neq, r_add, r_sub, r_min2, r_max2, r_min3, r_max3, r_fa, r_iaS, r_iaA, r_ex2a, r_ex2b, r_ex3a, r_ex3b, r_ex3c, r_nc, r_keepE, Nat.zero_add, Nat.add_zero, Nat.mul_one, Int.toNat_natCast, toNat_sub1, toNat_add1, decide_true, decide_false, Bool.not_true, Bool.not_false, if_true, if_false, Bool.false_eq_true, reduceCtorEq, hx]
      rw [if_neg hx] at hst
      exact hkk _ _ ⟨by rw [hst]; rfl, rfl⟩

set_option maxRecDepth 100000 in
theorem refturn_calls {A B C : Nat} {h : List (List Int)} (hh : IsHeap A B C h) (hA : 1 ≤ A ∧ A ≤ 4) (hB : 1 ≤ B ∧ B ≤ 4) (hC : 1 ≤ C ∧ C ≤ 4) (v : Value) (w : World) (hr : RdRows w v h) :
    Calls Try.prog 51 #[boxV A B C, v] w fun e w' => ∃ v', e = .returned v' ∧ Kp w w' ∧ NewRows w w' v' (turnM A C h) := by
  have hs := sized_of hh
  refine lift51 ?_
  unfold S51
  refine r_box fun b w1 hbw hsz hb hk => ?_
  obtain ⟨z0, z1, z2⟩ := box3 hb
  simp only [r_ln, r_pick, r_pickT, r_pickF, r_condT, r_condF, r_gdTT, r_gdFF, r_gdTF, r_gdFT, r_gqTT, r_gqFF, r_gqTF, r_gqFT, r_not, r_lss, r_leq, r_gtr, r_geq, r_eql, r_neq, r_add, r_sub, r_min2, r_max2, r_min3, r_max3, r_fa, r_iaS, r_iaA, r_ex2a, r_ex2b, r_ex3a, r_ex3b, r_ex3c, r_nc, r_keepE, Nat.zero_add, Nat.add_zero, Nat.mul_one, Int.toNat_natCast, toNat_sub1, toNat_add1, decide_true, decide_false, Bool.not_true, Bool.not_false, if_true, if_false, Bool.false_eq_true, reduceCtorEq, r_ld z0, r_ld z1, r_ld z2, bd25']
  refine r_use fok66 (empty_calls C A B w1 (by omega) (by omega) (by omega)) rfl ?_
  rintro _ w2 ⟨vo, rfl, k2, g, bs, ho, hg, hbs⟩
  refine ⟨_, rfl, ?_⟩
  have hb2 := block_below hb k2
  have hbs' : ∀ i, i < C → w1.heap.size ≤ bs i := fun i hi => hbs i (by simpa using hi)
  have hblt := block_lt hb
  have hks := hk.size
  obtain ⟨va, vc, hv, _⟩ := hr.len
  refine ⟨fun t6 wr => ∃ (i : Nat) (o : List (List Int)), i ≤ C ∧ t6 = .int .i64 i ∧ OwnRows wr vo g bs o ∧ Filled C A (fun k i => (cnt (h.getD i []) k : Nat)) (fun a _ => a < i) o ∧ Chg (fun k => ∃ q, q < C ∧ k = bs q) w2 wr, fun t6 _ => C - (intOf t6).toNat,
    ⟨0, zeros C A, by omega, rfl, ho, ⟨zeros_sized C A, fun _ _ _ _ h => absurd h (by omega)⟩, Chg.refl _ _⟩, ?_⟩
  rintro _ _ wr ⟨i, o, hi, rfl, hor, hfi, hch⟩
  have nb : ¬ ∃ q, q < C ∧ b = bs q := fun ⟨q, hq, e⟩ => by have := hbs' q hq; omega
  obtain ⟨c0, c1, c2⟩ := box3 (hch.at hb2 nb)
  have hkr : Kp w wr := Kp.of_chg (Kp.trans hk k2) hch fun k ⟨q, hq, e⟩ => by have := hbs' q hq; omega
  by_cases hlt : i < C
  case neg =>
    have hlt' : ¬ (i : Int) < (C : Int) := by omega
    simp (disch := omega) only [r_ln, r_pick, r_pickT, r_pickF, r_condT, r_condF, r_gdTT, r_gdFF, r_gdTF, r_gdFT, r_gqTT, r_gqFF, r_gqTF, r_gqFT, r_not, r_lss, r_leq, r_gtr, r_geq, r_eql, r_neq, r_add, r_sub, r_min2, r_max2, r_min3, r_max3, r_fa, r_iaS, r_iaA, r_ex2a, r_ex2b, r_ex3a, r_ex3b, r_ex3c, r_nc, r_keepE, Nat.zero_add, Nat.add_zero, Nat.mul_one, Int.toNat_natCast, toNat_sub1, toNat_add1, decide_true, decide_false, Bool.not_true, Bool.not_false, if_true, if_false, Bool.false_eq_true, reduceCtorEq, r_ld c2, hlt']
    have e := hfi.all fun a b ha _ => by omega
    subst e
    exact ⟨vo, rfl, hkr, new_of hor (by omega) (fun q hq => hbs' q (by simpa [turnM, tabM] using hq)) (by omega)⟩
  have hlt' : (i : Int) < (C : Int) := by omega
  simp (disch := omega) only [r_ln, r_pick, r_pickT, r_pickF, r_condT, r_condF, r_gdTT, r_gdFF, r_gdTF, r_gdFT, r_gqTT, r_gqFF, r_gqTF, r_gqFT, r_not, r_lss, r_leq, r_gtr, r_geq, r_eql, r_neq, r_add, r_sub, r_min2, r_max2, r_min3, r_max3, r_fa, r_iaS, r_iaA, r_ex2a, r_ex2b, r_ex3a, r_ex3b, r_ex3c, r_nc, r_keepE, Nat.zero_add, Nat.add_zero, Nat.mul_one, Int.toNat_natCast, toNat_sub1, toNat_add1, decide_true, decide_false, Bool.not_true, Bool.not_false, if_true, if_false, Bool.false_eq_true, reduceCtorEq, r_ld c2, hlt']
  refine ⟨fun t7 wq => ∃ (j : Nat) (o : List (List Int)), j ≤ A ∧ t7 = .int .i64 j ∧ OwnRows wq vo g bs o ∧ Filled C A (fun k i => (cnt (h.getD i []) k : Nat)) (fun a b => a < i ∨ a = i ∧ b < j) o ∧ Chg (fun k => ∃ q, q < C ∧ k = bs q) w2 wq, fun t7 _ => A - (intOf t7).toNat,
    ⟨0, o, by omega, rfl, hor, hfi.mono fun a b _ _ h => by omega, hch⟩, ?_⟩
  rintro _ _ wq ⟨j, o2, hj, rfl, hoq, hfj, hcq⟩
  have hbq := hcq.at hb2 nb
  obtain ⟨d0, d1, d2⟩ := box3 hbq
  have hkq : Kp w wq := Kp.of_chg (Kp.trans hk k2) hcq fun k ⟨q, hq, e⟩ => by have := hbs' q hq; omega
  by_cases hjl : j < A
  case neg =>
    have hjl' : ¬ (j : Int) < (A : Int) := by omega
    simp (disch := omega) only [r_ln, r_pick, r_pickT, r_pickF, r_condT, r_condF, r_gdTT, r_gdFF, r_gdTF, r_gdFT, r_gqTT, r_gqFF, r_gqTF, r_gqFT, r_not, r_lss, r_leq, r_gtr, r_geq, r_eql, r_neq, r_add, r_sub, r_min2, r_max2, r_min3, r_max3, r_fa, r_iaS, r_iaA, r_ex2a, r_ex2b, r_ex3a, r_ex3b, r_ex3c, r_nc, r_keepE, Nat.zero_add, Nat.add_zero, Nat.mul_one, Int.toNat_natCast, toNat_sub1, toNat_add1, decide_true, decide_false, Bool.not_true, Bool.not_false, if_true, if_false, Bool.false_eq_true, reduceCtorEq, r_ld d0, hjl']
    exact ⟨⟨i + 1, o2, by omega, by go_num, hoq, hfj.mono fun a b _ hb h => by omega, hcq⟩, by simp only [intOf]; omega⟩
  have hjl' : (j : Int) < (A : Int) := by omega
  simp (disch := omega) only [r_ln, r_pick, r_pickT, r_pickF, r_condT, r_condF, r_gdTT, r_gdFF, r_gdTF, r_gdFT, r_gqTT, r_gqFF, r_gqTF, r_gqFT, r_not, r_lss, r_leq, r_gtr, r_geq, r_eql, r_neq, r_add, r_sub, r_min2, r_max2, r_min3, r_max3, r_fa, r_iaS, r_iaA, r_ex2a, r_ex2b, r_ex3a, r_ex3b, r_ex3c, r_nc, r_keepE, Nat.zero_add, Nat.add_zero, Nat.mul_one, Int.toNat_natCast, toNat_sub1, toNat_add1, decide_true, decide_false, Bool.not_true, Bool.not_false, if_true, if_false, Bool.false_eq_true, reduceCtorEq, r_ld d0, hjl']
  refine r_drew fun wx kx _ => ?_
  have hox := hoq.kp kx
  have hl2 := hfj.sized.1
  have hrl2 := hfj.sized.2 i hlt
  obtain ⟨cap, c, hvo, hgc, hslot⟩ := hox.slot (i := i) (by omega)
  have hrx := hr.below (Kp.trans hkq kx)
  have hl := hs.1
  obtain ⟨sb, so, sc, rv, hv2, hc, hrow⟩ := hrx.row (i := j) (by omega)
  obtain ⟨hxs, hfz⟩ := hslot j (by omega)
  rw [hvo, hv2]
  simp (disch := omega) only [r_ln, r_pick, r_pickT, r_pickF, r_condT, r_condF, r_gdTT, r_gdFF, r_gdTF, r_gdFT, r_gqTT, r_gqFF, r_gqTF, r_gqFT, r_not, r_lss, r_leq, r_gtr, r_geq, r_eql, r_neq, r_add, r_sub, r_min2, r_max2, r_min3, r_max3, r_fa, r_iaS, r_iaA, r_ex2a, r_ex2b, r_ex3a, r_ex3b, r_ex3c, r_nc, r_keepE, Nat.zero_add, Nat.add_zero, Nat.mul_one, Int.toNat_natCast, toNat_sub1, toNat_add1, decide_true, decide_false, Bool.not_true, Bool.not_false, if_true, if_false, Bool.false_eq_true, reduceCtorEq, r_ld hgc, r_ld hc]
  refine r_use fok82 (above_calls rv _ i wx hrow) rfl ?_
  rintro _ _ ⟨rfl, rfl⟩
  refine ⟨_, rfl, Below.refl _ _, ?_⟩
  simp (disch := omega) only [r_ln, r_pick, r_pickT, r_pickF, r_condT, r_condF, r_gdTT, r_gdFF, r_gdTF, r_gdFT, r_gqTT, r_gqFF, r_gqTF, r_gqFT, r_not, r_lss, r_leq, r_gtr, r_geq, r_eql, r_neq, r_add, r_sub, r_min2, r_max2, r_min3, r_max3, r_fa, r_iaS, r_iaA, r_ex2a, r_ex2b, r_ex3a, r_ex3b, r_ex3c, r_nc, r_keepE, Nat.zero_add, Nat.add_zero, Nat.mul_one, Int.toNat_natCast, toNat_sub1, toNat_add1, decide_true, decide_false, Bool.not_true, Bool.not_false, if_true, if_false, Bool.false_eq_true, reduceCtorEq]
  rw [st3 hxs hfz]
  have hset := hox.set (i := i) (j := j) (by omega) (by omega) ((cnt (h.getD j []) i : Nat) : Int)
  rw [hvo] at hset
  exact ⟨⟨j + 1, _, by omega, by go_num, hset, hfj.put (F := fun k i => ((cnt (h.getD i []) k : Nat) : Int)) hlt hjl fun a b h => by omega, (hcq.trans (Chg.of_kp kx)).trans (Chg.setCell _ _ ⟨i, hlt, rfl⟩)⟩, by simp only [intOf]; omega⟩

/-- A heap turned by one of the symmetries. -/
def chM (A B C : Nat) (h : List (List Int)) (how : Int) : List (List Int) :=
  if how = 1 then compM A B C h else if how = 2 then transM A B h else if how = 3 then turnM A C h else if how = 4 then compM B A C (transM A B h) else h

set_option maxRecDepth 100000 in
theorem changedR_calls {A B C : Nat} {h : List (List Int)} (hh : IsHeap A B C h) (hA : 1 ≤ A ∧ A ≤ 4) (hB : 1 ≤ B ∧ B ≤ 4) (hC : 1 ≤ C ∧ C ≤ 4) (v : Value) (how : Int) (w : World) (hr : RdRows w v h) :
    Calls Try.prog 16 #[boxV A B C, v, .int .i64 how] w fun e w' => ∃ v', e = .returned v' ∧ Kp w w' ∧ RdRows w' v' (chM A B C h how) := by
  refine lift16 ?_
  unfold S16
  refine r_box fun b w1 hbw hsz hb hk => ?_
  have hr1 := hr.below hk
  by_cases h1 : how = 1
  · subst h1
    simp (disch := omega) only [r_ln, r_pick, r_pickT, r_pickF, r_condT, r_condF, r_gdTT, r_gdFF, r_gdTF, r_gdFT, r_gqTT, r_gqFF, r_gqTF, r_gqFT, r_not, r_lss, r_leq, r_gtr, r_geq, r_eql, r_neq, r_add, r_sub, r_min2, r_max2, r_min3, r_max3, r_fa, r_iaS, r_iaA, r_ex2a, r_ex2b, r_ex3a, r_ex3b, r_ex3c, r_nc, r_keepE, Nat.zero_add, Nat.add_zero, Nat.mul_one, Int.toNat_natCast, toNat_sub1, toNat_add1, decide_true, decide_false, Bool.not_true, Bool.not_false, if_true, if_false, Bool.false_eq_true, reduceCtorEq, r_ldRow (n := 3) hb rfl]
    refine r_use fok49 (refcomp_calls hh hA hB hC v w1 hr1) rfl ?_
    rintro _ w2 ⟨v', rfl, k2, hn⟩
    exact ⟨_, rfl, v', rfl, Kp.trans hk k2, by simp only [chM, if_true]; exact hn.rd⟩
  by_cases h2 : how = 2
  · subst h2
    simp (disch := omega) only [r_ln, r_pick, r_pickT, r_pickF, r_condT, r_condF, r_gdTT, r_gdFF, r_gdTF, r_gdFT, r_gqTT, r_gqFF, r_gqTF, r_gqFT, r_not, r_lss, r_leq, r_gtr, r_geq, r_eql, r_neq, r_add, r_sub, r_min2, r_max2, r_min3, r_max3, r_fa, r_iaS, r_iaA, r_ex2a, r_ex2b, r_ex3a, r_ex3b, r_ex3c, r_nc, r_keepE, Nat.zero_add, Nat.add_zero, Nat.mul_one, Int.toNat_natCast, toNat_sub1, toNat_add1, decide_true, decide_false, Bool.not_true, Bool.not_false, if_true, if_false, Bool.false_eq_true, reduceCtorEq, h1, r_ldRow (n := 3) hb rfl]
    refine r_use fok50 (reftrans_calls hh hA hB hC v w1 hr1) rfl ?_
    rintro _ w2 ⟨v', rfl, k2, hn⟩
    exact ⟨_, rfl, v', rfl, Kp.trans hk k2, by simp only [chM, if_true, if_neg h1]; exact hn.rd⟩
  by_cases h3 : how = 3
  · subst h3
    simp (disch := omega) only [r_ln, r_pick, r_pickT, r_pickF, r_condT, r_condF, r_gdTT, r_gdFF, r_gdTF, r_gdFT, r_gqTT, r_gqFF, r_gqTF, r_gqFT, r_not, r_lss, r_leq, r_gtr, r_geq, r_eql, r_neq, r_add, r_sub, r_min2, r_max2, r_min3, r_max3, r_fa, r_iaS, r_iaA, r_ex2a, r_ex2b, r_ex3a, r_ex3b, r_ex3c, r_nc, r_keepE, Nat.zero_add, Nat.add_zero, Nat.mul_one, Int.toNat_natCast, toNat_sub1, toNat_add1, decide_true, decide_false, Bool.not_true, Bool.not_false, if_true, if_false, Bool.false_eq_true, reduceCtorEq, h1, h2, r_ldRow (n := 3) hb rfl]
    refine r_use fok51 (refturn_calls hh hA hB hC v w1 hr1) rfl ?_
    rintro _ w2 ⟨v', rfl, k2, hn⟩
    exact ⟨_, rfl, v', rfl, Kp.trans hk k2, by simp only [chM, if_true, if_neg h1, if_neg h2]; exact hn.rd⟩
  by_cases h4 : how = 4
  · subst h4
    simp (disch := omega) only [r_ln, r_pick, r_pickT, r_pickF, r_condT, r_condF, r_gdTT, r_gdFF, r_gdTF, r_gdFT, r_gqTT, r_gqFF, r_gqTF, r_gqFT, r_not, r_lss, r_leq, r_gtr, r_geq, r_eql, r_neq, r_add, r_sub, r_min2, r_max2, r_min3, r_max3, r_fa, r_iaS, r_iaA, r_ex2a, r_ex2b, r_ex3a, r_ex3b, r_ex3c, r_nc, r_keepE, Nat.zero_add, Nat.add_zero, Nat.mul_one, Int.toNat_natCast, toNat_sub1, toNat_add1, decide_true, decide_false, Bool.not_true, Bool.not_false, if_true, if_false, Bool.false_eq_true, reduceCtorEq, h1, h2, h3]
    refine r_drew fun w2 k2 _ => ?_
    have hb2 := block_below hb k2
    obtain ⟨z0, z1, z2⟩ := box3 hb2
    simp only [r_ln, r_pick, r_pickT, r_pickF, r_condT, r_condF, r_gdTT, r_gdFF, r_gdTF, r_gdFT, r_gqTT, r_gqFF, r_gqTF, r_gqFT, r_not, r_lss, r_leq, r_gtr, r_geq, r_eql, r_neq, r_add, r_sub, r_min2, r_max2, r_min3, r_max3, r_fa, r_iaS, r_iaA, r_ex2a, r_ex2b, r_ex3a, r_ex3b, r_ex3c, r_nc, r_keepE, Nat.zero_add, Nat.add_zero, Nat.mul_one, Int.toNat_natCast, toNat_sub1, toNat_add1, decide_true, decide_false, Bool.not_true, Bool.not_false, if_true, if_false, Bool.false_eq_true, reduceCtorEq, r_ld z0, r_ld z1, r_ld z2, bd25', r_ldRow (n := 3) hb2 rfl]
    refine r_use fok50 (reftrans_calls hh hA hB hC v w2 (hr1.below k2)) rfl ?_
    rintro _ w3 ⟨v3, rfl, k3, hn3⟩
    refine ⟨_, rfl, k3, ?_⟩
    refine r_use fok49 (refcomp_calls (trans_heap hh) hB hA hC v3 w3 hn3.rd) rfl ?_
    rintro _ w4 ⟨v4, rfl, k4, hn4⟩
    exact ⟨_, rfl, v4, rfl, Kp.trans hk (Kp.trans k2 (Kp.trans k3 k4)), by simp only [chM, if_true, if_neg h1, if_neg h2, if_neg h3]; exact hn4.rd⟩
  simp (disch := omega) only [r_ln, r_pick, r_pickT, r_pickF, r_condT, r_condF, r_gdTT, r_gdFF, r_gdTF, r_gdFT, r_gqTT, r_gqFF, r_gqTF, r_gqFT, r_not, r_lss, r_leq, r_gtr, r_geq, r_eql, r_neq, r_add, r_sub, r_min2, r_max2, r_min3, r_max3, r_fa, r_iaS, r_iaA, r_ex2a, r_ex2b, r_ex3a, r_ex3b, r_ex3c, r_nc, r_keepE, Nat.zero_add, Nat.add_zero, Nat.mul_one, Int.toNat_natCast, toNat_sub1, toNat_add1, decide_true, decide_false, Bool.not_true, Bool.not_false, if_true, if_false, Bool.false_eq_true, reduceCtorEq, h1, h2, h3, h4]
  exact ⟨v, rfl, hk, by simp only [chM, if_neg h1, if_neg h2, if_neg h3, if_neg h4]; exact hr1⟩

end Go.Proofs.Ytaephdjmpmbfpaa

/- Contract: Corners. -/
namespace Go.Proofs.Ytaephdjmpmbfpaa
open Go.Lf Go.RowKit Go.Hp

theorem slt30 : SlT 30 35 2 16 := SlT.mk' (z := .agg #[.int .i64 0, .int .i64 0]) (by kernel_rfl) (by kernel_rfl) rfl (by decide)
theorem bs30 (x y : Int) (w : World) (K : Value → World → Prop) : bsW Try.prog 30 1 [(0, .agg #[.int .i64 x, .int .i64 y])] w K = K (.slice (some ⟨w.heap.size, 0, none⟩) 1 1) (w.alloc (.cells (Value.agg #[.int .i64 x, .int .i64 y]).cells 35)) := by kernel_rfl
theorem bd35 (x y : Int) (K : Value → Prop) : bdQ Try.prog 35 [(0, .int .i64 x), (1, .int .i64 y)] K = K (.agg #[.int .i64 x, .int .i64 y]) := by kernel_rfl

/-- Places as cells: column, row. -/
def cellsOf (P : List (Nat × Nat)) : List Value := P.flatMap fun p => [.int .i64 (p.2 : Nat), .int .i64 (p.1 : Nat)]
theorem cellsOf_append (P Q : List (Nat × Nat)) : cellsOf (P ++ Q) = cellsOf P ++ cellsOf Q := by simp [cellsOf]

/-- The first n places of rows of B. -/
def pl (B n : Nat) : List (Nat × Nat) := (List.range n).map fun p => (p / B, p % B)
theorem pl_succ {B i j : Nat} (hj : j < B) : pl B (i * B + j + 1) = pl B (i * B + j) ++ [(i, j)] := by
  unfold pl
  rw [List.range_succ, List.map_append]
  congr 1
  simp only [List.map_cons, List.map_nil]
  rw [Nat.add_comm, Nat.add_mul_div_right _ _ (by omega), Nat.add_mul_mod_self_right, Nat.div_eq_of_lt hj, Nat.mod_eq_of_lt hj, Nat.zero_add]

def addB (C : Int) (h : List (List Int)) (p : Nat × Nat) : Bool := decide (hat h p.1 p.2 < C ∧ (p.2 = 0 ∨ hat h p.1 p.2 < hat h p.1 (p.2 - 1)) ∧ (p.1 = 0 ∨ hat h p.1 p.2 < hat h (p.1 - 1) p.2))
def takeB (A B : Nat) (h : List (List Int)) (p : Nat × Nat) : Bool := decide (0 < hat h p.1 p.2 ∧ (p.2 + 1 = B ∨ hat h p.1 (p.2 + 1) < hat h p.1 p.2) ∧ (p.1 + 1 = A ∨ hat h (p.1 + 1) p.2 < hat h p.1 p.2))
def addL (A B : Nat) (C : Int) (h : List (List Int)) : List (Nat × Nat) := (pl B (A * B)).filter (addB C h)
def takeL (A B : Nat) (h : List (List Int)) : List (Nat × Nat) := (pl B (A * B)).filter (takeB A B h)

/-- The slice v holds places, in a block of its own. -/
def CellsAt (base : Nat) (w : World) (v : Value) (P : List (Nat × Nat)) : Prop := w.ownsRow base 35 2 v P.length (cellsOf P)

theorem CellsAt.kp {base : Nat} {w w' : World} {v : Value} {P : List (Nat × Nat)} (h : CellsAt base w v P) (hk : Kp w w') : CellsAt base w' v P := owns_kp h hk
theorem CellsAt.nil (base : Nat) (w : World) : CellsAt base w nilS [] := World.ownsRow_nil _ _ _ _

set_option maxRecDepth 100000 in
/-- append(v, x): and where the new slice lies. -/
theorem r_pushAt {t e ty : TypeId} {size bytes base n : Nat} {v x : Value} {xs : List Value} {w : World} {K : Value → World → Prop} (T : SlT t e size bytes)
    (hbs : ∀ K : Value → World → Prop, bsW Try.prog t 1 [(0, x)] w K = K (.slice (some ⟨w.heap.size, 0, none⟩) 1 1) (w.alloc (.cells x.cells e)))
    (hx : x.cells.size = size) (h1 : ∀ u ∈ x.cells.toList, u.oneCell' = true) (hown : w.ownsRow base e size v n xs) (hn : n + 1 ≤ 1099511627776) (hby : bytes ≤ 128) (hb : base ≤ w.heap.size)
    (hk : ∀ v' w', w'.ownsRow base e size v' (n + 1) (xs ++ x.cells.toList) → w.grownBy w' v.ownBlock → (v'.ownBlock = v.ownBlock ∨ ∃ b, v'.ownBlock = some b ∧ w.heap.size ≤ b) → K v' w') :
    bsW Try.prog t 1 [(0, x)] w fun s w => semW Try.prog (apS [t, t] ty [v, s]) w K := by
  rw [hbs]
  obtain ⟨i, z, i1, i2, i3, i4, i5⟩ := T.info
  have hb2 : (n + 1) * bytes ≤ 140737488355328 := Nat.le_trans (Nat.mul_le_mul hn hby) (by decide)
  have hsz : (w.alloc (.cells x.cells e)).heap.size = w.heap.size + 1 := by show (w.heap.push _).size = _; simp
  obtain ⟨v', w', hr, ho, hg, _, hat⟩ := run_append_own_at (P := Try.prog) (w := w.alloc (.cells x.cells e)) base t ty e i z size bytes T.und i1 i2 i3 i4 i5 T.pos v n xs (hown.alloc _) ⟨w.heap.size, 0, none⟩ 1 1 x.cells.toList (by simp [hx]) (cells_at_row (heap_alloc_new w _)) h1 (by unfold maxLen; omega) hb2 (by omega)
  refine semW_of_run (by simp [apS, hr]) (hk v' w' ho ?_ (hat.imp id fun h => ⟨_, h, by omega⟩))
  exact ⟨hg.os, hg.tape, hg.output, Nat.le_trans (by show _ ≤ (w.heap.push _).size; simp) hg.size, fun k hlt hne => (hg.block k (by show k < (w.heap.push _).size; simp; omega) hne).trans (Below.heap_alloc w _ k hlt)⟩

/-- Two lists that are not in one block. -/
def Apart (v v' : Value) : Prop := v.ownBlock = none ∨ v'.ownBlock = none ∨ v.ownBlock ≠ v'.ownBlock
theorem Apart.symm {v v' : Value} (h : Apart v v') : Apart v' v := by
  rcases h with h | h | h
  · exact .inr (.inl h)
  · exact .inl h
  · exact .inr (.inr (Ne.symm h))

theorem CellsAt.block {base : Nat} {w : World} {v : Value} {P : List (Nat × Nat)} {k : Nat} (h : CellsAt base w v P) (hk : v.ownBlock = some k) : base ≤ k ∧ k < w.heap.size := World.ownsRow.lt h k hk

set_option maxRecDepth 100000 in
theorem r_pushCell {base : Nat} {ty : TypeId} {v v2 : Value} {P Q : List (Nat × Nat)} {i j : Nat} {w : World} {K : Value → World → Prop} (h : CellsAt base w v P) (h2 : CellsAt base w v2 Q) (hap : Apart v v2) (hn : P.length + 1 ≤ 1000000) (hb : base ≤ w.heap.size)
    (hk : ∀ v' w', CellsAt base w' v' (P ++ [(i, j)]) → CellsAt base w' v2 Q → Apart v' v2 → Chg (fun k => base ≤ k) w w' → K v' w') :
    bsW Try.prog 30 1 [(0, .agg #[.int .i64 (j : Nat), .int .i64 (i : Nat)])] w fun s w => semW Try.prog (apS [30, 30] ty [v, s]) w K :=
  r_pushAt slt30 (bs30 _ _ _) rfl (by intro u hu; simp [Value.cells] at hu; rcases hu with rfl | rfl <;> rfl) h (by omega) (by omega) hb fun v' w' ho hg hat => by
    refine hk v' w' ?_ ?_ ?_ (Chg.of_grown hg fun k hk => (h.block hk).1)
    · unfold CellsAt
      rw [cellsOf_append, List.length_append]
      simpa [Value.cells, cellsOf] using ho
    · refine owns_chg h2 (Chg.of_grown (S := fun k => v.ownBlock = some k) hg fun k h => h) fun k hk' hv => ?_
      rcases hap with h | h | h
      · rw [h] at hv; cases hv
      · rw [h] at hk'; cases hk'
      · exact h (by rw [hk', hv])
    · rcases hat with h | ⟨b, h, hlt⟩
      · unfold Apart; rw [h]; exact hap
      · refine .inr ?_
        cases hv2 : v2.ownBlock with
        | none => exact .inl rfl
        | some k =>
          refine .inr ?_
          rw [h]
          intro e
          cases e
          have := (h2.block hv2).2
          omega

/-- What Corners hands back. -/
def CornRes (A B C : Int) (h : List (List Int)) (w w' : World) (v8 v9 : Value) (err : Int) : Prop :=
  err = heapErr A B C h ∧ if err = 0 then CellsAt w.heap.size w' v8 (addL A.toNat B.toNat C h) ∧ CellsAt w.heap.size w' v9 (takeL A.toNat B.toNat h) else v8 = nilS ∧ v9 = nilS

theorem filter_push {f : Nat × Nat → Bool} {P : List (Nat × Nat)} {x : Nat × Nat} : (P ++ [x]).filter f = if f x = true then P.filter f ++ [x] else P.filter f := by
  rw [List.filter_append]
  by_cases h : f x = true <;> simp [h]

theorem pl_length (B n : Nat) : (pl B n).length = n := by simp [pl]

set_option maxRecDepth 100000 in
theorem corners_calls (A B C : Int) (v : Value) (h : List (List Int)) (w : World) (hr : RdRows w v h) :
    Calls Try.prog 14 #[boxV A B C, v] w fun e w' => ∃ v8 v9 err, e = .returned (.tuple #[v8, v9, .int .i64 err]) ∧ Kp w w' ∧ CornRes A B C h w w' v8 v9 err := by
  refine lift14 ?_
  unfold S14
  refine r_box fun b w1 hbw hsz hb hk => ?_
  rw [r_ldRow (n := 3) hb rfl]
  refine r_use fok47 (checked_calls A B C v h w1 (hr.below hk)) rfl ?_
  rintro _ w2 ⟨rfl, k2⟩
  refine ⟨_, rfl, ?_⟩
  have hk2 := Kp.trans hk k2
  rcases heapErr_cases A B C h with he | he
  rotate_left
  · have h20 : ¬ ((2 : Int) = 0) := by decide
    simp (disch := omega) only [r_ln, r_pick, r_pickT, r_pickF, r_condT, r_condF, r_gdTT, r_gdFF, r_gdTF, r_gdFT, r_gqTT, r_gqFF, r_gqTF, r_gqFT, r_not, r_lss, r_leq, r_gtr, r_geq, r_eql, r_neq, r_add, r_sub, r_min2, r_max2, r_min3, r_max3, r_fa, r_iaS, r_iaA, r_ex2a, r_ex2b, r_ex3a, r_ex3b, r_ex3c, r_nc, r_keepE, Nat.zero_add, Nat.add_zero, Nat.mul_one, Int.toNat_natCast, toNat_sub1, toNat_add1, decide_true, decide_false, Bool.not_true, Bool.not_false, if_true, if_false, Bool.false_eq_true, reduceCtorEq, he, h20]
    exact ⟨nilS, nilS, 2, rfl, hk2, by rw [he], by rw [if_neg h20]; exact ⟨rfl, rfl⟩⟩
  obtain ⟨a, b', c, rfl, rfl, rfl, hA, hB, hC, hh⟩ := isHeap_of he
  have hs := sized_of hh
  obtain ⟨va, vc, rfl, _⟩ := hr.len
  have hl := hs.1
  simp (disch := omega) only [r_ln, r_pick, r_pickT, r_pickF, r_condT, r_condF, r_gdTT, r_gdFF, r_gdTF, r_gdFT, r_gqTT, r_gqFF, r_gqTF, r_gqFT, r_not, r_lss, r_leq, r_gtr, r_geq, r_eql, r_neq, r_add, r_sub, r_min2, r_max2, r_min3, r_max3, r_fa, r_iaS, r_iaA, r_ex2a, r_ex2b, r_ex3a, r_ex3b, r_ex3c, r_nc, r_keepE, Nat.zero_add, Nat.add_zero, Nat.mul_one, Int.toNat_natCast, toNat_sub1, toNat_add1, decide_true, decide_false, Bool.not_true, Bool.not_false, if_true, if_false, Bool.false_eq_true, reduceCtorEq, he, hl]
  have hab : a * b' ≤ 16 := Nat.mul_le_mul hA.2 hB.2
  have hks := hk2.size
  refine ⟨fun t8 t9 t22 wr => ∃ i : Nat, i ≤ a ∧ t22 = .int .i64 i ∧ Kp w2 wr ∧ CellsAt w2.heap.size wr t8 ((pl b' (i * b')).filter (addB c h)) ∧ CellsAt w2.heap.size wr t9 ((pl b' (i * b')).filter (takeB a b' h)) ∧ Apart t8 t9, fun _ _ t22 _ => a - (intOf t22).toNat,
    ⟨0, by omega, rfl, Kp.refl _, by rw [Nat.zero_mul]; exact CellsAt.nil _ _, by rw [Nat.zero_mul]; exact CellsAt.nil _ _, .inl rfl⟩, ?_⟩
  rintro _ t8 t9 _ wr ⟨i, hi, rfl, hkr, h8, h9, hap⟩
  by_cases hlt : i < a
  case neg =>
    have hlt' : ¬ (i : Int) < (a : Int) := by omega
    have e : i = a := by omega
    subst e
    simp (disch := omega) only [r_ln, r_pick, r_pickT, r_pickF, r_condT, r_condF, r_gdTT, r_gdFF, r_gdTF, r_gdFT, r_gqTT, r_gqFF, r_gqTF, r_gqFT, r_not, r_lss, r_leq, r_gtr, r_geq, r_eql, r_neq, r_add, r_sub, r_min2, r_max2, r_min3, r_max3, r_fa, r_iaS, r_iaA, r_ex2a, r_ex2b, r_ex3a, r_ex3b, r_ex3c, r_nc, r_keepE, Nat.zero_add, Nat.add_zero, Nat.mul_one, Int.toNat_natCast, toNat_sub1, toNat_add1, decide_true, decide_false, Bool.not_true, Bool.not_false, if_true, if_false, Bool.false_eq_true, reduceCtorEq, hlt']
    refine ⟨t8, t9, 0, rfl, Kp.trans hk2 hkr, he.symm, ?_⟩
    simp only [if_true, Int.toNat_natCast]
    have wk : ∀ {v : Value} {P : List (Nat × Nat)}, CellsAt w2.heap.size wr v P → CellsAt w.heap.size wr v P := fun ho => ⟨ho.1, by
      rcases ho.2 with h | ⟨g, cap, cur, r1, r2, r3⟩
      · exact .inl h
      · exact .inr ⟨g, cap, cur, r1, by omega, r3⟩⟩
    exact ⟨wk h8, wk h9⟩
  have hlt' : (i : Int) < (a : Int) := by omega
  have hrr := hr.below hk2
  obtain ⟨b1, o1, cap1, rv, e1, hc0, hrow⟩ := hrr.row (i := i) (by omega)
  cases e1
  obtain ⟨ra, rc, rfl, _⟩ := hrow.len
  have hrl := hs.2 i hlt
  have hc := cell_later hkr hc0
  simp (disch := omega) only [r_ln, r_pick, r_pickT, r_pickF, r_condT, r_condF, r_gdTT, r_gdFF, r_gdTF, r_gdFT, r_gqTT, r_gqFF, r_gqTF, r_gqFT, r_not, r_lss, r_leq, r_gtr, r_geq, r_eql, r_neq, r_add, r_sub, r_min2, r_max2, r_min3, r_max3, r_fa, r_iaS, r_iaA, r_ex2a, r_ex2b, r_ex3a, r_ex3b, r_ex3c, r_nc, r_keepE, Nat.zero_add, Nat.add_zero, Nat.mul_one, Int.toNat_natCast, toNat_sub1, toNat_add1, decide_true, decide_false, Bool.not_true, Bool.not_false, if_true, if_false, Bool.false_eq_true, reduceCtorEq, hlt', r_ld hc, hrl]
  refine ⟨fun t8 t9 t29 wq => ∃ j : Nat, j ≤ b' ∧ t29 = .int .i64 j ∧ Kp w2 wq ∧ CellsAt w2.heap.size wq t8 ((pl b' (i * b' + j)).filter (addB c h)) ∧ CellsAt w2.heap.size wq t9 ((pl b' (i * b' + j)).filter (takeB a b' h)) ∧ Apart t8 t9, fun _ _ t29 _ => b' - (intOf t29).toNat,
    ⟨0, by omega, rfl, hkr, h8, h9, hap⟩, ?_⟩
  rintro _ t8 t9 _ wq ⟨j, hj, rfl, hk2q, h8, h9, hap⟩
  by_cases hjl : j < b'
  case neg =>
    have hjl' : ¬ (j : Int) < (b' : Int) := by omega
    have e : j = b' := by omega
    subst e
    have em : i * j + j = (i + 1) * j := by rw [Nat.add_mul, Nat.one_mul]
    rw [em] at h8 h9
    simp (disch := omega) only [r_ln, r_pick, r_pickT, r_pickF, r_condT, r_condF, r_gdTT, r_gdFF, r_gdTF, r_gdFT, r_gqTT, r_gqFF, r_gqTF, r_gqFT, r_not, r_lss, r_leq, r_gtr, r_geq, r_eql, r_neq, r_add, r_sub, r_min2, r_max2, r_min3, r_max3, r_fa, r_iaS, r_iaA, r_ex2a, r_ex2b, r_ex3a, r_ex3b, r_ex3c, r_nc, r_keepE, Nat.zero_add, Nat.add_zero, Nat.mul_one, Int.toNat_natCast, toNat_sub1, toNat_add1, decide_true, decide_false, Bool.not_true, Bool.not_false, if_true, if_false, Bool.false_eq_true, reduceCtorEq, hjl']
    exact ⟨⟨i + 1, by omega, by go_num, hk2q, h8, h9, hap⟩, by simp only [intOf]; omega⟩
  have hjl' : (j : Int) < (b' : Int) := by omega
  obtain ⟨rb, ro, _, e2, hx0⟩ := hrow.at (j := j) (by omega)
  cases e2
  have hx := cell_later hk2q hx0
  have hbq := block_below hb (Kp.trans k2 hk2q)
  obtain ⟨c0, c1, c2⟩ := box3 hbq
  have hxe : hat h i j = (h.getD i []).getD j 0 := rfl
  have hpl := place_lt hlt hjl
  have hf8 := List.length_filter_le (addB c h) (pl b' (i * b' + j))
  have hf9 := List.length_filter_le (takeB a b' h) (pl b' (i * b' + j))
  rw [pl_length] at hf8 hf9
  simp (disch := omega) only [r_ln, r_pick, r_pickT, r_pickF, r_condT, r_condF, r_gdTT, r_gdFF, r_gdTF, r_gdFT, r_gqTT, r_gqFF, r_gqTF, r_gqFT, r_not, r_lss, r_leq, r_gtr, r_geq, r_eql, r_neq, r_add, r_sub, r_min2, r_max2, r_min3, r_max3, r_fa, r_iaS, r_iaA, r_ex2a, r_ex2b, r_ex3a, r_ex3b, r_ex3c, r_nc, r_keepE, Nat.zero_add, Nat.add_zero, Nat.mul_one, Int.toNat_natCast, toNat_sub1, toNat_add1, decide_true, decide_false, Bool.not_true, Bool.not_false, if_true, if_false, Bool.false_eq_true, reduceCtorEq, hjl', r_ld hx]
  -- neighbours
  have left0 : 0 < j → w2.cell? ⟨rb, ro + (j - 1), none⟩ = some (.int .i64 (hat h i (j - 1))) := fun h0 => by
    obtain ⟨_, _, _, e3, hy⟩ := hrow.at (j := j - 1) (by omega)
    cases e3; exact hy
  have right0 : j + 1 < b' → w2.cell? ⟨rb, ro + (j + 1), none⟩ = some (.int .i64 (hat h i (j + 1))) := fun h0 => by
    obtain ⟨_, _, _, e3, hy⟩ := hrow.at (j := j + 1) (by omega)
    cases e3; exact hy
  have up0 : 0 < i → ∃ ub uo uc, w2.cell? ⟨b1, o1 + (i - 1), none⟩ = some (.slice (some ⟨ub, uo, none⟩) b' uc) ∧ w2.cell? ⟨ub, uo + j, none⟩ = some (.int .i64 (hat h (i - 1) j)) := fun h0 => by
    obtain ⟨_, _, _, rv2, e3, hu, hru⟩ := hrr.row (i := i - 1) (by omega)
    cases e3
    have hl2 := hs.2 (i - 1) (by omega)
    obtain ⟨ub, uo, uc, e4, hy⟩ := hru.at (j := j) (by omega)
    rw [hl2] at e4
    exact ⟨ub, uo, uc, by rw [hu, e4], hy⟩
  have down0 : i + 1 < a → ∃ ub uo uc, w2.cell? ⟨b1, o1 + (i + 1), none⟩ = some (.slice (some ⟨ub, uo, none⟩) b' uc) ∧ w2.cell? ⟨ub, uo + j, none⟩ = some (.int .i64 (hat h (i + 1) j)) := fun h0 => by
    obtain ⟨_, _, _, rv2, e3, hu, hru⟩ := hrr.row (i := i + 1) (by omega)
    cases e3
    have hl2 := hs.2 (i + 1) (by omega)
    obtain ⟨ub, uo, uc, e4, hy⟩ := hru.at (j := j) (by omega)
    rw [hl2] at e4
    exact ⟨ub, uo, uc, by rw [hu, e4], hy⟩
  have left := fun h0 => cell_later hk2q (left0 h0)
  have up : 0 < i → ∃ ub uo uc, wq.cell? ⟨b1, o1 + (i - 1), none⟩ = some (.slice (some ⟨ub, uo, none⟩) b' uc) ∧ wq.cell? ⟨ub, uo + j, none⟩ = some (.int .i64 (hat h (i - 1) j)) := fun h0 =>
    let ⟨ub, uo, uc, x1, x2⟩ := up0 h0; ⟨ub, uo, uc, cell_later hk2q x1, cell_later hk2q x2⟩
  refine r_join1 (fun t w' => t = .bool (addB c h (i, j)) ∧ wq = w') ?_ ?_
  rotate_left
  · intro kk hkk
    have fin : ∀ x : Bool, (x = true ↔ hat h i j < c ∧ (j = 0 ∨ hat h i j < hat h i (j - 1)) ∧ (i = 0 ∨ hat h i j < hat h (i - 1) j)) → kk (.bool x) wq := fun x hx => hkk _ _ ⟨congrArg Value.bool (by unfold addB; rw [← decide_eq_decide.2 hx]; cases x <;> rfl), rfl⟩
    by_cases q1 : (h.getD i []).getD j 0 < c
    case neg => simp (disch := omega) only [r_ln, r_pick, r_pickT, r_pickF, r_condT, r_condF, r_gdTT, r_gdFF, r_gdTF, r_gdFT, r_gqTT, r_gqFF, r_gqTF, r_gqFT, r_not, r_lss, r_leq, r_gtr, r_geq, r_eql, r_neq, r_add, r_sub, r_min2, r_max2, r_min3, r_max3, r_fa, r_iaS, r_iaA, r_ex2a, r_ex2b, r_ex3a, r_ex3b, r_ex3c, r_nc, r_keepE, Nat.zero_add, Nat.add_zero, Nat.mul_one, Int.toNat_natCast, toNat_sub1, toNat_add1, decide_true, decide_false, Bool.not_true, Bool.not_false, if_true, if_false, Bool.false_eq_true, reduceCtorEq, r_ld c2, q1]; exact fin false (by simp only [Bool.false_eq_true, false_iff]; omega)
    have upc : ∀ (hleft : j = 0 ∨ hat h i j < hat h i (j - 1)), (i = 0 ∨ 0 < i) := fun _ => by omega
    by_cases hj0 : j = 0
    · have hj0' : (j : Int) = 0 := by omega
      by_cases hi0 : i = 0
      · have hi0' : (i : Int) = 0 := by omega
        simp (disch := omega) only [r_ln, r_pick, r_pickT, r_pickF, r_condT, r_condF, r_gdTT, r_gdFF, r_gdTF, r_gdFT, r_gqTT, r_gqFF, r_gqTF, r_gqFT, r_not, r_lss, r_leq, r_gtr, r_geq, r_eql, r_neq, r_add, r_sub, r_min2, r_max2, r_min3, r_max3, r_fa, r_iaS, r_iaA, r_ex2a, r_ex2b, r_ex3a, r_ex3b, r_ex3c, r_nc, r_keepE, Nat.zero_add, Nat.add_zero, Nat.mul_one, Int.toNat_natCast, toNat_sub1, toNat_add1, decide_true, decide_false, Bool.not_true, Bool.not_false, if_true, if_false, Bool.false_eq_true, reduceCtorEq, r_ld c2, q1, decide_eq_true hj0', decide_eq_true hi0']
        exact fin true ⟨fun _ => ⟨by omega, .inl hj0, .inl hi0⟩, fun _ => rfl⟩
      · have hi0' : ¬ (i : Int) = 0 := by omega
        obtain ⟨ub, uo, uc, u1, u2⟩ := up (by omega)
        by_cases q3 : (h.getD i []).getD j 0 < hat h (i - 1) j
        · simp (disch := omega) only [r_ln, r_pick, r_pickT, r_pickF, r_condT, r_condF, r_gdTT, r_gdFF, r_gdTF, r_gdFT, r_gqTT, r_gqFF, r_gqTF, r_gqFT, r_not, r_lss, r_leq, r_gtr, r_geq, r_eql, r_neq, r_add, r_sub, r_min2, r_max2, r_min3, r_max3, r_fa, r_iaS, r_iaA, r_ex2a, r_ex2b, r_ex3a, r_ex3b, r_ex3c, r_nc, r_keepE, Nat.zero_add, Nat.add_zero, Nat.mul_one, Int.toNat_natCast, toNat_sub1, toNat_add1, decide_true, decide_false, Bool.not_true, Bool.not_false, if_true, if_false, Bool.false_eq_true, reduceCtorEq, r_ld c2, q1, decide_eq_true hj0', hi0', r_ld u1, r_ld u2, q3]
          exact fin true ⟨fun _ => ⟨by omega, .inl hj0, .inr (by omega)⟩, fun _ => rfl⟩
        · simp (disch := omega) only [r_ln, r_pick, r_pickT, r_pickF, r_condT, r_condF, r_gdTT, r_gdFF, r_gdTF, r_gdFT, r_gqTT, r_gqFF, r_gqTF, r_gqFT, r_not, r_lss, r_leq, r_gtr, r_geq, r_eql, r_neq, r_add, r_sub, r_min2, r_max2, r_min3, r_max3, r_fa, r_iaS, r_iaA, r_ex2a, r_ex2b, r_ex3a, r_ex3b, r_ex3c, r_nc, r_keepE, Nat.zero_add, Nat.add_zero, Nat.mul_one, Int.toNat_natCast, toNat_sub1, toNat_add1, decide_true, decide_false, Bool.not_true, Bool.not_false, if_true, if_false, Bool.false_eq_true, reduceCtorEq, r_ld c2, q1, decide_eq_true hj0', hi0', r_ld u1, r_ld u2, q3]
          exact fin false (by simp only [Bool.false_eq_true, false_iff]; omega)
    · have hj0' : ¬ (j : Int) = 0 := by omega
      have hlc := left (by omega)
      by_cases q2 : (h.getD i []).getD j 0 < hat h i (j - 1)
      case neg =>
        simp (disch := omega) only [r_ln, r_pick, r_pickT, r_pickF, r_condT, r_condF, r_gdTT, r_gdFF, r_gdTF, r_gdFT, r_gqTT, r_gqFF, r_gqTF, r_gqFT, r_not, r_lss, r_leq, r_gtr, r_geq, r_eql, r_neq, r_add, r_sub, r_min2, r_max2, r_min3, r_max3, r_fa, r_iaS, r_iaA, r_ex2a, r_ex2b, r_ex3a, r_ex3b, r_ex3c, r_nc, r_keepE, Nat.zero_add, Nat.add_zero, Nat.mul_one, Int.toNat_natCast, toNat_sub1, toNat_add1, decide_true, decide_false, Bool.not_true, Bool.not_false, if_true, if_false, Bool.false_eq_true, reduceCtorEq, r_ld c2, q1, hj0', r_ld hlc, q2]
        exact fin false (by simp only [Bool.false_eq_true, false_iff]; omega)
      by_cases hi0 : i = 0
      · have hi0' : (i : Int) = 0 := by omega
        simp (disch := omega) only [r_ln, r_pick, r_pickT, r_pickF, r_condT, r_condF, r_gdTT, r_gdFF, r_gdTF, r_gdFT, r_gqTT, r_gqFF, r_gqTF, r_gqFT, r_not, r_lss, r_leq, r_gtr, r_geq, r_eql, r_neq, r_add, r_sub, r_min2, r_max2, r_min3, r_max3, r_fa, r_iaS, r_iaA, r_ex2a, r_ex2b, r_ex3a, r_ex3b, r_ex3c, r_nc, r_keepE, Nat.zero_add, Nat.add_zero, Nat.mul_one, Int.toNat_natCast, toNat_sub1, toNat_add1, decide_true, decide_false, Bool.not_true, Bool.not_false, if_true, if_false, Bool.false_eq_true, reduceCtorEq, r_ld c2, q1, hj0', r_ld hlc, q2, decide_eq_true hi0']
        exact fin true ⟨fun _ => ⟨by omega, .inr (by omega), .inl hi0⟩, fun _ => rfl⟩
      · have hi0' : ¬ (i : Int) = 0 := by omega
        obtain ⟨ub, uo, uc, u1, u2⟩ := up (by omega)
        by_cases q3 : (h.getD i []).getD j 0 < hat h (i - 1) j
        · simp (disch := omega) only [r_ln, r_pick, r_pickT, r_pickF, r_condT, r_condF, r_gdTT, r_gdFF, r_gdTF, r_gdFT, r_gqTT, r_gqFF, r_gqTF, r_gqFT, r_not, r_lss, r_leq, r_gtr, r_geq, r_eql, r_neq, r_add, r_sub, r_min2, r_max2, r_min3, r_max3, r_fa, r_iaS, r_iaA, r_ex2a, r_ex2b, r_ex3a, r_ex3b, r_ex3c, r_nc, r_keepE, Nat.zero_add, Nat.add_zero, Nat.mul_one, Int.toNat_natCast, toNat_sub1, toNat_add1, decide_true, decide_false, Bool.not_true, Bool.not_false, if_true, if_false, Bool.false_eq_true, reduceCtorEq, r_ld c2, q1, hj0', r_ld hlc, q2, hi0', r_ld u1, r_ld u2, q3]
          exact fin true (by simp only [true_iff]; omega)
        · simp (disch := omega) only [r_ln, r_pick, r_pickT, r_pickF, r_condT, r_condF, r_gdTT, r_gdFF, r_gdTF, r_gdFT, r_gqTT, r_gqFF, r_gqTF, r_gqFT, r_not, r_lss, r_leq, r_gtr, r_geq, r_eql, r_neq, r_add, r_sub, r_min2, r_max2, r_min3, r_max3, r_fa, r_iaS, r_iaA, r_ex2a, r_ex2b, r_ex3a, r_ex3b, r_ex3c, r_nc, r_keepE, Nat.zero_add, Nat.add_zero, Nat.mul_one, Int.toNat_natCast, toNat_sub1, toNat_add1, decide_true, decide_false, Bool.not_true, Bool.not_false, if_true, if_false, Bool.false_eq_true, reduceCtorEq, r_ld c2, q1, hj0', r_ld hlc, q2, hi0', r_ld u1, r_ld u2, q3]
          exact fin false (by simp only [Bool.false_eq_true, false_iff]; omega)
  rintro _ _ ⟨rfl, rfl⟩
  have hpush8 := filter_push (f := addB c h) (P := pl b' (i * b' + j)) (x := (i, j))
  have hpush9 := filter_push (f := takeB a b' h) (P := pl b' (i * b' + j)) (x := (i, j))
  rw [← pl_succ hjl] at hpush8 hpush9
  refine r_join1 (fun t8 w' => Chg (fun k => w2.heap.size ≤ k) wq w' ∧ CellsAt w2.heap.size w' t8 ((pl b' (i * b' + j + 1)).filter (addB c h)) ∧ CellsAt w2.heap.size w' t9 ((pl b' (i * b' + j)).filter (takeB a b' h)) ∧ Apart t8 t9) ?_ ?_
  rotate_left
  · intro kk hkk
    by_cases hadd : addB c h (i, j) = true
    · rw [if_pos hadd] at hpush8
      rw [hadd, r_condT, bd35]
      refine r_pushCell h8 h9 hap (by omega) (by have := hk2q.size; omega) fun v' w' g1 g2 g3 g4 => ?_
      exact hkk _ _ ⟨g4, by rw [hpush8]; exact g1, g2, g3⟩
    · have hadd' : addB c h (i, j) = false := by simpa using hadd
      rw [if_neg hadd] at hpush8
      rw [hadd', r_condF]
      exact hkk _ _ ⟨Chg.refl _ _, by rw [hpush8]; exact h8, h9, hap⟩
  rintro t8b wp ⟨hcp, h8b, h9b, hapb⟩
  have hk2p : Kp w2 wp := Kp.of_chg hk2q hcp fun k h => h
  have hbp := hcp.at hbq (by have := block_lt (block_below hb k2); omega)
  obtain ⟨c0, c1, c2⟩ := box3 hbp
  have right := fun h0 => cell_later hk2p (right0 h0)
  have down : i + 1 < a → ∃ ub uo uc, wp.cell? ⟨b1, o1 + (i + 1), none⟩ = some (.slice (some ⟨ub, uo, none⟩) b' uc) ∧ wp.cell? ⟨ub, uo + j, none⟩ = some (.int .i64 (hat h (i + 1) j)) := fun h0 =>
    let ⟨ub, uo, uc, x1, x2⟩ := down0 h0; ⟨ub, uo, uc, cell_later hk2p x1, cell_later hk2p x2⟩
  refine r_join1 (fun t w' => t = .bool (takeB a b' h (i, j)) ∧ wp = w') ?_ ?_
  rotate_left
  · intro kk hkk
    have fin : ∀ x : Bool, (x = true ↔ 0 < hat h i j ∧ (j + 1 = b' ∨ hat h i (j + 1) < hat h i j) ∧ (i + 1 = a ∨ hat h (i + 1) j < hat h i j)) → kk (.bool x) wp := fun x hx => hkk _ _ ⟨congrArg Value.bool (by unfold takeB; rw [← decide_eq_decide.2 hx]; cases x <;> rfl), rfl⟩
    by_cases q1 : 0 < (h.getD i []).getD j 0
    case neg => simp (disch := omega) only [r_ln, r_pick, r_pickT, r_pickF, r_condT, r_condF, r_gdTT, r_gdFF, r_gdTF, r_gdFT, r_gqTT, r_gqFF, r_gqTF, r_gqFT, r_not, r_lss, r_leq, r_gtr, r_geq, r_eql, r_neq, r_add, r_sub, r_min2, r_max2, r_min3, r_max3, r_fa, r_iaS, r_iaA, r_ex2a, r_ex2b, r_ex3a, r_ex3b, r_ex3c, r_nc, r_keepE, Nat.zero_add, Nat.add_zero, Nat.mul_one, Int.toNat_natCast, toNat_sub1, toNat_add1, decide_true, decide_false, Bool.not_true, Bool.not_false, if_true, if_false, Bool.false_eq_true, reduceCtorEq, q1]; exact fin false (by simp only [Bool.false_eq_true, false_iff]; omega)
    by_cases hj0 : j + 1 = b'
    · have hj0' : (j : Int) = (b' : Int) - 1 := by omega
      by_cases hi0 : i + 1 = a
      · have hi0' : (i : Int) = (a : Int) - 1 := by omega
        simp (disch := omega) only [r_ln, r_pick, r_pickT, r_pickF, r_condT, r_condF, r_gdTT, r_gdFF, r_gdTF, r_gdFT, r_gqTT, r_gqFF, r_gqTF, r_gqFT, r_not, r_lss, r_leq, r_gtr, r_geq, r_eql, r_neq, r_add, r_sub, r_min2, r_max2, r_min3, r_max3, r_fa, r_iaS, r_iaA, r_ex2a, r_ex2b, r_ex3a, r_ex3b, r_ex3c, r_nc, r_keepE, Nat.zero_add, Nat.add_zero, Nat.mul_one, Int.toNat_natCast, toNat_sub1, toNat_add1, decide_true, decide_false, Bool.not_true, Bool.not_false, if_true, if_false, Bool.false_eq_true, reduceCtorEq, r_ld c1, r_ld c0, q1, decide_eq_true hj0', decide_eq_true hi0']
        exact fin true (by simp only [true_iff]; omega)
      · have hi0' : ¬ (i : Int) = (a : Int) - 1 := by omega
        obtain ⟨ub, uo, uc, u1, u2⟩ := down (by omega)
        by_cases q3 : hat h (i + 1) j < (h.getD i []).getD j 0
        · simp (disch := omega) only [r_ln, r_pick, r_pickT, r_pickF, r_condT, r_condF, r_gdTT, r_gdFF, r_gdTF, r_gdFT, r_gqTT, r_gqFF, r_gqTF, r_gqFT, r_not, r_lss, r_leq, r_gtr, r_geq, r_eql, r_neq, r_add, r_sub, r_min2, r_max2, r_min3, r_max3, r_fa, r_iaS, r_iaA, r_ex2a, r_ex2b, r_ex3a, r_ex3b, r_ex3c, r_nc, r_keepE, Nat.zero_add, Nat.add_zero, Nat.mul_one, Int.toNat_natCast, toNat_sub1, toNat_add1, decide_true, decide_false, Bool.not_true, Bool.not_false, if_true, if_false, Bool.false_eq_true, reduceCtorEq, r_ld c1, r_ld c0, q1, decide_eq_true hj0', hi0', r_ld u1, r_ld u2, q3]
          exact fin true (by simp only [true_iff]; omega)
        · simp (disch := omega) only [r_ln, r_pick, r_pickT, r_pickF, r_condT, r_condF, r_gdTT, r_gdFF, r_gdTF, r_gdFT, r_gqTT, r_gqFF, r_gqTF, r_gqFT, r_not, r_lss, r_leq, r_gtr, r_geq, r_eql, r_neq, r_add, r_sub, r_min2, r_max2, r_min3, r_max3, r_fa, r_iaS, r_iaA, r_ex2a, r_ex2b, r_ex3a, r_ex3b, r_ex3c, r_nc, r_keepE, Nat.zero_add, Nat.add_zero, Nat.mul_one, Int.toNat_natCast, toNat_sub1, toNat_add1, decide_true, decide_false, Bool.not_true, Bool.not_false, if_true, if_false, Bool.false_eq_true, reduceCtorEq, r_ld c1, r_ld c0, q1, decide_eq_true hj0', hi0', r_ld u1, r_ld u2, q3]
          exact fin false (by simp only [Bool.false_eq_true, false_iff]; omega)
    · have hj0' : ¬ (j : Int) = (b' : Int) - 1 := by omega
      have hlc := right (by omega)
      by_cases q2 : hat h i (j + 1) < (h.getD i []).getD j 0
      case neg =>
        simp (disch := omega) only [r_ln, r_pick, r_pickT, r_pickF, r_condT, r_condF, r_gdTT, r_gdFF, r_gdTF, r_gdFT, r_gqTT, r_gqFF, r_gqTF, r_gqFT, r_not, r_lss, r_leq, r_gtr, r_geq, r_eql, r_neq, r_add, r_sub, r_min2, r_max2, r_min3, r_max3, r_fa, r_iaS, r_iaA, r_ex2a, r_ex2b, r_ex3a, r_ex3b, r_ex3c, r_nc, r_keepE, Nat.zero_add, Nat.add_zero, Nat.mul_one, Int.toNat_natCast, toNat_sub1, toNat_add1, decide_true, decide_false, Bool.not_true, Bool.not_false, if_true, if_false, Bool.false_eq_true, reduceCtorEq, r_ld c1, q1, hj0', r_ld hlc, q2]
        exact fin false (by simp only [Bool.false_eq_true, false_iff]; omega)
      by_cases hi0 : i + 1 = a
      · have hi0' : (i : Int) = (a : Int) - 1 := by omega
        simp (disch := omega) only [r_ln, r_pick, r_pickT, r_pickF, r_condT, r_condF, r_gdTT, r_gdFF, r_gdTF, r_gdFT, r_gqTT, r_gqFF, r_gqTF, r_gqFT, r_not, r_lss, r_leq, r_gtr, r_geq, r_eql, r_neq, r_add, r_sub, r_min2, r_max2, r_min3, r_max3, r_fa, r_iaS, r_iaA, r_ex2a, r_ex2b, r_ex3a, r_ex3b, r_ex3c, r_nc, r_keepE, Nat.zero_add, Nat.add_zero, Nat.mul_one, Int.toNat_natCast, toNat_sub1, toNat_add1, decide_true, decide_false, Bool.not_true, Bool.not_false, if_true, if_false, Bool.false_eq_true, reduceCtorEq, r_ld c1, r_ld c0, q1, hj0', r_ld hlc, q2, decide_eq_true hi0']
        exact fin true (by simp only [true_iff]; omega)
      · have hi0' : ¬ (i : Int) = (a : Int) - 1 := by omega
        obtain ⟨ub, uo, uc, u1, u2⟩ := down (by omega)
        by_cases q3 : hat h (i + 1) j < (h.getD i []).getD j 0
        · simp (disch := omega) only [r_ln, r_pick, r_pickT, r_pickF, r_condT, r_condF, r_gdTT, r_gdFF, r_gdTF, r_gdFT, r_gqTT, r_gqFF, r_gqTF, r_gqFT, r_not, r_lss, r_leq, r_gtr, r_geq, r_eql, r_neq, r_add, r_sub, r_min2, r_max2, r_min3, r_max3, r_fa, r_iaS, r_iaA, r_ex2a, r_ex2b, r_ex3a, r_ex3b, r_ex3c, r_nc, r_keepE, Nat.zero_add, Nat.add_zero, Nat.mul_one, Int.toNat_natCast, toNat_sub1, toNat_add1, decide_true, decide_false, Bool.not_true, Bool.not_false, if_true, if_false, Bool.false_eq_true, reduceCtorEq, r_ld c1, r_ld c0, q1, hj0', r_ld hlc, q2, hi0', r_ld u1, r_ld u2, q3]
          exact fin true (by simp only [true_iff]; omega)
        · simp (disch := omega) only [r_ln, r_pick, r_pickT, r_pickF, r_condT, r_condF, r_gdTT, r_gdFF, r_gdTF, r_gdFT, r_gqTT, r_gqFF, r_gqTF, r_gqFT, r_not, r_lss, r_leq, r_gtr, r_geq, r_eql, r_neq, r_add, r_sub, r_min2, r_max2, r_min3, r_max3, r_fa, r_iaS, r_iaA, r_ex2a, r_ex2b, r_ex3a, r_ex3b, r_ex3c, r_nc, r_keepE, Nat.zero_add, Nat.add_zero, Nat.mul_one, Int.toNat_natCast, toNat_sub1, toNat_add1, decide_true, decide_false, Bool.not_true, Bool.not_false, if_true, if_false, Bool.false_eq_true, reduceCtorEq, r_ld c1, r_ld c0, q1, hj0', r_ld hlc, q2, hi0', r_ld u1, r_ld u2, q3]
          exact fin false (by simp only [Bool.false_eq_true, false_iff]; omega)
  rintro _ _ ⟨rfl, rfl⟩
  have hps := hk2p.size
  refine r_join1 (fun t9 w' => Chg (fun k => w2.heap.size ≤ k) wp w' ∧ CellsAt w2.heap.size w' t8b ((pl b' (i * b' + j + 1)).filter (addB c h)) ∧ CellsAt w2.heap.size w' t9 ((pl b' (i * b' + j + 1)).filter (takeB a b' h)) ∧ Apart t8b t9) ?_ ?_
  rotate_left
  · intro kk hkk
    by_cases htk : takeB a b' h (i, j) = true
    · rw [if_pos htk] at hpush9
      rw [htk, r_condT, bd35]
      refine r_pushCell h9b h8b hapb.symm (by omega) (by omega) fun v' w' g1 g2 g3 g4 => ?_
      exact hkk _ _ ⟨g4, g2, by rw [hpush9]; exact g1, g3.symm⟩
    · have htk' : takeB a b' h (i, j) = false := by simpa using htk
      rw [if_neg htk] at hpush9
      rw [htk', r_condF]
      exact hkk _ _ ⟨Chg.refl _ _, h8b, by rw [hpush9]; exact h9b, hapb⟩
  rintro t9b wz ⟨hcz, h8z, h9z, hapz⟩
  have hkqz : Chg (fun k => w2.heap.size ≤ k) wq wz := hcp.trans hcz
  have hk2z : Kp w2 wz := Kp.of_chg hk2q hkqz fun k h => h
  try simp (disch := omega) only [r_ln, r_pick, r_pickT, r_pickF, r_condT, r_condF, r_gdTT, r_gdFF, r_gdTF, r_gdFT, r_gqTT, r_gqFF, r_gqTF, r_gqFT, r_not, r_lss, r_leq, r_gtr, r_geq, r_eql, r_neq, r_add, r_sub, r_min2, r_max2, r_min3, r_max3, r_fa, r_iaS, r_iaA, r_ex2a, r_ex2b, r_ex3a, r_ex3b, r_ex3c, r_nc, r_keepE, Nat.zero_add, Nat.add_zero, Nat.mul_one, Int.toNat_natCast, toNat_sub1, toNat_add1, decide_true, decide_false, Bool.not_true, Bool.not_false, if_true, if_false, Bool.false_eq_true, reduceCtorEq]
  exact ⟨⟨j + 1, by omega, by go_num, hk2z, h8z, h9z, hapz⟩, by simp only [intOf]; omega⟩

end Go.Proofs.Ytaephdjmpmbfpaa

/- Corners and volumes of heaps; equality of cells. -/
namespace Go.Proofs.Ytaephdjmpmbfpaa
open Go.Lf Go.RowKit Go.Hp

theorem sumTo_pos {f : Nat → Int} : ∀ {n k : Nat}, (∀ i, i < n → 0 ≤ f i) → k < n → f k ≤ sumTo f n
  | n + 1, k, h, hk => by
    rw [sumTo]
    have h0 := h n (by omega)
    have hs : 0 ≤ sumTo f n := by
      clear hk h0
      induction n with
      | zero => exact Int.le_refl 0
      | succ n ih =>
        rw [sumTo]
        have := ih fun i hi => h i (by omega)
        have := h n (by omega)
        omega
    by_cases e : k = n
    · subst e; omega
    · have := sumTo_pos (n := n) (fun i hi => h i (by omega)) (k := k) (by omega); omega

theorem sumTo_upd {f f' : Nat → Int} : ∀ {n i : Nat}, i < n → (∀ k, k < n → k ≠ i → f' k = f k) → sumTo f' n = sumTo f n - f i + f' i
  | n + 1, i, hi, h => by
    rw [sumTo, sumTo]
    by_cases e : i = n
    · subst e
      rw [sumTo_congr fun k hk => h k (by omega) (by omega)]
      omega
    · rw [sumTo_upd (n := n) (i := i) (by omega) fun k hk hn => h k (by omega) hn, h n (by omega) (Ne.symm e)]
      omega

theorem hat_le_vol {A B C : Nat} {h : List (List Int)} (hh : IsHeap A B C h) {i j : Nat} (hi : i < A) (hj : j < B) : hat h i j ≤ volM h := by
  have hs := sized_of hh
  have p : ∀ i j, i < A → j < B → 0 ≤ hat h i j := fun i j hi hj => hh.pos i j (by rw [hs.1]; exact hi) (by omega)
  rw [vol_sumTo hs]
  have h1 := sumTo_pos (f := fun j => hat h i j) (n := B) (k := j) (fun k hk => p i k hi hk) hj
  have h2 := sumTo_pos (f := fun i => sumTo (fun j => hat h i j) B) (n := A) (k := i) (fun k hk => by
    refine Int.not_lt.1 fun hlt => ?_
    cases B with
    | zero => exact absurd hj (by omega)
    | succ B =>
      have h3 := sumTo_pos (f := fun j => hat h k j) (n := B + 1) (k := 0) (fun q hq => p k q hk hq) (by omega)
      have := p k 0 hk (by omega)
      omega) hi
  omega

theorem vol_put2 {A B : Nat} {h : List (List Int)} (hs : Sized A B h) {i j : Nat} (hi : i < A) (hj : j < B) (x : Int) : volM (put2 h i j x) = volM h - hat h i j + x := by
  have hat' : ∀ k l, hat (put2 h i j x) k l = if k = i ∧ l = j then x else hat h k l := fun k l => put2_hat h i j k l x (by rw [hs.1]; exact hi) (by rw [hs.2 i hi]; exact hj)
  rw [vol_sumTo (put2_sized hs hi x), vol_sumTo hs]
  rw [sumTo_upd (f := fun i => sumTo (fun j => hat h i j) B) hi fun k hk hn => sumTo_congr fun l hl => by rw [hat', if_neg fun e => hn e.1]]
  have e1 := sumTo_upd (f := fun l => hat h i l) (f' := fun l => hat (put2 h i j x) i l) hj fun l hl hn => by show hat (put2 h i j x) i l = hat h i l; rw [hat', if_neg fun e => hn e.2]
  have e2 := hat' i j
  rw [if_pos ⟨rfl, rfl⟩] at e2
  try dsimp only at e1
  try dsimp only
  omega

theorem mem_pl {A B i j : Nat} : (i, j) ∈ pl B (A * B) ↔ i < A ∧ j < B := by
  unfold pl
  simp only [List.mem_map, List.mem_range, Prod.mk.injEq]
  constructor
  · rintro ⟨p, hp, rfl, rfl⟩
    have hB : 0 < B := Nat.pos_of_ne_zero fun e => by subst e; simp at hp
    exact ⟨(Nat.div_lt_iff_lt_mul hB).2 hp, Nat.mod_lt _ hB⟩
  · rintro ⟨hi, hj⟩
    refine ⟨i * B + j, place_lt hi hj, ?_, ?_⟩
    · rw [Nat.add_comm, Nat.add_mul_div_right _ _ (by omega), Nat.div_eq_of_lt hj, Nat.zero_add]
    · rw [Nat.add_comm, Nat.add_mul_mod_self_right, Nat.mod_eq_of_lt hj]

theorem mem_takeL {A B : Nat} {h : List (List Int)} {i j : Nat} : (i, j) ∈ takeL A B h ↔ (i < A ∧ j < B) ∧ 0 < hat h i j ∧ (j + 1 = B ∨ hat h i (j + 1) < hat h i j) ∧ (i + 1 = A ∨ hat h (i + 1) j < hat h i j) := by
  unfold takeL
  rw [List.mem_filter, mem_pl]
  simp [takeB]
theorem mem_addL {A B : Nat} {C : Int} {h : List (List Int)} {i j : Nat} : (i, j) ∈ addL A B C h ↔ (i < A ∧ j < B) ∧ hat h i j < C ∧ (j = 0 ∨ hat h i j < hat h i (j - 1)) ∧ (i = 0 ∨ hat h i j < hat h (i - 1) j) := by
  unfold addL
  rw [List.mem_filter, mem_pl]
  simp [addB]

theorem takeL_of_pos {A B : Nat} {h : List (List Int)} : ∀ (n i j : Nat), (A - 1 - i) + (B - 1 - j) = n → i < A → j < B → 0 < hat h i j → takeL A B h ≠ [] := by
  intro n
  induction n using Nat.strongRecOn with
  | _ n ih =>
    intro i j hn hi hj hp
    by_cases h1 : j + 1 = B ∨ hat h i (j + 1) < hat h i j
    · by_cases h2 : i + 1 = A ∨ hat h (i + 1) j < hat h i j
      · exact List.ne_nil_of_mem (mem_takeL.2 ⟨⟨hi, hj⟩, hp, h1, h2⟩)
      · exact ih _ (by omega) (i + 1) j rfl (by omega) hj (by omega)
    · exact ih _ (by omega) i (j + 1) rfl hi (by omega) (by omega)

theorem takeL_ne {A B C : Nat} {h : List (List Int)} (hh : IsHeap A B C h) (hv : 0 < volM h) : takeL A B h ≠ [] := by
  have hs := sized_of hh
  by_cases hp : ∃ i j, i < A ∧ j < B ∧ 0 < hat h i j
  · obtain ⟨i, j, hi, hj, h0⟩ := hp
    exact takeL_of_pos _ i j rfl hi hj h0
  · exfalso
    rw [vol_sumTo hs, sumTo_congr (g := fun _ => 0) fun i hi => (sumTo_congr (g := fun _ => 0) fun j hj => by
      have := hh.pos i j (by rw [hs.1]; exact hi) (by omega)
      have : ¬ 0 < hat h i j := fun h0 => hp ⟨i, j, hi, hj, h0⟩
      omega).trans (sumTo_zero B), sumTo_zero] at hv
    omega

theorem takeL_zero {A B C : Nat} {h : List (List Int)} (hh : IsHeap A B C h) (hv : volM h = 0) : takeL A B h = [] := by
  refine List.eq_nil_iff_forall_not_mem.2 fun ⟨i, j⟩ hm => ?_
  obtain ⟨⟨hi, hj⟩, h0, _⟩ := mem_takeL.1 hm
  have := hat_le_vol hh hi hj
  omega

theorem addL_full {A B C : Nat} {h : List (List Int)} (hh : IsHeap A B C h) (hv : volM h = 0) : addL A B C (compM A B C h) = [] := by
  refine List.eq_nil_iff_forall_not_mem.2 fun ⟨i, j⟩ hm => ?_
  obtain ⟨⟨hi, hj⟩, h0, _⟩ := mem_addL.1 hm
  unfold compM at h0
  rw [tabM_hat hi hj] at h0
  have := hat_le_vol hh (i := A - 1 - i) (j := B - 1 - j) (by omega) (by omega)
  omega

theorem taken_heap {A B C : Nat} {h : List (List Int)} (hh : IsHeap A B C h) {i j : Nat} (hm : (i, j) ∈ takeL A B h) : IsHeap A B C (put2 h i j (hat h i j - 1)) ∧ (i, j) ∈ addL A B C (put2 h i j (hat h i j - 1)) := by
  have hs := sized_of hh
  obtain ⟨⟨hi, hj⟩, h0, h1, h2⟩ := mem_takeL.1 hm
  have hat' : ∀ k l, hat (put2 h i j (hat h i j - 1)) k l = if k = i ∧ l = j then hat h i j - 1 else hat h k l := fun k l => put2_hat h i j k l _ (by rw [hs.1]; exact hi) (by rw [hs.2 i hi]; exact hj)
  have hlen := put2_length h i j (hat h i j - 1)
  have hl := hs.1
  have ht := hh.top i j (by omega) (by omega)
  refine ⟨⟨by rw [hlen]; exact hh.len, fun k hk => by rw [put2_len _ _ _ _ _ (by omega)]; exact hh.row k (by omega), fun k l hk hl => ?_, fun k l hk hl => ?_, fun k l hk hl => ?_, fun k l hk hl => ?_⟩, mem_addL.2 ⟨⟨hi, hj⟩, ?_, ?_, ?_⟩⟩
  · rw [hat']
    have := hh.pos k l (by omega) hl
    split <;> omega
  · rw [hat']
    have := hh.top k l (by omega) hl
    split <;> omega
  · rw [hat', hat']
    have := hh.left k l (by omega) hl
    by_cases e1 : k = i ∧ l + 1 = j
    · rw [if_pos e1, if_neg (by omega)]
      obtain ⟨rfl, rfl⟩ := e1
      omega
    · rw [if_neg e1]
      by_cases e2 : k = i ∧ l = j
      · rw [if_pos e2]
        obtain ⟨rfl, rfl⟩ := e2
        omega
      · rw [if_neg e2]; exact this
  · rw [hat', hat']
    have := hh.up k l (by omega) hl
    by_cases e1 : k + 1 = i ∧ l = j
    · rw [if_pos e1, if_neg (by omega)]
      obtain ⟨rfl, rfl⟩ := e1
      omega
    · rw [if_neg e1]
      by_cases e2 : k = i ∧ l = j
      · rw [if_pos e2]
        obtain ⟨rfl, rfl⟩ := e2
        omega
      · rw [if_neg e2]; exact this
  · rw [hat', if_pos ⟨rfl, rfl⟩]; omega
  · rw [hat', if_pos ⟨rfl, rfl⟩, hat']
    by_cases e : j = 0
    · exact .inl e
    · right
      rw [if_neg (by omega)]
      have := hh.left i (j - 1) (by omega) (by omega)
      rw [show j - 1 + 1 = j by omega] at this
      omega
  · rw [hat', if_pos ⟨rfl, rfl⟩, hat']
    by_cases e : i = 0
    · exact .inl e
    · right
      rw [if_neg (by omega)]
      have := hh.up (i - 1) j (by omega) (by omega)
      rw [show i - 1 + 1 = i by omega] at this
      omega

/-! ### equality of cells -/

theorem eq35 (a b c d : Int) (w : World) : (Op.equalIn 10000 35 (.agg #[.int .i64 a, .int .i64 b]) (.agg #[.int .i64 c, .int .i64 d])).run Try.prog w = .ok (a == c && b == d) w := by
  have u3 := Try.underlying3
  have a3 := Try.isAgg3
  have z3 := Try.sizeOf3
  have hS : Try.prog.underlying 35 = some (.struct (Try.prog.fieldsOf 35)) := by kernel_rfl
  have hp : Try.prog.stoodInHeld 35 = false := by kernel_rfl
  rw [show (10000 : Nat) = 9999 + 1 from rfl, run_equalIn_agg w 9999 35 _ _ hS hp]
  simp only [Program.fieldsOf, Try.underlying35]
  go_simp
  by_cases h1 : a = c <;> by_cases h2 : b = d <;> simp [h1, h2]

theorem r_eq35 {w : World} {lit : Bool} (a b c d : Int) (K : Value → Prop) : binQ Try.prog w .eql 35 lit (.agg #[.int .i64 a, .int .i64 b]) (.agg #[.int .i64 c, .int .i64 d]) K = K (.bool (decide (a = c) && decide (b = d))) := by
  have hg : Try.prog.eqGuardType Try.prog.depth 35 = false := by kernel_rfl
  have hrun : ∀ w, (semBin .eql 35 lit (.agg #[.int .i64 a, .int .i64 b]) (.agg #[.int .i64 c, .int .i64 d])).run Try.prog w = .ok (.value (.bool (decide (a = c) && decide (b = d)))) w := fun w => by
    unfold semBin
    simp [run_eqGuard_agg w _ _ _ _ _ _ hg, run_eql_struct, eq35]
    by_cases h1 : a = c <;> by_cases h2 : b = d <;> simp [h1, h2]
  refine propext ⟨?_, fun h => ⟨_, fun w' _ => hrun w', h⟩⟩
  rintro ⟨v, hv, hk⟩
  have h1 := hv w (Below.refl _ _)
  rw [hrun] at h1
  injection h1 with h1 _
  injection h1 with h1
  rw [h1]; exact hk

theorem cellsOf_length : ∀ P : List (Nat × Nat), (cellsOf P).length = 2 * P.length
  | [] => rfl
  | p :: P => by
    have := cellsOf_length P
    simp only [cellsOf, List.flatMap_cons, List.length_append, List.length_cons, List.length_nil] at *
    omega
theorem cellsOf_drop : ∀ (P : List (Nat × Nat)) (q : Nat) (p : Nat × Nat), P[q]? = some p → ((cellsOf P).drop (q * 2)).take 2 = [.int .i64 (p.2 : Nat), .int .i64 (p.1 : Nat)]
  | p :: P, 0, _, h => by cases h; rfl
  | p' :: P, q + 1, p, h => by
    have := cellsOf_drop P q p (by simpa using h)
    rw [show (q + 1) * 2 = q * 2 + 2 by omega]
    simpa [cellsOf] using this

/-- Reading place q of a slice of places. -/
theorem CellsAt.at {base : Nat} {w : World} {v : Value} {P : List (Nat × Nat)} (h : CellsAt base w v P) {q : Nat} {p : Nat × Nat} (hq : P[q]? = some p) :
    ∃ g cap, v = .slice (some ⟨g, 0, none⟩) P.length cap ∧ q < P.length ∧ ∀ K : Value → Prop, ldN 2 w (.pointer (some ⟨g, q * 2, none⟩)) K = K (.agg #[.int .i64 (p.2 : Nat), .int .i64 (p.1 : Nat)]) := by
  have hlt : q < P.length := by
    rw [List.getElem?_eq_some_iff] at hq
    exact hq.1
  rcases h.2 with ⟨_, hn⟩ | ⟨g, cap, cur, e, _, hg, hle, hm, hsz, ht⟩
  · omega
  · refine ⟨g, cap, e, hlt, fun K => ?_⟩
    have hlen := cellsOf_length P
    have hl2 : (cur.toList.take (cellsOf P).length) = cellsOf P := by first | exact ht | (rw [hlen]; rw [Nat.mul_comm]; exact ht)
    refine r_ldAt hg ?_ ?_
    · have := congrArg List.length hl2
      rw [List.length_take] at this
      simp at this
      omega
    · rw [← cellsOf_drop P q p hq]
      conv => rhs; rw [← hl2]
      rw [List.drop_take, List.take_take, Nat.min_eq_left (by omega)]
theorem CellsAt.len {base : Nat} {w : World} {v : Value} {P : List (Nat × Nat)} (h : CellsAt base w v P) : ∃ a cap, v = .slice a P.length cap := by
  rcases h.2 with ⟨rfl, hn⟩ | ⟨g, cap, cur, e, _⟩
  · exact ⟨none, 0, by rw [hn]⟩
  · exact ⟨_, _, e⟩

end Go.Proofs.Ytaephdjmpmbfpaa
