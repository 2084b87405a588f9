/- Contracts: complement, transpose, turn, Changed of the specification. -/
import Derived.Test.YtaephdjmpmbfpaaY2
import Derived.Test.YtaephdjmpmbfpaaSh
import Derived.Test.YtaephdjmpmbfpaaC3
set_option linter.all false
namespace Go.Proofs.Ytaephdjmpmbfpaa
open Go.Lf Go.RowKit Go.Hp

/-- What is written into a table, row by row. -/
structure Filled (r c : Nat) (F : Nat → Nat → Int) (done : Nat → Nat → Prop) (h : List (List Int)) : Prop where
  sized : Sized r c h
  at_ : ∀ i j, i < r → j < c → done i j → hat h i j = F i j

theorem Filled.put {r c : Nat} {F : Nat → Nat → Int} {done done' : Nat → Nat → Prop} {h : List (List Int)} (f : Filled r c F done h) {i j : Nat} (hi : i < r) (hj : j < c) (hd : ∀ a b, done' a b → done a b ∨ a = i ∧ b = j) : Filled r c F done' (put2 h i j (F i j)) := by
  refine ⟨put2_sized f.sized hi _, fun a b ha hb hab => ?_⟩
  rw [put2_hat h i j a b _ (by rw [f.sized.1]; exact hi) (by rw [f.sized.2 i hi]; exact hj)]
  by_cases he : a = i ∧ b = j
  · rw [if_pos he, he.1, he.2]
  · rw [if_neg he]
    exact f.at_ a b ha hb ((hd a b hab).resolve_right he)

theorem Filled.mono {r c : Nat} {F : Nat → Nat → Int} {done done' : Nat → Nat → Prop} {h : List (List Int)} (f : Filled r c F done h) (hd : ∀ a b, a < r → b < c → done' a b → done a b) : Filled r c F done' h :=
  ⟨f.sized, fun a b ha hb h => f.at_ a b ha hb (hd a b ha hb h)⟩

theorem Filled.all {r c : Nat} {F : Nat → Nat → Int} {done : Nat → Nat → Prop} {h : List (List Int)} (f : Filled r c F done h) (hd : ∀ a b, a < r → b < c → done a b) : h = tabM r c F :=
  heap_ext f.sized (tabM_sized _ _ _) fun i j hi hj => by rw [tabM_hat hi hj]; exact f.at_ i j hi hj (hd i j hi hj)

theorem new_of {w w' w1 : World} {v : Value} {g : Nat} {bs : Nat → Nat} {h : List (List Int)} (ho : OwnRows w' v g bs h) (hg : w1.heap.size ≤ g) (hbs : ∀ i, i < h.length → w1.heap.size ≤ bs i) (hk : w.heap.size ≤ w1.heap.size) : NewRows w w' v h :=
  ⟨g, bs, ho, by omega, fun i hi => by have := hbs i hi; omega⟩

set_option maxRecDepth 100000 in
theorem refcomp_calls {A B C : Nat} {h : List (List Int)} (hh : IsHeap A B C h) (hA : 1 ≤ A ∧ A ≤ 4) (hB : 1 ≤ B ∧ B ≤ 4) (hC : 1 ≤ C ∧ C ≤ 4) (v : Value) (w : World) (hr : RdRows w v h) :
    Calls Try.prog 49 #[boxV A B C, v] w fun e w' => ∃ v', e = .returned v' ∧ Kp w w' ∧ NewRows w w' v' (compM A B C h) := by
  have hs := sized_of hh
  refine lift49 ?_
  unfold S49
  refine r_box fun b w1 hbw hsz hb hk => ?_
  rw [r_ldRow (n := 3) hb rfl]
  refine r_use fok66 (empty_calls A B C w1 (by omega) (by omega) (by omega)) rfl ?_
  rintro _ w2 ⟨vo, rfl, k2, g, bs, ho, hg, hbs⟩
  refine ⟨_, rfl, ?_⟩
  have hb2 := block_below hb k2
  have hbs' : ∀ i, i < A → w1.heap.size ≤ bs i := fun i hi => hbs i (by simpa using hi)
  have hblt := block_lt hb
  have hks := hk.size
  obtain ⟨va, vc, hv, _⟩ := hr.len
  refine ⟨fun t6 wr => ∃ (i : Nat) (o : List (List Int)), i ≤ A ∧ t6 = .int .i64 i ∧ OwnRows wr vo g bs o ∧ Filled A B (fun i j => (C : Int) - hat h (A - 1 - i) (B - 1 - j)) (fun a _ => a < i) o ∧ Chg (fun k => ∃ q, q < A ∧ k = bs q) w2 wr, fun t6 _ => A - (intOf t6).toNat,
    ⟨0, zeros A B, by omega, rfl, ho, ⟨zeros_sized A B, fun _ _ _ _ h => absurd h (by omega)⟩, Chg.refl _ _⟩, ?_⟩
  rintro _ _ wr ⟨i, o, hi, rfl, hor, hfi, hch⟩
  have nb : ¬ ∃ q, q < A ∧ b = bs q := fun ⟨q, hq, e⟩ => by have := hbs' q hq; omega
  obtain ⟨c0, c1, c2⟩ := box3 (hch.at hb2 nb)
  have hkr : Kp w wr := Kp.of_chg (Kp.trans hk k2) hch fun k ⟨q, hq, e⟩ => by have := hbs' q hq; omega
  by_cases hlt : i < A
  case neg =>
    have hlt' : ¬ (i : Int) < (A : Int) := by omega
    simp (disch := omega) only [r_ln, r_pick, r_pickT, r_pickF, r_condT, r_condF, r_gdTT, r_gdFF, r_gdTF, r_gdFT, r_gqTT, r_gqFF, r_gqTF, r_gqFT, r_not, r_lss, r_leq, r_gtr, r_geq, r_eql, r_neq, r_add, r_sub, r_min2, r_max2, r_min3, r_max3, r_fa, r_iaS, r_iaA, r_ex2a, r_ex2b, r_ex3a, r_ex3b, r_ex3c, r_nc, r_keepE, Nat.zero_add, Nat.add_zero, Nat.mul_one, Int.toNat_natCast, toNat_sub1, toNat_add1, decide_true, decide_false, Bool.not_true, Bool.not_false, if_true, if_false, Bool.false_eq_true, reduceCtorEq, r_ld c0, hlt']
    have e := hfi.all fun a b ha _ => by omega
    subst e
    exact ⟨vo, rfl, hkr, new_of hor (by omega) (fun q hq => hbs' q (by simpa [compM, tabM] using hq)) (by omega)⟩
  have hlt' : (i : Int) < (A : Int) := by omega
  simp (disch := omega) only [r_ln, r_pick, r_pickT, r_pickF, r_condT, r_condF, r_gdTT, r_gdFF, r_gdTF, r_gdFT, r_gqTT, r_gqFF, r_gqTF, r_gqFT, r_not, r_lss, r_leq, r_gtr, r_geq, r_eql, r_neq, r_add, r_sub, r_min2, r_max2, r_min3, r_max3, r_fa, r_iaS, r_iaA, r_ex2a, r_ex2b, r_ex3a, r_ex3b, r_ex3c, r_nc, r_keepE, Nat.zero_add, Nat.add_zero, Nat.mul_one, Int.toNat_natCast, toNat_sub1, toNat_add1, decide_true, decide_false, Bool.not_true, Bool.not_false, if_true, if_false, Bool.false_eq_true, reduceCtorEq, r_ld c0, hlt']
  refine ⟨fun t7 wq => ∃ (j : Nat) (o : List (List Int)), j ≤ B ∧ t7 = .int .i64 j ∧ OwnRows wq vo g bs o ∧ Filled A B (fun i j => (C : Int) - hat h (A - 1 - i) (B - 1 - j)) (fun a b => a < i ∨ a = i ∧ b < j) o ∧ Chg (fun k => ∃ q, q < A ∧ k = bs q) w2 wq, fun t7 _ => B - (intOf t7).toNat,
    ⟨0, o, by omega, rfl, hor, hfi.mono fun a b _ _ h => by omega, hch⟩, ?_⟩
  rintro _ _ wq ⟨j, o2, hj, rfl, hoq, hfj, hcq⟩
  have hbq := hcq.at hb2 nb
  obtain ⟨d0, d1, d2⟩ := box3 hbq
  have hkq : Kp w wq := Kp.of_chg (Kp.trans hk k2) hcq fun k ⟨q, hq, e⟩ => by have := hbs' q hq; omega
  by_cases hjl : j < B
  case neg =>
    have hjl' : ¬ (j : Int) < (B : Int) := by omega
    simp (disch := omega) only [r_ln, r_pick, r_pickT, r_pickF, r_condT, r_condF, r_gdTT, r_gdFF, r_gdTF, r_gdFT, r_gqTT, r_gqFF, r_gqTF, r_gqFT, r_not, r_lss, r_leq, r_gtr, r_geq, r_eql, r_neq, r_add, r_sub, r_min2, r_max2, r_min3, r_max3, r_fa, r_iaS, r_iaA, r_ex2a, r_ex2b, r_ex3a, r_ex3b, r_ex3c, r_nc, r_keepE, Nat.zero_add, Nat.add_zero, Nat.mul_one, Int.toNat_natCast, toNat_sub1, toNat_add1, decide_true, decide_false, Bool.not_true, Bool.not_false, if_true, if_false, Bool.false_eq_true, reduceCtorEq, r_ld d1, hjl']
    exact ⟨⟨i + 1, o2, by omega, by go_num, hoq, hfj.mono fun a b _ hb h => by omega, hcq⟩, by simp only [intOf]; omega⟩
  have hjl' : (j : Int) < (B : Int) := by omega
  simp (disch := omega) only [r_ln, r_pick, r_pickT, r_pickF, r_condT, r_condF, r_gdTT, r_gdFF, r_gdTF, r_gdFT, r_gqTT, r_gqFF, r_gqTF, r_gqFT, r_not, r_lss, r_leq, r_gtr, r_geq, r_eql, r_neq, r_add, r_sub, r_min2, r_max2, r_min3, r_max3, r_fa, r_iaS, r_iaA, r_ex2a, r_ex2b, r_ex3a, r_ex3b, r_ex3c, r_nc, r_keepE, Nat.zero_add, Nat.add_zero, Nat.mul_one, Int.toNat_natCast, toNat_sub1, toNat_add1, decide_true, decide_false, Bool.not_true, Bool.not_false, if_true, if_false, Bool.false_eq_true, reduceCtorEq, r_ld d1, hjl']
  refine r_drew fun wx kx _ => ?_
  have hox := hoq.kp kx
  have hl2 := hfj.sized.1
  have hrl2 := hfj.sized.2 i hlt
  obtain ⟨cap, c, hvo, hgc, hslot⟩ := hox.slot (i := i) (by omega)
  obtain ⟨f0, f1, f2⟩ := box3 (block_below hbq kx)
  have hrx := hr.below (Kp.trans hkq kx)
  have hl := hs.1
  have hlr := hs.2 (A - 1 - i) (by omega)
  obtain ⟨sb, so, sc, rv, hv2, hc, hrow⟩ := hrx.row (i := A - 1 - i) (by omega)
  obtain ⟨rb, ro, rcap, rfl, hx⟩ := hrow.at (j := B - 1 - j) (by omega)
  have e1 : ((A : Int) - 1 - i).toNat = A - 1 - i := by omega
  have e2 : ((B : Int) - 1 - j).toNat = B - 1 - j := by omega
  have p1 := hh.pos (A - 1 - i) (B - 1 - j) (by omega) (by omega)
  have p2 := hh.top (A - 1 - i) (B - 1 - j) (by omega) (by omega)
  unfold hat at p1 p2
  obtain ⟨hxs, hfz⟩ := hslot j (by omega)
  rw [hvo, hv2]
  simp (disch := omega) only [r_ln, r_pick, r_pickT, r_pickF, r_condT, r_condF, r_gdTT, r_gdFF, r_gdTF, r_gdFT, r_gqTT, r_gqFF, r_gqTF, r_gqFT, r_not, r_lss, r_leq, r_gtr, r_geq, r_eql, r_neq, r_add, r_sub, r_min2, r_max2, r_min3, r_max3, r_fa, r_iaS, r_iaA, r_ex2a, r_ex2b, r_ex3a, r_ex3b, r_ex3c, r_nc, r_keepE, Nat.zero_add, Nat.add_zero, Nat.mul_one, Int.toNat_natCast, toNat_sub1, toNat_add1, decide_true, decide_false, Bool.not_true, Bool.not_false, if_true, if_false, Bool.false_eq_true, reduceCtorEq, r_ld hgc, r_ld f0, r_ld f1, r_ld f2, e1, e2, r_ld hc, r_ld hx]
  rw [st3 hxs hfz]
  have hset := hox.set (i := i) (j := j) (by omega) (by omega) ((C : Int) - hat h (A - 1 - i) (B - 1 - j))
  rw [hvo] at hset
  exact ⟨⟨j + 1, _, by omega, by go_num, hset, hfj.put hlt hjl fun a b h => by omega, (hcq.trans (Chg.of_kp kx)).trans (Chg.setCell _ _ ⟨i, hlt, rfl⟩)⟩, by simp only [intOf]; omega⟩

set_option maxRecDepth 100000 in
theorem reftrans_calls {A B C : Nat} {h : List (List Int)} (hh : IsHeap A B C h) (hA : 1 ≤ A ∧ A ≤ 4) (hB : 1 ≤ B ∧ B ≤ 4) (hC : 1 ≤ C ∧ C ≤ 4) (v : Value) (w : World) (hr : RdRows w v h) :
    Calls Try.prog 50 #[boxV A B C, v] w fun e w' => ∃ v', e = .returned v' ∧ Kp w w' ∧ NewRows w w' v' (transM A B h) := by
  have hs := sized_of hh
  refine lift50 ?_
  unfold S50
  refine r_box fun b w1 hbw hsz hb hk => ?_
  obtain ⟨z0, z1, z2⟩ := box3 hb
  simp only [r_ln, r_pick, r_pickT, r_pickF, r_condT, r_condF, r_gdTT, r_gdFF, r_gdTF, r_gdFT, r_gqTT, r_gqFF, r_gqTF, r_gqFT, r_not, r_lss, r_leq, r_gtr, r_geq, r_eql, r_neq, r_add, r_sub, r_min2, r_max2, r_min3, r_max3, r_fa, r_iaS, r_iaA, r_ex2a, r_ex2b, r_ex3a, r_ex3b, r_ex3c, r_nc, r_keepE, Nat.zero_add, Nat.add_zero, Nat.mul_one, Int.toNat_natCast, toNat_sub1, toNat_add1, decide_true, decide_false, Bool.not_true, Bool.not_false, if_true, if_false, Bool.false_eq_true, reduceCtorEq, r_ld z0, r_ld z1, r_ld z2, bd25']
  refine r_use fok66 (empty_calls B A C w1 (by omega) (by omega) (by omega)) rfl ?_
  rintro _ w2 ⟨vo, rfl, k2, g, bs, ho, hg, hbs⟩
  refine ⟨_, rfl, ?_⟩
  have hb2 := block_below hb k2
  have hbs' : ∀ i, i < B → w1.heap.size ≤ bs i := fun i hi => hbs i (by simpa using hi)
  have hblt := block_lt hb
  have hks := hk.size
  obtain ⟨va, vc, hv, _⟩ := hr.len
  refine ⟨fun t6 wr => ∃ (i : Nat) (o : List (List Int)), i ≤ A ∧ t6 = .int .i64 i ∧ OwnRows wr vo g bs o ∧ Filled B A (fun j i => hat h i j) (fun _ a => a < i) o ∧ Chg (fun k => ∃ q, q < B ∧ k = bs q) w2 wr, fun t6 _ => A - (intOf t6).toNat,
    ⟨0, zeros B A, by omega, rfl, ho, ⟨zeros_sized B A, fun _ _ _ _ h => absurd h (by omega)⟩, Chg.refl _ _⟩, ?_⟩
  rintro _ _ wr ⟨i, o, hi, rfl, hor, hfi, hch⟩
  have nb : ¬ ∃ q, q < B ∧ b = bs q := fun ⟨q, hq, e⟩ => by have := hbs' q hq; omega
  obtain ⟨c0, c1, c2⟩ := box3 (hch.at hb2 nb)
  have hkr : Kp w wr := Kp.of_chg (Kp.trans hk k2) hch fun k ⟨q, hq, e⟩ => by have := hbs' q hq; omega
  by_cases hlt : i < A
  case neg =>
    have hlt' : ¬ (i : Int) < (A : Int) := by omega
    simp (disch := omega) only [r_ln, r_pick, r_pickT, r_pickF, r_condT, r_condF, r_gdTT, r_gdFF, r_gdTF, r_gdFT, r_gqTT, r_gqFF, r_gqTF, r_gqFT, r_not, r_lss, r_leq, r_gtr, r_geq, r_eql, r_neq, r_add, r_sub, r_min2, r_max2, r_min3, r_max3, r_fa, r_iaS, r_iaA, r_ex2a, r_ex2b, r_ex3a, r_ex3b, r_ex3c, r_nc, r_keepE, Nat.zero_add, Nat.add_zero, Nat.mul_one, Int.toNat_natCast, toNat_sub1, toNat_add1, decide_true, decide_false, Bool.not_true, Bool.not_false, if_true, if_false, Bool.false_eq_true, reduceCtorEq, r_ld c0, hlt']
    have e := hfi.all fun a b ha _ => by omega
    subst e
    exact ⟨vo, rfl, hkr, new_of hor (by omega) (fun q hq => hbs' q (by simpa [transM, tabM] using hq)) (by omega)⟩
  have hlt' : (i : Int) < (A : Int) := by omega
  simp (disch := omega) only [r_ln, r_pick, r_pickT, r_pickF, r_condT, r_condF, r_gdTT, r_gdFF, r_gdTF, r_gdFT, r_gqTT, r_gqFF, r_gqTF, r_gqFT, r_not, r_lss, r_leq, r_gtr, r_geq, r_eql, r_neq, r_add, r_sub, r_min2, r_max2, r_min3, r_max3, r_fa, r_iaS, r_iaA, r_ex2a, r_ex2b, r_ex3a, r_ex3b, r_ex3c, r_nc, r_keepE, Nat.zero_add, Nat.add_zero, Nat.mul_one, Int.toNat_natCast, toNat_sub1, toNat_add1, decide_true, decide_false, Bool.not_true, Bool.not_false, if_true, if_false, Bool.false_eq_true, reduceCtorEq, r_ld c0, hlt']
  refine ⟨fun t7 wq => ∃ (j : Nat) (o : List (List Int)), j ≤ B ∧ t7 = .int .i64 j ∧ OwnRows wq vo g bs o ∧ Filled B A (fun j i => hat h i j) (fun b a => a < i ∨ a = i ∧ b < j) o ∧ Chg (fun k => ∃ q, q < B ∧ k = bs q) w2 wq, fun t7 _ => B - (intOf t7).toNat,
    ⟨0, o, by omega, rfl, hor, hfi.mono fun a b _ _ h => by omega, hch⟩, ?_⟩
  rintro _ _ wq ⟨j, o2, hj, rfl, hoq, hfj, hcq⟩
  have hbq := hcq.at hb2 nb
  obtain ⟨d0, d1, d2⟩ := box3 hbq
  have hkq : Kp w wq := Kp.of_chg (Kp.trans hk k2) hcq fun k ⟨q, hq, e⟩ => by have := hbs' q hq; omega
  by_cases hjl : j < B
  case neg =>
    have hjl' : ¬ (j : Int) < (B : Int) := by omega
    simp (disch := omega) only [r_ln, r_pick, r_pickT, r_pickF, r_condT, r_condF, r_gdTT, r_gdFF, r_gdTF, r_gdFT, r_gqTT, r_gqFF, r_gqTF, r_gqFT, r_not, r_lss, r_leq, r_gtr, r_geq, r_eql, r_neq, r_add, r_sub, r_min2, r_max2, r_min3, r_max3, r_fa, r_iaS, r_iaA, r_ex2a, r_ex2b, r_ex3a, r_ex3b, r_ex3c, r_nc, r_keepE, Nat.zero_add, Nat.add_zero, Nat.mul_one, Int.toNat_natCast, toNat_sub1, toNat_add1, decide_true, decide_false, Bool.not_true, Bool.not_false, if_true, if_false, Bool.false_eq_true, reduceCtorEq, r_ld d1, hjl']
    exact ⟨⟨i + 1, o2, by omega, by go_num, hoq, hfj.mono fun a b _ hb h => by omega, hcq⟩, by simp only [intOf]; omega⟩
  have hjl' : (j : Int) < (B : Int) := by omega
  simp (disch := omega) only [r_ln, r_pick, r_pickT, r_pickF, r_condT, r_condF, r_gdTT, r_gdFF, r_gdTF, r_gdFT, r_gqTT, r_gqFF, r_gqTF, r_gqFT, r_not, r_lss, r_leq, r_gtr, r_geq, r_eql, r_neq, r_add, r_sub, r_min2, r_max2, r_min3, r_max3, r_fa, r_iaS, r_iaA, r_ex2a, r_ex2b, r_ex3a, r_ex3b, r_ex3c, r_nc, r_keepE, Nat.zero_add, Nat.add_zero, Nat.mul_one, Int.toNat_natCast, toNat_sub1, toNat_add1, decide_true, decide_false, Bool.not_true, Bool.not_false, if_true, if_false, Bool.false_eq_true, reduceCtorEq, r_ld d1, hjl']
  refine r_drew fun wx kx _ => ?_
  have hox := hoq.kp kx
  have hl2 := hfj.sized.1
  have hrl2 := hfj.sized.2 j hjl
  obtain ⟨cap, c, hvo, hgc, hslot⟩ := hox.slot (i := j) (by omega)
  have hrx := hr.below (Kp.trans hkq kx)
  have hl := hs.1
  have hlr := hs.2 i (by omega)
  obtain ⟨sb, so, sc, rv, hv2, hc, hrow⟩ := hrx.row (i := i) (by omega)
  obtain ⟨rb, ro, rcap, rfl, hx⟩ := hrow.at (j := j) (by omega)
  obtain ⟨hxs, hfz⟩ := hslot i (by omega)
  rw [hvo, hv2]
  simp (disch := omega) only [r_ln, r_pick, r_pickT, r_pickF, r_condT, r_condF, r_gdTT, r_gdFF, r_gdTF, r_gdFT, r_gqTT, r_gqFF, r_gqTF, r_gqFT, r_not, r_lss, r_leq, r_gtr, r_geq, r_eql, r_neq, r_add, r_sub, r_min2, r_max2, r_min3, r_max3, r_fa, r_iaS, r_iaA, r_ex2a, r_ex2b, r_ex3a, r_ex3b, r_ex3c, r_nc, r_keepE, Nat.zero_add, Nat.add_zero, Nat.mul_one, Int.toNat_natCast, toNat_sub1, toNat_add1, decide_true, decide_false, Bool.not_true, Bool.not_false, if_true, if_false, Bool.false_eq_true, reduceCtorEq, r_ld hgc, r_ld hc, r_ld hx]
  rw [st3 hxs hfz]
  have hset := hox.set (i := j) (j := i) (by omega) (by omega) (hat h i j)
  rw [hvo] at hset
  exact ⟨⟨j + 1, _, by omega, by go_num, hset, hfj.put (F := fun j i => hat h i j) hjl hlt fun a b h => by omega, (hcq.trans (Chg.of_kp kx)).trans (Chg.setCell _ _ ⟨j, hjl, rfl⟩)⟩, by simp only [intOf]; omega⟩

set_option maxRecDepth 100000 in
theorem above_calls (v : Value) (l : List Int) (k : Int) (w : World) (h : RdInts w v l) : Calls Try.prog 82 #[v, .int .i64 k] w fun e w' => e = .returned (.int .i64 (cnt l k : Nat)) ∧ w = w' := by
  obtain ⟨a, cap, rfl, hlen⟩ := h.len
  refine lift82 ?_
  unfold S82
  refine ⟨fun t5 t10 wr => ∃ j : Nat, j ≤ l.length ∧ t10 = .int .i64 j ∧ t5 = .int .i64 (cnt (l.take j) k : Nat) ∧ w = wr, fun _ t10 _ => l.length - (intOf t10).toNat, ⟨0, by omega, rfl, rfl, rfl⟩, ?_⟩
  rintro _ _ _ _ ⟨j, hj, rfl, rfl, rfl⟩
  by_cases hlt : j < l.length
  case neg =>
    have hlt' : ¬ (j : Int) < (l.length : Int) := by omega
    have e : j = l.length := by omega
    subst e
    simp (disch := omega) only [r_ln, r_pick, r_pickT, r_pickF, r_condT, r_condF, r_gdTT, r_gdFF, r_gdTF, r_gdFT, r_gqTT, r_gqFF, r_gqTF, r_gqFT, r_not, r_lss, r_leq, r_gtr, r_geq, r_eql, r_neq, r_add, r_sub, r_min2, r_max2, r_min3, r_max3, r_fa, r_iaS, r_iaA, r_ex2a, r_ex2b, r_ex3a, r_ex3b, r_ex3c, r_nc, r_keepE, Nat.zero_add, Nat.add_zero, Nat.mul_one, Int.toNat_natCast, toNat_sub1, toNat_add1, decide_true, decide_false, Bool.not_true, Bool.not_false, if_true, if_false, Bool.false_eq_true, reduceCtorEq, hlt', List.take_length]
    exact ⟨trivial, trivial⟩
  have hlt' : (j : Int) < (l.length : Int) := by omega
  obtain ⟨b, off, _, e1, hc⟩ := h.at hlt
  cases e1
  have hle := cnt_le (l.take j) k
  rw [List.length_take] at hle
  have hst := cnt_step k l j hlt
  simp (disch := omega) only [r_ln, r_pick, r_pickT, r_pickF, r_condT, r_condF, r_gdTT, r_gdFF, r_gdTF, r_gdFT, r_gqTT, r_gqFF, r_gqTF, r_gqFT, r_not, r_lss, r_leq, r_gtr, r_geq, r_eql, r_neq, r_add, r_sub, r_min2, r_max2, r_min3, r_max3, r_fa, r_iaS, r_iaA, r_ex2a, r_ex2b, r_ex3a, r_ex3b, r_ex3c, r_nc, r_keepE, Nat.zero_add, Nat.add_zero, Nat.mul_one, Int.toNat_natCast, toNat_sub1, toNat_add1, decide_true, decide_false, Bool.not_true, Bool.not_false, if_true, if_false, Bool.false_eq_true, reduceCtorEq, hlt', r_ld hc]
  refine r_join1 (fun t5 w' => t5 = .int .i64 (cnt (l.take (j + 1)) k : Nat) ∧ w = w') ?_ ?_
  · rintro _ _ ⟨rfl, rfl⟩
    simp (disch := omega) only [r_ln, r_pick, r_pickT, r_pickF, r_condT, r_condF, r_gdTT, r_gdFF, r_gdTF, r_gdFT, r_gqTT, r_gqFF, r_gqTF, r_gqFT, r_not, r_lss, r_leq, r_gtr, r_geq, r_eql, r_neq, r_add, r_sub, r_min2, r_max2, r_min3, r_max3, r_fa, r_iaS, r_iaA, r_ex2a, r_ex2b, r_ex3a, r_ex3b, r_ex3c, r_nc, r_keepE, Nat.zero_add, Nat.add_zero, Nat.mul_one, Int.toNat_natCast, toNat_sub1, toNat_add1, decide_true, decide_false, Bool.not_true, Bool.not_false, if_true, if_false, Bool.false_eq_true, reduceCtorEq]
    exact ⟨⟨j + 1, by omega, by go_num, rfl, trivial⟩, by simp only [intOf]; omega⟩
  · intro kk hkk
    by_cases hx : k < l.getD j 0
    · simp (disch := omega) only [r_ln, r_pick, r_pickT, r_pickF, r_condT, r_condF, r_gdTT, r_gdFF, r_gdTF, r_gdFT, r_gqTT, r_gqFF, r_gqTF, r_gqFT, r_not, r_lss, r_leq, r_gtr, r_geq, r_eql, r_neq, r_add, r_sub, r_min2, r_max2, r_min3, r_max3, r_fa, r_iaS, r_iaA, r_ex2a, r_ex2b, r_ex3a, r_ex3b, r_ex3c, r_nc, r_keepE, Nat.zero_add, Nat.add_zero, Nat.mul_one, Int.toNat_natCast, toNat_sub1, toNat_add1, decide_true, decide_false, Bool.not_true, Bool.not_false, if_true, if_false, Bool.false_eq_true, reduceCtorEq, hx]
      rw [if_pos hx] at hst
      exact hkk _ _ ⟨by rw [hst]; go_num, rfl⟩
    · simp (disch := omega) only [r_ln, r_pick, r_pickT, r_pickF, r_condT, r_condF, r_gdTT, r_gdFF, r_gdTF, r_gdFT, r_gqTT, r_gqFF, r_gqTF, r_gqFT, r_not, r_lss, r_leq, r_gtr, r_geq, r_eql, r_neq, r_add, r_sub, r_min2, r_max2, r_min3, r_max3, r_fa, r_iaS, r_iaA, r_ex2a, r_ex2b, r_ex3a, r_ex3b, r_ex3c, r_nc, r_keepE, Nat.zero_add, Nat.add_zero, Nat.mul_one, Int.toNat_natCast, toNat_sub1, toNat_add1, decide_true, decide_false, Bool.not_true, Bool.not_false, if_true, if_false, Bool.false_eq_true, reduceCtorEq, hx]
      rw [if_neg hx] at hst
      exact hkk _ _ ⟨by rw [hst]; rfl, rfl⟩

set_option maxRecDepth 100000 in
theorem refturn_calls {A B C : Nat} {h : List (List Int)} (hh : IsHeap A B C h) (hA : 1 ≤ A ∧ A ≤ 4) (hB : 1 ≤ B ∧ B ≤ 4) (hC : 1 ≤ C ∧ C ≤ 4) (v : Value) (w : World) (hr : RdRows w v h) :
    Calls Try.prog 51 #[boxV A B C, v] w fun e w' => ∃ v', e = .returned v' ∧ Kp w w' ∧ NewRows w w' v' (turnM A C h) := by
  have hs := sized_of hh
  refine lift51 ?_
  unfold S51
  refine r_box fun b w1 hbw hsz hb hk => ?_
  obtain ⟨z0, z1, z2⟩ := box3 hb
  simp only [r_ln, r_pick, r_pickT, r_pickF, r_condT, r_condF, r_gdTT, r_gdFF, r_gdTF, r_gdFT, r_gqTT, r_gqFF, r_gqTF, r_gqFT, r_not, r_lss, r_leq, r_gtr, r_geq, r_eql, r_neq, r_add, r_sub, r_min2, r_max2, r_min3, r_max3, r_fa, r_iaS, r_iaA, r_ex2a, r_ex2b, r_ex3a, r_ex3b, r_ex3c, r_nc, r_keepE, Nat.zero_add, Nat.add_zero, Nat.mul_one, Int.toNat_natCast, toNat_sub1, toNat_add1, decide_true, decide_false, Bool.not_true, Bool.not_false, if_true, if_false, Bool.false_eq_true, reduceCtorEq, r_ld z0, r_ld z1, r_ld z2, bd25']
  refine r_use fok66 (empty_calls C A B w1 (by omega) (by omega) (by omega)) rfl ?_
  rintro _ w2 ⟨vo, rfl, k2, g, bs, ho, hg, hbs⟩
  refine ⟨_, rfl, ?_⟩
  have hb2 := block_below hb k2
  have hbs' : ∀ i, i < C → w1.heap.size ≤ bs i := fun i hi => hbs i (by simpa using hi)
  have hblt := block_lt hb
  have hks := hk.size
  obtain ⟨va, vc, hv, _⟩ := hr.len
  refine ⟨fun t6 wr => ∃ (i : Nat) (o : List (List Int)), i ≤ C ∧ t6 = .int .i64 i ∧ OwnRows wr vo g bs o ∧ Filled C A (fun k i => (cnt (h.getD i []) k : Nat)) (fun a _ => a < i) o ∧ Chg (fun k => ∃ q, q < C ∧ k = bs q) w2 wr, fun t6 _ => C - (intOf t6).toNat,
    ⟨0, zeros C A, by omega, rfl, ho, ⟨zeros_sized C A, fun _ _ _ _ h => absurd h (by omega)⟩, Chg.refl _ _⟩, ?_⟩
  rintro _ _ wr ⟨i, o, hi, rfl, hor, hfi, hch⟩
  have nb : ¬ ∃ q, q < C ∧ b = bs q := fun ⟨q, hq, e⟩ => by have := hbs' q hq; omega
  obtain ⟨c0, c1, c2⟩ := box3 (hch.at hb2 nb)
  have hkr : Kp w wr := Kp.of_chg (Kp.trans hk k2) hch fun k ⟨q, hq, e⟩ => by have := hbs' q hq; omega
  by_cases hlt : i < C
  case neg =>
    have hlt' : ¬ (i : Int) < (C : Int) := by omega
    simp (disch := omega) only [r_ln, r_pick, r_pickT, r_pickF, r_condT, r_condF, r_gdTT, r_gdFF, r_gdTF, r_gdFT, r_gqTT, r_gqFF, r_gqTF, r_gqFT, r_not, r_lss, r_leq, r_gtr, r_geq, r_eql, r_neq, r_add, r_sub, r_min2, r_max2, r_min3, r_max3, r_fa, r_iaS, r_iaA, r_ex2a, r_ex2b, r_ex3a, r_ex3b, r_ex3c, r_nc, r_keepE, Nat.zero_add, Nat.add_zero, Nat.mul_one, Int.toNat_natCast, toNat_sub1, toNat_add1, decide_true, decide_false, Bool.not_true, Bool.not_false, if_true, if_false, Bool.false_eq_true, reduceCtorEq, r_ld c2, hlt']
    have e := hfi.all fun a b ha _ => by omega
    subst e
    exact ⟨vo, rfl, hkr, new_of hor (by omega) (fun q hq => hbs' q (by simpa [turnM, tabM] using hq)) (by omega)⟩
  have hlt' : (i : Int) < (C : Int) := by omega
  simp (disch := omega) only [r_ln, r_pick, r_pickT, r_pickF, r_condT, r_condF, r_gdTT, r_gdFF, r_gdTF, r_gdFT, r_gqTT, r_gqFF, r_gqTF, r_gqFT, r_not, r_lss, r_leq, r_gtr, r_geq, r_eql, r_neq, r_add, r_sub, r_min2, r_max2, r_min3, r_max3, r_fa, r_iaS, r_iaA, r_ex2a, r_ex2b, r_ex3a, r_ex3b, r_ex3c, r_nc, r_keepE, Nat.zero_add, Nat.add_zero, Nat.mul_one, Int.toNat_natCast, toNat_sub1, toNat_add1, decide_true, decide_false, Bool.not_true, Bool.not_false, if_true, if_false, Bool.false_eq_true, reduceCtorEq, r_ld c2, hlt']
  refine ⟨fun t7 wq => ∃ (j : Nat) (o : List (List Int)), j ≤ A ∧ t7 = .int .i64 j ∧ OwnRows wq vo g bs o ∧ Filled C A (fun k i => (cnt (h.getD i []) k : Nat)) (fun a b => a < i ∨ a = i ∧ b < j) o ∧ Chg (fun k => ∃ q, q < C ∧ k = bs q) w2 wq, fun t7 _ => A - (intOf t7).toNat,
    ⟨0, o, by omega, rfl, hor, hfi.mono fun a b _ _ h => by omega, hch⟩, ?_⟩
  rintro _ _ wq ⟨j, o2, hj, rfl, hoq, hfj, hcq⟩
  have hbq := hcq.at hb2 nb
  obtain ⟨d0, d1, d2⟩ := box3 hbq
  have hkq : Kp w wq := Kp.of_chg (Kp.trans hk k2) hcq fun k ⟨q, hq, e⟩ => by have := hbs' q hq; omega
  by_cases hjl : j < A
  case neg =>
    have hjl' : ¬ (j : Int) < (A : Int) := by omega
    simp (disch := omega) only [r_ln, r_pick, r_pickT, r_pickF, r_condT, r_condF, r_gdTT, r_gdFF, r_gdTF, r_gdFT, r_gqTT, r_gqFF, r_gqTF, r_gqFT, r_not, r_lss, r_leq, r_gtr, r_geq, r_eql, r_neq, r_add, r_sub, r_min2, r_max2, r_min3, r_max3, r_fa, r_iaS, r_iaA, r_ex2a, r_ex2b, r_ex3a, r_ex3b, r_ex3c, r_nc, r_keepE, Nat.zero_add, Nat.add_zero, Nat.mul_one, Int.toNat_natCast, toNat_sub1, toNat_add1, decide_true, decide_false, Bool.not_true, Bool.not_false, if_true, if_false, Bool.false_eq_true, reduceCtorEq, r_ld d0, hjl']
    exact ⟨⟨i + 1, o2, by omega, by go_num, hoq, hfj.mono fun a b _ hb h => by omega, hcq⟩, by simp only [intOf]; omega⟩
  have hjl' : (j : Int) < (A : Int) := by omega
  simp (disch := omega) only [r_ln, r_pick, r_pickT, r_pickF, r_condT, r_condF, r_gdTT, r_gdFF, r_gdTF, r_gdFT, r_gqTT, r_gqFF, r_gqTF, r_gqFT, r_not, r_lss, r_leq, r_gtr, r_geq, r_eql, r_neq, r_add, r_sub, r_min2, r_max2, r_min3, r_max3, r_fa, r_iaS, r_iaA, r_ex2a, r_ex2b, r_ex3a, r_ex3b, r_ex3c, r_nc, r_keepE, Nat.zero_add, Nat.add_zero, Nat.mul_one, Int.toNat_natCast, toNat_sub1, toNat_add1, decide_true, decide_false, Bool.not_true, Bool.not_false, if_true, if_false, Bool.false_eq_true, reduceCtorEq, r_ld d0, hjl']
  refine r_drew fun wx kx _ => ?_
  have hox := hoq.kp kx
  have hl2 := hfj.sized.1
  have hrl2 := hfj.sized.2 i hlt
  obtain ⟨cap, c, hvo, hgc, hslot⟩ := hox.slot (i := i) (by omega)
  have hrx := hr.below (Kp.trans hkq kx)
  have hl := hs.1
  obtain ⟨sb, so, sc, rv, hv2, hc, hrow⟩ := hrx.row (i := j) (by omega)
  obtain ⟨hxs, hfz⟩ := hslot j (by omega)
  rw [hvo, hv2]
  simp (disch := omega) only [r_ln, r_pick, r_pickT, r_pickF, r_condT, r_condF, r_gdTT, r_gdFF, r_gdTF, r_gdFT, r_gqTT, r_gqFF, r_gqTF, r_gqFT, r_not, r_lss, r_leq, r_gtr, r_geq, r_eql, r_neq, r_add, r_sub, r_min2, r_max2, r_min3, r_max3, r_fa, r_iaS, r_iaA, r_ex2a, r_ex2b, r_ex3a, r_ex3b, r_ex3c, r_nc, r_keepE, Nat.zero_add, Nat.add_zero, Nat.mul_one, Int.toNat_natCast, toNat_sub1, toNat_add1, decide_true, decide_false, Bool.not_true, Bool.not_false, if_true, if_false, Bool.false_eq_true, reduceCtorEq, r_ld hgc, r_ld hc]
  refine r_use fok82 (above_calls rv _ i wx hrow) rfl ?_
  rintro _ _ ⟨rfl, rfl⟩
  refine ⟨_, rfl, Below.refl _ _, ?_⟩
  simp (disch := omega) only [r_ln, r_pick, r_pickT, r_pickF, r_condT, r_condF, r_gdTT, r_gdFF, r_gdTF, r_gdFT, r_gqTT, r_gqFF, r_gqTF, r_gqFT, r_not, r_lss, r_leq, r_gtr, r_geq, r_eql, r_neq, r_add, r_sub, r_min2, r_max2, r_min3, r_max3, r_fa, r_iaS, r_iaA, r_ex2a, r_ex2b, r_ex3a, r_ex3b, r_ex3c, r_nc, r_keepE, Nat.zero_add, Nat.add_zero, Nat.mul_one, Int.toNat_natCast, toNat_sub1, toNat_add1, decide_true, decide_false, Bool.not_true, Bool.not_false, if_true, if_false, Bool.false_eq_true, reduceCtorEq]
  rw [st3 hxs hfz]
  have hset := hox.set (i := i) (j := j) (by omega) (by omega) ((cnt (h.getD j []) i : Nat) : Int)
  rw [hvo] at hset
  exact ⟨⟨j + 1, _, by omega, by go_num, hset, hfj.put (F := fun k i => ((cnt (h.getD i []) k : Nat) : Int)) hlt hjl fun a b h => by omega, (hcq.trans (Chg.of_kp kx)).trans (Chg.setCell _ _ ⟨i, hlt, rfl⟩)⟩, by simp only [intOf]; omega⟩

/-- A heap turned by one of the symmetries. -/
def chM (A B C : Nat) (h : List (List Int)) (how : Int) : List (List Int) :=
  if how = 1 then compM A B C h else if how = 2 then transM A B h else if how = 3 then turnM A C h else if how = 4 then compM B A C (transM A B h) else h

set_option maxRecDepth 100000 in
theorem changedR_calls {A B C : Nat} {h : List (List Int)} (hh : IsHeap A B C h) (hA : 1 ≤ A ∧ A ≤ 4) (hB : 1 ≤ B ∧ B ≤ 4) (hC : 1 ≤ C ∧ C ≤ 4) (v : Value) (how : Int) (w : World) (hr : RdRows w v h) :
    Calls Try.prog 16 #[boxV A B C, v, .int .i64 how] w fun e w' => ∃ v', e = .returned v' ∧ Kp w w' ∧ RdRows w' v' (chM A B C h how) := by
  refine lift16 ?_
  unfold S16
  refine r_box fun b w1 hbw hsz hb hk => ?_
  have hr1 := hr.below hk
  by_cases h1 : how = 1
  · subst h1
    simp (disch := omega) only [r_ln, r_pick, r_pickT, r_pickF, r_condT, r_condF, r_gdTT, r_gdFF, r_gdTF, r_gdFT, r_gqTT, r_gqFF, r_gqTF, r_gqFT, r_not, r_lss, r_leq, r_gtr, r_geq, r_eql, r_neq, r_add, r_sub, r_min2, r_max2, r_min3, r_max3, r_fa, r_iaS, r_iaA, r_ex2a, r_ex2b, r_ex3a, r_ex3b, r_ex3c, r_nc, r_keepE, Nat.zero_add, Nat.add_zero, Nat.mul_one, Int.toNat_natCast, toNat_sub1, toNat_add1, decide_true, decide_false, Bool.not_true, Bool.not_false, if_true, if_false, Bool.false_eq_true, reduceCtorEq, r_ldRow (n := 3) hb rfl]
    refine r_use fok49 (refcomp_calls hh hA hB hC v w1 hr1) rfl ?_
    rintro _ w2 ⟨v', rfl, k2, hn⟩
    exact ⟨_, rfl, v', rfl, Kp.trans hk k2, by simp only [chM, if_true]; exact hn.rd⟩
  by_cases h2 : how = 2
  · subst h2
    simp (disch := omega) only [r_ln, r_pick, r_pickT, r_pickF, r_condT, r_condF, r_gdTT, r_gdFF, r_gdTF, r_gdFT, r_gqTT, r_gqFF, r_gqTF, r_gqFT, r_not, r_lss, r_leq, r_gtr, r_geq, r_eql, r_neq, r_add, r_sub, r_min2, r_max2, r_min3, r_max3, r_fa, r_iaS, r_iaA, r_ex2a, r_ex2b, r_ex3a, r_ex3b, r_ex3c, r_nc, r_keepE, Nat.zero_add, Nat.add_zero, Nat.mul_one, Int.toNat_natCast, toNat_sub1, toNat_add1, decide_true, decide_false, Bool.not_true, Bool.not_false, if_true, if_false, Bool.false_eq_true, reduceCtorEq, h1, r_ldRow (n := 3) hb rfl]
    refine r_use fok50 (reftrans_calls hh hA hB hC v w1 hr1) rfl ?_
    rintro _ w2 ⟨v', rfl, k2, hn⟩
    exact ⟨_, rfl, v', rfl, Kp.trans hk k2, by simp only [chM, if_true, if_neg h1]; exact hn.rd⟩
  by_cases h3 : how = 3
  · subst h3
    simp (disch := omega) only [r_ln, r_pick, r_pickT, r_pickF, r_condT, r_condF, r_gdTT, r_gdFF, r_gdTF, r_gdFT, r_gqTT, r_gqFF, r_gqTF, r_gqFT, r_not, r_lss, r_leq, r_gtr, r_geq, r_eql, r_neq, r_add, r_sub, r_min2, r_max2, r_min3, r_max3, r_fa, r_iaS, r_iaA, r_ex2a, r_ex2b, r_ex3a, r_ex3b, r_ex3c, r_nc, r_keepE, Nat.zero_add, Nat.add_zero, Nat.mul_one, Int.toNat_natCast, toNat_sub1, toNat_add1, decide_true, decide_false, Bool.not_true, Bool.not_false, if_true, if_false, Bool.false_eq_true, reduceCtorEq, h1, h2, r_ldRow (n := 3) hb rfl]
    refine r_use fok51 (refturn_calls hh hA hB hC v w1 hr1) rfl ?_
    rintro _ w2 ⟨v', rfl, k2, hn⟩
    exact ⟨_, rfl, v', rfl, Kp.trans hk k2, by simp only [chM, if_true, if_neg h1, if_neg h2]; exact hn.rd⟩
  by_cases h4 : how = 4
  · subst h4
    simp (disch := omega) only [r_ln, r_pick, r_pickT, r_pickF, r_condT, r_condF, r_gdTT, r_gdFF, r_gdTF, r_gdFT, r_gqTT, r_gqFF, r_gqTF, r_gqFT, r_not, r_lss, r_leq, r_gtr, r_geq, r_eql, r_neq, r_add, r_sub, r_min2, r_max2, r_min3, r_max3, r_fa, r_iaS, r_iaA, r_ex2a, r_ex2b, r_ex3a, r_ex3b, r_ex3c, r_nc, r_keepE, Nat.zero_add, Nat.add_zero, Nat.mul_one, Int.toNat_natCast, toNat_sub1, toNat_add1, decide_true, decide_false, Bool.not_true, Bool.not_false, if_true, if_false, Bool.false_eq_true, reduceCtorEq, h1, h2, h3]
    refine r_drew fun w2 k2 _ => ?_
    have hb2 := block_below hb k2
    obtain ⟨z0, z1, z2⟩ := box3 hb2
    simp only [r_ln, r_pick, r_pickT, r_pickF, r_condT, r_condF, r_gdTT, r_gdFF, r_gdTF, r_gdFT, r_gqTT, r_gqFF, r_gqTF, r_gqFT, r_not, r_lss, r_leq, r_gtr, r_geq, r_eql, r_neq, r_add, r_sub, r_min2, r_max2, r_min3, r_max3, r_fa, r_iaS, r_iaA, r_ex2a, r_ex2b, r_ex3a, r_ex3b, r_ex3c, r_nc, r_keepE, Nat.zero_add, Nat.add_zero, Nat.mul_one, Int.toNat_natCast, toNat_sub1, toNat_add1, decide_true, decide_false, Bool.not_true, Bool.not_false, if_true, if_false, Bool.false_eq_true, reduceCtorEq, r_ld z0, r_ld z1, r_ld z2, bd25', r_ldRow (n := 3) hb2 rfl]
    refine r_use fok50 (reftrans_calls hh hA hB hC v w2 (hr1.below k2)) rfl ?_
    rintro _ w3 ⟨v3, rfl, k3, hn3⟩
    refine ⟨_, rfl, k3, ?_⟩
    refine r_use fok49 (refcomp_calls (trans_heap hh) hB hA hC v3 w3 hn3.rd) rfl ?_
    rintro _ w4 ⟨v4, rfl, k4, hn4⟩
    exact ⟨_, rfl, v4, rfl, Kp.trans hk (Kp.trans k2 (Kp.trans k3 k4)), by simp only [chM, if_true, if_neg h1, if_neg h2, if_neg h3]; exact hn4.rd⟩
  simp (disch := omega) only [r_ln, r_pick, r_pickT, r_pickF, r_condT, r_condF, r_gdTT, r_gdFF, r_gdTF, r_gdFT, r_gqTT, r_gqFF, r_gqTF, r_gqFT, r_not, r_lss, r_leq, r_gtr, r_geq, r_eql, r_neq, r_add, r_sub, r_min2, r_max2, r_min3, r_max3, r_fa, r_iaS, r_iaA, r_ex2a, r_ex2b, r_ex3a, r_ex3b, r_ex3c, r_nc, r_keepE, Nat.zero_add, Nat.add_zero, Nat.mul_one, Int.toNat_natCast, toNat_sub1, toNat_add1, decide_true, decide_false, Bool.not_true, Bool.not_false, if_true, if_false, Bool.false_eq_true, reduceCtorEq, h1, h2, h3, h4]
  exact ⟨v, rfl, hk, by simp only [chM, if_neg h1, if_neg h2, if_neg h3, if_neg h4]; exact hr1⟩

end Go.Proofs.Ytaephdjmpmbfpaa
