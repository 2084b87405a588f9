/- Texts of my own, merged by program: E5 E6 O1. -/
import Derived.Test.YtgalbokmgffhkaaN13
import Derived.Test.YtgalbokmgffhkaaN09
import Derived.Test.YtgalbokmgffhkaaN00
set_option linter.all false
/- Contract: rowsFrom of the specification. -/
namespace Go.Proofs.Ytgalbokmgffhkaa
open Go.Lf Go.RowKit Go.Wg

theorem IRows.one {base : Nat} {w : World} {a : Option Addr} {n c : Nat} {r : List Int} (h : IntsAt base w (.slice a n c) r) (hb : base ≤ w.heap.size) : IRows base (w.alloc (.cells #[.slice a n c] 30)) (.slice (some ⟨w.heap.size, 0, none⟩) 1 1) [r] := by
  have o := rec_one (e := 30) (enc := vE) (x := .slice a n c) rfl w
  refine ⟨[.slice a n c], o.down hb, rfl, fun i u r' hu hr => ?_⟩
  match i with
  | 0 =>
    cases hu
    cases hr
    exact h.kp (below_alloc _)
  | i + 1 => simp at hu

theorem rfrom_step (l : List Tile) (nn : Option (List Int)) (k : Nat) (s : List Int) (e : Nat) : rfrom l nn (k + 1) s e = (List.range 8).flatMap fun c => if nextE nn s.length e c l = 0 then [] else rfrom l nn k (s ++ [(c : Int)]) (nextE nn s.length e c l) := rfl

set_option maxRecDepth 100000 in
theorem rfrom_calls {t0 t1 : Value} {l : List Tile} {nn : Option (List Int)} {W : Nat} (hcols : ∀ t ∈ l, colsB t = true) (hl : l.length ≤ 1000) (hnl : ∀ n, nn = some n → n.length = W) (hW : W ≤ 4) :
    ∀ (k : Nat) (w : World) (t3 : Value) (s : List Int) (e : Nat), s.length + k = W → RdT w t0 l → NIs w t1 nn → RdInts w t3 s → e < 256 →
      Calls Try.prog 95 #[t0, t1, .int .i64 W, t3, .int .i64 e] w fun r w' => ∃ v, r = .returned v ∧ Kp w w' ∧ IRows w.heap.size w' v (rfrom l nn k s e)
  | 0, w, t3, s, e, hk, hs, hn, hsv, he => by
    have hsv' := hsv
    obtain ⟨a3, c3, rfl, _, _⟩ := hsv.len
    refine lift95 ?_
    unfold S95
    have e1 : (s.length : Int) = (W : Int) := by omega
    simp (disch := omega) only [r_ln, r_pick, r_pickT, r_pickF, r_condT, r_condF, r_gdTT, r_gdFF, r_gdTF, r_gdFT, r_gqTT, r_gqFF, r_gqTF, r_gqFT, r_not, r_lss, r_leq, r_gtr, r_geq, r_eql, r_neq, r_add, r_sub, r_min2, r_max2, r_min3, r_max3, r_fa, r_iaS, r_iaA, r_ex2a, r_ex2b, r_ex3a, r_ex3b, r_ex3c, r_nc, r_keepE, Nat.zero_add, Nat.add_zero, Nat.mul_one, Int.toNat_natCast, toNat_sub1, toNat_add1, decide_true, decide_false, Bool.not_true, Bool.not_false, if_true, if_false, Bool.false_eq_true, reduceCtorEq, decide_eq_true e1]
    refine r_copyI hsv' (by omega) fun v2 w2 o2 k2 _ => ?_
    obtain ⟨a2, c2, rfl, _⟩ := o2.len
    rw [bs23]
    exact ⟨_, rfl, Kp.trans k2 (below_alloc _), IRows.one o2 k2.size⟩
  | k + 1, w, t3, s, e, hk, hs, hn, hsv, he => by
    have hsv' := hsv
    obtain ⟨a3, c3, rfl, _, _⟩ := hsv.len
    refine lift95 ?_
    unfold S95
    have e1 : ¬ (s.length : Int) = (W : Int) := by omega
    simp (disch := omega) only [r_ln, r_pick, r_pickT, r_pickF, r_condT, r_condF, r_gdTT, r_gdFF, r_gdTF, r_gdFT, r_gqTT, r_gqFF, r_gqTF, r_gqFT, r_not, r_lss, r_leq, r_gtr, r_geq, r_eql, r_neq, r_add, r_sub, r_min2, r_max2, r_min3, r_max3, r_fa, r_iaS, r_iaA, r_ex2a, r_ex2b, r_ex3a, r_ex3b, r_ex3c, r_nc, r_keepE, Nat.zero_add, Nat.add_zero, Nat.mul_one, Int.toNat_natCast, toNat_sub1, toNat_add1, decide_true, decide_false, Bool.not_true, Bool.not_false, if_true, if_false, Bool.false_eq_true, reduceCtorEq, e1]
    unfold S95L0
    have hWk : W - s.length - 1 = k := by omega
    refine ⟨fun t12 t13 wr => ∃ c : Nat, c ≤ 8 ∧ t13 = .int .i64 c ∧ IRows w.heap.size wr t12 ((List.range c).flatMap fun c => if nextE nn s.length e c l = 0 then [] else rfrom l nn k (s ++ [(c : Int)]) (nextE nn s.length e c l)) ∧ Kp w wr, fun _ t13 _ => 8 - (intOf t13).toNat, ⟨0, by omega, rfl, IRows.nil, Kp.refl _⟩, ?_⟩
    rintro _ t12 _ wr ⟨c, hc, rfl, hout, kr⟩
    by_cases hlt : c < 8
    case neg =>
      have hlt' : ¬ (c : Int) ≤ 7 := by omega
      have ec : c = 8 := by omega
      subst ec
      simp (disch := omega) only [r_ln, r_pick, r_pickT, r_pickF, r_condT, r_condF, r_gdTT, r_gdFF, r_gdTF, r_gdFT, r_gqTT, r_gqFF, r_gqTF, r_gqFT, r_not, r_lss, r_leq, r_gtr, r_geq, r_eql, r_neq, r_add, r_sub, r_min2, r_max2, r_min3, r_max3, r_fa, r_iaS, r_iaA, r_ex2a, r_ex2b, r_ex3a, r_ex3b, r_ex3c, r_nc, r_keepE, Nat.zero_add, Nat.add_zero, Nat.mul_one, Int.toNat_natCast, toNat_sub1, toNat_add1, decide_true, decide_false, Bool.not_true, Bool.not_false, if_true, if_false, Bool.false_eq_true, reduceCtorEq, hlt']
      exact ⟨_, rfl, kr, hout⟩
    have hlt' : (c : Int) ≤ 7 := by omega
    simp (disch := omega) only [r_ln, r_pick, r_pickT, r_pickF, r_condT, r_condF, r_gdTT, r_gdFF, r_gdTF, r_gdFT, r_gqTT, r_gqFF, r_gqTF, r_gqFT, r_not, r_lss, r_leq, r_gtr, r_geq, r_eql, r_neq, r_add, r_sub, r_min2, r_max2, r_min3, r_max3, r_fa, r_iaS, r_iaA, r_ex2a, r_ex2b, r_ex3a, r_ex3b, r_ex3c, r_nc, r_keepE, Nat.zero_add, Nat.add_zero, Nat.mul_one, Int.toNat_natCast, toNat_sub1, toNat_add1, decide_true, decide_false, Bool.not_true, Bool.not_false, if_true, if_false, Bool.false_eq_true, reduceCtorEq, decide_eq_true hlt']
    have hPl : ∀ n, ((List.range n).flatMap fun c => if nextE nn s.length e c l = 0 then [] else rfrom l nn k (s ++ [(c : Int)]) (nextE nn s.length e c l)).length ≤ n * 8 ^ k := fun n => by
      induction n with
      | zero => simp
      | succ n ih =>
        rw [List.range_succ, List.flatMap_append, List.length_append, Nat.add_mul, Nat.one_mul]
        simp only [List.flatMap_cons, List.flatMap_nil, List.append_nil]
        have : (if nextE nn s.length e n l = 0 then [] else rfrom l nn k (s ++ [(n : Int)]) (nextE nn s.length e n l)).length ≤ 8 ^ k := by
          split
          · simp
          · exact rfrom_len k _ _
        omega
    have h8 : 8 ^ k ≤ 4096 := Nat.le_trans (Nat.pow_le_pow_right (by omega) (show k ≤ 4 by omega)) (by decide)
    refine r95_1 (s := s) (e := e) hs hcols hl hn hnl hsv' (by omega) hW hlt hout ?_ kr (fun w' sv e' hsv2 k2 he2 => ?_) fun v' w' ho kk => ?_
    · rw [hWk]
      have := hPl c
      have : c * 8 ^ k ≤ 8 * 4096 := Nat.mul_le_mul hc h8
      omega
    · rw [hWk]
      exact rfrom_calls hcols hl hnl hW k w' sv (s ++ [(c : Int)]) e' (by simp; omega) (hs.kp k2) (hn.kp k2) hsv2 he2
    · refine ⟨⟨c + 1, by omega, by go_num, ?_, kk⟩, by simp only [intOf]; omega⟩
      rw [hWk] at ho
      rw [List.range_succ, List.flatMap_append]
      simpa using ho

end Go.Proofs.Ytgalbokmgffhkaa

/- Contracts: less, stands, Rows, Firsts of the specification. -/
namespace Go.Proofs.Ytgalbokmgffhkaa
open Go.Lf Go.RowKit Go.Wg

set_option maxRecDepth 100000 in
theorem less_calls {va vb : Value} {a b : List Int} (w : World) (ha : RdInts w va a) (hb : RdInts w vb b) (hab : a.length = b.length) : Calls Try.prog 61 #[va, vb] w fun e w' => e = .returned (.bool (decide (cmpL a b < 0))) ∧ Kp w w' := by
  obtain ⟨aa, ac, rfl, _, _⟩ := ha.len
  obtain ⟨ba, bc, rfl, _, _⟩ := hb.len
  refine lift61 ?_
  unfold S61 S61L0
  refine ⟨fun t5 wr => ∃ i : Nat, i ≤ a.length ∧ t5 = .int .i64 i ∧ cmpL a b = cmpL (a.drop i) (b.drop i) ∧ Kp w wr, fun t5 _ => a.length - (intOf t5).toNat, ⟨0, by omega, rfl, by simp, Kp.refl _⟩, ?_⟩
  rintro _ _ wr ⟨i, hi, rfl, hc, kr⟩
  by_cases hlt : i < a.length
  case neg =>
    have hlt' : ¬ (i : Int) < (a.length : Int) := by omega
    simp (disch := omega) only [r_ln, r_pick, r_pickT, r_pickF, r_condT, r_condF, r_gdTT, r_gdFF, r_gdTF, r_gdFT, r_gqTT, r_gqFF, r_gqTF, r_gqFT, r_not, r_lss, r_leq, r_gtr, r_geq, r_eql, r_neq, r_add, r_sub, r_min2, r_max2, r_min3, r_max3, r_fa, r_iaS, r_iaA, r_ex2a, r_ex2b, r_ex3a, r_ex3b, r_ex3c, r_nc, r_keepE, Nat.zero_add, Nat.add_zero, Nat.mul_one, Int.toNat_natCast, toNat_sub1, toNat_add1, decide_true, decide_false, Bool.not_true, Bool.not_false, if_true, if_false, Bool.false_eq_true, reduceCtorEq, hlt']
    refine ⟨ret_bool ?_, kr⟩
    rw [hc, List.drop_eq_nil_of_le (by omega), List.drop_eq_nil_of_le (by omega)]
    rfl
  have hlt' : (i : Int) < (a.length : Int) := by omega
  have hltb : i < b.length := by omega
  simp (disch := omega) only [r_ln, r_pick, r_pickT, r_pickF, r_condT, r_condF, r_gdTT, r_gdFF, r_gdTF, r_gdFT, r_gqTT, r_gqFF, r_gqTF, r_gqFT, r_not, r_lss, r_leq, r_gtr, r_geq, r_eql, r_neq, r_add, r_sub, r_min2, r_max2, r_min3, r_max3, r_fa, r_iaS, r_iaA, r_ex2a, r_ex2b, r_ex3a, r_ex3b, r_ex3c, r_nc, r_keepE, Nat.zero_add, Nat.add_zero, Nat.mul_one, Int.toNat_natCast, toNat_sub1, toNat_add1, decide_true, decide_false, Bool.not_true, Bool.not_false, if_true, if_false, Bool.false_eq_true, reduceCtorEq, decide_eq_true hlt']
  refine r_drew fun w2 k2 _ => ?_
  have k02 := Kp.trans kr k2
  obtain ⟨b1, o1, c1, e1, hc1⟩ := (ha.below k02).at hlt
  obtain ⟨b2, o2, c2, e2, hc2⟩ := (hb.below k02).at hltb
  cases e1
  cases e2
  have hi' : (i : Int).toNat = i := by omega
  have hst := cmpL_step hlt hltb
  rw [← hc] at hst
  by_cases hx : a.getD i 0 = b.getD i 0
  · simp (disch := omega) only [r_ln, r_pick, r_pickT, r_pickF, r_condT, r_condF, r_gdTT, r_gdFF, r_gdTF, r_gdFT, r_gqTT, r_gqFF, r_gqTF, r_gqFT, r_not, r_lss, r_leq, r_gtr, r_geq, r_eql, r_neq, r_add, r_sub, r_min2, r_max2, r_min3, r_max3, r_fa, r_iaS, r_iaA, r_ex2a, r_ex2b, r_ex3a, r_ex3b, r_ex3c, r_nc, r_keepE, Nat.zero_add, Nat.add_zero, Nat.mul_one, Int.toNat_natCast, toNat_sub1, toNat_add1, decide_true, decide_false, Bool.not_true, Bool.not_false, if_true, if_false, Bool.false_eq_true, reduceCtorEq, hi', r_ld hc1, r_ld hc2, decide_eq_true hx]
    have : cmp1 (a.getD i 0) (b.getD i 0) = 0 := by rw [hx]; simp [cmp1]
    rw [this, if_pos rfl] at hst
    exact ⟨⟨i + 1, by omega, by go_num, hst, k02⟩, by simp only [intOf]; omega⟩
  · simp (disch := omega) only [r_ln, r_pick, r_pickT, r_pickF, r_condT, r_condF, r_gdTT, r_gdFF, r_gdTF, r_gdFT, r_gqTT, r_gqFF, r_gqTF, r_gqFT, r_not, r_lss, r_leq, r_gtr, r_geq, r_eql, r_neq, r_add, r_sub, r_min2, r_max2, r_min3, r_max3, r_fa, r_iaS, r_iaA, r_ex2a, r_ex2b, r_ex3a, r_ex3b, r_ex3c, r_nc, r_keepE, Nat.zero_add, Nat.add_zero, Nat.mul_one, Int.toNat_natCast, toNat_sub1, toNat_add1, decide_true, decide_false, Bool.not_true, Bool.not_false, if_true, if_false, Bool.false_eq_true, reduceCtorEq, hi', r_ld hc1, r_ld hc2, hx]
    refine r_drew fun w3 k3 _ => ?_
    have d1 := cell_later k3 hc1
    have d2 := cell_later k3 hc2
    simp (disch := omega) only [r_ln, r_pick, r_pickT, r_pickF, r_condT, r_condF, r_gdTT, r_gdFF, r_gdTF, r_gdFT, r_gqTT, r_gqFF, r_gqTF, r_gqFT, r_not, r_lss, r_leq, r_gtr, r_geq, r_eql, r_neq, r_add, r_sub, r_min2, r_max2, r_min3, r_max3, r_fa, r_iaS, r_iaA, r_ex2a, r_ex2b, r_ex3a, r_ex3b, r_ex3c, r_nc, r_keepE, Nat.zero_add, Nat.add_zero, Nat.mul_one, Int.toNat_natCast, toNat_sub1, toNat_add1, decide_true, decide_false, Bool.not_true, Bool.not_false, if_true, if_false, Bool.false_eq_true, reduceCtorEq, hi', r_ld d1, r_ld d2]
    refine ⟨ret_bool ?_, Kp.trans k02 k3⟩
    rw [hst]
    unfold cmp1
    by_cases h1 : a.getD i 0 < b.getD i 0
    · rw [if_pos h1, decide_eq_true h1]; rfl
    · rw [if_neg h1, if_pos (show b.getD i 0 < a.getD i 0 by omega), decide_eq_false h1]; rfl

set_option maxRecDepth 100000 in
theorem stands_calls {pv sv : Value} {proof : List (List Int)} {s : List Int} {k : Int} (w : World) (hp : RdRows w pv proof) (hs : RdInts w sv s) (hrow : ∀ i, i < proof.length → (proof.getD i []).length = s.length + 1) :
    Calls Try.prog 63 #[pv, sv, .int .i64 k] w fun e w' => e = .returned (.bool (standsB proof s k)) ∧ Kp w w' := by
  obtain ⟨pa, pc, rfl, _⟩ := hp.len
  obtain ⟨sa, sc, rfl, hsl, _⟩ := hs.len
  refine lift63 ?_
  unfold S63 S63L0
  refine ⟨fun t7 wr => ∃ i : Nat, i ≤ proof.length ∧ t7 = .int .i64 i ∧ standsB (proof.take i) s k = false ∧ Kp w wr, fun t7 _ => proof.length - (intOf t7).toNat, ⟨0, by omega, rfl, rfl, Kp.refl _⟩, ?_⟩
  rintro _ _ wr ⟨i, hi, rfl, hno, kr⟩
  by_cases hlt : i < proof.length
  case neg =>
    have hlt' : ¬ (i : Int) < (proof.length : Int) := by omega
    rw [List.take_of_length_le (by omega)] at hno
    simp (disch := omega) only [r_ln, r_pick, r_pickT, r_pickF, r_condT, r_condF, r_gdTT, r_gdFF, r_gdTF, r_gdFT, r_gqTT, r_gqFF, r_gqTF, r_gqFT, r_not, r_lss, r_leq, r_gtr, r_geq, r_eql, r_neq, r_add, r_sub, r_min2, r_max2, r_min3, r_max3, r_fa, r_iaS, r_iaA, r_ex2a, r_ex2b, r_ex3a, r_ex3b, r_ex3c, r_nc, r_keepE, Nat.zero_add, Nat.add_zero, Nat.mul_one, Int.toNat_natCast, toNat_sub1, toNat_add1, decide_true, decide_false, Bool.not_true, Bool.not_false, if_true, if_false, Bool.false_eq_true, reduceCtorEq, hlt']
    exact ⟨ret_bool hno.symm, kr⟩
  have hlt' : (i : Int) < (proof.length : Int) := by omega
  have hpl := hrow i hlt
  obtain ⟨pb, po, _, rv, ep, hcell, hr⟩ := (hp.below kr).row hlt
  cases ep
  have hpr : proof[i] = proof.getD i [] := (getD_lt proof i [] hlt).symm
  have htk : standsB (proof.take (i + 1)) s k = (decide ((proof.getD i []).getD 0 0 < k) && decide ((proof.getD i []).drop 1 = s)) := by
    have hno' : ((proof.take i).any fun p => decide (p.getD 0 0 < k) && decide (p.drop 1 = s)) = false := hno
    rw [standsB, take_succ' _ _ hlt, List.any_append, hno', hpr]
    simp
  have hall : (decide ((proof.getD i []).getD 0 0 < k) && decide ((proof.getD i []).drop 1 = s)) = true → standsB proof s k = true := fun h => by
    rw [standsB, List.any_eq_true]
    exact ⟨proof.getD i [], getD_mem hlt, h⟩
  generalize proof.getD i [] = p at *
  obtain ⟨ra, rc, rfl, _, _⟩ := hr.len
  obtain ⟨rb, ro, _, er, hx0⟩ := hr.at (j := 0) (by omega)
  cases er
  rw [Nat.add_zero] at hx0
  have i0 : (0 : Int).toNat = 0 := rfl
  simp (disch := omega) only [r_ln, r_pick, r_pickT, r_pickF, r_condT, r_condF, r_gdTT, r_gdFF, r_gdTF, r_gdFT, r_gqTT, r_gqFF, r_gqTF, r_gqFT, r_not, r_lss, r_leq, r_gtr, r_geq, r_eql, r_neq, r_add, r_sub, r_min2, r_max2, r_min3, r_max3, r_fa, r_iaS, r_iaA, r_ex2a, r_ex2b, r_ex3a, r_ex3b, r_ex3c, r_nc, r_keepE, Nat.zero_add, Nat.add_zero, Nat.mul_one, Int.toNat_natCast, toNat_sub1, toNat_add1, decide_true, decide_false, Bool.not_true, Bool.not_false, if_true, if_false, Bool.false_eq_true, reduceCtorEq, decide_eq_true hlt', r_ld hcell, i0, Nat.zero_mul, r_ld hx0]
  unfold S63L1
  refine ⟨fun t8 t9 wq => ∃ x : Nat, x ≤ s.length ∧ t9 = .int .i64 x ∧ t8 = .bool (decide (p.getD 0 0 < k) && decide ((p.drop 1).take x = s.take x)) ∧ Kp wr wq, fun _ t9 _ => s.length - (intOf t9).toNat, ⟨0, by omega, rfl, by simp, Kp.refl _⟩, ?_⟩
  rintro _ _ _ wq ⟨x, hx, rfl, rfl, kq0⟩
  have kq := Kp.trans kr kq0
  have hdl : (p.drop 1).length = s.length := by rw [List.length_drop]; omega
  have no : (decide (p.getD 0 0 < k) && decide ((p.drop 1).take x = s.take x)) = false → standsB (proof.take (i + 1)) s k = false := fun h => by
    rw [htk]
    cases hh : decide (p.getD 0 0 < k) && decide (p.drop 1 = s) with
    | false => rfl
    | true =>
      simp only [Bool.and_eq_true, decide_eq_true_eq] at hh
      rw [hh.2, decide_eq_true hh.1, decide_eq_true rfl] at h
      cases h
  have goOn : standsB (proof.take (i + 1)) s k = false → (∃ i' : Nat, i' ≤ proof.length ∧ Value.int .i64 ((i : Int) + 1) = .int .i64 i' ∧ standsB (proof.take i') s k = false ∧ Kp w wq) ∧ proof.length - (intOf (.int .i64 ((i : Int) + 1))).toNat < proof.length - (intOf (.int .i64 (i : Int))).toNat := fun h =>
    ⟨⟨i + 1, by omega, by go_num, h, kq⟩, by simp only [intOf]; omega⟩
  by_cases hxl : x < s.length
  case neg =>
    have hxl' : ¬ (x : Int) < (s.length : Int) := by omega
    have hfull : (decide (p.getD 0 0 < k) && decide ((p.drop 1).take x = s.take x)) = (decide (p.getD 0 0 < k) && decide (p.drop 1 = s)) := by
      rw [List.take_of_length_le (by omega), List.take_of_length_le (by omega)]
    rw [hfull] at no ⊢
    cases hb : decide (p.getD 0 0 < k) && decide (p.drop 1 = s) with
    | false =>
      simp (disch := omega) only [r_ln, r_pick, r_pickT, r_pickF, r_condT, r_condF, r_gdTT, r_gdFF, r_gdTF, r_gdFT, r_gqTT, r_gqFF, r_gqTF, r_gqFT, r_not, r_lss, r_leq, r_gtr, r_geq, r_eql, r_neq, r_add, r_sub, r_min2, r_max2, r_min3, r_max3, r_fa, r_iaS, r_iaA, r_ex2a, r_ex2b, r_ex3a, r_ex3b, r_ex3c, r_nc, r_keepE, Nat.zero_add, Nat.add_zero, Nat.mul_one, Int.toNat_natCast, toNat_sub1, toNat_add1, decide_true, decide_false, Bool.not_true, Bool.not_false, if_true, if_false, Bool.false_eq_true, reduceCtorEq, hxl', r_gdU]
      exact goOn (no hb)
    | true =>
      simp (disch := omega) only [r_ln, r_pick, r_pickT, r_pickF, r_condT, r_condF, r_gdTT, r_gdFF, r_gdTF, r_gdFT, r_gqTT, r_gqFF, r_gqTF, r_gqFT, r_not, r_lss, r_leq, r_gtr, r_geq, r_eql, r_neq, r_add, r_sub, r_min2, r_max2, r_min3, r_max3, r_fa, r_iaS, r_iaA, r_ex2a, r_ex2b, r_ex3a, r_ex3b, r_ex3c, r_nc, r_keepE, Nat.zero_add, Nat.add_zero, Nat.mul_one, Int.toNat_natCast, toNat_sub1, toNat_add1, decide_true, decide_false, Bool.not_true, Bool.not_false, if_true, if_false, Bool.false_eq_true, reduceCtorEq, hxl', r_gdU]
      exact ⟨ret_bool (hall hb).symm, kq⟩
  have hxl' : (x : Int) < (s.length : Int) := by omega
  cases hb : decide (p.getD 0 0 < k) && decide ((p.drop 1).take x = s.take x) with
  | false =>
    simp (disch := omega) only [r_ln, r_pick, r_pickT, r_pickF, r_condT, r_condF, r_gdTT, r_gdFF, r_gdTF, r_gdFT, r_gqTT, r_gqFF, r_gqTF, r_gqFT, r_not, r_lss, r_leq, r_gtr, r_geq, r_eql, r_neq, r_add, r_sub, r_min2, r_max2, r_min3, r_max3, r_fa, r_iaS, r_iaA, r_ex2a, r_ex2b, r_ex3a, r_ex3b, r_ex3c, r_nc, r_keepE, Nat.zero_add, Nat.add_zero, Nat.mul_one, Int.toNat_natCast, toNat_sub1, toNat_add1, decide_true, decide_false, Bool.not_true, Bool.not_false, if_true, if_false, Bool.false_eq_true, reduceCtorEq, decide_eq_true hxl']
    exact goOn (no hb)
  | true =>
  simp (disch := omega) only [r_ln, r_pick, r_pickT, r_pickF, r_condT, r_condF, r_gdTT, r_gdFF, r_gdTF, r_gdFT, r_gqTT, r_gqFF, r_gqTF, r_gqFT, r_not, r_lss, r_leq, r_gtr, r_geq, r_eql, r_neq, r_add, r_sub, r_min2, r_max2, r_min3, r_max3, r_fa, r_iaS, r_iaA, r_ex2a, r_ex2b, r_ex3a, r_ex3b, r_ex3c, r_nc, r_keepE, Nat.zero_add, Nat.add_zero, Nat.mul_one, Int.toNat_natCast, toNat_sub1, toNat_add1, decide_true, decide_false, Bool.not_true, Bool.not_false, if_true, if_false, Bool.false_eq_true, reduceCtorEq, decide_eq_true hxl']
  refine r_drew fun w2 k2 _ => ?_
  have k02 := Kp.trans kq k2
  have kr2 := Kp.trans kq0 k2
  have hcell2 := cell_later kr2 hcell
  obtain ⟨_, _, _, er2, hx2⟩ := (hr.below kr2).at (j := x + 1) (by omega)
  cases er2
  obtain ⟨sb, so, _, es2, hs2⟩ := (hs.below k02).at hxl
  cases es2
  have i1 : ((x : Int) + 1).toNat = x + 1 := by omega
  have hxi : (x : Int).toNat = x := by omega
  have hii : (i : Int).toNat = i := by omega
  simp (disch := omega) only [r_ln, r_pick, r_pickT, r_pickF, r_condT, r_condF, r_gdTT, r_gdFF, r_gdTF, r_gdFT, r_gqTT, r_gqFF, r_gqTF, r_gqFT, r_not, r_lss, r_leq, r_gtr, r_geq, r_eql, r_neq, r_add, r_sub, r_min2, r_max2, r_min3, r_max3, r_fa, r_iaS, r_iaA, r_ex2a, r_ex2b, r_ex3a, r_ex3b, r_ex3c, r_nc, r_keepE, Nat.zero_add, Nat.add_zero, Nat.mul_one, Int.toNat_natCast, toNat_sub1, toNat_add1, decide_true, decide_false, Bool.not_true, Bool.not_false, if_true, if_false, Bool.false_eq_true, reduceCtorEq, hii, r_ld hcell2, i1, r_ld hx2, hxi, r_ld hs2]
  refine ⟨⟨x + 1, by omega, by go_num, ?_, kr2⟩, by simp only [intOf]; omega⟩
  congr 1
  simp only [Bool.and_eq_true, decide_eq_true_eq] at hb
  rw [decide_eq_true hb.1, Bool.true_and]
  have hxd : x < (p.drop 1).length := by omega
  have e1 : (p.drop 1)[x] = p.getD (x + 1) 0 := by
    rw [List.getElem_drop, getD_lt _ _ _ (by omega)]
    congr 1
    omega
  rw [take_succ' _ _ hxd, take_succ' _ _ hxl, hb.2, e1, ← getD_lt s x 0 hxl]
  by_cases h : p.getD (x + 1) 0 = s.getD x 0
  · rw [decide_eq_true h, h, decide_eq_true rfl]
  · rw [decide_eq_false h, decide_eq_false (fun e => h (by have := List.append_cancel_left e; simpa using this))]

def rowsOk (l : List Tile) (n : List Int) : Bool := setB l && sideB n.length && n.all colB
/-- What Rows returns. -/
def RowsPost (l : List Tile) (n : List Int) (base : Nat) (w' : World) (e : Ending) : Prop :=
  (rowsOk l n = false ∧ e = .returned (.tuple #[nilS, .int .i64 2])) ∨ (rowsOk l n = true ∧ ∃ v, e = .returned (.tuple #[v, .int .i64 0]) ∧ IRows base w' v (rfrom l (some n) n.length [] 255))

set_option maxRecDepth 100000 in
theorem refrows_calls {v nv : Value} {l : List Tile} {n : List Int} (w : World) (hr : RdT w v l) (hn : RdInts w nv n) : Calls Try.prog 48 #[v, nv] w fun e w' => Kp w w' ∧ RowsPost l n w.heap.size w' e := by
  have hn' := hn
  obtain ⟨na, nc, rfl, _, _⟩ := hn.len
  refine lift48 ?_
  unfold S48
  refine r_use fok35 (refset_calls w hr) rfl ?_
  rintro _ w1 ⟨rfl, k1⟩
  refine ⟨_, rfl, ?_⟩
  cases hs : setB l with
  | false =>
    simp (disch := omega) only [r_ln, r_pick, r_pickT, r_pickF, r_condT, r_condF, r_gdTT, r_gdFF, r_gdTF, r_gdFT, r_gqTT, r_gqFF, r_gqTF, r_gqFT, r_not, r_lss, r_leq, r_gtr, r_geq, r_eql, r_neq, r_add, r_sub, r_min2, r_max2, r_min3, r_max3, r_fa, r_iaS, r_iaA, r_ex2a, r_ex2b, r_ex3a, r_ex3b, r_ex3c, r_nc, r_keepE, Nat.zero_add, Nat.add_zero, Nat.mul_one, Int.toNat_natCast, toNat_sub1, toNat_add1, decide_true, decide_false, Bool.not_true, Bool.not_false, if_true, if_false, Bool.false_eq_true, reduceCtorEq]
    exact ⟨k1, .inl ⟨by rw [rowsOk, hs]; rfl, rfl⟩⟩
  | true =>
  simp (disch := omega) only [r_ln, r_pick, r_pickT, r_pickF, r_condT, r_condF, r_gdTT, r_gdFF, r_gdTF, r_gdFT, r_gqTT, r_gqFF, r_gqTF, r_gqFT, r_not, r_lss, r_leq, r_gtr, r_geq, r_eql, r_neq, r_add, r_sub, r_min2, r_max2, r_min3, r_max3, r_fa, r_iaS, r_iaA, r_ex2a, r_ex2b, r_ex3a, r_ex3b, r_ex3c, r_nc, r_keepE, Nat.zero_add, Nat.add_zero, Nat.mul_one, Int.toNat_natCast, toNat_sub1, toNat_add1, decide_true, decide_false, Bool.not_true, Bool.not_false, if_true, if_false, Bool.false_eq_true, reduceCtorEq]
  refine r_use fok68 (size_calls n.length w1) rfl ?_
  rintro _ _ ⟨rfl, rfl⟩
  refine ⟨_, rfl, ?_⟩
  cases hsd : sideB n.length with
  | false =>
    simp (disch := omega) only [r_ln, r_pick, r_pickT, r_pickF, r_condT, r_condF, r_gdTT, r_gdFF, r_gdTF, r_gdFT, r_gqTT, r_gqFF, r_gqTF, r_gqFT, r_not, r_lss, r_leq, r_gtr, r_geq, r_eql, r_neq, r_add, r_sub, r_min2, r_max2, r_min3, r_max3, r_fa, r_iaS, r_iaA, r_ex2a, r_ex2b, r_ex3a, r_ex3b, r_ex3c, r_nc, r_keepE, Nat.zero_add, Nat.add_zero, Nat.mul_one, Int.toNat_natCast, toNat_sub1, toNat_add1, decide_true, decide_false, Bool.not_true, Bool.not_false, if_true, if_false, Bool.false_eq_true, reduceCtorEq]
    exact ⟨k1, .inl ⟨by rw [rowsOk, hs, hsd]; rfl, rfl⟩⟩
  | true =>
  have hW : 1 ≤ n.length ∧ n.length ≤ 4 := by
    simp only [sideB, decide_eq_true_eq] at hsd
    omega
  simp (disch := omega) only [r_ln, r_pick, r_pickT, r_pickF, r_condT, r_condF, r_gdTT, r_gdFF, r_gdTF, r_gdFT, r_gqTT, r_gqFF, r_gqTF, r_gqFT, r_not, r_lss, r_leq, r_gtr, r_geq, r_eql, r_neq, r_add, r_sub, r_min2, r_max2, r_min3, r_max3, r_fa, r_iaS, r_iaA, r_ex2a, r_ex2b, r_ex3a, r_ex3b, r_ex3c, r_nc, r_keepE, Nat.zero_add, Nat.add_zero, Nat.mul_one, Int.toNat_natCast, toNat_sub1, toNat_add1, decide_true, decide_false, Bool.not_true, Bool.not_false, if_true, if_false, Bool.false_eq_true, reduceCtorEq]
  unfold S48L0
  refine ⟨fun t6 wr => ∃ i : Nat, i ≤ n.length ∧ t6 = .int .i64 i ∧ (n.take i).all colB = true ∧ Kp w wr, fun t6 _ => n.length - (intOf t6).toNat, ⟨0, by omega, rfl, rfl, k1⟩, ?_⟩
  rintro _ _ wr ⟨i, hi, rfl, hall, kr⟩
  by_cases hlt : i < n.length
  case neg =>
    have hlt' : ¬ (i : Int) < (n.length : Int) := by omega
    rw [List.take_of_length_le (by omega)] at hall
    simp (disch := omega) only [r_ln, r_pick, r_pickT, r_pickF, r_condT, r_condF, r_gdTT, r_gdFF, r_gdTF, r_gdFT, r_gqTT, r_gqFF, r_gqTF, r_gqFT, r_not, r_lss, r_leq, r_gtr, r_geq, r_eql, r_neq, r_add, r_sub, r_min2, r_max2, r_min3, r_max3, r_fa, r_iaS, r_iaA, r_ex2a, r_ex2b, r_ex3a, r_ex3b, r_ex3c, r_nc, r_keepE, Nat.zero_add, Nat.add_zero, Nat.mul_one, Int.toNat_natCast, toNat_sub1, toNat_add1, decide_true, decide_false, Bool.not_true, Bool.not_false, if_true, if_false, Bool.false_eq_true, reduceCtorEq, hlt']
    have hset := isSet_of hs
    have e255 : (Value.int .i64 255) = .int .i64 ((255 : Nat) : Int) := rfl
    rw [e255]
    have h2 := rfrom_calls (t0 := v) (t1 := .slice na n.length nc) (l := l) (nn := some n) (W := n.length) hset.cols (by have := hset.most; omega) (fun m e => by cases e; rfl) hW.2 n.length wr nilS [] 255 (by simp) (hr.kp kr) ⟨hn'.below kr, by omega⟩ ⟨none, 0, rfl, ⟨by simp, by simp⟩, fun h => absurd h (by simp)⟩ (by omega)
    refine r_use fok95 h2 rfl ?_
    rintro _ w2 ⟨v2, rfl, k2, o2⟩
    refine ⟨_, rfl, ?_⟩
    exact ⟨Kp.trans kr k2, .inr ⟨by rw [rowsOk, hs, hsd, hall]; rfl, v2, rfl, o2.down kr.size⟩⟩
  have hlt' : (i : Int) < (n.length : Int) := by omega
  obtain ⟨b, off, _, ev, hc⟩ := (hn'.below kr).at hlt
  cases ev
  have hii : (i : Int).toNat = i := by omega
  simp (disch := omega) only [r_ln, r_pick, r_pickT, r_pickF, r_condT, r_condF, r_gdTT, r_gdFF, r_gdTF, r_gdFT, r_gqTT, r_gqFF, r_gqTF, r_gqFT, r_not, r_lss, r_leq, r_gtr, r_geq, r_eql, r_neq, r_add, r_sub, r_min2, r_max2, r_min3, r_max3, r_fa, r_iaS, r_iaA, r_ex2a, r_ex2b, r_ex3a, r_ex3b, r_ex3c, r_nc, r_keepE, Nat.zero_add, Nat.add_zero, Nat.mul_one, Int.toNat_natCast, toNat_sub1, toNat_add1, decide_true, decide_false, Bool.not_true, Bool.not_false, if_true, if_false, Bool.false_eq_true, reduceCtorEq, decide_eq_true hlt', hii, r_ld hc]
  refine r_use fok62 (refcolour_calls _ wr) rfl ?_
  rintro _ _ ⟨rfl, rfl⟩
  refine ⟨_, rfl, ?_⟩
  rw [getD_lt _ _ _ hlt]
  cases hcol : colB n[i] with
  | false =>
    simp (disch := omega) only [r_ln, r_pick, r_pickT, r_pickF, r_condT, r_condF, r_gdTT, r_gdFF, r_gdTF, r_gdFT, r_gqTT, r_gqFF, r_gqTF, r_gqFT, r_not, r_lss, r_leq, r_gtr, r_geq, r_eql, r_neq, r_add, r_sub, r_min2, r_max2, r_min3, r_max3, r_fa, r_iaS, r_iaA, r_ex2a, r_ex2b, r_ex3a, r_ex3b, r_ex3c, r_nc, r_keepE, Nat.zero_add, Nat.add_zero, Nat.mul_one, Int.toNat_natCast, toNat_sub1, toNat_add1, decide_true, decide_false, Bool.not_true, Bool.not_false, if_true, if_false, Bool.false_eq_true, reduceCtorEq]
    refine ⟨kr, .inl ⟨?_, rfl⟩⟩
    have : n.all colB = false := by
      cases hh : n.all colB with
      | false => rfl
      | true =>
        have := List.all_eq_true.1 hh _ (List.getElem_mem hlt)
        rw [hcol] at this
        cases this
    rw [rowsOk, this, Bool.and_false]
  | true =>
    simp (disch := omega) only [r_ln, r_pick, r_pickT, r_pickF, r_condT, r_condF, r_gdTT, r_gdFF, r_gdTF, r_gdFT, r_gqTT, r_gqFF, r_gqTF, r_gqFT, r_not, r_lss, r_leq, r_gtr, r_geq, r_eql, r_neq, r_add, r_sub, r_min2, r_max2, r_min3, r_max3, r_fa, r_iaS, r_iaA, r_ex2a, r_ex2b, r_ex3a, r_ex3b, r_ex3c, r_nc, r_keepE, Nat.zero_add, Nat.add_zero, Nat.mul_one, Int.toNat_natCast, toNat_sub1, toNat_add1, decide_true, decide_false, Bool.not_true, Bool.not_false, if_true, if_false, Bool.false_eq_true, reduceCtorEq]
    refine ⟨⟨i + 1, by omega, by go_num, ?_, kr⟩, by simp only [intOf]; omega⟩
    rw [take_succ' _ _ hlt, List.all_append, hall]
    simp [hcol]

set_option maxRecDepth 100000 in
theorem firsts_calls {v : Value} {l : List Tile} {W : Nat} (w : World) (hr : RdT w v l) (hs : IsSet l) (hW : 1 ≤ W ∧ W ≤ 4) : Calls Try.prog 64 #[v, .int .i64 W] w fun e w' => ∃ v', e = .returned v' ∧ Kp w w' ∧ IRows w.heap.size w' v' (rfrom l none W [] 255) := by
  refine lift64 ?_
  unfold S64
  have e255 : (Value.int .i64 255) = .int .i64 ((255 : Nat) : Int) := rfl
  rw [e255]
  have h2 := rfrom_calls (t0 := v) (t1 := nilS) (l := l) (nn := none) (W := W) hs.cols (by have := hs.most; omega) (fun m e => by cases e) hW.2 W w nilS [] 255 (by simp) hr rfl ⟨none, 0, rfl, ⟨by simp, by simp⟩, fun h => absurd h (by simp)⟩ (by omega)
  refine r_use fok95 h2 rfl ?_
  rintro _ w2 ⟨v2, rfl, k2, o2⟩
  exact ⟨_, rfl, v2, rfl, k2, o2⟩

end Go.Proofs.Ytgalbokmgffhkaa

/- Transducers, plainly: the rows of a product are the rows of the second set of all rows of the first one. No program. -/
namespace Go.Proofs.Ytgalbokmgffhkaa
open Go.Wg

/-! ### rows as tiles -/
structure RowT (l : List Tile) (ts : List Tile) : Prop where
  mem : ∀ t ∈ ts, t ∈ l
  chain : ∀ k, k + 1 < ts.length → tE (ts.getD k t0) = tW (ts.getD (k + 1) t0)
theorem getD_map' {f : Tile → Tile} {ts : List Tile} {k : Nat} (hk : k < ts.length) : (ts.map f).getD k t0 = f (ts.getD k t0) := by
  rw [getD_lt _ _ _ (by simpa using hk), getD_lt _ _ _ hk]; simp
theorem rowT_iff {l : List Tile} {w : Nat} {n s : List Int} : (∃ r ∈ rowsL l w, norths l r = n ∧ souths l r = s) ↔ ∃ ts, ts.length = w ∧ RowT l ts ∧ ts.map tN = n ∧ ts.map tS = s := by
  constructor
  · rintro ⟨r, hr, rfl, rfl⟩
    obtain ⟨h1, h2, h3⟩ := mem_rowsL.1 hr
    refine ⟨r.map (tl l), by simp [h1], ⟨fun t ht => ?_, fun k hk => ?_⟩, by simp [norths], by simp [souths]⟩
    · obtain ⟨i, hi, rfl⟩ := List.mem_map.1 ht
      unfold tl; exact getD_mem (h2 i hi)
    · have hk' : k + 1 < r.length := by simpa using hk
      have e1 : (r.map (tl l)).getD k t0 = tl l (r.getD k 0) := by
        rw [getD_lt _ _ _ (by simp; omega), getD_lt _ _ _ (by omega)]; simp
      have e2 : (r.map (tl l)).getD (k + 1) t0 = tl l (r.getD (k + 1) 0) := by
        rw [getD_lt _ _ _ (by simp; omega), getD_lt _ _ _ hk']; simp
      rw [e1, e2]
      exact h3 k hk'
  · rintro ⟨ts, h1, h2, rfl, rfl⟩
    have hi : ∀ t ∈ ts, l.idxOf t < l.length ∧ tl l (l.idxOf t) = t := fun t ht => by
      have hlt := List.idxOf_lt_length_iff.2 (h2.mem t ht)
      refine ⟨hlt, ?_⟩
      unfold tl
      rw [getD_lt _ _ _ hlt]
      exact List.getElem_idxOf hlt
    have hat : ∀ k (hk : k < ts.length), tl l ((ts.map fun t => l.idxOf t).getD k 0) = ts.getD k t0 := fun k hk => by
      rw [getD_lt _ _ _ (by simpa using hk), getD_lt _ _ _ hk]
      simp only [List.getElem_map]
      exact (hi _ (List.getElem_mem hk)).2
    refine ⟨ts.map fun t => l.idxOf t, mem_rowsL.2 ⟨by simp [h1], fun i hi' => ?_, fun k hk => ?_⟩, ?_, ?_⟩
    · obtain ⟨t, ht, rfl⟩ := List.mem_map.1 hi'
      exact (hi t ht).1
    · have hk' : k + 1 < ts.length := by simpa using hk
      rw [hat k (by omega), hat (k + 1) hk']
      exact h2.chain k hk'
    · simp only [norths, List.map_map]
      exact List.map_congr_left fun t ht => by show tN (tl l (l.idxOf t)) = tN t; rw [(hi t ht).2]
    · simp only [souths, List.map_map]
      exact List.map_congr_left fun t ht => by show tS (tl l (l.idxOf t)) = tS t; rw [(hi t ht).2]

def underL (l : List Tile) (n : List Int) : List (List Int) := rfrom l (some n) n.length [] 255
theorem mem_underL {l : List Tile} (hl : ∀ t ∈ l, colsB t = true) {n s : List Int} : s ∈ underL l n ↔ ∃ ts, ts.length = n.length ∧ RowT l ts ∧ ts.map tN = n ∧ ts.map tS = s := by
  unfold underL
  rw [mem_under hl, rowT_iff]
theorem under_cols {l : List Tile} (hl : ∀ t ∈ l, colsB t = true) {n s : List Int} (h : s ∈ underL l n) : s.length = n.length ∧ ∀ x ∈ s, colB x = true := by
  obtain ⟨ts, h1, h2, _, rfl⟩ := (mem_underL hl).1 h
  refine ⟨by simp [h1], fun x hx => ?_⟩
  obtain ⟨t, ht, rfl⟩ := List.mem_map.1 hx
  have := cols_range (hl t (h2.mem t ht))
  unfold colB
  exact decide_eq_true this.2.2.1

/-! ### products -/
theorem addU_nodup {acc : List Tile} {u : Tile} (h : acc.Nodup) : (addU acc u).Nodup := by
  unfold addU
  split
  · exact h
  · rename_i hu
    refine List.nodup_append.2 ⟨h, by simp, fun a ha b hb e => ?_⟩
    simp at hb
    exact hu (hb ▸ e ▸ ha)
theorem once_nodup (l : List Tile) : (once l).Nodup := by
  have key : ∀ (l acc : List Tile), acc.Nodup → (l.foldl addU acc).Nodup := by
    intro l
    induction l with
    | nil => intro acc h; exact h
    | cons x l ih => intro acc h; exact ih _ (addU_nodup h)
  exact key l [] (by simp)

theorem mem_allP {a b : List Tile} {u : Tile} : u ∈ allP a b ↔ ∃ s ∈ a, ∃ t ∈ b, tS s = tN t ∧ u = pairT s t := by
  simp only [allP, List.mem_flatMap, under1, List.mem_map, List.mem_filter, decide_eq_true_eq]
  constructor
  · rintro ⟨s, hs, t, ⟨ht, h⟩, rfl⟩
    exact ⟨s, hs, t, ht, h, rfl⟩
  · rintro ⟨s, hs, t, ht, h, rfl⟩
    exact ⟨s, hs, t, ⟨ht, h⟩, rfl⟩

def compT (a b : List Tile) (s t : Tile) : Tile := renC (codesP (allP a b)) (pairT s t)
theorem mem_prod {a b : List Tile} {u : Tile} : u ∈ prodT (allP a b) ↔ ∃ s ∈ a, ∃ t ∈ b, tS s = tN t ∧ u = compT a b s t := by
  unfold prodT
  simp only [List.mem_map, mem_once, mem_allP]
  constructor
  · rintro ⟨_, ⟨s, hs, t, ht, h, rfl⟩, rfl⟩
    exact ⟨s, hs, t, ht, h, rfl⟩
  · rintro ⟨s, hs, t, ht, h, rfl⟩
    exact ⟨_, ⟨s, hs, t, ht, h, rfl⟩, rfl⟩

theorem prod_set {a b : List Tile} (ha : IsSet a) (hb : IsSet b) (hF : prodF (allP a b) = false) (hne : prodT (allP a b) ≠ []) : IsSet (prodT (allP a b)) := by
  have hok := allP_ok ha.cols hb.cols
  simp only [prodF, Bool.or_eq_false_iff, decide_eq_false_iff_not] at hF
  have hren : ∀ t ∈ once (allP a b), renC (codesP (allP a b)) t = renS (allP a b) t := fun t ht => ren_eq hok (mem_once.1 ht)
  refine ⟨Nat.pos_of_ne_zero fun h => hne (List.length_eq_zero_iff.1 h), by unfold prodT; rw [List.length_map]; omega, fun t ht => ?_, ?_⟩
  · unfold prodT at ht
    obtain ⟨u, hu, rfl⟩ := List.mem_map.1 ht
    rw [hren u hu]
    have hu' := mem_once.1 hu
    obtain ⟨s, hs, t, ht', h, rfl⟩ := mem_allP.1 hu'
    have c1 := cols_range (ha.cols s hs)
    have c2 := cols_range (hb.cols t ht')
    have hp := hok _ hu'
    have u1 : usedB (allP a b) (tE (pairT s t)).toNat = true := usedB_iff.2 ⟨_, hu', .inl (by omega)⟩
    have u2 : usedB (allP a b) (tW (pairT s t)).toNat = true := usedB_iff.2 ⟨_, hu', .inr (by omega)⟩
    have l1 := cnt_lt (allP a b) (show (tE (pairT s t)).toNat < 64 by omega) u1
    have l2 := cnt_lt (allP a b) (show (tW (pairT s t)).toNat < 64 by omega) u2
    have g1 : colB (tN (renS (allP a b) (pairT s t))) = true := decide_eq_true c1.1
    have g2 : colB (tS (renS (allP a b) (pairT s t))) = true := decide_eq_true c2.2.2.1
    have g3 : colB (tE (renS (allP a b) (pairT s t))) = true := decide_eq_true (by
      show 0 ≤ ((cnt (allP a b) (tE (pairT s t)).toNat : Nat) : Int) ∧ ((cnt (allP a b) (tE (pairT s t)).toNat : Nat) : Int) ≤ 7
      omega)
    have g4 : colB (tW (renS (allP a b) (pairT s t))) = true := decide_eq_true (by
      show 0 ≤ ((cnt (allP a b) (tW (pairT s t)).toNat : Nat) : Int) ∧ ((cnt (allP a b) (tW (pairT s t)).toNat : Nat) : Int) ≤ 7
      omega)
    rw [colsB, g1, g2, g3, g4]; rfl
  · unfold prodT List.Nodup
    rw [List.pairwise_map]
    refine List.Pairwise.imp_of_mem (fun {x y} hx hy hne e => hne ?_) (once_nodup (allP a b))
    rw [hren x hx, hren y hy] at e
    exact renS_inj hok _ (mem_once.1 hx) _ (mem_once.1 hy) e

theorem idxI_inj {cs : List Int} {c d : Int} (hc : c ∈ cs) (hd : d ∈ cs) (h : idxI cs c = idxI cs d) : c = d := by
  unfold idxI at h
  rw [if_pos hc, if_pos hd] at h
  have h1 := List.idxOf_lt_length_iff.2 hc
  have h2 := List.idxOf_lt_length_iff.2 hd
  have e1 := List.getElem_idxOf h1
  have e2 := List.getElem_idxOf h2
  have e3 : cs.idxOf c = cs.idxOf d := by omega
  have : cs[cs.idxOf c]'h1 = cs[cs.idxOf d]'h2 := by simp only [e3]
  rw [e1, e2] at this
  exact this

/-- East of one and West of another meet in the product as they meet in both. -/
theorem comp_meet {a b : List Tile} (ha : IsSet a) (hb : IsSet b) {s t s' t' : Tile} (hs : s ∈ a) (ht : t ∈ b) (h : tS s = tN t) (hs' : s' ∈ a) (ht' : t' ∈ b) (h' : tS s' = tN t') : tE (compT a b s t) = tW (compT a b s' t') ↔ tE s = tW s' ∧ tE t = tW t' := by
  have hok := allP_ok ha.cols hb.cols
  have c1 := cols_range (ha.cols s hs)
  have c2 := cols_range (hb.cols t ht)
  have c3 := cols_range (ha.cols s' hs')
  have c4 := cols_range (hb.cols t' ht')
  have m1 : tE s * 8 + tE t ∈ codesP (allP a b) := (mem_codes hok).2 ⟨pairT s t, mem_allP.2 ⟨s, hs, t, ht, h, rfl⟩, .inl rfl⟩
  have m2 : tW s' * 8 + tW t' ∈ codesP (allP a b) := (mem_codes hok).2 ⟨pairT s' t', mem_allP.2 ⟨s', hs', t', ht', h', rfl⟩, .inr rfl⟩
  show idxI (codesP (allP a b)) (tE s * 8 + tE t) = idxI (codesP (allP a b)) (tW s' * 8 + tW t') ↔ _
  constructor
  · intro e
    have := idxI_inj m1 m2 e
    omega
  · rintro ⟨e1, e2⟩
    rw [e1, e2]

theorem prod_rows {a b : List Tile} (ha : IsSet a) (hb : IsSet b) (hP : ∀ t ∈ prodT (allP a b), colsB t = true) {n s : List Int} : s ∈ underL (prodT (allP a b)) n ↔ ∃ m, m ∈ underL a n ∧ s ∈ underL b m := by
  constructor
  · intro h
    obtain ⟨ts, h1, h2, rfl, rfl⟩ := (mem_underL hP).1 h
    have hch : ∀ u : Tile, ∃ p : Tile × Tile, u ∈ prodT (allP a b) → p.1 ∈ a ∧ p.2 ∈ b ∧ tS p.1 = tN p.2 ∧ u = compT a b p.1 p.2 := fun u => by
      by_cases hu : u ∈ prodT (allP a b)
      · obtain ⟨s, hs, t, ht, he, e⟩ := mem_prod.1 hu
        exact ⟨(s, t), fun _ => ⟨hs, ht, he, e⟩⟩
      · exact ⟨(t0, t0), fun h => absurd h hu⟩
    obtain ⟨F, hF⟩ := Classical.axiomOfChoice hch
    have hm : ∀ k, k < ts.length → ts.getD k t0 ∈ prodT (allP a b) := fun k hk => h2.mem _ (getD_mem hk)
    have hFk := fun k hk => hF _ (hm k hk)
    have meet : ∀ k, k + 1 < ts.length → tE (F (ts.getD k t0)).1 = tW (F (ts.getD (k + 1) t0)).1 ∧ tE (F (ts.getD k t0)).2 = tW (F (ts.getD (k + 1) t0)).2 := fun k hk => by
      obtain ⟨p1, p2, p3, p4⟩ := hFk k (by omega)
      obtain ⟨q1, q2, q3, q4⟩ := hFk (k + 1) hk
      have := h2.chain k hk
      rw [p4, q4] at this
      exact (comp_meet ha hb p1 p2 p3 q1 q2 q3).1 this
    refine ⟨ts.map fun u => tS (F u).1, (mem_underL ha.cols).2 ⟨ts.map fun u => (F u).1, by simp, ⟨fun t ht => ?_, fun k hk => ?_⟩, ?_, by simp⟩, (mem_underL hb.cols).2 ⟨ts.map fun u => (F u).2, by simp, ⟨fun t ht => ?_, fun k hk => ?_⟩, ?_, ?_⟩⟩
    · obtain ⟨u, hu, rfl⟩ := List.mem_map.1 ht
      exact (hF u (h2.mem u hu)).1
    · have hk' : k + 1 < ts.length := by simpa using hk
      rw [getD_map' (by omega), getD_map' hk']
      exact (meet k hk').1
    · rw [List.map_map]
      refine List.map_congr_left fun u hu => ?_
      obtain ⟨_, _, _, e⟩ := hF u (h2.mem u hu)
      conv => rhs; rw [e]
      rfl
    · obtain ⟨u, hu, rfl⟩ := List.mem_map.1 ht
      exact (hF u (h2.mem u hu)).2.1
    · have hk' : k + 1 < ts.length := by simpa using hk
      rw [getD_map' (by omega), getD_map' hk']
      exact (meet k hk').2
    · rw [List.map_map]
      exact List.map_congr_left fun u hu => (hF u (h2.mem u hu)).2.2.1.symm
    · rw [List.map_map]
      refine List.map_congr_left fun u hu => ?_
      obtain ⟨_, _, _, e⟩ := hF u (h2.mem u hu)
      conv => rhs; rw [e]
      rfl
  · rintro ⟨m, h1, h2⟩
    obtain ⟨ss, s1, s2, rfl, rfl⟩ := (mem_underL ha.cols).1 h1
    obtain ⟨tt, t1, t2, e, rfl⟩ := (mem_underL hb.cols).1 h2
    rw [List.length_map] at t1 s1
    have hz : ∀ k, k < ss.length → tS (ss.getD k t0) = tN (tt.getD k t0) := fun k hk => by
      have h3 : (tt.map tN)[k]'(by simp; omega) = (ss.map tS)[k]'(by simpa using hk) := by simp only [e]
      simp only [List.getElem_map] at h3
      rw [getD_lt _ _ _ hk, getD_lt _ _ _ (by omega)]
      exact h3.symm
    have hat : ∀ k, k < ss.length → (List.zipWith (compT a b) ss tt).getD k t0 = compT a b (ss.getD k t0) (tt.getD k t0) := fun k hk => by
      rw [getD_lt _ _ _ (by simp; omega), getD_lt _ _ _ hk, getD_lt _ _ _ (by omega)]; simp
    have hl : (List.zipWith (compT a b) ss tt).length = ss.length := by simp; omega
    refine (mem_underL hP).2 ⟨List.zipWith (compT a b) ss tt, by rw [hl]; simp, ⟨fun u hu => ?_, fun k hk => ?_⟩, ?_, ?_⟩
    · obtain ⟨k, hk, rfl⟩ := List.getElem_of_mem hu
      have hks : k < ss.length := by omega
      have := hat k hks
      rw [getD_lt _ _ _ hk] at this
      rw [this]
      exact mem_prod.2 ⟨_, s2.mem _ (getD_mem hks), _, t2.mem _ (getD_mem (by omega)), hz k hks, rfl⟩
    · have hks : k + 1 < ss.length := by omega
      rw [hat k (by omega), hat (k + 1) hks]
      exact (comp_meet ha hb (s2.mem _ (getD_mem (by omega))) (t2.mem _ (getD_mem (by omega))) (hz k (by omega)) (s2.mem _ (getD_mem hks)) (t2.mem _ (getD_mem (by omega))) (hz (k + 1) hks)).2 ⟨s2.chain k hks, t2.chain k (by omega)⟩
    · refine List.ext_getElem (by rw [List.length_map, hl]; simp) fun k k1 k2 => ?_
      simp only [List.getElem_map, List.getElem_zipWith]
      rfl
    · refine List.ext_getElem (by rw [List.length_map, hl, List.length_map]; omega) fun k k1 k2 => ?_
      simp only [List.getElem_map, List.getElem_zipWith]
      rfl

end Go.Proofs.Ytgalbokmgffhkaa
