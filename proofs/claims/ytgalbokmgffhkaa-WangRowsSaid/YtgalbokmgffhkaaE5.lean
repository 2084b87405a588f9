/- Contract: rowsFrom of the specification. -/
import Derived.Test.YtgalbokmgffhkaaE4
set_option linter.all false
namespace Go.Proofs.Ytgalbokmgffhkaa
open Go.Lf Go.RowKit Go.Wg

theorem IRows.one {base : Nat} {w : World} {a : Option Addr} {n c : Nat} {r : List Int} (h : IntsAt base w (.slice a n c) r) (hb : base ≤ w.heap.size) : IRows base (w.alloc (.cells #[.slice a n c] 30)) (.slice (some ⟨w.heap.size, 0, none⟩) 1 1) [r] := by
  have o := rec_one (e := 30) (enc := vE) (x := .slice a n c) rfl w
  refine ⟨[.slice a n c], o.down hb, rfl, fun i u r' hu hr => ?_⟩
  match i with
  | 0 =>
    cases hu
    cases hr
    exact h.kp (below_alloc _)
  | i + 1 => simp at hu

theorem rfrom_step (l : List Tile) (nn : Option (List Int)) (k : Nat) (s : List Int) (e : Nat) : rfrom l nn (k + 1) s e = (List.range 8).flatMap fun c => if nextE nn s.length e c l = 0 then [] else rfrom l nn k (s ++ [(c : Int)]) (nextE nn s.length e c l) := rfl

set_option maxRecDepth 100000 in
theorem rfrom_calls {t0 t1 : Value} {l : List Tile} {nn : Option (List Int)} {W : Nat} (hcols : ∀ t ∈ l, colsB t = true) (hl : l.length ≤ 1000) (hnl : ∀ n, nn = some n → n.length = W) (hW : W ≤ 4) :
    ∀ (k : Nat) (w : World) (t3 : Value) (s : List Int) (e : Nat), s.length + k = W → RdT w t0 l → NIs w t1 nn → RdInts w t3 s → e < 256 →
      Calls Try.prog 95 #[t0, t1, .int .i64 W, t3, .int .i64 e] w fun r w' => ∃ v, r = .returned v ∧ Kp w w' ∧ IRows w.heap.size w' v (rfrom l nn k s e)
  | 0, w, t3, s, e, hk, hs, hn, hsv, he => by
    have hsv' := hsv
    obtain ⟨a3, c3, rfl, _, _⟩ := hsv.len
    refine lift95 ?_
    unfold S95
    have e1 : (s.length : Int) = (W : Int) := by omega
    simp (disch := omega) only [r_ln, r_pick, r_pickT, r_pickF, r_condT, r_condF, r_gdTT, r_gdFF, r_gdTF, r_gdFT, r_gqTT, r_gqFF, r_gqTF, r_gqFT, r_not, r_lss, r_leq, r_gtr, r_geq, r_eql, r_neq, r_add, r_sub, r_min2, r_max2, r_min3, r_max3, r_fa, r_iaS, r_iaA, r_ex2a, r_ex2b, r_ex3a, r_ex3b, r_ex3c, r_nc, r_keepE, Nat.zero_add, Nat.add_zero, Nat.mul_one, Int.toNat_natCast, toNat_sub1, toNat_add1, decide_true, decide_false, Bool.not_true, Bool.not_false, if_true, if_false, Bool.false_eq_true, reduceCtorEq, decide_eq_true e1]
    refine r_copyI hsv' (by omega) fun v2 w2 o2 k2 _ => ?_
    obtain ⟨a2, c2, rfl, _⟩ := o2.len
    rw [bs23]
    exact ⟨_, rfl, Kp.trans k2 (below_alloc _), IRows.one o2 k2.size⟩
  | k + 1, w, t3, s, e, hk, hs, hn, hsv, he => by
    have hsv' := hsv
    obtain ⟨a3, c3, rfl, _, _⟩ := hsv.len
    refine lift95 ?_
    unfold S95
    have e1 : ¬ (s.length : Int) = (W : Int) := by omega
    simp (disch := omega) only [r_ln, r_pick, r_pickT, r_pickF, r_condT, r_condF, r_gdTT, r_gdFF, r_gdTF, r_gdFT, r_gqTT, r_gqFF, r_gqTF, r_gqFT, r_not, r_lss, r_leq, r_gtr, r_geq, r_eql, r_neq, r_add, r_sub, r_min2, r_max2, r_min3, r_max3, r_fa, r_iaS, r_iaA, r_ex2a, r_ex2b, r_ex3a, r_ex3b, r_ex3c, r_nc, r_keepE, Nat.zero_add, Nat.add_zero, Nat.mul_one, Int.toNat_natCast, toNat_sub1, toNat_add1, decide_true, decide_false, Bool.not_true, Bool.not_false, if_true, if_false, Bool.false_eq_true, reduceCtorEq, e1]
    unfold S95L0
    have hWk : W - s.length - 1 = k := by omega
    refine ⟨fun t12 t13 wr => ∃ c : Nat, c ≤ 8 ∧ t13 = .int .i64 c ∧ IRows w.heap.size wr t12 ((List.range c).flatMap fun c => if nextE nn s.length e c l = 0 then [] else rfrom l nn k (s ++ [(c : Int)]) (nextE nn s.length e c l)) ∧ Kp w wr, fun _ t13 _ => 8 - (intOf t13).toNat, ⟨0, by omega, rfl, IRows.nil, Kp.refl _⟩, ?_⟩
    rintro _ t12 _ wr ⟨c, hc, rfl, hout, kr⟩
    by_cases hlt : c < 8
    case neg =>
      have hlt' : ¬ (c : Int) ≤ 7 := by omega
      have ec : c = 8 := by omega
      subst ec
      simp (disch := omega) only [r_ln, r_pick, r_pickT, r_pickF, r_condT, r_condF, r_gdTT, r_gdFF, r_gdTF, r_gdFT, r_gqTT, r_gqFF, r_gqTF, r_gqFT, r_not, r_lss, r_leq, r_gtr, r_geq, r_eql, r_neq, r_add, r_sub, r_min2, r_max2, r_min3, r_max3, r_fa, r_iaS, r_iaA, r_ex2a, r_ex2b, r_ex3a, r_ex3b, r_ex3c, r_nc, r_keepE, Nat.zero_add, Nat.add_zero, Nat.mul_one, Int.toNat_natCast, toNat_sub1, toNat_add1, decide_true, decide_false, Bool.not_true, Bool.not_false, if_true, if_false, Bool.false_eq_true, reduceCtorEq, hlt']
      exact ⟨_, rfl, kr, hout⟩
    have hlt' : (c : Int) ≤ 7 := by omega
    simp (disch := omega) only [r_ln, r_pick, r_pickT, r_pickF, r_condT, r_condF, r_gdTT, r_gdFF, r_gdTF, r_gdFT, r_gqTT, r_gqFF, r_gqTF, r_gqFT, r_not, r_lss, r_leq, r_gtr, r_geq, r_eql, r_neq, r_add, r_sub, r_min2, r_max2, r_min3, r_max3, r_fa, r_iaS, r_iaA, r_ex2a, r_ex2b, r_ex3a, r_ex3b, r_ex3c, r_nc, r_keepE, Nat.zero_add, Nat.add_zero, Nat.mul_one, Int.toNat_natCast, toNat_sub1, toNat_add1, decide_true, decide_false, Bool.not_true, Bool.not_false, if_true, if_false, Bool.false_eq_true, reduceCtorEq, decide_eq_true hlt']
    have hPl : ∀ n, ((List.range n).flatMap fun c => if nextE nn s.length e c l = 0 then [] else rfrom l nn k (s ++ [(c : Int)]) (nextE nn s.length e c l)).length ≤ n * 8 ^ k := fun n => by
      induction n with
      | zero => simp
      | succ n ih =>
        rw [List.range_succ, List.flatMap_append, List.length_append, Nat.add_mul, Nat.one_mul]
        simp only [List.flatMap_cons, List.flatMap_nil, List.append_nil]
        have : (if nextE nn s.length e n l = 0 then [] else rfrom l nn k (s ++ [(n : Int)]) (nextE nn s.length e n l)).length ≤ 8 ^ k := by
          split
          · simp
          · exact rfrom_len k _ _
        omega
    have h8 : 8 ^ k ≤ 4096 := Nat.le_trans (Nat.pow_le_pow_right (by omega) (show k ≤ 4 by omega)) (by decide)
    refine r95_1 (s := s) (e := e) hs hcols hl hn hnl hsv' (by omega) hW hlt hout ?_ kr (fun w' sv e' hsv2 k2 he2 => ?_) fun v' w' ho kk => ?_
    · rw [hWk]
      have := hPl c
      have : c * 8 ^ k ≤ 8 * 4096 := Nat.mul_le_mul hc h8
      omega
    · rw [hWk]
      exact rfrom_calls hcols hl hnl hW k w' sv (s ++ [(c : Int)]) e' (by simp; omega) (hs.kp k2) (hn.kp k2) hsv2 he2
    · refine ⟨⟨c + 1, by omega, by go_num, ?_, kk⟩, by simp only [intOf]; omega⟩
      rw [hWk] at ho
      rw [List.range_succ, List.flatMap_append]
      simpa using ho

end Go.Proofs.Ytgalbokmgffhkaa
