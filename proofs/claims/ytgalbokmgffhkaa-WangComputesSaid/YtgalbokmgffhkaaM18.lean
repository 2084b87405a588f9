/- Texts of my own, merged by program: E4 E5 E6. -/
import Derived.Test.YtgalbokmgffhkaaM17
set_option linter.all false
/- Contract: rowsFrom of the specification: the inner loop. -/
namespace Go.Proofs.Ytgalbokmgffhkaa
open Go.Lf Go.RowKit Go.Wg

theorem r_nilTE {w : World} {K : Value → Prop} : binQ Try.prog w .eql 30 true nilS nilS K = K (.bool true) := by
  refine propext ⟨?_, r_nilT⟩
  rintro ⟨v, hv, hk⟩
  have h1 := hv w (Below.refl _ _)
  have h2 : (semBin .eql 30 true nilS nilS).run Try.prog w = .ok (.value (.bool true)) w := by kernel_rfl
  rw [h2] at h1
  injection h1 with h1 _
  injection h1 with h1
  rw [h1]; exact hk
theorem r_nilFE {w : World} {a : Addr} {n c : Nat} {K : Value → Prop} : binQ Try.prog w .eql 30 true (.slice (some a) n c) nilS K = K (.bool false) := by
  refine propext ⟨?_, r_nilF⟩
  rintro ⟨v, hv, hk⟩
  have h1 := hv w (Below.refl _ _)
  have h2 : (semBin .eql 30 true (.slice (some a) n c) nilS).run Try.prog w = .ok (.value (.bool false)) w := by kernel_rfl
  rw [h2] at h1
  injection h1 with h1 _
  injection h1 with h1
  rw [h1]; exact hk

theorem r_rem2 {w : World} {K : Value → Prop} {t : TypeId} {lit : Bool} (m : Nat) : binQ Try.prog w .rem t lit (.int .i64 m) (.int .i64 2) K = K (.int .i64 ((m % 2 : Nat) : Int)) := r_remN m 2 (by omega)

/-- The Norths that are asked for, if any. -/
def NIs (w : World) (v : Value) (nn : Option (List Int)) : Prop := match nn with
  | none => v = nilS
  | some n => RdInts w v n ∧ 0 < n.length
theorem NIs.kp {w w' : World} {v : Value} {nn : Option (List Int)} (h : NIs w v nn) (hk : Kp w w') : NIs w' v nn := by
  cases nn with
  | none => exact h
  | some n => exact ⟨h.1.below hk, h.2⟩

abbrev C95 (t0 t1 t4 t13 t15 t18 : Value) (w : World) (K : Value → Prop) : Prop :=
      iaS 4 t0 t15 fun t38 =>
      fa1 t38 2 fun t39 =>
      ld1 w t39 fun t40 =>
      binQ Try.prog w .eql 3 false t40 t13 fun t42 =>
      gdQ t42 true (fun k => k t4) fun t44 =>
      gdQ t42 true (fun k => k t0) fun t45 =>
      gdQ t42 true (fun k => k t15) fun t46 =>
      gdQ t42 true (fun k => iaS 4 t45 t46 k) fun t47 =>
      gdQ t42 true (fun k => fa1 t47 3 k) fun t48 =>
      gdQ t42 true (fun k => ld1 w t48 k) fun t49 =>
      gdQ t42 true (fun k => binQ Try.prog w .shr 3 false t44 t49 k) fun t50 =>
      gdQ t42 true (fun k => binQ Try.prog w .rem 3 true t50 (.int .i64 2) k) fun t51 =>
      gdQ t42 true (fun k => binQ Try.prog w .eql 3 true t51 (.int .i64 1) k) fun t52 =>
      pickQ t42 t52 (.bool false) fun t53 =>
      gdQ t53 true (fun k => k t1) fun t55 =>
      gdQ t53 true (fun k => binQ Try.prog w .eql 30 true t55 (.slice none 0 0) k) fun t56 =>
      gdQ t53 true (fun k => k t56) fun t57 =>
      gdQ t57 false (fun k => k t0) fun t58 =>
      gdQ t57 false (fun k => k t15) fun t59 =>
      gdQ t57 false (fun k => iaS 4 t58 t59 k) fun t60 =>
      gdQ t57 false (fun k => fa1 t60 0 k) fun t61 =>
      gdQ t57 false (fun k => ld1 w t61 k) fun t62 =>
      gdQ t57 false (fun k => k t1) fun t63 =>
      gdQ t57 false (fun k => k t18) fun t64 =>
      gdQ t57 false (fun k => iaS 1 t63 t64 k) fun t65 =>
      gdQ t57 false (fun k => ld1 w t65 k) fun t66 =>
      gdQ t57 false (fun k => binQ Try.prog w .eql 3 false t62 t66 k) fun t67 =>
      gdQ t53 true (fun k => pickQ t57 (.bool true) t67 k) fun t68 =>
      pickQ t53 t68 (.bool false) fun t69 =>
      K t69

set_option maxRecDepth 100000 in
theorem cond95 {w : World} {t0 t1 : Value} {l : List Tile} {nn : Option (List Int)} {x e c i : Nat} {t : Tile} {K : Value → Prop} (hr : RdT w t0 l) (ht : l[i]? = some t) (hcol : colsB t = true) (hn : NIs w t1 nn) (hnx : ∀ n, nn = some n → x < n.length) (hK : K (.bool (condE nn x e c t))) :
    C95 t0 t1 (.int .i64 e) (.int .i64 c) (.int .i64 i) (.int .i64 x) w K := by
  obtain ⟨b, off, cap, rfl, hlt, hc⟩ := hr.at ht
  have hcr := cols_range hcol
  have c0 : w.cell? ⟨b, off + i * 4, none⟩ = some (.int .i64 (tN t)) := hc 0 _ rfl
  have c2 : w.cell? ⟨b, off + i * 4 + 2, none⟩ = some (.int .i64 (tS t)) := hc 2 _ rfl
  have c3 : w.cell? ⟨b, off + i * 4 + 3, none⟩ = some (.int .i64 ((tW t).toNat : Nat)) := by
    rw [show (((tW t).toNat : Nat) : Int) = tW t by omega]
    exact hc 3 _ rfl
  unfold C95
  have hW7 : (tW t).toNat ≤ 7 := by omega
  by_cases g1 : tS t = (c : Int)
  case neg =>
    simp (disch := omega) only [r_ln, r_pick, r_pickT, r_pickF, r_condT, r_condF, r_gdTT, r_gdFF, r_gdTF, r_gdFT, r_gqTT, r_gqFF, r_gqTF, r_gqFT, r_not, r_lss, r_leq, r_gtr, r_geq, r_eql, r_neq, r_add, r_sub, r_min2, r_max2, r_min3, r_max3, r_fa, r_iaS, r_iaA, r_ex2a, r_ex2b, r_ex3a, r_ex3b, r_ex3c, r_nc, r_keepE, Nat.zero_add, Nat.add_zero, Nat.mul_one, Int.toNat_natCast, toNat_sub1, toNat_add1, decide_true, decide_false, Bool.not_true, Bool.not_false, if_true, if_false, Bool.false_eq_true, reduceCtorEq, r_ld c2, g1, r_gqU]
    have : condE nn x e c t = false := by simp only [condE]; rw [decide_eq_false g1]; rfl
    rw [this] at hK
    exact hK
  by_cases g2 : ((e / 2 ^ (tW t).toNat % 2 : Nat) : Int) = 1
  case neg =>
    simp (disch := omega) only [r_ln, r_pick, r_pickT, r_pickF, r_condT, r_condF, r_gdTT, r_gdFF, r_gdTF, r_gdFT, r_gqTT, r_gqFF, r_gqTF, r_gqFT, r_not, r_lss, r_leq, r_gtr, r_geq, r_eql, r_neq, r_add, r_sub, r_min2, r_max2, r_min3, r_max3, r_fa, r_iaS, r_iaA, r_ex2a, r_ex2b, r_ex3a, r_ex3b, r_ex3c, r_nc, r_keepE, Nat.zero_add, Nat.add_zero, Nat.mul_one, Int.toNat_natCast, toNat_sub1, toNat_add1, decide_true, decide_false, Bool.not_true, Bool.not_false, if_true, if_false, Bool.false_eq_true, reduceCtorEq, r_ld c2, decide_eq_true g1, r_ld c3, r_shrN]
    rw [r_rem2]
    simp (disch := omega) only [r_ln, r_pick, r_pickT, r_pickF, r_condT, r_condF, r_gdTT, r_gdFF, r_gdTF, r_gdFT, r_gqTT, r_gqFF, r_gqTF, r_gqFT, r_not, r_lss, r_leq, r_gtr, r_geq, r_eql, r_neq, r_add, r_sub, r_min2, r_max2, r_min3, r_max3, r_fa, r_iaS, r_iaA, r_ex2a, r_ex2b, r_ex3a, r_ex3b, r_ex3c, r_nc, r_keepE, Nat.zero_add, Nat.add_zero, Nat.mul_one, Int.toNat_natCast, toNat_sub1, toNat_add1, decide_true, decide_false, Bool.not_true, Bool.not_false, if_true, if_false, Bool.false_eq_true, reduceCtorEq, g2, r_gqU]
    have : condE nn x e c t = false := by simp only [condE]; rw [testBit_div, decide_eq_false g2, Bool.and_false]; rfl
    rw [this] at hK
    exact hK
  simp (disch := omega) only [r_ln, r_pick, r_pickT, r_pickF, r_condT, r_condF, r_gdTT, r_gdFF, r_gdTF, r_gdFT, r_gqTT, r_gqFF, r_gqTF, r_gqFT, r_not, r_lss, r_leq, r_gtr, r_geq, r_eql, r_neq, r_add, r_sub, r_min2, r_max2, r_min3, r_max3, r_fa, r_iaS, r_iaA, r_ex2a, r_ex2b, r_ex3a, r_ex3b, r_ex3c, r_nc, r_keepE, Nat.zero_add, Nat.add_zero, Nat.mul_one, Int.toNat_natCast, toNat_sub1, toNat_add1, decide_true, decide_false, Bool.not_true, Bool.not_false, if_true, if_false, Bool.false_eq_true, reduceCtorEq, r_ld c2, decide_eq_true g1, r_ld c3, r_shrN]
  rw [r_rem2]
  have hcond : condE nn x e c t = fitsN nn x t := by simp only [condE]; rw [testBit_div, decide_eq_true g1, decide_eq_true g2]; rfl
  rw [hcond] at hK
  cases nn with
  | none =>
    have ht1 : t1 = nilS := hn
    subst ht1
    simp (disch := omega) only [r_ln, r_pick, r_pickT, r_pickF, r_condT, r_condF, r_gdTT, r_gdFF, r_gdTF, r_gdFT, r_gqTT, r_gqFF, r_gqTF, r_gqFT, r_not, r_lss, r_leq, r_gtr, r_geq, r_eql, r_neq, r_add, r_sub, r_min2, r_max2, r_min3, r_max3, r_fa, r_iaS, r_iaA, r_ex2a, r_ex2b, r_ex3a, r_ex3b, r_ex3c, r_nc, r_keepE, Nat.zero_add, Nat.add_zero, Nat.mul_one, Int.toNat_natCast, toNat_sub1, toNat_add1, decide_true, decide_false, Bool.not_true, Bool.not_false, if_true, if_false, Bool.false_eq_true, reduceCtorEq, decide_eq_true g2, r_nilTE, r_gqU]
    exact hK
  | some n =>
    obtain ⟨hn1, hn2⟩ := hn
    have hx := hnx n rfl
    obtain ⟨b2, o2, c2', rfl, hcn⟩ := hn1.at hx
    simp (disch := omega) only [r_ln, r_pick, r_pickT, r_pickF, r_condT, r_condF, r_gdTT, r_gdFF, r_gdTF, r_gdFT, r_gqTT, r_gqFF, r_gqTF, r_gqFT, r_not, r_lss, r_leq, r_gtr, r_geq, r_eql, r_neq, r_add, r_sub, r_min2, r_max2, r_min3, r_max3, r_fa, r_iaS, r_iaA, r_ex2a, r_ex2b, r_ex3a, r_ex3b, r_ex3c, r_nc, r_keepE, Nat.zero_add, Nat.add_zero, Nat.mul_one, Int.toNat_natCast, toNat_sub1, toNat_add1, decide_true, decide_false, Bool.not_true, Bool.not_false, if_true, if_false, Bool.false_eq_true, reduceCtorEq, decide_eq_true g2, r_nilFE, r_gqU, r_ld c0, r_ld hcn]
    exact hK

set_option maxRecDepth 100000 in
theorem r95_1 {w0 w : World} {t0 t1 t3 ov : Value} {l : List Tile} {nn : Option (List Int)} {W c e : Nat} {s : List Int} {P : List (List Int)} {next : Value → Value → World → Prop}
    (hs : RdT w0 t0 l) (hcols : ∀ t ∈ l, colsB t = true) (hl : l.length ≤ 1000) (hn : NIs w0 t1 nn) (hnl : ∀ n, nn = some n → n.length = W) (hsv : RdInts w0 t3 s) (hx : s.length < W) (hW : W ≤ 4) (hc : c < 8)
    (hout : IRows w0.heap.size w ov P) (hPl : P.length + 8 ^ (W - s.length - 1) ≤ 100000) (hk : Kp w0 w)
    (ih : ∀ (w' : World) (sv : Value) (e' : Nat), RdInts w' sv (s ++ [(c : Int)]) → Kp w0 w' → e' < 256 → Calls Try.prog 95 #[t0, t1, .int .i64 W, sv, .int .i64 e'] w' fun r w'' => ∃ v, r = .returned v ∧ Kp w' w'' ∧ IRows w'.heap.size w'' v (rfrom l nn (W - s.length - 1) (s ++ [(c : Int)]) e'))
    (hnext : ∀ v' w', IRows w0.heap.size w' v' (P ++ if nextE nn s.length e c l = 0 then [] else rfrom l nn (W - s.length - 1) (s ++ [(c : Int)]) (nextE nn s.length e c l)) → Kp w0 w' → next v' (.int .i64 ((c : Int) + 1)) w') :
    S95L1 t0 t1 (.int .i64 W) t3 (.int .i64 e) ov (.int .i64 c) (.int .i64 s.length) next w := by
  obtain ⟨sa, scap, rfl, _⟩ := hs.len
  unfold S95L1
  refine ⟨fun t14 t15 wr => ∃ i : Nat, i ≤ l.length ∧ t15 = .int .i64 i ∧ t14 = .int .i64 (((l.take i).foldl (stepE nn s.length e c) 0 : Nat) : Int) ∧ Kp w wr, fun _ t15 _ => l.length - (intOf t15).toNat, ⟨0, by omega, rfl, rfl, Kp.refl _⟩, ?_⟩
  rintro _ _ _ wr ⟨i, hi, rfl, rfl, kr⟩
  by_cases hlt : i < l.length
  case pos =>
    have hlt' : (i : Int) < (l.length : Int) := by omega
    simp (disch := omega) only [r_ln, r_lss, decide_eq_true hlt', r_condT]
    refine r_drew fun wd kd _ => ?_
    have k0d := Kp.trans hk (Kp.trans kr kd)
    have ht : l[i]? = some (l[i]) := List.getElem?_eq_getElem hlt
    have hcol := hcols _ (List.getElem_mem hlt)
    refine cond95 (hs.kp k0d) ht hcol (hn.kp k0d) (fun n e => by rw [hnl n e]; exact hx) ?_
    have hfold : (l.take (i + 1)).foldl (stepE nn s.length e c) 0 = stepE nn s.length e c ((l.take i).foldl (stepE nn s.length e c) 0) l[i] := by
      rw [take_succ' _ _ hlt, List.foldl_append]; rfl
    have hlt256 : (l.take i).foldl (stepE nn s.length e c) 0 < 256 := fold_lt _ 0 (fun t ht => hcols t (List.mem_of_mem_take ht)) (by omega)
    generalize (l.take i).foldl (stepE nn s.length e c) 0 = a at *
    show Join _ _
    refine r_join1 (fun v' w' => v' = .int .i64 ((stepE nn s.length e c a l[i] : Nat) : Int) ∧ w' = wd) ?_ fun k' hk' => ?_
    · rintro v' w' ⟨ev, ew⟩
      subst ev
      subst ew
      try simp (disch := omega) only [r_ln, r_pick, r_pickT, r_pickF, r_condT, r_condF, r_gdTT, r_gdFF, r_gdTF, r_gdFT, r_gqTT, r_gqFF, r_gqTF, r_gqFT, r_not, r_lss, r_leq, r_gtr, r_geq, r_eql, r_neq, r_add, r_sub, r_min2, r_max2, r_min3, r_max3, r_fa, r_iaS, r_iaA, r_ex2a, r_ex2b, r_ex3a, r_ex3b, r_ex3c, r_nc, r_keepE, Nat.zero_add, Nat.add_zero, Nat.mul_one, Int.toNat_natCast, toNat_sub1, toNat_add1, decide_true, decide_false, Bool.not_true, Bool.not_false, if_true, if_false, Bool.false_eq_true, reduceCtorEq]
      refine ⟨⟨i + 1, by omega, by go_num, by rw [hfold], Kp.trans kr kd⟩, by simp only [intOf]; omega⟩
    · cases hcd : condE nn s.length e c l[i] with
      | false =>
        simp only [r_condF]
        exact hk' _ _ ⟨by rw [stepE, hcd]; rfl, rfl⟩
      | true =>
        have hcr := cols_range hcol
        obtain ⟨b, off, cap, ev, _, hcell⟩ := (hs.kp k0d).at ht
        cases ev
        have c1 : wd.cell? ⟨b, off + i * 4 + 1, none⟩ = some (.int .i64 ((tE l[i]).toNat : Nat)) := by
          rw [show (((tE l[i]).toNat : Nat) : Int) = tE l[i] by omega]
          exact hcell 1 _ rfl
        have h2 : 2 ^ (tE l[i]).toNat < 2 ^ 8 := Nat.pow_lt_pow_right (by omega) (by omega)
        simp (disch := omega) only [r_ln, r_pick, r_pickT, r_pickF, r_condT, r_condF, r_gdTT, r_gdFF, r_gdTF, r_gdFT, r_gqTT, r_gqFF, r_gqTF, r_gqFT, r_not, r_lss, r_leq, r_gtr, r_geq, r_eql, r_neq, r_add, r_sub, r_min2, r_max2, r_min3, r_max3, r_fa, r_iaS, r_iaA, r_ex2a, r_ex2b, r_ex3a, r_ex3b, r_ex3c, r_nc, r_keepE, Nat.zero_add, Nat.add_zero, Nat.mul_one, Int.toNat_natCast, toNat_sub1, toNat_add1, decide_true, decide_false, Bool.not_true, Bool.not_false, if_true, if_false, Bool.false_eq_true, reduceCtorEq, r_ld c1, r_shl1, r_orN]
        exact hk' _ _ ⟨by rw [stepE, if_pos hcd], rfl⟩
  have hlt' : ¬ (i : Int) < (l.length : Int) := by omega
  have hnx : (l.take i).foldl (stepE nn s.length e c) 0 = nextE nn s.length e c l := by rw [List.take_of_length_le (by omega)]; rfl
  rw [hnx]
  have hN := next_lt (nn := nn) (x := s.length) (e := e) (c := c) hcols
  generalize nextE nn s.length e c l = N at *
  have k0r := Kp.trans hk kr
  have hout' := hout.kp kr
  simp (disch := omega) only [r_ln, r_lss, hlt', decide_false, r_condF, r_neq]
  have hJ : ∀ v' w', IRows w0.heap.size w' v' (P ++ if N = 0 then [] else rfrom l nn (W - s.length - 1) (s ++ [(c : Int)]) N) → Kp w0 w' → (IRows w0.heap.size w' v' (P ++ if N = 0 then [] else rfrom l nn (W - s.length - 1) (s ++ [(c : Int)]) N) ∧ Kp w0 w') := fun _ _ a b => ⟨a, b⟩
  refine r_join1 (fun v' w' => IRows w0.heap.size w' v' (P ++ if N = 0 then [] else rfrom l nn (W - s.length - 1) (s ++ [(c : Int)]) N) ∧ Kp w0 w') (fun v' w' ⟨ho, kk⟩ => ?_) fun k' hk' => ?_
  · rw [r_add _ _ (by omega) (by omega)]
    exact hnext v' w' ho kk
  by_cases h0 : N = 0
  · subst h0
    simp (disch := omega) only [r_ln, r_pick, r_pickT, r_pickF, r_condT, r_condF, r_gdTT, r_gdFF, r_gdTF, r_gdFT, r_gqTT, r_gqFF, r_gqTF, r_gqFT, r_not, r_lss, r_leq, r_gtr, r_geq, r_eql, r_neq, r_add, r_sub, r_min2, r_max2, r_min3, r_max3, r_fa, r_iaS, r_iaA, r_ex2a, r_ex2b, r_ex3a, r_ex3b, r_ex3c, r_nc, r_keepE, Nat.zero_add, Nat.add_zero, Nat.mul_one, Int.toNat_natCast, toNat_sub1, toNat_add1, decide_true, decide_false, Bool.not_true, Bool.not_false, if_true, if_false, Bool.false_eq_true, reduceCtorEq, decide_eq_true (show ((0 : Nat) : Int) = 0 by rfl)]
    refine hk' _ _ ⟨?_, k0r⟩
    rw [if_pos rfl, List.append_nil]
    exact hout'
  · have h0' : ¬ ((N : Int) = 0) := by omega
    rw [if_neg h0] at hk'
    simp (disch := omega) only [h0', decide_false, Bool.not_false, r_condT]
    refine r_copyN (hsv.below k0r) (by omega) fun v2 w2 o2 k2 => ?_
    have k02 := Kp.trans k0r k2
    refine r_pushRec (x := (c : Int)) slt30 iC_len rfl (bs30 _ _ _) (by intro u hu; simp [iC] at hu; rw [hu]; rfl) (by omega) o2 (by omega) k2.size fun v3 w3 o3 c3 _ => ?_
    have k3 : Kp wr w3 := Kp.of_chg k2 c3 fun k e => (o2.lt e).1
    have k03 := Kp.trans k0r k3
    have i3 : RdInts w3 v3 (s ++ [(c : Int)]) := Rd.ints (o3.rd iC_len) (by simp; omega)
    refine r_use fok95 (ih w3 v3 N i3 k03 hN) rfl ?_
    rintro _ w4 ⟨v4, rfl, k4, o4⟩
    refine ⟨_, rfl, ?_⟩
    have k04 := Kp.trans k03 k4
    have hlen := rfrom_len (l := l) (nn := nn) (W - s.length - 1) (s ++ [(c : Int)]) N
    refine r_apRows (hout'.kp (Kp.trans k3 k4)) o4 k03.size (by omega) k04.size fun v5 w5 o5 c5 => ?_
    obtain ⟨vs, p1, _, _⟩ := hout'.kp (Kp.trans k3 k4)
    exact hk' _ _ ⟨o5, Kp.of_chg k04 c5 fun k e => (p1.lt e).1⟩

end Go.Proofs.Ytgalbokmgffhkaa

/- Contract: rowsFrom of the specification. -/
namespace Go.Proofs.Ytgalbokmgffhkaa
open Go.Lf Go.RowKit Go.Wg

theorem IRows.one {base : Nat} {w : World} {a : Option Addr} {n c : Nat} {r : List Int} (h : IntsAt base w (.slice a n c) r) (hb : base ≤ w.heap.size) : IRows base (w.alloc (.cells #[.slice a n c] 30)) (.slice (some ⟨w.heap.size, 0, none⟩) 1 1) [r] := by
  have o := rec_one (e := 30) (enc := vE) (x := .slice a n c) rfl w
  refine ⟨[.slice a n c], o.down hb, rfl, fun i u r' hu hr => ?_⟩
  match i with
  | 0 =>
    cases hu
    cases hr
    exact h.kp (below_alloc _)
  | i + 1 => simp at hu

theorem rfrom_step (l : List Tile) (nn : Option (List Int)) (k : Nat) (s : List Int) (e : Nat) : rfrom l nn (k + 1) s e = (List.range 8).flatMap fun c => if nextE nn s.length e c l = 0 then [] else rfrom l nn k (s ++ [(c : Int)]) (nextE nn s.length e c l) := rfl

set_option maxRecDepth 100000 in
theorem rfrom_calls {t0 t1 : Value} {l : List Tile} {nn : Option (List Int)} {W : Nat} (hcols : ∀ t ∈ l, colsB t = true) (hl : l.length ≤ 1000) (hnl : ∀ n, nn = some n → n.length = W) (hW : W ≤ 4) :
    ∀ (k : Nat) (w : World) (t3 : Value) (s : List Int) (e : Nat), s.length + k = W → RdT w t0 l → NIs w t1 nn → RdInts w t3 s → e < 256 →
      Calls Try.prog 95 #[t0, t1, .int .i64 W, t3, .int .i64 e] w fun r w' => ∃ v, r = .returned v ∧ Kp w w' ∧ IRows w.heap.size w' v (rfrom l nn k s e)
  | 0, w, t3, s, e, hk, hs, hn, hsv, he => by
    have hsv' := hsv
    obtain ⟨a3, c3, rfl, _, _⟩ := hsv.len
    refine lift95 ?_
    unfold S95
    have e1 : (s.length : Int) = (W : Int) := by omega
    simp (disch := omega) only [r_ln, r_pick, r_pickT, r_pickF, r_condT, r_condF, r_gdTT, r_gdFF, r_gdTF, r_gdFT, r_gqTT, r_gqFF, r_gqTF, r_gqFT, r_not, r_lss, r_leq, r_gtr, r_geq, r_eql, r_neq, r_add, r_sub, r_min2, r_max2, r_min3, r_max3, r_fa, r_iaS, r_iaA, r_ex2a, r_ex2b, r_ex3a, r_ex3b, r_ex3c, r_nc, r_keepE, Nat.zero_add, Nat.add_zero, Nat.mul_one, Int.toNat_natCast, toNat_sub1, toNat_add1, decide_true, decide_false, Bool.not_true, Bool.not_false, if_true, if_false, Bool.false_eq_true, reduceCtorEq, decide_eq_true e1]
    refine r_copyI hsv' (by omega) fun v2 w2 o2 k2 _ => ?_
    obtain ⟨a2, c2, rfl, _⟩ := o2.len
    rw [bs23]
    exact ⟨_, rfl, Kp.trans k2 (below_alloc _), IRows.one o2 k2.size⟩
  | k + 1, w, t3, s, e, hk, hs, hn, hsv, he => by
    have hsv' := hsv
    obtain ⟨a3, c3, rfl, _, _⟩ := hsv.len
    refine lift95 ?_
    unfold S95
    have e1 : ¬ (s.length : Int) = (W : Int) := by omega
    simp (disch := omega) only [r_ln, r_pick, r_pickT, r_pickF, r_condT, r_condF, r_gdTT, r_gdFF, r_gdTF, r_gdFT, r_gqTT, r_gqFF, r_gqTF, r_gqFT, r_not, r_lss, r_leq, r_gtr, r_geq, r_eql, r_neq, r_add, r_sub, r_min2, r_max2, r_min3, r_max3, r_fa, r_iaS, r_iaA, r_ex2a, r_ex2b, r_ex3a, r_ex3b, r_ex3c, r_nc, r_keepE, Nat.zero_add, Nat.add_zero, Nat.mul_one, Int.toNat_natCast, toNat_sub1, toNat_add1, decide_true, decide_false, Bool.not_true, Bool.not_false, if_true, if_false, Bool.false_eq_true, reduceCtorEq, e1]
    unfold S95L0
    have hWk : W - s.length - 1 = k := by omega
    refine ⟨fun t12 t13 wr => ∃ c : Nat, c ≤ 8 ∧ t13 = .int .i64 c ∧ IRows w.heap.size wr t12 ((List.range c).flatMap fun c => if nextE nn s.length e c l = 0 then [] else rfrom l nn k (s ++ [(c : Int)]) (nextE nn s.length e c l)) ∧ Kp w wr, fun _ t13 _ => 8 - (intOf t13).toNat, ⟨0, by omega, rfl, IRows.nil, Kp.refl _⟩, ?_⟩
    rintro _ t12 _ wr ⟨c, hc, rfl, hout, kr⟩
    by_cases hlt : c < 8
    case neg =>
      have hlt' : ¬ (c : Int) ≤ 7 := by omega
      have ec : c = 8 := by omega
      subst ec
      simp (disch := omega) only [r_ln, r_pick, r_pickT, r_pickF, r_condT, r_condF, r_gdTT, r_gdFF, r_gdTF, r_gdFT, r_gqTT, r_gqFF, r_gqTF, r_gqFT, r_not, r_lss, r_leq, r_gtr, r_geq, r_eql, r_neq, r_add, r_sub, r_min2, r_max2, r_min3, r_max3, r_fa, r_iaS, r_iaA, r_ex2a, r_ex2b, r_ex3a, r_ex3b, r_ex3c, r_nc, r_keepE, Nat.zero_add, Nat.add_zero, Nat.mul_one, Int.toNat_natCast, toNat_sub1, toNat_add1, decide_true, decide_false, Bool.not_true, Bool.not_false, if_true, if_false, Bool.false_eq_true, reduceCtorEq, hlt']
      exact ⟨_, rfl, kr, hout⟩
    have hlt' : (c : Int) ≤ 7 := by omega
    simp (disch := omega) only [r_ln, r_pick, r_pickT, r_pickF, r_condT, r_condF, r_gdTT, r_gdFF, r_gdTF, r_gdFT, r_gqTT, r_gqFF, r_gqTF, r_gqFT, r_not, r_lss, r_leq, r_gtr, r_geq, r_eql, r_neq, r_add, r_sub, r_min2, r_max2, r_min3, r_max3, r_fa, r_iaS, r_iaA, r_ex2a, r_ex2b, r_ex3a, r_ex3b, r_ex3c, r_nc, r_keepE, Nat.zero_add, Nat.add_zero, Nat.mul_one, Int.toNat_natCast, toNat_sub1, toNat_add1, decide_true, decide_false, Bool.not_true, Bool.not_false, if_true, if_false, Bool.false_eq_true, reduceCtorEq, decide_eq_true hlt']
    have hPl : ∀ n, ((List.range n).flatMap fun c => if nextE nn s.length e c l = 0 then [] else rfrom l nn k (s ++ [(c : Int)]) (nextE nn s.length e c l)).length ≤ n * 8 ^ k := fun n => by
      induction n with
      | zero => simp
      | succ n ih =>
        rw [List.range_succ, List.flatMap_append, List.length_append, Nat.add_mul, Nat.one_mul]
        simp only [List.flatMap_cons, List.flatMap_nil, List.append_nil]
        have : (if nextE nn s.length e n l = 0 then [] else rfrom l nn k (s ++ [(n : Int)]) (nextE nn s.length e n l)).length ≤ 8 ^ k := by
          split
          · simp
          · exact rfrom_len k _ _
        omega
    have h8 : 8 ^ k ≤ 4096 := Nat.le_trans (Nat.pow_le_pow_right (by omega) (show k ≤ 4 by omega)) (by decide)
    refine r95_1 (s := s) (e := e) hs hcols hl hn hnl hsv' (by omega) hW hlt hout ?_ kr (fun w' sv e' hsv2 k2 he2 => ?_) fun v' w' ho kk => ?_
    · rw [hWk]
      have := hPl c
      have : c * 8 ^ k ≤ 8 * 4096 := Nat.mul_le_mul hc h8
      omega
    · rw [hWk]
      exact rfrom_calls hcols hl hnl hW k w' sv (s ++ [(c : Int)]) e' (by simp; omega) (hs.kp k2) (hn.kp k2) hsv2 he2
    · refine ⟨⟨c + 1, by omega, by go_num, ?_, kk⟩, by simp only [intOf]; omega⟩
      rw [hWk] at ho
      rw [List.range_succ, List.flatMap_append]
      simpa using ho

end Go.Proofs.Ytgalbokmgffhkaa

/- Contracts: less, stands, Rows, Firsts of the specification. -/
namespace Go.Proofs.Ytgalbokmgffhkaa
open Go.Lf Go.RowKit Go.Wg

set_option maxRecDepth 100000 in
theorem less_calls {va vb : Value} {a b : List Int} (w : World) (ha : RdInts w va a) (hb : RdInts w vb b) (hab : a.length = b.length) : Calls Try.prog 61 #[va, vb] w fun e w' => e = .returned (.bool (decide (cmpL a b < 0))) ∧ Kp w w' := by
  obtain ⟨aa, ac, rfl, _, _⟩ := ha.len
  obtain ⟨ba, bc, rfl, _, _⟩ := hb.len
  refine lift61 ?_
  unfold S61 S61L0
  refine ⟨fun t5 wr => ∃ i : Nat, i ≤ a.length ∧ t5 = .int .i64 i ∧ cmpL a b = cmpL (a.drop i) (b.drop i) ∧ Kp w wr, fun t5 _ => a.length - (intOf t5).toNat, ⟨0, by omega, rfl, by simp, Kp.refl _⟩, ?_⟩
  rintro _ _ wr ⟨i, hi, rfl, hc, kr⟩
  by_cases hlt : i < a.length
  case neg =>
    have hlt' : ¬ (i : Int) < (a.length : Int) := by omega
    simp (disch := omega) only [r_ln, r_pick, r_pickT, r_pickF, r_condT, r_condF, r_gdTT, r_gdFF, r_gdTF, r_gdFT, r_gqTT, r_gqFF, r_gqTF, r_gqFT, r_not, r_lss, r_leq, r_gtr, r_geq, r_eql, r_neq, r_add, r_sub, r_min2, r_max2, r_min3, r_max3, r_fa, r_iaS, r_iaA, r_ex2a, r_ex2b, r_ex3a, r_ex3b, r_ex3c, r_nc, r_keepE, Nat.zero_add, Nat.add_zero, Nat.mul_one, Int.toNat_natCast, toNat_sub1, toNat_add1, decide_true, decide_false, Bool.not_true, Bool.not_false, if_true, if_false, Bool.false_eq_true, reduceCtorEq, hlt']
    refine ⟨ret_bool ?_, kr⟩
    rw [hc, List.drop_eq_nil_of_le (by omega), List.drop_eq_nil_of_le (by omega)]
    rfl
  have hlt' : (i : Int) < (a.length : Int) := by omega
  have hltb : i < b.length := by omega
  simp (disch := omega) only [r_ln, r_pick, r_pickT, r_pickF, r_condT, r_condF, r_gdTT, r_gdFF, r_gdTF, r_gdFT, r_gqTT, r_gqFF, r_gqTF, r_gqFT, r_not, r_lss, r_leq, r_gtr, r_geq, r_eql, r_neq, r_add, r_sub, r_min2, r_max2, r_min3, r_max3, r_fa, r_iaS, r_iaA, r_ex2a, r_ex2b, r_ex3a, r_ex3b, r_ex3c, r_nc, r_keepE, Nat.zero_add, Nat.add_zero, Nat.mul_one, Int.toNat_natCast, toNat_sub1, toNat_add1, decide_true, decide_false, Bool.not_true, Bool.not_false, if_true, if_false, Bool.false_eq_true, reduceCtorEq, decide_eq_true hlt']
  refine r_drew fun w2 k2 _ => ?_
  have k02 := Kp.trans kr k2
  obtain ⟨b1, o1, c1, e1, hc1⟩ := (ha.below k02).at hlt
  obtain ⟨b2, o2, c2, e2, hc2⟩ := (hb.below k02).at hltb
  cases e1
  cases e2
  have hi' : (i : Int).toNat = i := by omega
  have hst := cmpL_step hlt hltb
  rw [← hc] at hst
  by_cases hx : a.getD i 0 = b.getD i 0
  · simp (disch := omega) only [r_ln, r_pick, r_pickT, r_pickF, r_condT, r_condF, r_gdTT, r_gdFF, r_gdTF, r_gdFT, r_gqTT, r_gqFF, r_gqTF, r_gqFT, r_not, r_lss, r_leq, r_gtr, r_geq, r_eql, r_neq, r_add, r_sub, r_min2, r_max2, r_min3, r_max3, r_fa, r_iaS, r_iaA, r_ex2a, r_ex2b, r_ex3a, r_ex3b, r_ex3c, r_nc, r_keepE, Nat.zero_add, Nat.add_zero, Nat.mul_one, Int.toNat_natCast, toNat_sub1, toNat_add1, decide_true, decide_false, Bool.not_true, Bool.not_false, if_true, if_false, Bool.false_eq_true, reduceCtorEq, hi', r_ld hc1, r_ld hc2, decide_eq_true hx]
    have : cmp1 (a.getD i 0) (b.getD i 0) = 0 := by rw [hx]; simp [cmp1]
    rw [this, if_pos rfl] at hst
    exact ⟨⟨i + 1, by omega, by go_num, hst, k02⟩, by simp only [intOf]; omega⟩
  · simp (disch := omega) only [r_ln, r_pick, r_pickT, r_pickF, r_condT, r_condF, r_gdTT, r_gdFF, r_gdTF, r_gdFT, r_gqTT, r_gqFF, r_gqTF, r_gqFT, r_not, r_lss, r_leq, r_gtr, r_geq, r_eql, r_neq, r_add, r_sub, r_min2, r_max2, r_min3, r_max3, r_fa, r_iaS, r_iaA, r_ex2a, r_ex2b, r_ex3a, r_ex3b, r_ex3c, r_nc, r_keepE, Nat.zero_add, Nat.add_zero, Nat.mul_one, Int.toNat_natCast, toNat_sub1, toNat_add1, decide_true, decide_false, Bool.not_true, Bool.not_false, if_true, if_false, Bool.false_eq_true, reduceCtorEq, hi', r_ld hc1, r_ld hc2, hx]
    refine r_drew fun w3 k3 _ => ?_
    have d1 := cell_later k3 hc1
    have d2 := cell_later k3 hc2
    simp (disch := omega) only [r_ln, r_pick, r_pickT, r_pickF, r_condT, r_condF, r_gdTT, r_gdFF, r_gdTF, r_gdFT, r_gqTT, r_gqFF, r_gqTF, r_gqFT, r_not, r_lss, r_leq, r_gtr, r_geq, r_eql, r_neq, r_add, r_sub, r_min2, r_max2, r_min3, r_max3, r_fa, r_iaS, r_iaA, r_ex2a, r_ex2b, r_ex3a, r_ex3b, r_ex3c, r_nc, r_keepE, Nat.zero_add, Nat.add_zero, Nat.mul_one, Int.toNat_natCast, toNat_sub1, toNat_add1, decide_true, decide_false, Bool.not_true, Bool.not_false, if_true, if_false, Bool.false_eq_true, reduceCtorEq, hi', r_ld d1, r_ld d2]
    refine ⟨ret_bool ?_, Kp.trans k02 k3⟩
    rw [hst]
    unfold cmp1
    by_cases h1 : a.getD i 0 < b.getD i 0
    · rw [if_pos h1, decide_eq_true h1]; rfl
    · rw [if_neg h1, if_pos (show b.getD i 0 < a.getD i 0 by omega), decide_eq_false h1]; rfl

set_option maxRecDepth 100000 in
theorem stands_calls {pv sv : Value} {proof : List (List Int)} {s : List Int} {k : Int} (w : World) (hp : RdRows w pv proof) (hs : RdInts w sv s) (hrow : ∀ i, i < proof.length → (proof.getD i []).length = s.length + 1) :
    Calls Try.prog 63 #[pv, sv, .int .i64 k] w fun e w' => e = .returned (.bool (standsB proof s k)) ∧ Kp w w' := by
  obtain ⟨pa, pc, rfl, _⟩ := hp.len
  obtain ⟨sa, sc, rfl, hsl, _⟩ := hs.len
  refine lift63 ?_
  unfold S63 S63L0
  refine ⟨fun t7 wr => ∃ i : Nat, i ≤ proof.length ∧ t7 = .int .i64 i ∧ standsB (proof.take i) s k = false ∧ Kp w wr, fun t7 _ => proof.length - (intOf t7).toNat, ⟨0, by omega, rfl, rfl, Kp.refl _⟩, ?_⟩
  rintro _ _ wr ⟨i, hi, rfl, hno, kr⟩
  by_cases hlt : i < proof.length
  case neg =>
    have hlt' : ¬ (i : Int) < (proof.length : Int) := by omega
    rw [List.take_of_length_le (by omega)] at hno
    simp (disch := omega) only [r_ln, r_pick, r_pickT, r_pickF, r_condT, r_condF, r_gdTT, r_gdFF, r_gdTF, r_gdFT, r_gqTT, r_gqFF, r_gqTF, r_gqFT, r_not, r_lss, r_leq, r_gtr, r_geq, r_eql, r_neq, r_add, r_sub, r_min2, r_max2, r_min3, r_max3, r_fa, r_iaS, r_iaA, r_ex2a, r_ex2b, r_ex3a, r_ex3b, r_ex3c, r_nc, r_keepE, Nat.zero_add, Nat.add_zero, Nat.mul_one, Int.toNat_natCast, toNat_sub1, toNat_add1, decide_true, decide_false, Bool.not_true, Bool.not_false, if_true, if_false, Bool.false_eq_true, reduceCtorEq, hlt']
    exact ⟨ret_bool hno.symm, kr⟩
  have hlt' : (i : Int) < (proof.length : Int) := by omega
  have hpl := hrow i hlt
  obtain ⟨pb, po, _, rv, ep, hcell, hr⟩ := (hp.below kr).row hlt
  cases ep
  have hpr : proof[i] = proof.getD i [] := (getD_lt proof i [] hlt).symm
  have htk : standsB (proof.take (i + 1)) s k = (decide ((proof.getD i []).getD 0 0 < k) && decide ((proof.getD i []).drop 1 = s)) := by
    have hno' : ((proof.take i).any fun p => decide (p.getD 0 0 < k) && decide (p.drop 1 = s)) = false := hno
    rw [standsB, take_succ' _ _ hlt, List.any_append, hno', hpr]
    simp
  have hall : (decide ((proof.getD i []).getD 0 0 < k) && decide ((proof.getD i []).drop 1 = s)) = true → standsB proof s k = true := fun h => by
    rw [standsB, List.any_eq_true]
    exact ⟨proof.getD i [], getD_mem hlt, h⟩
  generalize proof.getD i [] = p at *
  obtain ⟨ra, rc, rfl, _, _⟩ := hr.len
  obtain ⟨rb, ro, _, er, hx0⟩ := hr.at (j := 0) (by omega)
  cases er
  rw [Nat.add_zero] at hx0
  have i0 : (0 : Int).toNat = 0 := rfl
  simp (disch := omega) only [r_ln, r_pick, r_pickT, r_pickF, r_condT, r_condF, r_gdTT, r_gdFF, r_gdTF, r_gdFT, r_gqTT, r_gqFF, r_gqTF, r_gqFT, r_not, r_lss, r_leq, r_gtr, r_geq, r_eql, r_neq, r_add, r_sub, r_min2, r_max2, r_min3, r_max3, r_fa, r_iaS, r_iaA, r_ex2a, r_ex2b, r_ex3a, r_ex3b, r_ex3c, r_nc, r_keepE, Nat.zero_add, Nat.add_zero, Nat.mul_one, Int.toNat_natCast, toNat_sub1, toNat_add1, decide_true, decide_false, Bool.not_true, Bool.not_false, if_true, if_false, Bool.false_eq_true, reduceCtorEq, decide_eq_true hlt', r_ld hcell, i0, Nat.zero_mul, r_ld hx0]
  unfold S63L1
  refine ⟨fun t8 t9 wq => ∃ x : Nat, x ≤ s.length ∧ t9 = .int .i64 x ∧ t8 = .bool (decide (p.getD 0 0 < k) && decide ((p.drop 1).take x = s.take x)) ∧ Kp wr wq, fun _ t9 _ => s.length - (intOf t9).toNat, ⟨0, by omega, rfl, by simp, Kp.refl _⟩, ?_⟩
  rintro _ _ _ wq ⟨x, hx, rfl, rfl, kq0⟩
  have kq := Kp.trans kr kq0
  have hdl : (p.drop 1).length = s.length := by rw [List.length_drop]; omega
  have no : (decide (p.getD 0 0 < k) && decide ((p.drop 1).take x = s.take x)) = false → standsB (proof.take (i + 1)) s k = false := fun h => by
    rw [htk]
    cases hh : decide (p.getD 0 0 < k) && decide (p.drop 1 = s) with
    | false => rfl
    | true =>
      simp only [Bool.and_eq_true, decide_eq_true_eq] at hh
      rw [hh.2, decide_eq_true hh.1, decide_eq_true rfl] at h
      cases h
  have goOn : standsB (proof.take (i + 1)) s k = false → (∃ i' : Nat, i' ≤ proof.length ∧ Value.int .i64 ((i : Int) + 1) = .int .i64 i' ∧ standsB (proof.take i') s k = false ∧ Kp w wq) ∧ proof.length - (intOf (.int .i64 ((i : Int) + 1))).toNat < proof.length - (intOf (.int .i64 (i : Int))).toNat := fun h =>
    ⟨⟨i + 1, by omega, by go_num, h, kq⟩, by simp only [intOf]; omega⟩
  by_cases hxl : x < s.length
  case neg =>
    have hxl' : ¬ (x : Int) < (s.length : Int) := by omega
    have hfull : (decide (p.getD 0 0 < k) && decide ((p.drop 1).take x = s.take x)) = (decide (p.getD 0 0 < k) && decide (p.drop 1 = s)) := by
      rw [List.take_of_length_le (by omega), List.take_of_length_le (by omega)]
    rw [hfull] at no ⊢
    cases hb : decide (p.getD 0 0 < k) && decide (p.drop 1 = s) with
    | false =>
      simp (disch := omega) only [r_ln, r_pick, r_pickT, r_pickF, r_condT, r_condF, r_gdTT, r_gdFF, r_gdTF, r_gdFT, r_gqTT, r_gqFF, r_gqTF, r_gqFT, r_not, r_lss, r_leq, r_gtr, r_geq, r_eql, r_neq, r_add, r_sub, r_min2, r_max2, r_min3, r_max3, r_fa, r_iaS, r_iaA, r_ex2a, r_ex2b, r_ex3a, r_ex3b, r_ex3c, r_nc, r_keepE, Nat.zero_add, Nat.add_zero, Nat.mul_one, Int.toNat_natCast, toNat_sub1, toNat_add1, decide_true, decide_false, Bool.not_true, Bool.not_false, if_true, if_false, Bool.false_eq_true, reduceCtorEq, hxl', r_gdU]
      exact goOn (no hb)
    | true =>
      simp (disch := omega) only [r_ln, r_pick, r_pickT, r_pickF, r_condT, r_condF, r_gdTT, r_gdFF, r_gdTF, r_gdFT, r_gqTT, r_gqFF, r_gqTF, r_gqFT, r_not, r_lss, r_leq, r_gtr, r_geq, r_eql, r_neq, r_add, r_sub, r_min2, r_max2, r_min3, r_max3, r_fa, r_iaS, r_iaA, r_ex2a, r_ex2b, r_ex3a, r_ex3b, r_ex3c, r_nc, r_keepE, Nat.zero_add, Nat.add_zero, Nat.mul_one, Int.toNat_natCast, toNat_sub1, toNat_add1, decide_true, decide_false, Bool.not_true, Bool.not_false, if_true, if_false, Bool.false_eq_true, reduceCtorEq, hxl', r_gdU]
      exact ⟨ret_bool (hall hb).symm, kq⟩
  have hxl' : (x : Int) < (s.length : Int) := by omega
  cases hb : decide (p.getD 0 0 < k) && decide ((p.drop 1).take x = s.take x) with
  | false =>
    simp (disch := omega) only [r_ln, r_pick, r_pickT, r_pickF, r_condT, r_condF, r_gdTT, r_gdFF, r_gdTF, r_gdFT, r_gqTT, r_gqFF, r_gqTF, r_gqFT, r_not, r_lss, r_leq, r_gtr, r_geq, r_eql, r_neq, r_add, r_sub, r_min2, r_max2, r_min3, r_max3, r_fa, r_iaS, r_iaA, r_ex2a, r_ex2b, r_ex3a, r_ex3b, r_ex3c, r_nc, r_keepE, Nat.zero_add, Nat.add_zero, Nat.mul_one, Int.toNat_natCast, toNat_sub1, toNat_add1, decide_true, decide_false, Bool.not_true, Bool.not_false, if_true, if_false, Bool.false_eq_true, reduceCtorEq, decide_eq_true hxl']
    exact goOn (no hb)
  | true =>
  simp (disch := omega) only [r_ln, r_pick, r_pickT, r_pickF, r_condT, r_condF, r_gdTT, r_gdFF, r_gdTF, r_gdFT, r_gqTT, r_gqFF, r_gqTF, r_gqFT, r_not, r_lss, r_leq, r_gtr, r_geq, r_eql, r_neq, r_add, r_sub, r_min2, r_max2, r_min3, r_max3, r_fa, r_iaS, r_iaA, r_ex2a, r_ex2b, r_ex3a, r_ex3b, r_ex3c, r_nc, r_keepE, Nat.zero_add, Nat.add_zero, Nat.mul_one, Int.toNat_natCast, toNat_sub1, toNat_add1, decide_true, decide_false, Bool.not_true, Bool.not_false, if_true, if_false, Bool.false_eq_true, reduceCtorEq, decide_eq_true hxl']
  refine r_drew fun w2 k2 _ => ?_
  have k02 := Kp.trans kq k2
  have kr2 := Kp.trans kq0 k2
  have hcell2 := cell_later kr2 hcell
  obtain ⟨_, _, _, er2, hx2⟩ := (hr.below kr2).at (j := x + 1) (by omega)
  cases er2
  obtain ⟨sb, so, _, es2, hs2⟩ := (hs.below k02).at hxl
  cases es2
  have i1 : ((x : Int) + 1).toNat = x + 1 := by omega
  have hxi : (x : Int).toNat = x := by omega
  have hii : (i : Int).toNat = i := by omega
  simp (disch := omega) only [r_ln, r_pick, r_pickT, r_pickF, r_condT, r_condF, r_gdTT, r_gdFF, r_gdTF, r_gdFT, r_gqTT, r_gqFF, r_gqTF, r_gqFT, r_not, r_lss, r_leq, r_gtr, r_geq, r_eql, r_neq, r_add, r_sub, r_min2, r_max2, r_min3, r_max3, r_fa, r_iaS, r_iaA, r_ex2a, r_ex2b, r_ex3a, r_ex3b, r_ex3c, r_nc, r_keepE, Nat.zero_add, Nat.add_zero, Nat.mul_one, Int.toNat_natCast, toNat_sub1, toNat_add1, decide_true, decide_false, Bool.not_true, Bool.not_false, if_true, if_false, Bool.false_eq_true, reduceCtorEq, hii, r_ld hcell2, i1, r_ld hx2, hxi, r_ld hs2]
  refine ⟨⟨x + 1, by omega, by go_num, ?_, kr2⟩, by simp only [intOf]; omega⟩
  congr 1
  simp only [Bool.and_eq_true, decide_eq_true_eq] at hb
  rw [decide_eq_true hb.1, Bool.true_and]
  have hxd : x < (p.drop 1).length := by omega
  have e1 : (p.drop 1)[x] = p.getD (x + 1) 0 := by
    rw [List.getElem_drop, getD_lt _ _ _ (by omega)]
    congr 1
    omega
  rw [take_succ' _ _ hxd, take_succ' _ _ hxl, hb.2, e1, ← getD_lt s x 0 hxl]
  by_cases h : p.getD (x + 1) 0 = s.getD x 0
  · rw [decide_eq_true h, h, decide_eq_true rfl]
  · rw [decide_eq_false h, decide_eq_false (fun e => h (by have := List.append_cancel_left e; simpa using this))]

def rowsOk (l : List Tile) (n : List Int) : Bool := setB l && sideB n.length && n.all colB
/-- What Rows returns. -/
def RowsPost (l : List Tile) (n : List Int) (base : Nat) (w' : World) (e : Ending) : Prop :=
  (rowsOk l n = false ∧ e = .returned (.tuple #[nilS, .int .i64 2])) ∨ (rowsOk l n = true ∧ ∃ v, e = .returned (.tuple #[v, .int .i64 0]) ∧ IRows base w' v (rfrom l (some n) n.length [] 255))

set_option maxRecDepth 100000 in
theorem refrows_calls {v nv : Value} {l : List Tile} {n : List Int} (w : World) (hr : RdT w v l) (hn : RdInts w nv n) : Calls Try.prog 48 #[v, nv] w fun e w' => Kp w w' ∧ RowsPost l n w.heap.size w' e := by
  have hn' := hn
  obtain ⟨na, nc, rfl, _, _⟩ := hn.len
  refine lift48 ?_
  unfold S48
  refine r_use fok35 (refset_calls w hr) rfl ?_
  rintro _ w1 ⟨rfl, k1⟩
  refine ⟨_, rfl, ?_⟩
  cases hs : setB l with
  | false =>
    simp (disch := omega) only [r_ln, r_pick, r_pickT, r_pickF, r_condT, r_condF, r_gdTT, r_gdFF, r_gdTF, r_gdFT, r_gqTT, r_gqFF, r_gqTF, r_gqFT, r_not, r_lss, r_leq, r_gtr, r_geq, r_eql, r_neq, r_add, r_sub, r_min2, r_max2, r_min3, r_max3, r_fa, r_iaS, r_iaA, r_ex2a, r_ex2b, r_ex3a, r_ex3b, r_ex3c, r_nc, r_keepE, Nat.zero_add, Nat.add_zero, Nat.mul_one, Int.toNat_natCast, toNat_sub1, toNat_add1, decide_true, decide_false, Bool.not_true, Bool.not_false, if_true, if_false, Bool.false_eq_true, reduceCtorEq]
    exact ⟨k1, .inl ⟨by rw [rowsOk, hs]; rfl, rfl⟩⟩
  | true =>
  simp (disch := omega) only [r_ln, r_pick, r_pickT, r_pickF, r_condT, r_condF, r_gdTT, r_gdFF, r_gdTF, r_gdFT, r_gqTT, r_gqFF, r_gqTF, r_gqFT, r_not, r_lss, r_leq, r_gtr, r_geq, r_eql, r_neq, r_add, r_sub, r_min2, r_max2, r_min3, r_max3, r_fa, r_iaS, r_iaA, r_ex2a, r_ex2b, r_ex3a, r_ex3b, r_ex3c, r_nc, r_keepE, Nat.zero_add, Nat.add_zero, Nat.mul_one, Int.toNat_natCast, toNat_sub1, toNat_add1, decide_true, decide_false, Bool.not_true, Bool.not_false, if_true, if_false, Bool.false_eq_true, reduceCtorEq]
  refine r_use fok68 (size_calls n.length w1) rfl ?_
  rintro _ _ ⟨rfl, rfl⟩
  refine ⟨_, rfl, ?_⟩
  cases hsd : sideB n.length with
  | false =>
    simp (disch := omega) only [r_ln, r_pick, r_pickT, r_pickF, r_condT, r_condF, r_gdTT, r_gdFF, r_gdTF, r_gdFT, r_gqTT, r_gqFF, r_gqTF, r_gqFT, r_not, r_lss, r_leq, r_gtr, r_geq, r_eql, r_neq, r_add, r_sub, r_min2, r_max2, r_min3, r_max3, r_fa, r_iaS, r_iaA, r_ex2a, r_ex2b, r_ex3a, r_ex3b, r_ex3c, r_nc, r_keepE, Nat.zero_add, Nat.add_zero, Nat.mul_one, Int.toNat_natCast, toNat_sub1, toNat_add1, decide_true, decide_false, Bool.not_true, Bool.not_false, if_true, if_false, Bool.false_eq_true, reduceCtorEq]
    exact ⟨k1, .inl ⟨by rw [rowsOk, hs, hsd]; rfl, rfl⟩⟩
  | true =>
  have hW : 1 ≤ n.length ∧ n.length ≤ 4 := by
    simp only [sideB, decide_eq_true_eq] at hsd
    omega
  simp (disch := omega) only [r_ln, r_pick, r_pickT, r_pickF, r_condT, r_condF, r_gdTT, r_gdFF, r_gdTF, r_gdFT, r_gqTT, r_gqFF, r_gqTF, r_gqFT, r_not, r_lss, r_leq, r_gtr, r_geq, r_eql, r_neq, r_add, r_sub, r_min2, r_max2, r_min3, r_max3, r_fa, r_iaS, r_iaA, r_ex2a, r_ex2b, r_ex3a, r_ex3b, r_ex3c, r_nc, r_keepE, Nat.zero_add, Nat.add_zero, Nat.mul_one, Int.toNat_natCast, toNat_sub1, toNat_add1, decide_true, decide_false, Bool.not_true, Bool.not_false, if_true, if_false, Bool.false_eq_true, reduceCtorEq]
  unfold S48L0
  refine ⟨fun t6 wr => ∃ i : Nat, i ≤ n.length ∧ t6 = .int .i64 i ∧ (n.take i).all colB = true ∧ Kp w wr, fun t6 _ => n.length - (intOf t6).toNat, ⟨0, by omega, rfl, rfl, k1⟩, ?_⟩
  rintro _ _ wr ⟨i, hi, rfl, hall, kr⟩
  by_cases hlt : i < n.length
  case neg =>
    have hlt' : ¬ (i : Int) < (n.length : Int) := by omega
    rw [List.take_of_length_le (by omega)] at hall
    simp (disch := omega) only [r_ln, r_pick, r_pickT, r_pickF, r_condT, r_condF, r_gdTT, r_gdFF, r_gdTF, r_gdFT, r_gqTT, r_gqFF, r_gqTF, r_gqFT, r_not, r_lss, r_leq, r_gtr, r_geq, r_eql, r_neq, r_add, r_sub, r_min2, r_max2, r_min3, r_max3, r_fa, r_iaS, r_iaA, r_ex2a, r_ex2b, r_ex3a, r_ex3b, r_ex3c, r_nc, r_keepE, Nat.zero_add, Nat.add_zero, Nat.mul_one, Int.toNat_natCast, toNat_sub1, toNat_add1, decide_true, decide_false, Bool.not_true, Bool.not_false, if_true, if_false, Bool.false_eq_true, reduceCtorEq, hlt']
    have hset := isSet_of hs
    have e255 : (Value.int .i64 255) = .int .i64 ((255 : Nat) : Int) := rfl
    rw [e255]
    have h2 := rfrom_calls (t0 := v) (t1 := .slice na n.length nc) (l := l) (nn := some n) (W := n.length) hset.cols (by have := hset.most; omega) (fun m e => by cases e; rfl) hW.2 n.length wr nilS [] 255 (by simp) (hr.kp kr) ⟨hn'.below kr, by omega⟩ ⟨none, 0, rfl, ⟨by simp, by simp⟩, fun h => absurd h (by simp)⟩ (by omega)
    refine r_use fok95 h2 rfl ?_
    rintro _ w2 ⟨v2, rfl, k2, o2⟩
    refine ⟨_, rfl, ?_⟩
    exact ⟨Kp.trans kr k2, .inr ⟨by rw [rowsOk, hs, hsd, hall]; rfl, v2, rfl, o2.down kr.size⟩⟩
  have hlt' : (i : Int) < (n.length : Int) := by omega
  obtain ⟨b, off, _, ev, hc⟩ := (hn'.below kr).at hlt
  cases ev
  have hii : (i : Int).toNat = i := by omega
  simp (disch := omega) only [r_ln, r_pick, r_pickT, r_pickF, r_condT, r_condF, r_gdTT, r_gdFF, r_gdTF, r_gdFT, r_gqTT, r_gqFF, r_gqTF, r_gqFT, r_not, r_lss, r_leq, r_gtr, r_geq, r_eql, r_neq, r_add, r_sub, r_min2, r_max2, r_min3, r_max3, r_fa, r_iaS, r_iaA, r_ex2a, r_ex2b, r_ex3a, r_ex3b, r_ex3c, r_nc, r_keepE, Nat.zero_add, Nat.add_zero, Nat.mul_one, Int.toNat_natCast, toNat_sub1, toNat_add1, decide_true, decide_false, Bool.not_true, Bool.not_false, if_true, if_false, Bool.false_eq_true, reduceCtorEq, decide_eq_true hlt', hii, r_ld hc]
  refine r_use fok62 (refcolour_calls _ wr) rfl ?_
  rintro _ _ ⟨rfl, rfl⟩
  refine ⟨_, rfl, ?_⟩
  rw [getD_lt _ _ _ hlt]
  cases hcol : colB n[i] with
  | false =>
    simp (disch := omega) only [r_ln, r_pick, r_pickT, r_pickF, r_condT, r_condF, r_gdTT, r_gdFF, r_gdTF, r_gdFT, r_gqTT, r_gqFF, r_gqTF, r_gqFT, r_not, r_lss, r_leq, r_gtr, r_geq, r_eql, r_neq, r_add, r_sub, r_min2, r_max2, r_min3, r_max3, r_fa, r_iaS, r_iaA, r_ex2a, r_ex2b, r_ex3a, r_ex3b, r_ex3c, r_nc, r_keepE, Nat.zero_add, Nat.add_zero, Nat.mul_one, Int.toNat_natCast, toNat_sub1, toNat_add1, decide_true, decide_false, Bool.not_true, Bool.not_false, if_true, if_false, Bool.false_eq_true, reduceCtorEq]
    refine ⟨kr, .inl ⟨?_, rfl⟩⟩
    have : n.all colB = false := by
      cases hh : n.all colB with
      | false => rfl
      | true =>
        have := List.all_eq_true.1 hh _ (List.getElem_mem hlt)
        rw [hcol] at this
        cases this
    rw [rowsOk, this, Bool.and_false]
  | true =>
    simp (disch := omega) only [r_ln, r_pick, r_pickT, r_pickF, r_condT, r_condF, r_gdTT, r_gdFF, r_gdTF, r_gdFT, r_gqTT, r_gqFF, r_gqTF, r_gqFT, r_not, r_lss, r_leq, r_gtr, r_geq, r_eql, r_neq, r_add, r_sub, r_min2, r_max2, r_min3, r_max3, r_fa, r_iaS, r_iaA, r_ex2a, r_ex2b, r_ex3a, r_ex3b, r_ex3c, r_nc, r_keepE, Nat.zero_add, Nat.add_zero, Nat.mul_one, Int.toNat_natCast, toNat_sub1, toNat_add1, decide_true, decide_false, Bool.not_true, Bool.not_false, if_true, if_false, Bool.false_eq_true, reduceCtorEq]
    refine ⟨⟨i + 1, by omega, by go_num, ?_, kr⟩, by simp only [intOf]; omega⟩
    rw [take_succ' _ _ hlt, List.all_append, hall]
    simp [hcol]

set_option maxRecDepth 100000 in
theorem firsts_calls {v : Value} {l : List Tile} {W : Nat} (w : World) (hr : RdT w v l) (hs : IsSet l) (hW : 1 ≤ W ∧ W ≤ 4) : Calls Try.prog 64 #[v, .int .i64 W] w fun e w' => ∃ v', e = .returned v' ∧ Kp w w' ∧ IRows w.heap.size w' v' (rfrom l none W [] 255) := by
  refine lift64 ?_
  unfold S64
  have e255 : (Value.int .i64 255) = .int .i64 ((255 : Nat) : Int) := rfl
  rw [e255]
  have h2 := rfrom_calls (t0 := v) (t1 := nilS) (l := l) (nn := none) (W := W) hs.cols (by have := hs.most; omega) (fun m e => by cases e) hW.2 W w nilS [] 255 (by simp) hr rfl ⟨none, 0, rfl, ⟨by simp, by simp⟩, fun h => absurd h (by simp)⟩ (by omega)
  refine r_use fok95 h2 rfl ?_
  rintro _ w2 ⟨v2, rfl, k2, o2⟩
  exact ⟨_, rfl, v2, rfl, k2, o2⟩

end Go.Proofs.Ytgalbokmgffhkaa
