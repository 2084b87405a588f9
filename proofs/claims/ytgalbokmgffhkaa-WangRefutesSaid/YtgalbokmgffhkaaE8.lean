/- Contract: Refutes of the specification; WangRefutes. -/
import Derived.Test.YtgalbokmgffhkaaE7
import Derived.Test.YtgalbokmgffhkaaC2
set_option linter.all false
namespace Go.Proofs.Ytgalbokmgffhkaa
open Go.Lf Go.RowKit Go.Wg

set_option maxRecDepth 100000 in
theorem r20_0 {w0 w : World} {v pv : Value} {l : List Tile} {proof : List (List Int)} {W H : Nat} {K : Ending → World → Prop} (hr : RdT w v l) (hs : setB l = true) (hW : 1 ≤ W ∧ W ≤ 4) (hH : 1 ≤ H ∧ H ≤ 4) (hp : RdRows w pv proof) (hk : Kp w0 w)
    (hK : ∀ w' b, Kp w0 w' → (b = true ↔ okP W H proof ∧ finP (linesL l W) (deadL proof)) → K (.returned (.tuple #[.bool b, .int .i64 0])) w') : S20L0 v (.int .i64 W) (.int .i64 H) pv K w := by
  have hp' := hp
  obtain ⟨pa, pc, rfl, _⟩ := hp.len
  have hset := isSet_of hs
  unfold S20L0
  refine ⟨fun t wr => ∃ i : Nat, i ≤ proof.length ∧ t = .int .i64 i ∧ (∀ k, k < i → rowB W H (proof.getD k []) = true ∧ upB proof k = true) ∧ Kp w wr, fun t _ => proof.length - (intOf t).toNat, ⟨0, by omega, rfl, fun k hk => absurd hk (by omega), Kp.refl _⟩, ?_⟩
  rintro _ _ wr ⟨i, hi, rfl, hok, kr⟩
  by_cases hlt : i < proof.length
  case neg =>
    have hlt' : ¬ (i : Int) < (proof.length : Int) := by omega
    have hokP : okP W H proof := fun k hk => hok k (by omega)
    simp (disch := omega) only [r_ln, r_pick, r_pickT, r_pickF, r_condT, r_condF, r_gdTT, r_gdFF, r_gdTF, r_gdFT, r_gqTT, r_gqFF, r_gqTF, r_gqFT, r_not, r_lss, r_leq, r_gtr, r_geq, r_eql, r_neq, r_add, r_sub, r_min2, r_max2, r_min3, r_max3, r_fa, r_iaS, r_iaA, r_ex2a, r_ex2b, r_ex3a, r_ex3b, r_ex3c, r_nc, r_keepE, Nat.zero_add, Nat.add_zero, Nat.mul_one, Int.toNat_natCast, toNat_sub1, toNat_add1, decide_true, decide_false, Bool.not_true, Bool.not_false, if_true, if_false, Bool.false_eq_true, reduceCtorEq, hlt']
    refine r20_2 (w0 := w) (hr.kp kr) hs hW (hp'.below kr) (fun p hp2 => ?_) kr fun w' b kk hb => hK w' b (Kp.trans hk kk) ?_
    · obtain ⟨j, hj, rfl⟩ := List.getElem_of_mem hp2
      have := (hokP j hj).1
      rw [getD_lt _ _ _ hj] at this
      simp only [rowB, Bool.and_eq_true, decide_eq_true_eq] at this
      exact ⟨this.1.1.1, this.2⟩
    · rw [hb, fin_iff hset.cols hokP]
      exact ⟨fun h => ⟨hokP, h⟩, fun h => h.2⟩
  have hlt' : (i : Int) < (proof.length : Int) := by omega
  have out : ∀ w', Kp w w' → ¬ (rowB W H (proof.getD i []) = true ∧ upB proof i = true) → K (.returned (.tuple #[.bool false, .int .i64 0])) w' := fun w' kk hb =>
    hK w' false (Kp.trans hk kk) ⟨fun h => (by cases h), fun h => absurd (h.1 i hlt) hb⟩
  simp (disch := omega) only [r_ln, r_lss, decide_eq_true hlt', r_condT]
  refine r_drew fun wd kd _ => ?_
  have krd := Kp.trans kr kd
  obtain ⟨pb, po, _, qv, ep, pcell, hq⟩ := (hp'.below krd).row hlt
  cases ep
  obtain ⟨qa, qc, rfl, _, _⟩ := hq.len
  have hii : (i : Int).toNat = i := by omega
  have i0 : (0 : Int).toNat = 0 := rfl
  have row : rowB W H (proof.getD i []) = true ↔ (((proof.getD i []).length = W + 1 ∧ 1 ≤ (proof.getD i []).getD 0 0) ∧ (proof.getD i []).getD 0 0 < H) ∧ ((proof.getD i []).drop 1).all colB = true := by
    simp only [rowB, Bool.and_eq_true, decide_eq_true_eq]
  by_cases g1 : ((proof.getD i []).length : Int) = (W : Int) + 1
  case neg =>
    simp (disch := omega) only [r_ln, r_pick, r_pickT, r_pickF, r_condT, r_condF, r_gdTT, r_gdFF, r_gdTF, r_gdFT, r_gqTT, r_gqFF, r_gqTF, r_gqFT, r_not, r_lss, r_leq, r_gtr, r_geq, r_eql, r_neq, r_add, r_sub, r_min2, r_max2, r_min3, r_max3, r_fa, r_iaS, r_iaA, r_ex2a, r_ex2b, r_ex3a, r_ex3b, r_ex3c, r_nc, r_keepE, Nat.zero_add, Nat.add_zero, Nat.mul_one, Int.toNat_natCast, toNat_sub1, toNat_add1, decide_true, decide_false, Bool.not_true, Bool.not_false, if_true, if_false, Bool.false_eq_true, reduceCtorEq, hii, r_ld pcell, g1, r_gqU, r_gdU]
    refine ⟨Kp.refl _, ?_⟩
    try simp (disch := omega) only [r_ln, r_pick, r_pickT, r_pickF, r_condT, r_condF, r_gdTT, r_gdFF, r_gdTF, r_gdFT, r_gqTT, r_gqFF, r_gqTF, r_gqFT, r_not, r_lss, r_leq, r_gtr, r_geq, r_eql, r_neq, r_add, r_sub, r_min2, r_max2, r_min3, r_max3, r_fa, r_iaS, r_iaA, r_ex2a, r_ex2b, r_ex3a, r_ex3b, r_ex3c, r_nc, r_keepE, Nat.zero_add, Nat.add_zero, Nat.mul_one, Int.toNat_natCast, toNat_sub1, toNat_add1, decide_true, decide_false, Bool.not_true, Bool.not_false, if_true, if_false, Bool.false_eq_true, reduceCtorEq, r_gqU, r_gdU]
    exact out _ krd fun h => g1 (by have := (row.1 h.1).1.1.1; omega)
  have hpl : (proof.getD i []).length = W + 1 := by omega
  obtain ⟨qb, qo, _, eq, qcell⟩ := hq.at (j := 0) (by omega)
  cases eq
  rw [Nat.add_zero] at qcell
  by_cases g2 : (proof.getD i []).getD 0 0 < 1
  · simp (disch := omega) only [r_ln, r_pick, r_pickT, r_pickF, r_condT, r_condF, r_gdTT, r_gdFF, r_gdTF, r_gdFT, r_gqTT, r_gqFF, r_gqTF, r_gqFT, r_not, r_lss, r_leq, r_gtr, r_geq, r_eql, r_neq, r_add, r_sub, r_min2, r_max2, r_min3, r_max3, r_fa, r_iaS, r_iaA, r_ex2a, r_ex2b, r_ex3a, r_ex3b, r_ex3c, r_nc, r_keepE, Nat.zero_add, Nat.add_zero, Nat.mul_one, Int.toNat_natCast, toNat_sub1, toNat_add1, decide_true, decide_false, Bool.not_true, Bool.not_false, if_true, if_false, Bool.false_eq_true, reduceCtorEq, hii, r_ld pcell, decide_eq_true g1, i0, Nat.zero_mul, r_ld qcell, decide_eq_true g2, r_gqU, r_gdU]
    refine ⟨Kp.refl _, ?_⟩
    try simp (disch := omega) only [r_ln, r_pick, r_pickT, r_pickF, r_condT, r_condF, r_gdTT, r_gdFF, r_gdTF, r_gdFT, r_gqTT, r_gqFF, r_gqTF, r_gqFT, r_not, r_lss, r_leq, r_gtr, r_geq, r_eql, r_neq, r_add, r_sub, r_min2, r_max2, r_min3, r_max3, r_fa, r_iaS, r_iaA, r_ex2a, r_ex2b, r_ex3a, r_ex3b, r_ex3c, r_nc, r_keepE, Nat.zero_add, Nat.add_zero, Nat.mul_one, Int.toNat_natCast, toNat_sub1, toNat_add1, decide_true, decide_false, Bool.not_true, Bool.not_false, if_true, if_false, Bool.false_eq_true, reduceCtorEq, r_gqU, r_gdU]
    exact out _ krd fun h => by have := (row.1 h.1).1.1.2; omega
  by_cases g3 : (H : Int) ≤ (proof.getD i []).getD 0 0
  · simp (disch := omega) only [r_ln, r_pick, r_pickT, r_pickF, r_condT, r_condF, r_gdTT, r_gdFF, r_gdTF, r_gdFT, r_gqTT, r_gqFF, r_gqTF, r_gqFT, r_not, r_lss, r_leq, r_gtr, r_geq, r_eql, r_neq, r_add, r_sub, r_min2, r_max2, r_min3, r_max3, r_fa, r_iaS, r_iaA, r_ex2a, r_ex2b, r_ex3a, r_ex3b, r_ex3c, r_nc, r_keepE, Nat.zero_add, Nat.add_zero, Nat.mul_one, Int.toNat_natCast, toNat_sub1, toNat_add1, decide_true, decide_false, Bool.not_true, Bool.not_false, if_true, if_false, Bool.false_eq_true, reduceCtorEq, hii, r_ld pcell, decide_eq_true g1, i0, Nat.zero_mul, r_ld qcell, g2, decide_eq_true g3, r_gqU, r_gdU]
    refine ⟨Kp.refl _, ?_⟩
    try simp (disch := omega) only [r_ln, r_pick, r_pickT, r_pickF, r_condT, r_condF, r_gdTT, r_gdFF, r_gdTF, r_gdFT, r_gqTT, r_gqFF, r_gqTF, r_gqFT, r_not, r_lss, r_leq, r_gtr, r_geq, r_eql, r_neq, r_add, r_sub, r_min2, r_max2, r_min3, r_max3, r_fa, r_iaS, r_iaA, r_ex2a, r_ex2b, r_ex3a, r_ex3b, r_ex3c, r_nc, r_keepE, Nat.zero_add, Nat.add_zero, Nat.mul_one, Int.toNat_natCast, toNat_sub1, toNat_add1, decide_true, decide_false, Bool.not_true, Bool.not_false, if_true, if_false, Bool.false_eq_true, reduceCtorEq, r_gqU, r_gdU]
    exact out _ krd fun h => by have := (row.1 h.1).1.2; omega
  have done : ∀ w', Kp w w' → upB proof i = true → S20L1 (.int .i64 W) (.slice (some ⟨pb, po, none⟩) proof.length pc) (.int .i64 i) (fun a w => (∃ i, i ≤ proof.length ∧ a = .int .i64 (i : Nat) ∧ (∀ k, k < i → rowB W H (proof.getD k []) = true ∧ upB proof k = true) ∧ Kp ‹World› w) ∧ proof.length - (intOf a).toNat < proof.length - (intOf (.int .i64 (i : Int))).toNat) K w' → True := fun _ _ _ _ => trivial
  by_cases hi0 : i = 0
  · have hi0' : ¬ (0 : Int) < (i : Int) := by omega
    have hup : upB proof i = true := by simp [upB, hi0]
    simp (disch := omega) only [r_ln, r_pick, r_pickT, r_pickF, r_condT, r_condF, r_gdTT, r_gdFF, r_gdTF, r_gdFT, r_gqTT, r_gqFF, r_gqTF, r_gqFT, r_not, r_lss, r_leq, r_gtr, r_geq, r_eql, r_neq, r_add, r_sub, r_min2, r_max2, r_min3, r_max3, r_fa, r_iaS, r_iaA, r_ex2a, r_ex2b, r_ex3a, r_ex3b, r_ex3c, r_nc, r_keepE, Nat.zero_add, Nat.add_zero, Nat.mul_one, Int.toNat_natCast, toNat_sub1, toNat_add1, decide_true, decide_false, Bool.not_true, Bool.not_false, if_true, if_false, Bool.false_eq_true, reduceCtorEq, hii, r_ld pcell, decide_eq_true g1, i0, Nat.zero_mul, r_ld qcell, g2, g3, hi0', r_gqU, r_gdU]
    refine ⟨Kp.refl _, ?_⟩
    try simp (disch := omega) only [r_ln, r_pick, r_pickT, r_pickF, r_condT, r_condF, r_gdTT, r_gdFF, r_gdTF, r_gdFT, r_gqTT, r_gqFF, r_gqTF, r_gqFT, r_not, r_lss, r_leq, r_gtr, r_geq, r_eql, r_neq, r_add, r_sub, r_min2, r_max2, r_min3, r_max3, r_fa, r_iaS, r_iaA, r_ex2a, r_ex2b, r_ex3a, r_ex3b, r_ex3c, r_nc, r_keepE, Nat.zero_add, Nat.add_zero, Nat.mul_one, Int.toNat_natCast, toNat_sub1, toNat_add1, decide_true, decide_false, Bool.not_true, Bool.not_false, if_true, if_false, Bool.false_eq_true, reduceCtorEq, r_gqU, r_gdU]
    refine r20_1 (w0 := w) (hp'.below krd) hlt hpl hW.2 krd (fun w' kk hc => out w' kk fun h => by have := (row.1 h.1).2; rw [hc] at this; cases this) fun w' kk hc => ?_
    refine ⟨⟨i + 1, by omega, by go_num, fun k hk => ?_, kk⟩, by simp only [intOf]; omega⟩
    by_cases hki : k < i
    · exact hok k hki
    · have : k = i := by omega
      subst this
      exact ⟨row.2 ⟨⟨⟨hpl, by omega⟩, by omega⟩, hc⟩, hup⟩
  · have hi0' : (0 : Int) < (i : Int) := by omega
    obtain ⟨pb', po', _, qv', ep', pcell', hq'⟩ := (hp'.below krd).row (i := i - 1) (by omega)
    cases ep'
    have hpl' : (proof.getD (i - 1) []).length = W + 1 := by
      have := (hok (i - 1) (by omega)).1
      simp only [rowB, Bool.and_eq_true, decide_eq_true_eq] at this
      exact this.1.1.1
    simp (disch := omega) only [r_ln, r_pick, r_pickT, r_pickF, r_condT, r_condF, r_gdTT, r_gdFF, r_gdTF, r_gdFT, r_gqTT, r_gqFF, r_gqTF, r_gqFT, r_not, r_lss, r_leq, r_gtr, r_geq, r_eql, r_neq, r_add, r_sub, r_min2, r_max2, r_min3, r_max3, r_fa, r_iaS, r_iaA, r_ex2a, r_ex2b, r_ex3a, r_ex3b, r_ex3c, r_nc, r_keepE, Nat.zero_add, Nat.add_zero, Nat.mul_one, Int.toNat_natCast, toNat_sub1, toNat_add1, decide_true, decide_false, Bool.not_true, Bool.not_false, if_true, if_false, Bool.false_eq_true, reduceCtorEq, hii, r_ld pcell, decide_eq_true g1, i0, Nat.zero_mul, r_ld qcell, g2, g3, decide_eq_true hi0', r_ld pcell', r_gqU, r_gdU]
    refine r_use fok61 (less_calls wd hq' hq (by omega)) rfl ?_
    rintro _ w3 ⟨rfl, k3⟩
    refine ⟨_, rfl, k3, ?_⟩
    have kr3 := Kp.trans krd k3
    by_cases hcm : cmpL (proof.getD (i - 1) []) (proof.getD i []) < 0
    case neg =>
      simp (disch := omega) only [r_ln, r_pick, r_pickT, r_pickF, r_condT, r_condF, r_gdTT, r_gdFF, r_gdTF, r_gdFT, r_gqTT, r_gqFF, r_gqTF, r_gqFT, r_not, r_lss, r_leq, r_gtr, r_geq, r_eql, r_neq, r_add, r_sub, r_min2, r_max2, r_min3, r_max3, r_fa, r_iaS, r_iaA, r_ex2a, r_ex2b, r_ex3a, r_ex3b, r_ex3c, r_nc, r_keepE, Nat.zero_add, Nat.add_zero, Nat.mul_one, Int.toNat_natCast, toNat_sub1, toNat_add1, decide_true, decide_false, Bool.not_true, Bool.not_false, if_true, if_false, Bool.false_eq_true, reduceCtorEq, hcm, r_gqU, r_gdU]
      refine out _ kr3 fun h => hcm ?_
      have := h.2
      simp only [upB, Bool.or_eq_true, decide_eq_true_eq] at this
      rcases this with h | h
      · omega
      · exact h
    have hup : upB proof i = true := by simp only [upB, Bool.or_eq_true, decide_eq_true_eq]; exact .inr hcm
    simp (disch := omega) only [r_ln, r_pick, r_pickT, r_pickF, r_condT, r_condF, r_gdTT, r_gdFF, r_gdTF, r_gdFT, r_gqTT, r_gqFF, r_gqTF, r_gqFT, r_not, r_lss, r_leq, r_gtr, r_geq, r_eql, r_neq, r_add, r_sub, r_min2, r_max2, r_min3, r_max3, r_fa, r_iaS, r_iaA, r_ex2a, r_ex2b, r_ex3a, r_ex3b, r_ex3c, r_nc, r_keepE, Nat.zero_add, Nat.add_zero, Nat.mul_one, Int.toNat_natCast, toNat_sub1, toNat_add1, decide_true, decide_false, Bool.not_true, Bool.not_false, if_true, if_false, Bool.false_eq_true, reduceCtorEq, decide_eq_true hcm, r_gqU, r_gdU]
    refine r20_1 (w0 := w) (hp'.below kr3) hlt hpl hW.2 kr3 (fun w' kk hc => out w' kk fun h => by have := (row.1 h.1).2; rw [hc] at this; cases this) fun w' kk hc => ?_
    refine ⟨⟨i + 1, by omega, by go_num, fun k hk => ?_, kk⟩, by simp only [intOf]; omega⟩
    by_cases hki : k < i
    · exact hok k hki
    · have : k = i := by omega
      subst this
      exact ⟨row.2 ⟨⟨⟨hpl, by omega⟩, by omega⟩, hc⟩, hup⟩

set_option maxRecDepth 100000 in
theorem refrefutes_calls {v pv : Value} {l : List Tile} {proof : List (List Int)} (a b : Int) (w : World) (hr : RdT w v l) (hp : RdRows w pv proof) :
    Calls Try.prog 20 #[v, .int .i64 a, .int .i64 b, pv] w fun e w' => Kp w w' ∧ RefPost l a b proof e := by
  have hp' := hp
  obtain ⟨pa, pc, rfl, hpl⟩ := hp.len
  refine lift20 ?_
  unfold S20
  refine r_use fok23 (order_calls a b w hr) rfl ?_
  rintro _ w1 ⟨rfl, k1⟩
  refine ⟨_, rfl, ?_⟩
  have h20 : ¬ ((2 : Int) = 0) := by decide
  rcases ordErr_cases l a b with he | he
  case inr =>
    rw [he]
    simp (disch := omega) only [r_ln, r_pick, r_pickT, r_pickF, r_condT, r_condF, r_gdTT, r_gdFF, r_gdTF, r_gdFT, r_gqTT, r_gqFF, r_gqTF, r_gqFT, r_not, r_lss, r_leq, r_gtr, r_geq, r_eql, r_neq, r_add, r_sub, r_min2, r_max2, r_min3, r_max3, r_fa, r_iaS, r_iaA, r_ex2a, r_ex2b, r_ex3a, r_ex3b, r_ex3c, r_nc, r_keepE, Nat.zero_add, Nat.add_zero, Nat.mul_one, Int.toNat_natCast, toNat_sub1, toNat_add1, decide_true, decide_false, Bool.not_true, Bool.not_false, if_true, if_false, Bool.false_eq_true, reduceCtorEq, h20]
    exact ⟨k1, .inl ⟨by omega, rfl⟩⟩
  rw [he]
  obtain ⟨hset, W, H, rfl, rfl, hW, hH⟩ := ord_ok he
  have h00 : decide ((0 : Int) = 0) = true := rfl
  by_cases hlong : (65535 : Int) < (proof.length : Int)
  · simp (disch := omega) only [r_ln, r_pick, r_pickT, r_pickF, r_condT, r_condF, r_gdTT, r_gdFF, r_gdTF, r_gdFT, r_gqTT, r_gqFF, r_gqTF, r_gqFT, r_not, r_lss, r_leq, r_gtr, r_geq, r_eql, r_neq, r_add, r_sub, r_min2, r_max2, r_min3, r_max3, r_fa, r_iaS, r_iaA, r_ex2a, r_ex2b, r_ex3a, r_ex3b, r_ex3c, r_nc, r_keepE, Nat.zero_add, Nat.add_zero, Nat.mul_one, Int.toNat_natCast, toNat_sub1, toNat_add1, decide_true, decide_false, Bool.not_true, Bool.not_false, if_true, if_false, Bool.false_eq_true, reduceCtorEq, h00, decide_eq_true hlong]
    exact ⟨k1, .inr (.inl ⟨he, by omega, rfl⟩)⟩
  simp (disch := omega) only [r_ln, r_pick, r_pickT, r_pickF, r_condT, r_condF, r_gdTT, r_gdFF, r_gdTF, r_gdFT, r_gqTT, r_gqFF, r_gqTF, r_gqFT, r_not, r_lss, r_leq, r_gtr, r_geq, r_eql, r_neq, r_add, r_sub, r_min2, r_max2, r_min3, r_max3, r_fa, r_iaS, r_iaA, r_ex2a, r_ex2b, r_ex3a, r_ex3b, r_ex3c, r_nc, r_keepE, Nat.zero_add, Nat.add_zero, Nat.mul_one, Int.toNat_natCast, toNat_sub1, toNat_add1, decide_true, decide_false, Bool.not_true, Bool.not_false, if_true, if_false, Bool.false_eq_true, reduceCtorEq, h00, hlong]
  have hs : setB l = true := by
    unfold ordErr at he
    split at he
    · rename_i h; exact h.1
    · cases he
  refine r20_0 (hr.kp k1) hs hW hH (hp'.below k1) k1 fun w' r kk hb => ⟨kk, .inr (.inr ⟨he, by omega, r, rfl, ?_⟩)⟩
  simpa using hb

theorem RefPost.same {l : List Tile} {a b : Int} {proof : List (List Int)} {e e' : Ending} (h : RefPost l a b proof e) (h' : RefPost l a b proof e') : ∃ r k, e = .returned (.tuple #[.bool r, .int .i64 k]) ∧ e' = .returned (.tuple #[.bool r, .int .i64 k]) := by
  rcases h with ⟨h1, rfl⟩ | ⟨h1, h2, rfl⟩ | ⟨h1, h2, r, rfl, h3⟩ <;> rcases h' with ⟨g1, rfl⟩ | ⟨g1, g2, rfl⟩ | ⟨g1, g2, r', rfl, g3⟩
  · exact ⟨_, _, rfl, rfl⟩
  · omega
  · omega
  · omega
  · exact ⟨_, _, rfl, rfl⟩
  · omega
  · omega
  · omega
  · have : r = r' := by
      rw [← g3] at h3
      cases r <;> cases r' <;> simp_all
    subst this
    exact ⟨_, _, rfl, rfl⟩

set_option maxRecDepth 100000 in
theorem refuteslaw_calls {v pv : Value} {l : List Tile} {B : List (List Int)} (a b : Int) (w : World) (hr : RdT w v l) (hb : RdR w pv B) : Calls Try.prog 3 #[v, .int .i64 a, .int .i64 b, pv] w fun e w' => e = .returned (.bool true) ∧ Kp w w' := by
  obtain ⟨va, vcap, rfl, hvc⟩ := hr.len
  refine lift3 ?_
  unfold S3
  have fin : ∀ (w' : World), Kp w w' → Calls Try.prog 18 #[] w' fun e w'' => e = .returned (.bool true) ∧ Kp w w'' := fun w' k => (law_alive w').mono fun e w'' h => ⟨h.1, Kp.trans k h.2⟩
  by_cases hl : (40 : Int) < (l.length : Int)
  · simp (disch := omega) only [r_ln, r_pick, r_pickT, r_pickF, r_condT, r_condF, r_gdTT, r_gdFF, r_gdTF, r_gdFT, r_gqTT, r_gqFF, r_gqTF, r_gqFT, r_not, r_lss, r_leq, r_gtr, r_geq, r_eql, r_neq, r_add, r_sub, r_min2, r_max2, r_min3, r_max3, r_fa, r_iaS, r_iaA, r_ex2a, r_ex2b, r_ex3a, r_ex3b, r_ex3c, r_nc, r_keepE, Nat.zero_add, Nat.add_zero, Nat.mul_one, Int.toNat_natCast, toNat_sub1, toNat_add1, decide_true, decide_false, Bool.not_true, Bool.not_false, if_true, if_false, Bool.false_eq_true, reduceCtorEq, decide_eq_true hl]
    refine r_use fok18 (fin w (Kp.refl _)) rfl ?_
    rintro _ w1 ⟨rfl, k1⟩
    exact ⟨_, rfl, by first | rfl | trivial, k1⟩
  simp (disch := omega) only [r_ln, r_pick, r_pickT, r_pickF, r_condT, r_condF, r_gdTT, r_gdFF, r_gdTF, r_gdFT, r_gqTT, r_gqFF, r_gqTF, r_gqFT, r_not, r_lss, r_leq, r_gtr, r_geq, r_eql, r_neq, r_add, r_sub, r_min2, r_max2, r_min3, r_max3, r_fa, r_iaS, r_iaA, r_ex2a, r_ex2b, r_ex3a, r_ex3b, r_ex3c, r_nc, r_keepE, Nat.zero_add, Nat.add_zero, Nat.mul_one, Int.toNat_natCast, toNat_sub1, toNat_add1, decide_true, decide_false, Bool.not_true, Bool.not_false, if_true, if_false, Bool.false_eq_true, reduceCtorEq, hl]
  refine r_use fok17 (few_calls 200 pv B w (by omega) hb) rfl ?_
  rintro _ _ ⟨fb, rfl, hfew, rfl⟩
  refine ⟨_, rfl, ?_⟩
  cases fb with
  | false =>
    simp (disch := omega) only [r_ln, r_pick, r_pickT, r_pickF, r_condT, r_condF, r_gdTT, r_gdFF, r_gdTF, r_gdFT, r_gqTT, r_gqFF, r_gqTF, r_gqFT, r_not, r_lss, r_leq, r_gtr, r_geq, r_eql, r_neq, r_add, r_sub, r_min2, r_max2, r_min3, r_max3, r_fa, r_iaS, r_iaA, r_ex2a, r_ex2b, r_ex3a, r_ex3b, r_ex3c, r_nc, r_keepE, Nat.zero_add, Nat.add_zero, Nat.mul_one, Int.toNat_natCast, toNat_sub1, toNat_add1, decide_true, decide_false, Bool.not_true, Bool.not_false, if_true, if_false, Bool.false_eq_true, reduceCtorEq]
    refine r_use fok18 (fin w (Kp.refl _)) rfl ?_
    rintro _ w1 ⟨rfl, k1⟩
    exact ⟨_, rfl, by first | rfl | trivial, k1⟩
  | true =>
  have hrows := (hfew rfl).rows (by omega) hb
  simp (disch := omega) only [r_ln, r_pick, r_pickT, r_pickF, r_condT, r_condF, r_gdTT, r_gdFF, r_gdTF, r_gdFT, r_gqTT, r_gqFF, r_gqTF, r_gqFT, r_not, r_lss, r_leq, r_gtr, r_geq, r_eql, r_neq, r_add, r_sub, r_min2, r_max2, r_min3, r_max3, r_fa, r_iaS, r_iaA, r_ex2a, r_ex2b, r_ex3a, r_ex3b, r_ex3c, r_nc, r_keepE, Nat.zero_add, Nat.add_zero, Nat.mul_one, Int.toNat_natCast, toNat_sub1, toNat_add1, decide_true, decide_false, Bool.not_true, Bool.not_false, if_true, if_false, Bool.false_eq_true, reduceCtorEq]
  refine r_use fok19 (refutes_calls a b w hr hrows) rfl ?_
  rintro e1 w1 ⟨k1, p1⟩
  have two := refrefutes_calls a b w1 (hr.kp k1) (hrows.below k1)
  have f1 : ∃ r k, e1 = .returned (.tuple #[.bool r, .int .i64 k]) := by
    obtain ⟨r, k, h, _⟩ := p1.same p1
    exact ⟨r, k, h⟩
  obtain ⟨r1, q1, rfl⟩ := f1
  refine ⟨_, rfl, ?_⟩
  simp (disch := omega) only [r_ln, r_pick, r_pickT, r_pickF, r_condT, r_condF, r_gdTT, r_gdFF, r_gdTF, r_gdFT, r_gqTT, r_gqFF, r_gqTF, r_gqFT, r_not, r_lss, r_leq, r_gtr, r_geq, r_eql, r_neq, r_add, r_sub, r_min2, r_max2, r_min3, r_max3, r_fa, r_iaS, r_iaA, r_ex2a, r_ex2b, r_ex3a, r_ex3b, r_ex3c, r_nc, r_keepE, Nat.zero_add, Nat.add_zero, Nat.mul_one, Int.toNat_natCast, toNat_sub1, toNat_add1, decide_true, decide_false, Bool.not_true, Bool.not_false, if_true, if_false, Bool.false_eq_true, reduceCtorEq]
  refine r_use fok20 two rfl ?_
  rintro e2 w2 ⟨k2, p2⟩
  obtain ⟨r, k, h1, rfl⟩ := p1.same p2
  cases h1
  refine ⟨_, rfl, ?_⟩
  simp (disch := omega) only [r_ln, r_pick, r_pickT, r_pickF, r_condT, r_condF, r_gdTT, r_gdFF, r_gdTF, r_gdFT, r_gqTT, r_gqFF, r_gqTF, r_gqFT, r_not, r_lss, r_leq, r_gtr, r_geq, r_eql, r_neq, r_add, r_sub, r_min2, r_max2, r_min3, r_max3, r_fa, r_iaS, r_iaA, r_ex2a, r_ex2b, r_ex3a, r_ex3b, r_ex3c, r_nc, r_keepE, Nat.zero_add, Nat.add_zero, Nat.mul_one, Int.toNat_natCast, toNat_sub1, toNat_add1, decide_true, decide_false, Bool.not_true, Bool.not_false, if_true, if_false, Bool.false_eq_true, reduceCtorEq]
  refine r_eqlB ?_
  rw [beq_self_eq_true]
  simp (disch := omega) only [r_ln, r_pick, r_pickT, r_pickF, r_condT, r_condF, r_gdTT, r_gdFF, r_gdTF, r_gdFT, r_gqTT, r_gqFF, r_gqTF, r_gqFT, r_not, r_lss, r_leq, r_gtr, r_geq, r_eql, r_neq, r_add, r_sub, r_min2, r_max2, r_min3, r_max3, r_fa, r_iaS, r_iaA, r_ex2a, r_ex2b, r_ex3a, r_ex3b, r_ex3c, r_nc, r_keepE, Nat.zero_add, Nat.add_zero, Nat.mul_one, Int.toNat_natCast, toNat_sub1, toNat_add1, decide_true, decide_false, Bool.not_true, Bool.not_false, if_true, if_false, Bool.false_eq_true, reduceCtorEq, decide_eq_true (rfl : q1 = q1)]
  refine r_use fok18 (fin w2 (Kp.trans k1 k2)) rfl ?_
  rintro _ w3 ⟨rfl, k3⟩
  refine ⟨_, rfl, ?_⟩
  simp (disch := omega) only [r_ln, r_pick, r_pickT, r_pickF, r_condT, r_condF, r_gdTT, r_gdFF, r_gdTF, r_gdFT, r_gqTT, r_gqFF, r_gqTF, r_gqFT, r_not, r_lss, r_leq, r_gtr, r_geq, r_eql, r_neq, r_add, r_sub, r_min2, r_max2, r_min3, r_max3, r_fa, r_iaS, r_iaA, r_ex2a, r_ex2b, r_ex3a, r_ex3b, r_ex3c, r_nc, r_keepE, Nat.zero_add, Nat.add_zero, Nat.mul_one, Int.toNat_natCast, toNat_sub1, toNat_add1, decide_true, decide_false, Bool.not_true, Bool.not_false, if_true, if_false, Bool.false_eq_true, reduceCtorEq]
  exact ⟨by first | rfl | trivial, k3⟩

end Go.Proofs.Ytgalbokmgffhkaa
