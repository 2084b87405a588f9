/- Texts of my own, merged by program: O2 O3. -/
import Derived.Test.YtaephdjmpmbfpaaM21
import Derived.Test.YtaephdjmpmbfpaaM12
import Derived.Test.YtaephdjmpmbfpaaM20
import Derived.Test.YtaephdjmpmbfpaaM11
set_option linter.all false
/- Contract: differ of the statement; an array of three numbers compared; LozengeFloors. -/
namespace Go.Proofs.Ytaephdjmpmbfpaa
open Go.Lf Go.RowKit Go.Hp

set_option maxRecDepth 100000 in
/-- differ: how many of a list are not in another one. -/
theorem differ_calls {b1 b2 : Nat} {v1 v2 : Value} {P Q : List Loz} {w : World} (h1 : LozAt b1 w v1 P) (h2 : LozAt b2 w v2 Q) (hP : P.length ≤ 1000000) (hQ : Q.length ≤ 1000000) : Calls Try.prog 43 #[v1, v2] w fun e w' => e = .returned (.int .i64 (P.countP (fun x => !decide (x ∈ Q)) : Nat)) ∧ Kp w w' := by
  obtain ⟨a1, c1, rfl⟩ := h1.len
  obtain ⟨a2, c2, rfl⟩ := h2.len
  refine lift43 ?_
  unfold S43
  refine ⟨fun t5 t6 wr => ∃ i : Nat, i ≤ P.length ∧ t6 = .int .i64 i ∧ t5 = .int .i64 ((P.take i).countP (fun x => !decide (x ∈ Q)) : Nat) ∧ Kp w wr, fun _ t6 _ => P.length - (intOf t6).toNat, ⟨0, by omega, rfl, rfl, Kp.refl _⟩, ?_⟩
  rintro _ _ _ wr ⟨i, hi, rfl, rfl, hk⟩
  by_cases hlt : i < P.length
  case neg =>
    have hlt' : ¬ (i : Int) < (P.length : Int) := by omega
    simp (disch := omega) only [r_ln, r_pick, r_pickT, r_pickF, r_condT, r_condF, r_gdTT, r_gdFF, r_gdTF, r_gdFT, r_gqTT, r_gqFF, r_gqTF, r_gqFT, r_not, r_lss, r_leq, r_gtr, r_geq, r_eql, r_neq, r_add, r_sub, r_min2, r_max2, r_min3, r_max3, r_fa, r_iaS, r_iaA, r_ex2a, r_ex2b, r_ex3a, r_ex3b, r_ex3c, r_nc, r_keepE, Nat.zero_add, Nat.add_zero, Nat.mul_one, Int.toNat_natCast, toNat_sub1, toNat_add1, decide_true, decide_false, Bool.not_true, Bool.not_false, if_true, if_false, Bool.false_eq_true, reduceCtorEq, hlt']
    rw [List.take_of_length_le (by omega)]
    exact ⟨rfl, hk⟩
  have hlt' : (i : Int) < (P.length : Int) := by omega
  obtain ⟨p, hp⟩ : ∃ p, P[i]? = some p := ⟨_, List.getElem?_eq_getElem hlt⟩
  have htake : P.take (i + 1) = P.take i ++ [p] := by
    rw [List.take_succ, hp]; rfl
  have hcl := List.countP_le_length (p := fun x => !decide (x ∈ Q)) (l := P.take i)
  rw [List.length_take] at hcl
  simp (disch := omega) only [r_ln, r_pick, r_pickT, r_pickF, r_condT, r_condF, r_gdTT, r_gdFF, r_gdTF, r_gdFT, r_gqTT, r_gqFF, r_gqTF, r_gqFT, r_not, r_lss, r_leq, r_gtr, r_geq, r_eql, r_neq, r_add, r_sub, r_min2, r_max2, r_min3, r_max3, r_fa, r_iaS, r_iaA, r_ex2a, r_ex2b, r_ex3a, r_ex3b, r_ex3c, r_nc, r_keepE, Nat.zero_add, Nat.add_zero, Nat.mul_one, Int.toNat_natCast, toNat_sub1, toNat_add1, decide_true, decide_false, Bool.not_true, Bool.not_false, if_true, if_false, Bool.false_eq_true, reduceCtorEq, decide_eq_true hlt']
  refine ⟨fun t7 t8 wq => ∃ q : Nat, q ≤ Q.length ∧ t8 = .int .i64 q ∧ t7 = .bool (decide (p ∈ Q.take q)) ∧ Kp w wq, fun _ t8 _ => Q.length - (intOf t8).toNat, ⟨0, by omega, rfl, by simp, hk⟩, ?_⟩
  rintro _ _ _ wq ⟨q, hq, rfl, rfl, hkq⟩
  by_cases hql : q < Q.length
  case neg =>
    have hql' : ¬ (q : Int) < (Q.length : Int) := by omega
    have eq1 : Q.take q = Q := List.take_of_length_le (by omega)
    rw [eq1]
    simp (disch := omega) only [r_ln, r_pick, r_pickT, r_pickF, r_condT, r_condF, r_gdTT, r_gdFF, r_gdTF, r_gdFT, r_gqTT, r_gqFF, r_gqTF, r_gqFT, r_not, r_lss, r_leq, r_gtr, r_geq, r_eql, r_neq, r_add, r_sub, r_min2, r_max2, r_min3, r_max3, r_fa, r_iaS, r_iaA, r_ex2a, r_ex2b, r_ex3a, r_ex3b, r_ex3c, r_nc, r_keepE, Nat.zero_add, Nat.add_zero, Nat.mul_one, Int.toNat_natCast, toNat_sub1, toNat_add1, decide_true, decide_false, Bool.not_true, Bool.not_false, if_true, if_false, Bool.false_eq_true, reduceCtorEq, hql']
    refine r_join1 (fun t5 w' => t5 = .int .i64 ((P.take (i + 1)).countP (fun x => !decide (x ∈ Q)) : Nat) ∧ wq = w') ?_ ?_
    rotate_left
    · intro kk hkk
      by_cases hin : p ∈ Q
      · simp (disch := omega) only [r_ln, r_pick, r_pickT, r_pickF, r_condT, r_condF, r_gdTT, r_gdFF, r_gdTF, r_gdFT, r_gqTT, r_gqFF, r_gqTF, r_gqFT, r_not, r_lss, r_leq, r_gtr, r_geq, r_eql, r_neq, r_add, r_sub, r_min2, r_max2, r_min3, r_max3, r_fa, r_iaS, r_iaA, r_ex2a, r_ex2b, r_ex3a, r_ex3b, r_ex3c, r_nc, r_keepE, Nat.zero_add, Nat.add_zero, Nat.mul_one, Int.toNat_natCast, toNat_sub1, toNat_add1, decide_true, decide_false, Bool.not_true, Bool.not_false, if_true, if_false, Bool.false_eq_true, reduceCtorEq, decide_eq_true hin]
        refine hkk _ _ ⟨?_, rfl⟩
        rw [htake, List.countP_append]
        simp [List.countP_cons, hin]
      · simp (disch := omega) only [r_ln, r_pick, r_pickT, r_pickF, r_condT, r_condF, r_gdTT, r_gdFF, r_gdTF, r_gdFT, r_gqTT, r_gqFF, r_gqTF, r_gqFT, r_not, r_lss, r_leq, r_gtr, r_geq, r_eql, r_neq, r_add, r_sub, r_min2, r_max2, r_min3, r_max3, r_fa, r_iaS, r_iaA, r_ex2a, r_ex2b, r_ex3a, r_ex3b, r_ex3c, r_nc, r_keepE, Nat.zero_add, Nat.add_zero, Nat.mul_one, Int.toNat_natCast, toNat_sub1, toNat_add1, decide_true, decide_false, Bool.not_true, Bool.not_false, if_true, if_false, Bool.false_eq_true, reduceCtorEq, decide_eq_false hin]
        refine hkk _ _ ⟨?_, rfl⟩
        rw [htake, List.countP_append]
        simp [List.countP_cons, hin]
    rintro _ _ ⟨rfl, rfl⟩
    try simp (disch := omega) only [r_ln, r_pick, r_pickT, r_pickF, r_condT, r_condF, r_gdTT, r_gdFF, r_gdTF, r_gdFT, r_gqTT, r_gqFF, r_gqTF, r_gqFT, r_not, r_lss, r_leq, r_gtr, r_geq, r_eql, r_neq, r_add, r_sub, r_min2, r_max2, r_min3, r_max3, r_fa, r_iaS, r_iaA, r_ex2a, r_ex2b, r_ex3a, r_ex3b, r_ex3c, r_nc, r_keepE, Nat.zero_add, Nat.add_zero, Nat.mul_one, Int.toNat_natCast, toNat_sub1, toNat_add1, decide_true, decide_false, Bool.not_true, Bool.not_false, if_true, if_false, Bool.false_eq_true, reduceCtorEq]
    exact ⟨⟨i + 1, by omega, by go_num, rfl, hkq⟩, by simp only [intOf]; omega⟩
  have hql' : (q : Int) < (Q.length : Int) := by omega
  obtain ⟨x, hx⟩ : ∃ x, Q[q]? = some x := ⟨_, List.getElem?_eq_getElem hql⟩
  have htakeq : Q.take (q + 1) = Q.take q ++ [x] := by
    rw [List.take_succ, hx]; rfl
  simp (disch := omega) only [r_ln, r_pick, r_pickT, r_pickF, r_condT, r_condF, r_gdTT, r_gdFF, r_gdTF, r_gdFT, r_gqTT, r_gqFF, r_gqTF, r_gqFT, r_not, r_lss, r_leq, r_gtr, r_geq, r_eql, r_neq, r_add, r_sub, r_min2, r_max2, r_min3, r_max3, r_fa, r_iaS, r_iaA, r_ex2a, r_ex2b, r_ex3a, r_ex3b, r_ex3c, r_nc, r_keepE, Nat.zero_add, Nat.add_zero, Nat.mul_one, Int.toNat_natCast, toNat_sub1, toNat_add1, decide_true, decide_false, Bool.not_true, Bool.not_false, if_true, if_false, Bool.false_eq_true, reduceCtorEq, decide_eq_true hql']
  refine r_drew fun wx kx _ => ?_
  have hkx := Kp.trans hkq kx
  obtain ⟨g1, _, e1, _, hr1⟩ := (h1.kp hkx).at hp
  obtain ⟨g2, _, e2, _, hr2⟩ := (h2.kp hkx).at hx
  cases e1
  cases e2
  by_cases hin : p ∈ Q.take q
  · have hin' : p ∈ Q.take (q + 1) := by rw [htakeq]; exact List.mem_append_left _ hin
    simp (disch := omega) only [r_ln, r_pick, r_pickT, r_pickF, r_condT, r_condF, r_gdTT, r_gdFF, r_gdTF, r_gdFT, r_gqTT, r_gqFF, r_gqTF, r_gqFT, r_not, r_lss, r_leq, r_gtr, r_geq, r_eql, r_neq, r_add, r_sub, r_min2, r_max2, r_min3, r_max3, r_fa, r_iaS, r_iaA, r_ex2a, r_ex2b, r_ex3a, r_ex3b, r_ex3c, r_nc, r_keepE, Nat.zero_add, Nat.add_zero, Nat.mul_one, Int.toNat_natCast, toNat_sub1, toNat_add1, decide_true, decide_false, Bool.not_true, Bool.not_false, if_true, if_false, Bool.false_eq_true, reduceCtorEq, decide_eq_true hin]
    exact ⟨⟨q + 1, by omega, by go_num, by rw [decide_eq_true hin'], hkx⟩, by simp only [intOf]; omega⟩
  · simp (disch := omega) only [r_ln, r_pick, r_pickT, r_pickF, r_condT, r_condF, r_gdTT, r_gdFF, r_gdTF, r_gdFT, r_gqTT, r_gqFF, r_gqTF, r_gqFT, r_not, r_lss, r_leq, r_gtr, r_geq, r_eql, r_neq, r_add, r_sub, r_min2, r_max2, r_min3, r_max3, r_fa, r_iaS, r_iaA, r_ex2a, r_ex2b, r_ex3a, r_ex3b, r_ex3c, r_nc, r_keepE, Nat.zero_add, Nat.add_zero, Nat.mul_one, Int.toNat_natCast, toNat_sub1, toNat_add1, decide_true, decide_false, Bool.not_true, Bool.not_false, if_true, if_false, Bool.false_eq_true, reduceCtorEq, decide_eq_false hin, hr1, hr2, r_eq68]
    refine ⟨⟨q + 1, by omega, by go_num, ?_, hkx⟩, by simp only [intOf]; omega⟩
    congr 1
    rw [htakeq, Bool.eq_iff_iff]
    simp [hin]

abbrev tri (a b c : Int) : Value := .agg #[.int .i64 a, .int .i64 b, .int .i64 c]
theorem eq66 (a b c a' b' c' : Int) (w : World) : (Op.equalIn 10000 66 (tri a b c) (tri a' b' c')).run Try.prog w = .ok (a == a' && (b == b' && c == c')) w := by
  have u3 := Try.underlying3
  have a3 := Try.isAgg3
  have z3 := Try.sizeOf3
  rw [show (10000 : Nat) = 9999 + 1 from rfl, Op.equalIn]
  simp only [Sem.run_bind, run_underlying Try.underlying66, Result.andThen_ok]
  simp only [Std.Legacy.Range.forIn_eq_forIn_range', Std.Legacy.Range.size, Nat.sub_zero, Nat.add_sub_cancel, Nat.div_one, List.range'_succ, List.range'_zero, List.forIn_cons, List.forIn_nil]
  go_simp
  by_cases h1 : a = a' <;> by_cases h2 : b = b' <;> by_cases h3 : c = c' <;> simp [h1, h2, h3]
theorem r_ne66 {w : World} {lit : Bool} (a b c a' b' c' : Int) (K : Value → Prop) : binQ Try.prog w .neq 66 lit (tri a b c) (tri a' b' c') K = K (.bool (!(a == a' && (b == b' && c == c')))) := by
  have hg : Try.prog.eqGuardType Try.prog.depth 66 = false := by kernel_rfl
  have hrun : ∀ w, (semBin .neq 66 lit (tri a b c) (tri a' b' c')).run Try.prog w = .ok (.value (.bool (!(a == a' && (b == b' && c == c'))))) w := fun w => by
    unfold semBin
    simp [run_eqGuard_agg w _ _ _ _ _ _ hg, run_neq_struct, eq66]
  refine propext ⟨?_, fun h => ⟨_, fun w' _ => hrun w', h⟩⟩
  rintro ⟨v, hv, hk⟩
  have h1 := hv w (Below.refl _ _)
  rw [hrun] at h1
  injection h1 with h1 _
  injection h1 with h1
  rw [h1]; exact hk
theorem bd66 (x y z : Int) (K : Value → Prop) : bdQ Try.prog 66 [(0, .int .i64 x), (1, .int .i64 y), (2, .int .i64 z)] K = K (tri x y z) := by kernel_rfl

theorem lozCells_at : ∀ (P : List Loz) (q : Nat) (p : Loz), P[q]? = some p → (lozCells P)[q * 3]? = some (.int .i64 p.1)
  | p :: P, 0, _, h => by cases h; rfl
  | p' :: P, q + 1, p, h => by
    have := lozCells_at P q p (by simpa using h)
    rw [show (q + 1) * 3 = q * 3 + 3 by omega]
    simpa [lozCells, lozC] using this
theorem LozAt.kind {base : Nat} {w : World} {v : Value} {P : List Loz} (h : LozAt base w v P) {q : Nat} {p : Loz} (hq : P[q]? = some p) :
    ∃ g cap, v = .slice (some ⟨g, 0, none⟩) P.length cap ∧ w.cell? ⟨g, q * 3, none⟩ = some (.int .i64 p.1) := by
  have hlt : q < P.length := by
    rw [List.getElem?_eq_some_iff] at hq
    exact hq.1
  obtain ⟨g, cap, cur, e, _, hg, hle, _, hs, ht⟩ := h.blk (by omega)
  refine ⟨g, cap, e, ?_⟩
  rw [cell_row hg]
  have h1 := lozCells_at P q p hq
  rw [← ht, List.getElem?_take, if_pos (by omega)] at h1
  simpa using h1

/-- How many there are of each kind. -/
def kinds (P : List Loz) : List Int := [(P.countP fun x => decide (x.1 = 0) : Nat), (P.countP fun x => decide (x.1 = 1) : Nat), (P.countP fun x => decide (x.1 = 2) : Nat)]
theorem kinds_push (P : List Loz) (p : Loz) (k : Nat) (hk : k < 3) (h : p.1 = k) : kinds (P ++ [p]) = (kinds P).set k ((kinds P).getD k 0 + 1) := by
  obtain ⟨a, b⟩ := p
  simp only at h
  subst h
  match k, hk with
  | 0, _ => simp [kinds, List.countP_append]
  | 1, _ => simp [kinds, List.countP_append]
  | 2, _ => simp [kinds, List.countP_append]
theorem kinds_le (P : List Loz) (k : Nat) : (kinds P).getD k 0 ≤ P.length := by
  match k with
  | 0 => simp [kinds, List.countP_le_length]
  | 1 => simp [kinds, List.countP_le_length]
  | 2 => simp [kinds, List.countP_le_length]
  | k + 3 => simp [kinds]
theorem kinds_nonneg (P : List Loz) (k : Nat) : 0 ≤ (kinds P).getD k 0 := by
  match k with
  | 0 => simp [kinds]
  | 1 => simp [kinds]
  | 2 => simp [kinds]
  | k + 3 => simp [kinds]

theorem cellsOf_at : ∀ (P : List (Nat × Nat)) (q : Nat) (p : Nat × Nat), P[q]? = some p → (cellsOf P)[q * 2]? = some (.int .i64 (p.2 : Nat)) ∧ (cellsOf P)[q * 2 + 1]? = some (.int .i64 (p.1 : Nat))
  | p :: P, 0, _, h => by cases h; exact ⟨rfl, rfl⟩
  | p' :: P, q + 1, p, h => by
    have := cellsOf_at P q p (by simpa using h)
    rw [show (q + 1) * 2 = q * 2 + 2 by omega, show q * 2 + 2 + 1 = q * 2 + 1 + 2 by omega]
    simpa [cellsOf] using this
theorem CellsAt.fields {base : Nat} {w : World} {v : Value} {P : List (Nat × Nat)} (h : CellsAt base w v P) {q : Nat} {p : Nat × Nat} (hq : P[q]? = some p) :
    ∃ g cap, v = .slice (some ⟨g, 0, none⟩) P.length cap ∧ q < P.length ∧ w.cell? ⟨g, q * 2, none⟩ = some (.int .i64 (p.2 : Nat)) ∧ w.cell? ⟨g, q * 2 + 1, none⟩ = some (.int .i64 (p.1 : Nat)) := by
  have hlt : q < P.length := by
    rw [List.getElem?_eq_some_iff] at hq
    exact hq.1
  rcases h.2 with ⟨_, hn⟩ | ⟨g, cap, cur, e, _, hg, hle, hm, hsz, ht⟩
  · omega
  · refine ⟨g, cap, e, hlt, ?_⟩
    obtain ⟨h1, h2⟩ := cellsOf_at P q p hq
    rw [← ht, List.getElem?_take, if_pos (by omega)] at h1
    rw [← ht, List.getElem?_take, if_pos (by omega)] at h2
    exact ⟨by rw [cell_row hg]; simpa using h1, by rw [cell_row hg]; simpa using h2⟩

end Go.Proofs.Ytaephdjmpmbfpaa

/- Contract: LozengeFloors. -/
namespace Go.Proofs.Ytaephdjmpmbfpaa
open Go.Lf Go.RowKit Go.Hp

set_option maxRecDepth 100000 in
set_option maxHeartbeats 1000000 in
theorem lfloors_calls (a b c r r2 : Nat) (w : World) (ha : a ≤ 255) (hb : b ≤ 255) (hc : c ≤ 255) (hr : r ≤ 4294967295) (hr2 : r2 ≤ 4294967295) :
    Calls Try.prog 10 #[.int .u8 a, .int .u8 b, .int .u8 c, .int .u32 r, .int .u32 r2] w fun e w' => e = .returned (.bool true) ∧ Kp w w' := by
  refine lift10 ?_
  unfold S10
  refine r_use fok12 (boxed_calls a b c r w ha hb hc hr) rfl ?_
  rintro _ w1 ⟨v, rfl, k1, g, bs, hown, hg, hbs⟩
  refine ⟨_, rfl, ?_⟩
  have hok := heapOf_ok a b c r
  have hok2 := heapOf_ok a b c r2
  have hbx := fun w => boxed_calls a b c r2 w ha hb hc hr2
  have hA := side_range a
  have hB := side_range b
  have hC := side_range c
  generalize side a = A at *
  generalize side b = B at *
  generalize side c = C at *
  generalize heapOf a b c r = h at *
  generalize heapOf a b c r2 = h2 at *
  have hh := heapOk_iff.1 hok
  have hh2 := heapOk_iff.1 hok2
  have hs := sized_of hh
  have hbs' : ∀ i, i < A → w.heap.size ≤ bs i := fun i hi => hbs i (by rw [hs.1]; exact hi)
  simp only [r_ex2a, r_ex2b]
  refine r_box fun b9 w2 e9 s9 h9 k2 => ?_
  refine r_stAll (n := 3) (ty := 25) (by kernel_rfl) rfl (by intro u hu; simp [Value.cells] at hu; rcases hu with rfl | rfl | rfl <;> rfl) h9 rfl fun w3 c3 s3 h3 => ?_
  have k3 : Kp w1 w3 := Kp.of_chg k2 c3 fun i e => by omega
  have hown3 := hown.kp k3
  have hgl1 : g < w1.heap.size := by obtain ⟨_, _, _, q, _⟩ := hown.outer; exact block_lt q
  have hbl1 : ∀ i, i < A → bs i < w1.heap.size := fun i hi => by obtain ⟨_, q, _⟩ := hown.rows i (by rw [hs.1]; exact hi); exact block_lt q
  have n9 : ∀ i, i < A → bs i ≠ b9 := fun i hi => by have := hbl1 i hi; omega
  have hk1 := k1.size
  have hk3 := k3.size
  refine r_use fok12 (hbx w3) rfl ?_
  rintro _ w4 ⟨v2, rfl, k4, g2, bs2, hown2, hg2, hbs2⟩
  refine ⟨_, rfl, ?_⟩
  have hk4 := k4.size
  simp only [r_ex2a, r_ex2b]
  refine r_box fun b10 w5 e10 s10 h10 k5 => ?_
  refine r_stAll (n := 3) (ty := 25) (by kernel_rfl) rfl (by intro u hu; simp [Value.cells] at hu; rcases hu with rfl | rfl | rfl <;> rfl) h10 rfl fun w6 c6 s6 h6 => ?_
  have k46 : Kp w4 w6 := Kp.of_chg k5 c6 fun i e => by omega
  have k36 := Kp.trans k4 k46
  have hown6 := hown3.kp k36
  have hown26 := hown2.kp k46
  have p6 := block_below h3 k36
  rw [r_ldRow (n := 3) p6 rfl]
  refine r_use fok41 (floor_calls A B C v h w6 hown6.rd) rfl ?_
  rintro _ w7 ⟨vl, el, rfl, k7, rl⟩
  refine ⟨_, rfl, ?_⟩
  obtain ⟨rfl, rl1⟩ := floor_loz rl
  rw [heapErr_of hA hB hC hh, if_pos rfl] at rl1
  simp only [Int.toNat_natCast] at rl1
  have p7 := block_below p6 k7
  simp only [r_ex2a, r_ex2b]
  rw [r_ldRow (n := 3) p7 rfl]
  refine r_use fok41 (floor_calls A B C v2 h2 w7 (hown26.kp k7).rd) rfl ?_
  rintro _ w8 ⟨vm, em, rfl, k8, rm⟩
  refine ⟨_, rfl, ?_⟩
  obtain ⟨rfl, rm1⟩ := floor_loz rm
  rw [heapErr_of hA hB hC hh2, if_pos rfl] at rm1
  simp only [Int.toNat_natCast] at rm1
  have k68 := Kp.trans k7 k8
  have hlenP : (lzSort (floorP A B C h)).length ≤ 48 := by
    rw [(lzSort_perm _).length_eq, floorP_len]
    exact floor_len48 hA.2 hB.2 hC.2
  have hlenQ : ∀ h, (lzSort (floorP A B C h)).length ≤ 48 := fun h => by
    rw [(lzSort_perm _).length_eq, floorP_len]
    exact floor_len48 hA.2 hB.2 hC.2
  simp (disch := omega) only [r_ln, r_pick, r_pickT, r_pickF, r_condT, r_condF, r_gdTT, r_gdFF, r_gdTF, r_gdFT, r_gqTT, r_gqFF, r_gqTF, r_gqFT, r_not, r_lss, r_leq, r_gtr, r_geq, r_eql, r_neq, r_add, r_sub, r_min2, r_max2, r_min3, r_max3, r_fa, r_iaS, r_iaA, r_ex2a, r_ex2b, r_ex3a, r_ex3b, r_ex3c, r_nc, r_keepE, Nat.zero_add, Nat.add_zero, Nat.mul_one, Int.toNat_natCast, toNat_sub1, toNat_add1, decide_true, decide_false, Bool.not_true, Bool.not_false, if_true, if_false, Bool.false_eq_true, reduceCtorEq, heapErr_of hA hB hC hh, heapErr_of hA hB hC hh2, decide_eq_true (rfl : (0 : Int) = 0)]
  have hl2 := hlenQ h2
  refine r_use fok42 (floors_calls (rl1.kp k8) rm1 (by omega) (by omega)) rfl ?_
  rintro _ w9 ⟨rfl, k9⟩
  refine ⟨_, rfl, ?_⟩
  have k69 := Kp.trans k68 k9
  try simp (disch := omega) only [r_ln, r_pick, r_pickT, r_pickF, r_condT, r_condF, r_gdTT, r_gdFF, r_gdTF, r_gdFT, r_gqTT, r_gqFF, r_gqTF, r_gqFT, r_not, r_lss, r_leq, r_gtr, r_geq, r_eql, r_neq, r_add, r_sub, r_min2, r_max2, r_min3, r_max3, r_fa, r_iaS, r_iaA, r_ex2a, r_ex2b, r_ex3a, r_ex3b, r_ex3c, r_nc, r_keepE, Nat.zero_add, Nat.add_zero, Nat.mul_one, Int.toNat_natCast, toNat_sub1, toNat_add1, decide_true, decide_false, Bool.not_true, Bool.not_false, if_true, if_false, Bool.false_eq_true, reduceCtorEq]
  refine r_use fok20 (same_calls v v2 h h2 w9 (hown6.kp k69).rd (hown26.kp k69).rd) rfl ?_
  rintro _ w10 ⟨rfl, k10⟩
  refine ⟨_, rfl, ?_⟩
  have k610 := Kp.trans k69 k10
  try simp (disch := omega) only [r_ln, r_pick, r_pickT, r_pickF, r_condT, r_condF, r_gdTT, r_gdFF, r_gdTF, r_gdFT, r_gqTT, r_gqFF, r_gqTF, r_gqFT, r_not, r_lss, r_leq, r_gtr, r_geq, r_eql, r_neq, r_add, r_sub, r_min2, r_max2, r_min3, r_max3, r_fa, r_iaS, r_iaA, r_ex2a, r_ex2b, r_ex3a, r_ex3b, r_ex3c, r_nc, r_keepE, Nat.zero_add, Nat.add_zero, Nat.mul_one, Int.toNat_natCast, toNat_sub1, toNat_add1, decide_true, decide_false, Bool.not_true, Bool.not_false, if_true, if_false, Bool.false_eq_true, reduceCtorEq]
  refine r_neqB ?_
  have hiff : (decide (lzSort (floorP A B C h) = lzSort (floorP A B C h2)) != decide (h = h2)) = false := by
    by_cases e : h = h2
    · subst e; simp
    · have : ¬ lzSort (floorP A B C h) = lzSort (floorP A B C h2) := fun e' => e (floor_inj hh hh2 e')
      simp [e, this]
  rw [hiff]
  have hL10 : LozAt w6.heap.size w10 vl _ := rl1.kp (Kp.trans k8 (Kp.trans k9 k10))
  have hnd := floor_nodup hh
  obtain ⟨kd0, kd1, kd2, kdx⟩ := floor_kinds A B C h
  have h3r := fun i j (hi : i < A) (hj : j < B) hg => floor_three (i := i) (j := j) hh hi hj hg
  generalize hPe : lzSort (floorP A B C h) = P at *
  try simp (disch := omega) only [r_ln, r_pick, r_pickT, r_pickF, r_condT, r_condF, r_gdTT, r_gdFF, r_gdTF, r_gdFT, r_gqTT, r_gqFF, r_gqTF, r_gqFT, r_not, r_lss, r_leq, r_gtr, r_geq, r_eql, r_neq, r_add, r_sub, r_min2, r_max2, r_min3, r_max3, r_fa, r_iaS, r_iaA, r_ex2a, r_ex2b, r_ex3a, r_ex3b, r_ex3c, r_nc, r_keepE, Nat.zero_add, Nat.add_zero, Nat.mul_one, Int.toNat_natCast, toNat_sub1, toNat_add1, decide_true, decide_false, Bool.not_true, Bool.not_false, if_true, if_false, Bool.false_eq_true, reduceCtorEq]
  obtain ⟨aP, cP, rfl⟩ := hL10.len
  refine r_box fun b19 w11 e19 s19 h19 k11 => ?_
  have k10s := k10.size
  refine ⟨fun t20 wr => ∃ i : Nat, i ≤ P.length ∧ t20 = .int .i64 i ∧ wr.heap[b19]? = some (.cells (intCells (kinds (P.take i))).toArray 66 (0, 0)) ∧ Kp w10 wr, fun t20 _ => P.length - (intOf t20).toNat,
    ⟨0, by omega, rfl, h19, k11⟩, ?_⟩
  rintro _ _ wr ⟨i, hi, rfl, h19r, kr⟩
  by_cases hlt : i < P.length
  case pos =>
    have hlt' : (i : Int) < (P.length : Int) := by omega
    obtain ⟨p, hp⟩ : ∃ p, P[i]? = some p := ⟨_, List.getElem?_eq_getElem hlt⟩
    have hpk := kdx p (List.mem_of_getElem? hp)
    obtain ⟨k, hk3', hk⟩ : ∃ k : Nat, k < 3 ∧ p.1 = k := by
      rcases hpk with e | e | e
      · exact ⟨0, by omega, e⟩
      · exact ⟨1, by omega, e⟩
      · exact ⟨2, by omega, e⟩
    simp (disch := omega) only [r_ln, r_pick, r_pickT, r_pickF, r_condT, r_condF, r_gdTT, r_gdFF, r_gdTF, r_gdFT, r_gqTT, r_gqFF, r_gqTF, r_gqFT, r_not, r_lss, r_leq, r_gtr, r_geq, r_eql, r_neq, r_add, r_sub, r_min2, r_max2, r_min3, r_max3, r_fa, r_iaS, r_iaA, r_ex2a, r_ex2b, r_ex3a, r_ex3b, r_ex3c, r_nc, r_keepE, Nat.zero_add, Nat.add_zero, Nat.mul_one, Int.toNat_natCast, toNat_sub1, toNat_add1, decide_true, decide_false, Bool.not_true, Bool.not_false, if_true, if_false, Bool.false_eq_true, reduceCtorEq, decide_eq_true hlt']
    refine r_drew fun wx kx _ => ?_
    have hkx := Kp.trans kr kx
    have h19x := block_below h19r kx
    obtain ⟨gl, cl, el, hkc⟩ := (hL10.kp hkx).kind hp
    obtain ⟨gl', cl', el', _, hrd⟩ := (hL10.kp hkx).at hp
    cases el
    injection el' with el' _ _
    injection el' with el'
    injection el' with el'
    subst el'
    have hkl : (kinds (P.take i)).length = 3 := rfl
    have hle := kinds_le (P.take i) k
    have hge := kinds_nonneg (P.take i) k
    rw [List.length_take] at hle
    have hcell := row_cell h19x (j := k) (by omega)
    have hfz : wx.frozen? ⟨b19, k, none⟩ = false := frozen_row h19x
    have htake : P.take (i + 1) = P.take i ++ [p] := by
      rw [List.take_succ, hp]; rfl
    have n0 : ¬ (k : Int) < 0 := by omega
    have n2 : ¬ (2 : Int) < (k : Int) := by omega
    have fin : ∀ x : World, x = wx.setCell ⟨b19, k, none⟩ (.int .i64 ((kinds (P.take i)).getD k 0 + 1)) → x.heap[b19]? = some (.cells (intCells (kinds (P.take (i + 1)))).toArray 66 (0, 0)) ∧ Kp w10 x := fun x ex => by
      refine ⟨?_, ?_⟩
      · rw [htake, kinds_push _ _ k hk3' hk]
        exact row_set h19x ex
      · rw [ex]
        exact Kp.of_chg hkx (Chg.setCell (S := fun q => q = b19) _ _ rfl) fun q e => by omega
    by_cases hi0 : 0 < i
    · have hi0' : (0 : Int) < (i : Int) := by omega
      obtain ⟨q, hq⟩ : ∃ q, P[i - 1]? = some q := ⟨_, List.getElem?_eq_getElem (by omega)⟩
      obtain ⟨gl', cl', el', _, hrq⟩ := (hL10.kp hkx).at hq
      injection el' with el' _ _
      injection el' with el'
      injection el' with el'
      subst el'
      have hne : ¬ p = q := fun e => by
        rw [← e, ← hp] at hq
        have := (List.getElem?_inj (by omega) hnd).1 hq
        omega
      simp (disch := omega) only [r_ln, r_pick, r_pickT, r_pickF, r_condT, r_condF, r_gdTT, r_gdFF, r_gdTF, r_gdFT, r_gqTT, r_gqFF, r_gqTF, r_gqFT, r_not, r_lss, r_leq, r_gtr, r_geq, r_eql, r_neq, r_add, r_sub, r_min2, r_max2, r_min3, r_max3, r_fa, r_iaS, r_iaA, r_ex2a, r_ex2b, r_ex3a, r_ex3b, r_ex3c, r_nc, r_keepE, Nat.zero_add, Nat.add_zero, Nat.mul_one, Int.toNat_natCast, toNat_sub1, toNat_add1, decide_true, decide_false, Bool.not_true, Bool.not_false, if_true, if_false, Bool.false_eq_true, reduceCtorEq, r_ld hkc, hk, n0, n2, decide_eq_true hi0', hrd, hrq, r_eq68, decide_eq_false hne, r_ld hcell]
      rw [st3 hcell hfz]
      obtain ⟨f1, f2⟩ := fin _ rfl
      try simp (disch := omega) only [r_ln, r_pick, r_pickT, r_pickF, r_condT, r_condF, r_gdTT, r_gdFF, r_gdTF, r_gdFT, r_gqTT, r_gqFF, r_gqTF, r_gqFT, r_not, r_lss, r_leq, r_gtr, r_geq, r_eql, r_neq, r_add, r_sub, r_min2, r_max2, r_min3, r_max3, r_fa, r_iaS, r_iaA, r_ex2a, r_ex2b, r_ex3a, r_ex3b, r_ex3c, r_nc, r_keepE, Nat.zero_add, Nat.add_zero, Nat.mul_one, Int.toNat_natCast, toNat_sub1, toNat_add1, decide_true, decide_false, Bool.not_true, Bool.not_false, if_true, if_false, Bool.false_eq_true, reduceCtorEq]
      exact ⟨⟨i + 1, by omega, by go_num, f1, f2⟩, by simp only [intOf]; omega⟩
    · have hi0' : ¬ (0 : Int) < (i : Int) := by omega
      simp (disch := omega) only [r_ln, r_pick, r_pickT, r_pickF, r_condT, r_condF, r_gdTT, r_gdFF, r_gdTF, r_gdFT, r_gqTT, r_gqFF, r_gqTF, r_gqFT, r_not, r_lss, r_leq, r_gtr, r_geq, r_eql, r_neq, r_add, r_sub, r_min2, r_max2, r_min3, r_max3, r_fa, r_iaS, r_iaA, r_ex2a, r_ex2b, r_ex3a, r_ex3b, r_ex3c, r_nc, r_keepE, Nat.zero_add, Nat.add_zero, Nat.mul_one, Int.toNat_natCast, toNat_sub1, toNat_add1, decide_true, decide_false, Bool.not_true, Bool.not_false, if_true, if_false, Bool.false_eq_true, reduceCtorEq, r_ld hkc, hk, n0, n2, hi0', r_ld hcell]
      rw [st3 hcell hfz]
      obtain ⟨f1, f2⟩ := fin _ rfl
      try simp (disch := omega) only [r_ln, r_pick, r_pickT, r_pickF, r_condT, r_condF, r_gdTT, r_gdFF, r_gdTF, r_gdFT, r_gqTT, r_gqFF, r_gqTF, r_gqFT, r_not, r_lss, r_leq, r_gtr, r_geq, r_eql, r_neq, r_add, r_sub, r_min2, r_max2, r_min3, r_max3, r_fa, r_iaS, r_iaA, r_ex2a, r_ex2b, r_ex3a, r_ex3b, r_ex3c, r_nc, r_keepE, Nat.zero_add, Nat.add_zero, Nat.mul_one, Int.toNat_natCast, toNat_sub1, toNat_add1, decide_true, decide_false, Bool.not_true, Bool.not_false, if_true, if_false, Bool.false_eq_true, reduceCtorEq]
      exact ⟨⟨i + 1, by omega, by go_num, f1, f2⟩, by simp only [intOf]; omega⟩
  have hlt' : ¬ (i : Int) < (P.length : Int) := by omega
  have eP : P.take i = P := List.take_of_length_le (by omega)
  rw [eP] at h19r
  have p10 := block_below p7 (Kp.trans k8 (Kp.trans k9 k10))
  have pr := block_below p10 kr
  obtain ⟨d0, d1, d2⟩ := box3 pr
  have hAB : A * B ≤ 16 := Nat.mul_le_mul hA.2 hB.2
  have hAC : A * C ≤ 16 := Nat.mul_le_mul hA.2 hC.2
  have hBC : B * C ≤ 16 := Nat.mul_le_mul hB.2 hC.2
  simp (disch := omega) only [r_ln, r_pick, r_pickT, r_pickF, r_condT, r_condF, r_gdTT, r_gdFF, r_gdTF, r_gdFT, r_gqTT, r_gqFF, r_gqTF, r_gqFT, r_not, r_lss, r_leq, r_gtr, r_geq, r_eql, r_neq, r_add, r_sub, r_min2, r_max2, r_min3, r_max3, r_fa, r_iaS, r_iaA, r_ex2a, r_ex2b, r_ex3a, r_ex3b, r_ex3c, r_nc, r_keepE, Nat.zero_add, Nat.add_zero, Nat.mul_one, Int.toNat_natCast, toNat_sub1, toNat_add1, decide_true, decide_false, Bool.not_true, Bool.not_false, if_true, if_false, Bool.false_eq_true, reduceCtorEq, hlt', r_ldRow (n := 3) h19r rfl, r_ld d0, r_ld d1, r_ld d2, r_mulN, bd66]
  have ek : (Value.agg (intCells (kinds P)).toArray) = tri (A * B : Nat) (A * C : Nat) (B * C : Nat) := by
    simp only [kinds, kd0, kd1, kd2]
    rfl
  rw [ek]
  simp (disch := omega) only [r_ln, r_pick, r_pickT, r_pickF, r_condT, r_condF, r_gdTT, r_gdFF, r_gdTF, r_gdFT, r_gqTT, r_gqFF, r_gqTF, r_gqFT, r_not, r_lss, r_leq, r_gtr, r_geq, r_eql, r_neq, r_add, r_sub, r_min2, r_max2, r_min3, r_max3, r_fa, r_iaS, r_iaA, r_ex2a, r_ex2b, r_ex3a, r_ex3b, r_ex3c, r_nc, r_keepE, Nat.zero_add, Nat.add_zero, Nat.mul_one, Int.toNat_natCast, toNat_sub1, toNat_add1, decide_true, decide_false, Bool.not_true, Bool.not_false, if_true, if_false, Bool.false_eq_true, reduceCtorEq, r_ne66, beq_self_eq_true, Bool.and_self, r_ldRow (n := 3) pr rfl]
  have kall : Kp w6 wr := Kp.trans k610 kr
  have hownr := hown6.kp kall
  refine r_use fok14 (corners_calls A B C v h wr hownr.rd) rfl ?_
  rintro _ x1 ⟨u8, u9, err, rfl, y1, hc1⟩
  refine ⟨_, rfl, ?_⟩
  have hcs := corner_small (A := A) (B := B) (C := C) (h := h)
  obtain ⟨rfl, hc1, _⟩ := corn_cells hc1
  rw [heapErr_of hA hB hC hh, if_pos rfl] at hc1
  rw [heapErr_of hA hB hC hh, if_pos rfl] at hcs
  simp only [Int.toNat_natCast] at hc1 hcs
  have hmem : ∀ p, p ∈ addL A B C h → (p.1 < A ∧ p.2 < B) ∧ IsHeap A B C (put2 h p.1 p.2 (hat h p.1 p.2 + 1)) := fun ⟨i, j⟩ hm => by
    obtain ⟨q1, q2⟩ := mem_addL.1 hm
    exact ⟨q1, (added_iff hh q1.1 q1.2).2 (by unfold addB; simpa using q2)⟩
  generalize addL A B C h = D at *
  obtain ⟨za, zc, rfl⟩ := hc1.len
  simp (disch := omega) only [r_ln, r_pick, r_pickT, r_pickF, r_condT, r_condF, r_gdTT, r_gdFF, r_gdTF, r_gdFT, r_gqTT, r_gqFF, r_gqTF, r_gqFT, r_not, r_lss, r_leq, r_gtr, r_geq, r_eql, r_neq, r_add, r_sub, r_min2, r_max2, r_min3, r_max3, r_fa, r_iaS, r_iaA, r_ex2a, r_ex2b, r_ex3a, r_ex3b, r_ex3c, r_nc, r_keepE, Nat.zero_add, Nat.add_zero, Nat.mul_one, Int.toNat_natCast, toNat_sub1, toNat_add1, decide_true, decide_false, Bool.not_true, Bool.not_false, if_true, if_false, Bool.false_eq_true, reduceCtorEq, heapErr_of hA hB hC hh, decide_eq_true (rfl : (0 : Int) = 0)]
  have hL1 : LozAt w6.heap.size x1 _ P := (hL10.kp kr).kp y1
  have s610 := k610.size
  have skr := kr.size
  have s36 := k36.size
  have sy1 := y1.size
  have k01 : Kp w x1 := Kp.trans k1 (Kp.trans k3 (Kp.trans k36 (Kp.trans kall y1)))
  refine ⟨fun t23 wq => ∃ q : Nat, q ≤ D.length ∧ t23 = .int .i64 q ∧ OwnRows wq v g bs h ∧ Chg (fun k => (∃ i, i < A ∧ k = bs i) ∨ x1.heap.size ≤ k) x1 wq, fun t23 _ => D.length - (intOf t23).toNat,
    ⟨0, by omega, rfl, hownr.kp y1, Chg.refl _ _⟩, ?_⟩
  rintro _ _ wq ⟨q, hq, rfl, hoq, hcq⟩
  have toKp : ∀ {w' : World}, Chg (fun k => (∃ i, i < A ∧ k = bs i) ∨ x1.heap.size ≤ k) x1 w' → Kp w w' := fun hc => Kp.of_chg k01 hc fun k hk => by
    rcases hk with ⟨i, hi, rfl⟩ | hk
    · exact hbs' i hi
    · have := k01.size; omega
  have boxAt : ∀ {w' : World}, Chg (fun k => (∃ i, i < A ∧ k = bs i) ∨ x1.heap.size ≤ k) x1 w' → w'.heap[b9]? = some (.cells (boxV A B C).cells 25 (0, 0)) := fun hc => hc.at (block_below pr y1) fun hk => by
    have := block_lt (block_below pr y1)
    rcases hk with ⟨i, hi, e⟩ | hk
    · exact n9 i hi e.symm
    · omega
  have wk : ∀ {w' : World} {base : Nat} {u : Value} {P : List Loz}, Chg (fun k => (∃ i, i < A ∧ k = bs i) ∨ x1.heap.size ≤ k) x1 w' → LozAt base x1 u P → w1.heap.size ≤ base → LozAt base w' u P := fun hc hL hb => owns_chg hL hc fun k hk hS => by
    have := World.ownsRow.lt hL k hk
    rcases hS with ⟨i, hi, e⟩ | hS
    · have := hbl1 i hi; omega
    · omega
  have wkc : ∀ {w' : World} {base : Nat} {u : Value} {P : List (Nat × Nat)}, Chg (fun k => (∃ i, i < A ∧ k = bs i) ∨ x1.heap.size ≤ k) x1 w' → CellsAt base x1 u P → w1.heap.size ≤ base → CellsAt base w' u P := fun hc hL hb => owns_chg hL hc fun k hk hS => by
    have := World.ownsRow.lt hL k hk
    rcases hS with ⟨i, hi, e⟩ | hS
    · have := hbl1 i hi; omega
    · omega
  by_cases hql : q < D.length
  case neg =>
    have hql' : ¬ (q : Int) < (D.length : Int) := by omega
    simp (disch := omega) only [r_ln, r_pick, r_pickT, r_pickF, r_condT, r_condF, r_gdTT, r_gdFF, r_gdTF, r_gdFT, r_gqTT, r_gqFF, r_gqTF, r_gqFT, r_not, r_lss, r_leq, r_gtr, r_geq, r_eql, r_neq, r_add, r_sub, r_min2, r_max2, r_min3, r_max3, r_fa, r_iaS, r_iaA, r_ex2a, r_ex2b, r_ex3a, r_ex3b, r_ex3c, r_nc, r_keepE, Nat.zero_add, Nat.add_zero, Nat.mul_one, Int.toNat_natCast, toNat_sub1, toNat_add1, decide_true, decide_false, Bool.not_true, Bool.not_false, if_true, if_false, Bool.false_eq_true, reduceCtorEq, hql']
    refine r_use fok17 (alive_calls wq) rfl ?_
    rintro _ x2 ⟨rfl, y2⟩
    refine ⟨_, rfl, ?_⟩
    simp (disch := omega) only [r_ln, r_pick, r_pickT, r_pickF, r_condT, r_condF, r_gdTT, r_gdFF, r_gdTF, r_gdFT, r_gqTT, r_gqFF, r_gqTF, r_gqFT, r_not, r_lss, r_leq, r_gtr, r_geq, r_eql, r_neq, r_add, r_sub, r_min2, r_max2, r_min3, r_max3, r_fa, r_iaS, r_iaA, r_ex2a, r_ex2b, r_ex3a, r_ex3b, r_ex3c, r_nc, r_keepE, Nat.zero_add, Nat.add_zero, Nat.mul_one, Int.toNat_natCast, toNat_sub1, toNat_add1, decide_true, decide_false, Bool.not_true, Bool.not_false, if_true, if_false, Bool.false_eq_true, reduceCtorEq]
    exact ⟨trivial, Kp.trans (toKp hcq) y2⟩
  have hql' : (q : Int) < (D.length : Int) := by omega
  simp (disch := omega) only [r_ln, r_pick, r_pickT, r_pickF, r_condT, r_condF, r_gdTT, r_gdFF, r_gdTF, r_gdFT, r_gqTT, r_gqFF, r_gqTF, r_gqFT, r_not, r_lss, r_leq, r_gtr, r_geq, r_eql, r_neq, r_add, r_sub, r_min2, r_max2, r_min3, r_max3, r_fa, r_iaS, r_iaA, r_ex2a, r_ex2b, r_ex3a, r_ex3b, r_ex3c, r_nc, r_keepE, Nat.zero_add, Nat.add_zero, Nat.mul_one, Int.toNat_natCast, toNat_sub1, toNat_add1, decide_true, decide_false, Bool.not_true, Bool.not_false, if_true, if_false, Bool.false_eq_true, reduceCtorEq, decide_eq_true hql']
  refine r_drew fun x2 y2 _ => ?_
  have hc2 := hcq.trans (Chg.of_kp (S := fun k => (∃ i, i < A ∧ k = bs i) ∨ x1.heap.size ≤ k) y2)
  have ho2 := hoq.kp y2
  obtain ⟨⟨i, j⟩, hd⟩ : ∃ d, D[q]? = some d := ⟨_, List.getElem?_eq_getElem hql⟩
  obtain ⟨⟨hi', hj'⟩, hgH⟩ := hmem _ (List.mem_of_getElem? hd)
  dsimp only at hi' hj' hgH
  obtain ⟨gD, cD, eD, _, hf0, hf1⟩ := (wkc hc2 hc1 (by omega)).fields hd
  cases eD
  have hl1 := hs.1
  have hrl := hs.2 i hi'
  have ptop := hh.top i j (by omega) (by omega)
  have ppos := hh.pos i j (by omega) (by omega)
  obtain ⟨cap, cc, hvo, hgc, hslot⟩ := ho2.slot (i := i) (by omega)
  obtain ⟨hxs, hfz⟩ := hslot j (by omega)
  have ehat : (h.getD i []).getD j 0 = hat h i j := rfl
  rw [ehat] at hxs
  rw [hvo]
  simp (disch := omega) only [r_ln, r_pick, r_pickT, r_pickF, r_condT, r_condF, r_gdTT, r_gdFF, r_gdTF, r_gdFT, r_gqTT, r_gqFF, r_gqTF, r_gqFT, r_not, r_lss, r_leq, r_gtr, r_geq, r_eql, r_neq, r_add, r_sub, r_min2, r_max2, r_min3, r_max3, r_fa, r_iaS, r_iaA, r_ex2a, r_ex2b, r_ex3a, r_ex3b, r_ex3c, r_nc, r_keepE, Nat.zero_add, Nat.add_zero, Nat.mul_one, Int.toNat_natCast, toNat_sub1, toNat_add1, decide_true, decide_false, Bool.not_true, Bool.not_false, if_true, if_false, Bool.false_eq_true, reduceCtorEq, r_ld hf0, r_ld hf1, r_ld hgc, r_ld hxs]
  rw [st3 hxs hfz, ← hvo]
  have hset := ho2.set (i := i) (j := j) (by omega) (by omega) (hat h i j + 1)
  have hcs2 : Chg (fun k => k = bs i) x2 (x2.setCell ⟨bs i, j, none⟩ (.int .i64 (hat h i j + 1))) := Chg.setCell _ _ rfl
  generalize x2.setCell ⟨bs i, j, none⟩ (.int .i64 (hat h i j + 1)) = x3 at *
  have hc3 := hc2.trans (hcs2.mono (S' := fun k => (∃ i, i < A ∧ k = bs i) ∨ x1.heap.size ≤ k) fun k _ e => .inl ⟨i, hi', e⟩)
  rw [r_ldRow (n := 3) (boxAt hc3) rfl]
  have hthree := h3r i j hi' hj' hgH
  have hlg := hlenQ (put2 h i j (hat h i j + 1))
  refine r_use fok41 (floor_calls A B C v _ x3 hset.rd) rfl ?_
  rintro _ x4 ⟨vn, en, rfl, y4, rn⟩
  refine ⟨_, rfl, ?_⟩
  obtain ⟨rfl, rn1⟩ := floor_loz rn
  rw [heapErr_of hA hB hC hgH, if_pos rfl] at rn1
  simp only [Int.toNat_natCast] at rn1
  have hc4 := hc3.trans (Chg.of_kp (S := fun k => (∃ i, i < A ∧ k = bs i) ∨ x1.heap.size ≤ k) y4)
  have ho4 := hset.kp y4
  simp only [r_ex2a, r_ex2b]
  refine r_drew fun x5 y5 _ => ?_
  have hc5 := hc4.trans (Chg.of_kp (S := fun k => (∃ i, i < A ∧ k = bs i) ∨ x1.heap.size ≤ k) y5)
  have ho5 := ho4.kp y5
  obtain ⟨gD, cD, eD, _, hf0, hf1⟩ := (wkc hc5 hc1 (by omega)).fields hd
  cases eD
  have hl5 : (put2 h i j (hat h i j + 1)).length = A := by rw [put2_length]; exact hl1
  have hlr5 : ((put2 h i j (hat h i j + 1)).getD i []).length = B := by rw [put2_len _ _ _ _ _ (by omega)]; exact hrl
  obtain ⟨cap, cc, hvo, hgc, hslot⟩ := ho5.slot (i := i) (by omega)
  obtain ⟨hxs, hfz⟩ := hslot j (by omega)
  have ehat : ((put2 h i j (hat h i j + 1)).getD i []).getD j 0 = hat h i j + 1 := by
    show hat (put2 h i j (hat h i j + 1)) i j = _
    rw [put2_hat h i j i j _ (by omega) (by omega), if_pos ⟨rfl, rfl⟩]
  rw [ehat] at hxs
  rw [hl5] at hvo
  rw [hlr5] at hgc
  rw [hvo]
  simp (disch := omega) only [r_ln, r_pick, r_pickT, r_pickF, r_condT, r_condF, r_gdTT, r_gdFF, r_gdTF, r_gdFT, r_gqTT, r_gqFF, r_gqTF, r_gqFT, r_not, r_lss, r_leq, r_gtr, r_geq, r_eql, r_neq, r_add, r_sub, r_min2, r_max2, r_min3, r_max3, r_fa, r_iaS, r_iaA, r_ex2a, r_ex2b, r_ex3a, r_ex3b, r_ex3c, r_nc, r_keepE, Nat.zero_add, Nat.add_zero, Nat.mul_one, Int.toNat_natCast, toNat_sub1, toNat_add1, decide_true, decide_false, Bool.not_true, Bool.not_false, if_true, if_false, Bool.false_eq_true, reduceCtorEq, r_ld hf0, r_ld hf1, r_ld hgc, r_ld hxs]
  rw [st3 hxs hfz, ← hvo]
  have e1 : hat h i j + 1 - 1 = hat h i j := by omega
  rw [e1]
  have hset2 := ho5.set (i := i) (j := j) (by omega) (by omega) (hat h i j)
  rw [put2_put2 h _ _ (by omega), put2_self hs hi' hj'] at hset2
  have hcs5 : Chg (fun k => k = bs i) x5 (x5.setCell ⟨bs i, j, none⟩ (.int .i64 (hat h i j))) := Chg.setCell _ _ rfl
  have rn5 : LozAt x3.heap.size (x5.setCell ⟨bs i, j, none⟩ (.int .i64 (hat h i j))) vn _ := owns_chg (rn1.kp y5) hcs5 fun k hk e => by
    have := World.ownsRow.lt rn1 k hk
    have := hbl1 i hi'
    have := hc3.size
    omega
  generalize x5.setCell ⟨bs i, j, none⟩ (.int .i64 (hat h i j)) = x6 at *
  have hc6 := hc5.trans (hcs5.mono (S' := fun k => (∃ i, i < A ∧ k = bs i) ∨ x1.heap.size ≤ k) fun k _ e => .inl ⟨i, hi', e⟩)
  have hP6 := wk hc6 hL1 (by omega)
  simp (disch := omega) only [r_ln, r_pick, r_pickT, r_pickF, r_condT, r_condF, r_gdTT, r_gdFF, r_gdTF, r_gdFT, r_gqTT, r_gqFF, r_gqTF, r_gqFT, r_not, r_lss, r_leq, r_gtr, r_geq, r_eql, r_neq, r_add, r_sub, r_min2, r_max2, r_min3, r_max3, r_fa, r_iaS, r_iaA, r_ex2a, r_ex2b, r_ex3a, r_ex3b, r_ex3c, r_nc, r_keepE, Nat.zero_add, Nat.add_zero, Nat.mul_one, Int.toNat_natCast, toNat_sub1, toNat_add1, decide_true, decide_false, Bool.not_true, Bool.not_false, if_true, if_false, Bool.false_eq_true, reduceCtorEq, heapErr_of hA hB hC hgH, decide_eq_true (rfl : (0 : Int) = 0)]
  refine r_use fok43 (differ_calls hP6 rn5 (by omega) (by omega)) rfl ?_
  rintro _ x7 ⟨rfl, y7⟩
  refine ⟨_, rfl, ?_⟩
  rw [hthree]
  have e3 : ((3 : Nat) : Int) = 3 := rfl
  simp (disch := omega) only [r_ln, r_pick, r_pickT, r_pickF, r_condT, r_condF, r_gdTT, r_gdFF, r_gdTF, r_gdFT, r_gqTT, r_gqFF, r_gqTF, r_gqFT, r_not, r_lss, r_leq, r_gtr, r_geq, r_eql, r_neq, r_add, r_sub, r_min2, r_max2, r_min3, r_max3, r_fa, r_iaS, r_iaA, r_ex2a, r_ex2b, r_ex3a, r_ex3b, r_ex3c, r_nc, r_keepE, Nat.zero_add, Nat.add_zero, Nat.mul_one, Int.toNat_natCast, toNat_sub1, toNat_add1, decide_true, decide_false, Bool.not_true, Bool.not_false, if_true, if_false, Bool.false_eq_true, reduceCtorEq, e3, decide_eq_true (rfl : (3 : Int) = 3)]
  exact ⟨⟨q + 1, by omega, by go_num, hset2.kp y7, hc6.trans (Chg.of_kp y7)⟩, by simp only [intOf]; omega⟩

end Go.Proofs.Ytaephdjmpmbfpaa
