/- Contracts: slices.Grow of a nil slice (by the shelf), slices.Concat, cmp.Compare, slices.Compare. -/
import Derived.Test.YtaephdjmpmbfpaaD1
import Derived.Test.YtaephdjmpmbfpaaC3
import Derived.Shelf.Spec.SlicesGrow
set_option linter.all false
namespace Go.Proofs.Ytaephdjmpmbfpaa
open Go.Lf Go.RowKit Go.Hp Go.Shelf Go.Proofs
def growI_ren : Go.Shelf.Ren := ⟨fun | 4 => 95 | n => n, fun | 22 => 36 | 25 => 3 | n => n, fun | n => n⟩
set_option maxRecDepth 100000 in
theorem growI : Lays8.n4 Try.prog growI_ren := { mixed := by kernel_rfl, f4 := ⟨Try.f95.name, by decide, Try.func95.trans (congrArg some (by kernel_rfl))⟩, t0 := Try.underlying0, a0 := Try.isAgg0, z0 := Try.sizeOf0, v0 := Try.zeroValue0, t3 := Try.underlying3, a3 := Try.isAgg3, z3 := Try.sizeOf3, v3 := Try.zeroValue3, t4 := Try.underlying4, a4 := Try.isAgg4, z4 := Try.sizeOf4, v4 := Try.zeroValue4, t9 := Try.underlying9, a9 := Try.isAgg9, z9 := Try.sizeOf9, v9 := Try.zeroValue9, t20 := Try.underlying20, a20 := Try.isAgg20, z20 := Try.sizeOf20, v20 := Try.zeroValue20, t22 := Try.underlying36, a22 := Try.isAgg36, z22 := Try.sizeOf36, v22 := Try.zeroValue36 }

theorem zeroCells_size (z : Array Value) (n : Nat) : (Builtin.zeroCells z n).size = n * z.size := by simp [Builtin.zeroCells]

set_option maxRecDepth 100000 in
theorem grow_calls (n : Nat) (w : World) (h0 : 0 < n) (hn : n ≤ 1000000) : Calls Try.prog 95 #[.slice none 0 0, .int .i64 n] w fun e w' => ∃ v, e = .returned v ∧ Kp w w' ∧ w'.ownsRow w.heap.size 3 1 v 0 [] := by
  obtain ⟨i, z, i1, i2, i3, i4, i5⟩ := slt36.info
  have h : Calls Try.prog 95 #[.slice none 0 0, .int .i64 n] w _ := Any8.slices_Grow_grow growI i z i1 i2 (by omega) none 0 0 n [] w (by omega) (by omega) (by rw [i4]; omega) (by omega) (by simp) (fun _ => rfl) (by intro a h; cases h)
  refine h.mono ?_
  rintro e w' ⟨rfl, rfl⟩
  refine ⟨_, rfl, (Below.refl _ _).drew.alloc (Nat.le_refl _) _, by simp, .inr ⟨w.heap.size, _, _, rfl, Nat.le_refl _, heap_alloc_new w.drew _, by omega, grownCap_le_maxLen w _ _ _ (by unfold maxLen; omega), ?_, by simp⟩⟩
  have := grownCap_ge w (0 + n) 0 3
  have hG : grownCap w (0 + n) 0 3 = grownCap w (0 + n) 0 (growI_ren.t 25) := rfl
  rw [← hG]
  simp only [Array.size_append, zeroCells_size, i5]
  simp only [List.size_toArray, List.length_nil]
  omega

theorem intCells_append (a b : List Int) : intCells (a ++ b) = intCells a ++ intCells b := by simp [intCells]

theorem flatten_take {rows : List (List Int)} {i : Nat} (h : i < rows.length) : (rows.take (i + 1)).flatten = (rows.take i).flatten ++ rows.getD i [] := by
  rw [List.take_succ_eq_append_getElem h, List.flatten_append, getD_lt _ _ _ h]
  simp only [List.flatten_cons, List.flatten_nil, List.append_nil]

theorem flatten_le {rows : List (List Int)} (i : Nat) : (rows.take i).flatten.length ≤ rows.flatten.length := by
  have : rows.flatten = (rows.take i).flatten ++ (rows.drop i).flatten := by rw [← List.flatten_append, List.take_append_drop]
  rw [this, List.length_append]
  omega

set_option maxRecDepth 100000 in
/-- append(v, src...) at integers, src any slice that reads as l. -/
theorem r_apInts {base n : Nat} {ty : TypeId} {v src : Value} {xs l : List Int} {w : World} {K : Value → World → Prop} (hown : w.ownsRow base 3 1 v n (intCells xs)) (hs : RdInts w src l)
    (hn : n + l.length ≤ 1099511627776) (hb : base ≤ w.heap.size) (hk : ∀ v' w', w'.ownsRow base 3 1 v' (n + l.length) (intCells (xs ++ l)) → w.grownBy w' v.ownBlock → K v' w') : semW Try.prog (apS [36, 36] ty [v, src]) w K := by
  obtain ⟨a, cap, rfl, hl, hc⟩ := hs
  by_cases h0 : 0 < l.length
  · obtain ⟨b, off, rfl, hcell⟩ := hc h0
    refine r_ap (news := intCells l) slt36 hown (by simp [intCells]) (fun j u hj => ?_) intCells_one hn (by omega) hb fun v' w' ho hg _ => hk v' w' (by rw [intCells_append]; exact ho) hg
    rw [r_addr]
    have hjl : j < l.length := by rw [← intCells_length]; exact (List.getElem?_eq_some_iff.1 hj).1
    rw [hcell j hjl]
    simp [intCells, hjl] at hj
    simp [hjl, hj]
  · have e : l = [] := List.length_eq_zero_iff.1 (by omega)
    subst e
    refine r_ap0 slt36 hown (hk v w (by simpa using hown) ⟨rfl, rfl, rfl, Nat.le_refl _, fun _ _ _ => rfl⟩)

set_option maxRecDepth 100000 in
theorem concat_calls (v : Value) (rows : List (List Int)) (w : World) (hr : RdRows w v rows) (h0 : 0 < rows.flatten.length) (hle : rows.flatten.length ≤ 1000000) :
    Calls Try.prog 85 #[v] w fun e w' => ∃ v', e = .returned v' ∧ Kp w w' ∧ w'.ownsRow w.heap.size 3 1 v' rows.flatten.length (intCells rows.flatten) := by
  obtain ⟨a, cap, rfl, hl⟩ := hr.len
  refine lift85 ?_
  unfold S85
  simp (disch := omega) only [r_ln, r_pick, r_pickT, r_pickF, r_condT, r_condF, r_gdTT, r_gdFF, r_gdTF, r_gdFT, r_gqTT, r_gqFF, r_gqTF, r_gqFT, r_not, r_lss, r_leq, r_gtr, r_geq, r_eql, r_neq, r_add, r_sub, r_min2, r_max2, r_min3, r_max3, r_fa, r_iaS, r_iaA, r_ex2a, r_ex2b, r_ex3a, r_ex3b, r_ex3c, r_nc, r_keepE, Nat.zero_add, Nat.add_zero, Nat.mul_one, Int.toNat_natCast, toNat_sub1, toNat_add1, decide_true, decide_false, Bool.not_true, Bool.not_false, if_true, if_false, Bool.false_eq_true, reduceCtorEq]
  refine ⟨fun t3 t11 wr => ∃ i : Nat, i ≤ rows.length ∧ t11 = .int .i64 i ∧ t3 = .int .i64 ((rows.take i).flatten.length : Nat) ∧ w = wr, fun _ t11 _ => rows.length - (intOf t11).toNat, ⟨0, by omega, rfl, by simp, rfl⟩, ?_⟩
  rintro _ _ _ _ ⟨i, hi, rfl, rfl, rfl⟩
  by_cases hlt : i < rows.length
  case pos =>
    have hlt' : (i : Int) < (rows.length : Int) := by omega
    obtain ⟨b, off, cap', rv, he, hc, hrow⟩ := hr.row hlt
    cases he
    obtain ⟨ra, rcap, rfl, hrl⟩ := hrow.len
    have h1 := flatten_le (rows := rows) (i + 1)
    rw [flatten_take hlt, List.length_append] at h1
    have h2 : ¬ (((rows.take i).flatten.length : Nat) : Int) + ((rows.getD i []).length : Nat) < 0 := by omega
    simp (disch := omega) only [r_ln, r_pick, r_pickT, r_pickF, r_condT, r_condF, r_gdTT, r_gdFF, r_gdTF, r_gdFT, r_gqTT, r_gqFF, r_gqTF, r_gqFT, r_not, r_lss, r_leq, r_gtr, r_geq, r_eql, r_neq, r_add, r_sub, r_min2, r_max2, r_min3, r_max3, r_fa, r_iaS, r_iaA, r_ex2a, r_ex2b, r_ex3a, r_ex3b, r_ex3c, r_nc, r_keepE, Nat.zero_add, Nat.add_zero, Nat.mul_one, Int.toNat_natCast, toNat_sub1, toNat_add1, decide_true, decide_false, Bool.not_true, Bool.not_false, if_true, if_false, Bool.false_eq_true, reduceCtorEq, hlt', r_ld hc, h2]
    refine r_join0 (fun w2 => w = w2) ?_ (fun k hk => hk _ rfl)
    rintro _ rfl
    exact ⟨⟨i + 1, by omega, by go_num, by rw [flatten_take hlt, List.length_append]; go_num, rfl⟩, by simp only [intOf]; omega⟩
  have hlt' : ¬ (i : Int) < (rows.length : Int) := by omega
  have hiR : i = rows.length := by omega
  subst hiR
  simp (disch := omega) only [r_ln, r_pick, r_pickT, r_pickF, r_condT, r_condF, r_gdTT, r_gdFF, r_gdTF, r_gdFT, r_gqTT, r_gqFF, r_gqTF, r_gqFT, r_not, r_lss, r_leq, r_gtr, r_geq, r_eql, r_neq, r_add, r_sub, r_min2, r_max2, r_min3, r_max3, r_fa, r_iaS, r_iaA, r_ex2a, r_ex2b, r_ex3a, r_ex3b, r_ex3c, r_nc, r_keepE, Nat.zero_add, Nat.add_zero, Nat.mul_one, Int.toNat_natCast, toNat_sub1, toNat_add1, decide_true, decide_false, Bool.not_true, Bool.not_false, if_true, if_false, Bool.false_eq_true, reduceCtorEq, hlt', List.take_length]
  refine r_use fok95 (grow_calls rows.flatten.length w h0 hle) rfl ?_
  rintro e w1 ⟨v1, rfl, hk1, ho1⟩
  refine ⟨_, rfl, ?_⟩
  refine ⟨fun t6 t27 wr => ∃ i : Nat, i ≤ rows.length ∧ t27 = .int .i64 i ∧ Kp w wr ∧ wr.ownsRow w.heap.size 3 1 t6 (rows.take i).flatten.length (intCells (rows.take i).flatten), fun _ t27 _ => rows.length - (intOf t27).toNat,
    ⟨0, by omega, rfl, hk1, by simpa [intCells] using ho1⟩, ?_⟩
  rintro _ t6 _ wr ⟨i, hi, rfl, hk, ho⟩
  by_cases hlt : i < rows.length
  case pos =>
    have hlt' : (i : Int) < (rows.length : Int) := by omega
    obtain ⟨b, off, cap', rv, he, hc, hrow⟩ := hr.row hlt
    cases he
    have h1 := flatten_le (rows := rows) (i + 1)
    rw [flatten_take hlt, List.length_append] at h1
    simp (disch := omega) only [r_ln, r_pick, r_pickT, r_pickF, r_condT, r_condF, r_gdTT, r_gdFF, r_gdTF, r_gdFT, r_gqTT, r_gqFF, r_gqTF, r_gqFT, r_not, r_lss, r_leq, r_gtr, r_geq, r_eql, r_neq, r_add, r_sub, r_min2, r_max2, r_min3, r_max3, r_fa, r_iaS, r_iaA, r_ex2a, r_ex2b, r_ex3a, r_ex3b, r_ex3c, r_nc, r_keepE, Nat.zero_add, Nat.add_zero, Nat.mul_one, Int.toNat_natCast, toNat_sub1, toNat_add1, decide_true, decide_false, Bool.not_true, Bool.not_false, if_true, if_false, Bool.false_eq_true, reduceCtorEq, hlt', r_ld (cell_later hk hc)]
    refine r_apInts ho (hrow.below hk) (by omega) hk.size fun v' w' ho' hg => ?_
    refine ⟨⟨i + 1, by omega, by go_num, Below.grown hk hg hk.size fun k hk' => (ho.lt k hk').1, ?_⟩, by simp only [intOf]; omega⟩
    rw [flatten_take hlt, List.length_append]
    exact ho'
  have hlt' : ¬ (i : Int) < (rows.length : Int) := by omega
  have hiR : i = rows.length := by omega
  subst hiR
  simp (disch := omega) only [r_ln, r_pick, r_pickT, r_pickF, r_condT, r_condF, r_gdTT, r_gdFF, r_gdTF, r_gdFT, r_gqTT, r_gqFF, r_gqTF, r_gqFT, r_not, r_lss, r_leq, r_gtr, r_geq, r_eql, r_neq, r_add, r_sub, r_min2, r_max2, r_min3, r_max3, r_fa, r_iaS, r_iaA, r_ex2a, r_ex2b, r_ex3a, r_ex3b, r_ex3c, r_nc, r_keepE, Nat.zero_add, Nat.add_zero, Nat.mul_one, Int.toNat_natCast, toNat_sub1, toNat_add1, decide_true, decide_false, Bool.not_true, Bool.not_false, if_true, if_false, Bool.false_eq_true, reduceCtorEq, hlt', List.take_length] at ho ⊢
  exact ⟨t6, rfl, hk, ho⟩

theorem neq_self (x : Int) (w : World) : Calls Try.prog 93 #[.int .i64 x] w fun e w' => e = .returned (.bool false) ∧ w = w' := by
  refine lift93 ?_
  unfold S93
  simp only [r_ln, r_pick, r_pickT, r_pickF, r_condT, r_condF, r_gdTT, r_gdFF, r_gdTF, r_gdFT, r_gqTT, r_gqFF, r_gqTF, r_gqFT, r_not, r_lss, r_leq, r_gtr, r_geq, r_eql, r_neq, r_add, r_sub, r_min2, r_max2, r_min3, r_max3, r_fa, r_iaS, r_iaA, r_ex2a, r_ex2b, r_ex3a, r_ex3b, r_ex3c, r_nc, r_keepE, Nat.zero_add, Nat.add_zero, Nat.mul_one, Int.toNat_natCast, toNat_sub1, toNat_add1, decide_true, decide_false, Bool.not_true, Bool.not_false, if_true, if_false, Bool.false_eq_true, reduceCtorEq]
  exact ⟨trivial, trivial⟩

/-- How two integers compare. -/
def cmpI (x y : Int) : Int := if x < y then -1 else if y < x then 1 else 0

theorem cmp_calls (x y : Int) (w : World) : Calls Try.prog 81 #[.int .i64 x, .int .i64 y] w fun e w' => e = .returned (.int .i64 (cmpI x y)) ∧ w = w' := by
  refine lift81 ?_
  unfold S81
  refine r_use fok93 (neq_self x w) rfl ?_
  rintro _ _ ⟨rfl, rfl⟩
  refine ⟨_, rfl, ?_⟩
  refine r_use fok93 (neq_self y w) rfl ?_
  rintro _ _ ⟨rfl, rfl⟩
  refine ⟨_, rfl, ?_⟩
  by_cases h1 : x < y
  · simp only [r_ln, r_pick, r_pickT, r_pickF, r_condT, r_condF, r_gdTT, r_gdFF, r_gdTF, r_gdFT, r_gqTT, r_gqFF, r_gqTF, r_gqFT, r_not, r_lss, r_leq, r_gtr, r_geq, r_eql, r_neq, r_add, r_sub, r_min2, r_max2, r_min3, r_max3, r_fa, r_iaS, r_iaA, r_ex2a, r_ex2b, r_ex3a, r_ex3b, r_ex3c, r_nc, r_keepE, Nat.zero_add, Nat.add_zero, Nat.mul_one, Int.toNat_natCast, toNat_sub1, toNat_add1, decide_true, decide_false, Bool.not_true, Bool.not_false, if_true, if_false, Bool.false_eq_true, reduceCtorEq, h1]
    exact ⟨by simp [cmpI, h1], trivial⟩
  by_cases h2 : y < x
  · simp only [r_ln, r_pick, r_pickT, r_pickF, r_condT, r_condF, r_gdTT, r_gdFF, r_gdTF, r_gdFT, r_gqTT, r_gqFF, r_gqTF, r_gqFT, r_not, r_lss, r_leq, r_gtr, r_geq, r_eql, r_neq, r_add, r_sub, r_min2, r_max2, r_min3, r_max3, r_fa, r_iaS, r_iaA, r_ex2a, r_ex2b, r_ex3a, r_ex3b, r_ex3c, r_nc, r_keepE, Nat.zero_add, Nat.add_zero, Nat.mul_one, Int.toNat_natCast, toNat_sub1, toNat_add1, decide_true, decide_false, Bool.not_true, Bool.not_false, if_true, if_false, Bool.false_eq_true, reduceCtorEq, h1, h2]
    exact ⟨by simp [cmpI, h1, h2], trivial⟩
  simp only [r_ln, r_pick, r_pickT, r_pickF, r_condT, r_condF, r_gdTT, r_gdFF, r_gdTF, r_gdFT, r_gqTT, r_gqFF, r_gqTF, r_gqFT, r_not, r_lss, r_leq, r_gtr, r_geq, r_eql, r_neq, r_add, r_sub, r_min2, r_max2, r_min3, r_max3, r_fa, r_iaS, r_iaA, r_ex2a, r_ex2b, r_ex3a, r_ex3b, r_ex3c, r_nc, r_keepE, Nat.zero_add, Nat.add_zero, Nat.mul_one, Int.toNat_natCast, toNat_sub1, toNat_add1, decide_true, decide_false, Bool.not_true, Bool.not_false, if_true, if_false, Bool.false_eq_true, reduceCtorEq, h1, h2]
  exact ⟨by simp [cmpI, h1, h2], trivial⟩

/-- How two lists compare, lexicographically. -/
def cmpL : List Int → List Int → Int
  | [], [] => 0
  | [], _ :: _ => -1
  | _ :: _, [] => 1
  | a :: xs, b :: ys => if cmpI a b = 0 then cmpL xs ys else cmpI a b

theorem cmpL_nil (l : List Int) : cmpL [] l = if l.length = 0 then 0 else -1 := by cases l <;> simp [cmpL]
theorem cmpL_step {l m : List Int} {j : Nat} (h1 : j < l.length) (h2 : j < m.length) : cmpL (l.drop j) (m.drop j) = if cmpI (l.getD j 0) (m.getD j 0) = 0 then cmpL (l.drop (j + 1)) (m.drop (j + 1)) else cmpI (l.getD j 0) (m.getD j 0) := by
  rw [List.drop_eq_getElem_cons h1, List.drop_eq_getElem_cons h2, getD_lt _ _ _ h1, getD_lt _ _ _ h2]
  rfl
theorem cmpL_longer {l m : List Int} {j : Nat} (h1 : j < l.length) (h2 : m.length ≤ j) : cmpL (l.drop j) (m.drop j) = 1 := by
  rw [List.drop_eq_getElem_cons h1, List.drop_eq_nil_of_le h2]
  rfl

set_option maxRecDepth 100000 in
theorem compare_calls (v1 v2 : Value) (l m : List Int) (w : World) (hl : RdInts w v1 l) (hm : RdInts w v2 m) : Calls Try.prog 56 #[v1, v2] w fun e w' => e = .returned (.int .i64 (cmpL l m)) ∧ w = w' := by
  obtain ⟨a1, cap1, rfl, hl1⟩ := hl.len
  obtain ⟨a2, cap2, rfl, hl2⟩ := hm.len
  refine lift56 ?_
  unfold S56
  simp (disch := omega) only [r_ln, r_pick, r_pickT, r_pickF, r_condT, r_condF, r_gdTT, r_gdFF, r_gdTF, r_gdFT, r_gqTT, r_gqFF, r_gqTF, r_gqFT, r_not, r_lss, r_leq, r_gtr, r_geq, r_eql, r_neq, r_add, r_sub, r_min2, r_max2, r_min3, r_max3, r_fa, r_iaS, r_iaA, r_ex2a, r_ex2b, r_ex3a, r_ex3b, r_ex3c, r_nc, r_keepE, Nat.zero_add, Nat.add_zero, Nat.mul_one, Int.toNat_natCast, toNat_sub1, toNat_add1, decide_true, decide_false, Bool.not_true, Bool.not_false, if_true, if_false, Bool.false_eq_true, reduceCtorEq]
  refine ⟨fun t11 wr => ∃ i : Nat, i ≤ l.length ∧ i ≤ m.length ∧ t11 = .int .i64 i ∧ cmpL l m = cmpL (l.drop i) (m.drop i) ∧ w = wr, fun t11 _ => l.length - (intOf t11).toNat, ⟨0, by omega, by omega, rfl, rfl, rfl⟩, ?_⟩
  rintro _ _ _ ⟨i, hi, hi2, rfl, he, rfl⟩
  by_cases hlt : i < l.length
  case pos =>
    have hlt' : (i : Int) < (l.length : Int) := by omega
    obtain ⟨b, off, _, e1, hc⟩ := hl.at hlt
    cases e1
    by_cases hlm : m.length ≤ i
    · have hlm' : (m.length : Int) ≤ i := by omega
      simp (disch := omega) only [r_ln, r_pick, r_pickT, r_pickF, r_condT, r_condF, r_gdTT, r_gdFF, r_gdTF, r_gdFT, r_gqTT, r_gqFF, r_gqTF, r_gqFT, r_not, r_lss, r_leq, r_gtr, r_geq, r_eql, r_neq, r_add, r_sub, r_min2, r_max2, r_min3, r_max3, r_fa, r_iaS, r_iaA, r_ex2a, r_ex2b, r_ex3a, r_ex3b, r_ex3c, r_nc, r_keepE, Nat.zero_add, Nat.add_zero, Nat.mul_one, Int.toNat_natCast, toNat_sub1, toNat_add1, decide_true, decide_false, Bool.not_true, Bool.not_false, if_true, if_false, Bool.false_eq_true, reduceCtorEq, hlt', r_ld hc, hlm']
      exact ⟨by rw [he, cmpL_longer hlt hlm], trivial⟩
    have hlm' : ¬ (m.length : Int) ≤ i := by omega
    obtain ⟨b2, off2, _, e2, hc2⟩ := hm.at (j := i) (by omega)
    cases e2
    simp (disch := omega) only [r_ln, r_pick, r_pickT, r_pickF, r_condT, r_condF, r_gdTT, r_gdFF, r_gdTF, r_gdFT, r_gqTT, r_gqFF, r_gqTF, r_gqFT, r_not, r_lss, r_leq, r_gtr, r_geq, r_eql, r_neq, r_add, r_sub, r_min2, r_max2, r_min3, r_max3, r_fa, r_iaS, r_iaA, r_ex2a, r_ex2b, r_ex3a, r_ex3b, r_ex3c, r_nc, r_keepE, Nat.zero_add, Nat.add_zero, Nat.mul_one, Int.toNat_natCast, toNat_sub1, toNat_add1, decide_true, decide_false, Bool.not_true, Bool.not_false, if_true, if_false, Bool.false_eq_true, reduceCtorEq, hlt', r_ld hc, hlm', r_ld hc2]
    refine r_use fok81 (cmp_calls _ _ w) rfl ?_
    rintro _ _ ⟨rfl, rfl⟩
    refine ⟨_, rfl, ?_⟩
    have hs := cmpL_step hlt (show i < m.length by omega)
    by_cases h0 : cmpI (l.getD i 0) (m.getD i 0) = 0
    · rw [if_pos h0] at hs
      simp (disch := omega) only [r_ln, r_pick, r_pickT, r_pickF, r_condT, r_condF, r_gdTT, r_gdFF, r_gdTF, r_gdFT, r_gqTT, r_gqFF, r_gqTF, r_gqFT, r_not, r_lss, r_leq, r_gtr, r_geq, r_eql, r_neq, r_add, r_sub, r_min2, r_max2, r_min3, r_max3, r_fa, r_iaS, r_iaA, r_ex2a, r_ex2b, r_ex3a, r_ex3b, r_ex3c, r_nc, r_keepE, Nat.zero_add, Nat.add_zero, Nat.mul_one, Int.toNat_natCast, toNat_sub1, toNat_add1, decide_true, decide_false, Bool.not_true, Bool.not_false, if_true, if_false, Bool.false_eq_true, reduceCtorEq, h0]
      exact ⟨⟨i + 1, by omega, by omega, by go_num, by rw [he, hs], trivial⟩, by simp only [intOf]; omega⟩
    · rw [if_neg h0] at hs
      simp (disch := omega) only [r_ln, r_pick, r_pickT, r_pickF, r_condT, r_condF, r_gdTT, r_gdFF, r_gdTF, r_gdFT, r_gqTT, r_gqFF, r_gqTF, r_gqFT, r_not, r_lss, r_leq, r_gtr, r_geq, r_eql, r_neq, r_add, r_sub, r_min2, r_max2, r_min3, r_max3, r_fa, r_iaS, r_iaA, r_ex2a, r_ex2b, r_ex3a, r_ex3b, r_ex3c, r_nc, r_keepE, Nat.zero_add, Nat.add_zero, Nat.mul_one, Int.toNat_natCast, toNat_sub1, toNat_add1, decide_true, decide_false, Bool.not_true, Bool.not_false, if_true, if_false, Bool.false_eq_true, reduceCtorEq, h0]
      exact ⟨by rw [he, hs], trivial⟩
  have hlt' : ¬ (i : Int) < (l.length : Int) := by omega
  have hd : l.drop i = [] := List.drop_eq_nil_of_le (by omega)
  rw [hd, cmpL_nil, List.length_drop] at he
  by_cases hlm : l.length < m.length
  · have hlm' : (l.length : Int) < (m.length : Int) := by omega
    simp (disch := omega) only [r_ln, r_pick, r_pickT, r_pickF, r_condT, r_condF, r_gdTT, r_gdFF, r_gdTF, r_gdFT, r_gqTT, r_gqFF, r_gqTF, r_gqFT, r_not, r_lss, r_leq, r_gtr, r_geq, r_eql, r_neq, r_add, r_sub, r_min2, r_max2, r_min3, r_max3, r_fa, r_iaS, r_iaA, r_ex2a, r_ex2b, r_ex3a, r_ex3b, r_ex3c, r_nc, r_keepE, Nat.zero_add, Nat.add_zero, Nat.mul_one, Int.toNat_natCast, toNat_sub1, toNat_add1, decide_true, decide_false, Bool.not_true, Bool.not_false, if_true, if_false, Bool.false_eq_true, reduceCtorEq, hlt', hlm']
    exact ⟨by rw [he, if_neg (by omega)], trivial⟩
  · have hlm' : ¬ (l.length : Int) < (m.length : Int) := by omega
    simp (disch := omega) only [r_ln, r_pick, r_pickT, r_pickF, r_condT, r_condF, r_gdTT, r_gdFF, r_gdTF, r_gdFT, r_gqTT, r_gqFF, r_gqTF, r_gqFT, r_not, r_lss, r_leq, r_gtr, r_geq, r_eql, r_neq, r_add, r_sub, r_min2, r_max2, r_min3, r_max3, r_fa, r_iaS, r_iaA, r_ex2a, r_ex2b, r_ex3a, r_ex3b, r_ex3c, r_nc, r_keepE, Nat.zero_add, Nat.add_zero, Nat.mul_one, Int.toNat_natCast, toNat_sub1, toNat_add1, decide_true, decide_false, Bool.not_true, Bool.not_false, if_true, if_false, Bool.false_eq_true, reduceCtorEq, hlt', hlm']
    exact ⟨by rw [he, if_pos (by omega)], trivial⟩

end Go.Proofs.Ytaephdjmpmbfpaa
