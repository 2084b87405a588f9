/- Texts of my own, merged by program: Mb Mc Eqs. -/
import Derived.Test.YtkdcldbedbagjaaDoorN09
import Derived.Shelf.SlSortCmp.WholeK
import Derived.Laws.StructEq
set_option linter.all false
/- Contracts: the program's sort of levels, by the shelf's contract of slices.SortFunc at structs; levels. -/
namespace Go.Proofs.YtkdcldbedbagjaaDoor
open Go.Lf Go.RowKit Go.Dt Go.Shelf Go.Proofs

def sortQ_ren : Go.Shelf.Ren := ⟨fun | 6 => 65 | 15 => 81 | 14 => 80 | 28 => 97 | 29 => 98 | 20 => 89 | 21 => 90 | 22 => 91 | 23 => 92 | 24 => 93 | 25 => 94 | 26 => 95 | 27 => 96 | 46 => 100 | 47 => 101 | 48 => 102 | 49 => 103 | 50 => 104 | 57 => 105 | n => n, fun | 22 => 68 | 24 => 71 | 25 => 95 | 3 => 3 | 39 => 109 | 0 => 0 | 53 => 124 | 55 => 126 | 4 => 4 | 46 => 117 | 45 => 116 | 50 => 121 | 5 => 5 | 9 => 9 | 66 => 127 | 70 => 131 | 76 => 133 | 77 => 134 | n => n, fun | n => n⟩
set_option maxRecDepth 100000 in
theorem sortQ : SlLaysF0.n6 Tryd.prog sortQ_ren :=
  { mixed := by kernel_rfl,
    f6 := ⟨Tryd.f65.name, by decide, Tryd.func65.trans (congrArg some (by kernel_rfl))⟩,
    f14 := ⟨Tryd.f80.name, by decide, Tryd.func80.trans (congrArg some (by kernel_rfl))⟩,
    f15 := Tryd.func81.trans (congrArg some (by kernel_rfl)),
    f20 := ⟨Tryd.f89.name, by decide, Tryd.func89.trans (congrArg some (by kernel_rfl))⟩,
    f21 := ⟨Tryd.f90.name, by decide, Tryd.func90.trans (congrArg some (by kernel_rfl))⟩,
    f22 := ⟨Tryd.f91.name, by decide, Tryd.func91.trans (congrArg some (by kernel_rfl))⟩,
    f23 := ⟨Tryd.f92.name, by decide, Tryd.func92.trans (congrArg some (by kernel_rfl))⟩,
    f24 := ⟨Tryd.f93.name, by decide, Tryd.func93.trans (congrArg some (by kernel_rfl))⟩,
    f25 := ⟨Tryd.f94.name, by decide, Tryd.func94.trans (congrArg some (by kernel_rfl))⟩,
    f26 := ⟨Tryd.f95.name, by decide, Tryd.func95.trans (congrArg some (by kernel_rfl))⟩,
    f27 := ⟨Tryd.f96.name, by decide, Tryd.func96.trans (congrArg some (by kernel_rfl))⟩,
    f28 := Tryd.func97.trans (congrArg some (by kernel_rfl)),
    f29 := Tryd.func98.trans (congrArg some (by kernel_rfl)),
    f46 := ⟨Tryd.f100.name, by decide, Tryd.func100.trans (congrArg some (by kernel_rfl))⟩,
    f47 := Tryd.func101.trans (congrArg some (by kernel_rfl)),
    f48 := Tryd.func102.trans (congrArg some (by kernel_rfl)),
    f49 := ⟨Tryd.f103.name, by decide, Tryd.func103.trans (congrArg some (by kernel_rfl))⟩,
    f50 := ⟨Tryd.f104.name, by decide, Tryd.func104.trans (congrArg some (by kernel_rfl))⟩,
    f57 := ⟨Tryd.f105.name, by decide, Tryd.func105.trans (congrArg some (by kernel_rfl))⟩,
    t0 := Tryd.underlying0,
    a0 := Tryd.isAgg0,
    z0 := Tryd.sizeOf0,
    v0 := Tryd.zeroValue0,
    t3 := Tryd.underlying3,
    a3 := Tryd.isAgg3,
    z3 := Tryd.sizeOf3,
    v3 := Tryd.zeroValue3,
    t4 := Tryd.underlying4,
    a4 := Tryd.isAgg4,
    z4 := Tryd.sizeOf4,
    v4 := Tryd.zeroValue4,
    t5 := Tryd.underlying5,
    a5 := Tryd.isAgg5,
    z5 := Tryd.sizeOf5,
    v5 := Tryd.zeroValue5,
    t9 := Tryd.underlying9,
    a9 := Tryd.isAgg9,
    z9 := Tryd.sizeOf9,
    v9 := Tryd.zeroValue9,
    t22 := Tryd.underlying68,
    a22 := Tryd.isAgg68,
    z22 := Tryd.sizeOf68,
    v22 := Tryd.zeroValue68,
    t25 := Tryd.underlying95,
    a25 := Tryd.isAgg95,
    z25 := Tryd.sizeOf95,
    v25 := Tryd.zeroValue95,
    t39 := Tryd.underlying109,
    a39 := Tryd.isAgg109,
    z39 := Tryd.sizeOf109,
    v39 := Tryd.zeroValue109,
    t45 := Tryd.underlying116,
    a45 := Tryd.isAgg116,
    z45 := Tryd.sizeOf116,
    v45 := Tryd.zeroValue116,
    t46 := Tryd.underlying117,
    a46 := Tryd.isAgg117,
    z46 := Tryd.sizeOf117,
    v46 := Tryd.zeroValue117,
    t50 := Tryd.underlying121,
    a50 := Tryd.isAgg121,
    z50 := Tryd.sizeOf121,
    v50 := Tryd.zeroValue121,
    t53 := Tryd.underlying124,
    a53 := Tryd.isAgg124,
    z53 := Tryd.sizeOf124,
    v53 := Tryd.zeroValue124,
    t55 := Tryd.underlying126,
    a55 := Tryd.isAgg126,
    z55 := Tryd.sizeOf126,
    v55 := Tryd.zeroValue126,
    t66 := Tryd.underlying127,
    a66 := Tryd.isAgg127,
    z66 := Tryd.sizeOf127,
    v66 := Tryd.zeroValue127,
    t70 := Tryd.underlying131,
    a70 := Tryd.isAgg131,
    z70 := Tryd.sizeOf131,
    v70 := Tryd.zeroValue131,
    t76 := Tryd.underlying133,
    a76 := Tryd.isAgg133,
    z76 := Tryd.sizeOf133,
    v76 := Tryd.zeroValue133,
    t77 := Tryd.underlying134,
    a77 := Tryd.isAgg134,
    z77 := Tryd.sizeOf134,
    v77 := Tryd.zeroValue134 }


theorem slt68 : SlT 68 71 3 24 := SlT.mk' (z := t3V (0, 0, 0)) (by kernel_rfl) (by kernel_rfl) rfl (by decide)
theorem slt22 : SlT 22 44 3 24 := SlT.mk' (z := t3V (0, 0, 0)) (by kernel_rfl) (by kernel_rfl) rfl (by decide)
abbrev LvAt (base : Nat) (w : World) (v : Value) (P : List T3) : Prop := RecAt 71 3 t3C base w v P
abbrev SqAt (base : Nat) (w : World) (v : Value) (P : List T3) : Prop := RecAt 44 3 t3C base w v P

theorem neq_self (x : Int) (w : World) : Calls Tryd.prog 82 #[.int .i64 x] w fun e w' => e = .returned (.bool false) ∧ w = w' := by
  refine lift82 ?_
  unfold S82
  simp only [r_ln, r_pick, r_pickT, r_pickF, r_condT, r_condF, r_gdTT, r_gdFF, r_gdTF, r_gdFT, r_gqTT, r_gqFF, r_gqTF, r_gqFT, r_not, r_lss, r_leq, r_gtr, r_geq, r_eql, r_neq, r_add, r_sub, r_min2, r_max2, r_min3, r_max3, r_fa, r_iaS, r_iaA, r_ex2a, r_ex2b, r_ex3a, r_ex3b, r_ex3c, r_nc, r_keepE, Nat.zero_add, Nat.add_zero, Nat.mul_one, Int.toNat_natCast, toNat_sub1, toNat_add1, decide_true, decide_false, Bool.not_true, Bool.not_false, if_true, if_false, Bool.false_eq_true, reduceCtorEq]
  exact ⟨trivial, trivial⟩
def cmpI (x y : Int) : Int := if x < y then -1 else if y < x then 1 else 0
theorem cmp_calls (x y : Int) (w : World) : Calls Tryd.prog 68 #[.int .i64 x, .int .i64 y] w fun e w' => e = .returned (.int .i64 (cmpI x y)) ∧ w = w' := by
  refine lift68 ?_
  unfold S68
  refine r_use fok82 (neq_self x w) rfl ?_
  rintro _ _ ⟨rfl, rfl⟩
  refine ⟨_, rfl, ?_⟩
  refine r_use fok82 (neq_self y w) rfl ?_
  rintro _ _ ⟨rfl, rfl⟩
  refine ⟨_, rfl, ?_⟩
  by_cases h1 : x < y
  · simp only [r_ln, r_pick, r_pickT, r_pickF, r_condT, r_condF, r_gdTT, r_gdFF, r_gdTF, r_gdFT, r_gqTT, r_gqFF, r_gqTF, r_gqFT, r_not, r_lss, r_leq, r_gtr, r_geq, r_eql, r_neq, r_add, r_sub, r_min2, r_max2, r_min3, r_max3, r_fa, r_iaS, r_iaA, r_ex2a, r_ex2b, r_ex3a, r_ex3b, r_ex3c, r_nc, r_keepE, Nat.zero_add, Nat.add_zero, Nat.mul_one, Int.toNat_natCast, toNat_sub1, toNat_add1, decide_true, decide_false, Bool.not_true, Bool.not_false, if_true, if_false, Bool.false_eq_true, reduceCtorEq, h1]
    exact ⟨by simp [cmpI, h1], trivial⟩
  by_cases h2 : y < x
  · simp only [r_ln, r_pick, r_pickT, r_pickF, r_condT, r_condF, r_gdTT, r_gdFF, r_gdTF, r_gdFT, r_gqTT, r_gqFF, r_gqTF, r_gqFT, r_not, r_lss, r_leq, r_gtr, r_geq, r_eql, r_neq, r_add, r_sub, r_min2, r_max2, r_min3, r_max3, r_fa, r_iaS, r_iaA, r_ex2a, r_ex2b, r_ex3a, r_ex3b, r_ex3c, r_nc, r_keepE, Nat.zero_add, Nat.add_zero, Nat.mul_one, Int.toNat_natCast, toNat_sub1, toNat_add1, decide_true, decide_false, Bool.not_true, Bool.not_false, if_true, if_false, Bool.false_eq_true, reduceCtorEq, h1, h2]
    exact ⟨by simp [cmpI, h1, h2], trivial⟩
  simp only [r_ln, r_pick, r_pickT, r_pickF, r_condT, r_condF, r_gdTT, r_gdFF, r_gdTF, r_gdFT, r_gqTT, r_gqFF, r_gqTF, r_gqFT, r_not, r_lss, r_leq, r_gtr, r_geq, r_eql, r_neq, r_add, r_sub, r_min2, r_max2, r_min3, r_max3, r_fa, r_iaS, r_iaA, r_ex2a, r_ex2b, r_ex3a, r_ex3b, r_ex3c, r_nc, r_keepE, Nat.zero_add, Nat.add_zero, Nat.mul_one, Int.toNat_natCast, toNat_sub1, toNat_add1, decide_true, decide_false, Bool.not_true, Bool.not_false, if_true, if_false, Bool.false_eq_true, reduceCtorEq, h1, h2]
  exact ⟨by simp [cmpI, h1, h2], trivial⟩

def orI : List Int → Int
  | [] => 0
  | x :: l => if x = 0 then orI l else x
set_option maxRecDepth 100000 in
theorem or_calls (v : Value) (l : List Int) (w : World) (h : RdInts w v l) : Calls Tryd.prog 67 #[v] w fun e w' => e = .returned (.int .i64 (orI l)) ∧ w = w' := by
  obtain ⟨a, cap, rfl, hlen⟩ := h.len
  refine lift67 ?_
  unfold S67 S67L0
  simp (disch := omega) only [r_ln, r_pick, r_pickT, r_pickF, r_condT, r_condF, r_gdTT, r_gdFF, r_gdTF, r_gdFT, r_gqTT, r_gqFF, r_gqTF, r_gqFT, r_not, r_lss, r_leq, r_gtr, r_geq, r_eql, r_neq, r_add, r_sub, r_min2, r_max2, r_min3, r_max3, r_fa, r_iaS, r_iaA, r_ex2a, r_ex2b, r_ex3a, r_ex3b, r_ex3c, r_nc, r_keepE, Nat.zero_add, Nat.add_zero, Nat.mul_one, Int.toNat_natCast, toNat_sub1, toNat_add1, decide_true, decide_false, Bool.not_true, Bool.not_false, if_true, if_false, Bool.false_eq_true, reduceCtorEq]
  refine ⟨fun t8 wr => ∃ j : Nat, j ≤ l.length ∧ t8 = .int .i64 j ∧ orI l = orI (l.drop j) ∧ w = wr, fun t8 _ => l.length - (intOf t8).toNat, ⟨0, by omega, rfl, rfl, rfl⟩, ?_⟩
  rintro _ _ _ ⟨j, hj, rfl, ho, rfl⟩
  by_cases hlt : j < l.length
  case neg =>
    have hlt' : ¬ (j : Int) < (l.length : Int) := by omega
    simp (disch := omega) only [r_ln, r_pick, r_pickT, r_pickF, r_condT, r_condF, r_gdTT, r_gdFF, r_gdTF, r_gdFT, r_gqTT, r_gqFF, r_gqTF, r_gqFT, r_not, r_lss, r_leq, r_gtr, r_geq, r_eql, r_neq, r_add, r_sub, r_min2, r_max2, r_min3, r_max3, r_fa, r_iaS, r_iaA, r_ex2a, r_ex2b, r_ex3a, r_ex3b, r_ex3c, r_nc, r_keepE, Nat.zero_add, Nat.add_zero, Nat.mul_one, Int.toNat_natCast, toNat_sub1, toNat_add1, decide_true, decide_false, Bool.not_true, Bool.not_false, if_true, if_false, Bool.false_eq_true, reduceCtorEq, hlt']
    rw [ho, List.drop_eq_nil_of_le (by omega)]
    exact ⟨rfl, by first | rfl | trivial⟩
  have hlt' : (j : Int) < (l.length : Int) := by omega
  obtain ⟨b, off, cap', e1, hc⟩ := h.at hlt
  cases e1
  have hd : orI (l.drop j) = if l.getD j 0 = 0 then orI (l.drop (j + 1)) else l.getD j 0 := by
    rw [List.drop_eq_getElem_cons hlt, orI, getD_lt _ _ _ hlt]
  by_cases hx : l.getD j 0 = 0
  · rw [if_pos hx] at hd
    simp (disch := omega) only [r_ln, r_pick, r_pickT, r_pickF, r_condT, r_condF, r_gdTT, r_gdFF, r_gdTF, r_gdFT, r_gqTT, r_gqFF, r_gqTF, r_gqFT, r_not, r_lss, r_leq, r_gtr, r_geq, r_eql, r_neq, r_add, r_sub, r_min2, r_max2, r_min3, r_max3, r_fa, r_iaS, r_iaA, r_ex2a, r_ex2b, r_ex3a, r_ex3b, r_ex3c, r_nc, r_keepE, Nat.zero_add, Nat.add_zero, Nat.mul_one, Int.toNat_natCast, toNat_sub1, toNat_add1, decide_true, decide_false, Bool.not_true, Bool.not_false, if_true, if_false, Bool.false_eq_true, reduceCtorEq, hlt', r_ld hc, decide_eq_true hx]
    exact ⟨⟨j + 1, by omega, by go_num, by rw [ho, hd], by first | rfl | trivial⟩, by simp only [intOf]; omega⟩
  · rw [if_neg hx] at hd
    simp (disch := omega) only [r_ln, r_pick, r_pickT, r_pickF, r_condT, r_condF, r_gdTT, r_gdFF, r_gdTF, r_gdFT, r_gqTT, r_gqFF, r_gqTF, r_gqFT, r_not, r_lss, r_leq, r_gtr, r_geq, r_eql, r_neq, r_add, r_sub, r_min2, r_max2, r_min3, r_max3, r_fa, r_iaS, r_iaA, r_ex2a, r_ex2b, r_ex3a, r_ex3b, r_ex3c, r_nc, r_keepE, Nat.zero_add, Nat.add_zero, Nat.mul_one, Int.toNat_natCast, toNat_sub1, toNat_add1, decide_true, decide_false, Bool.not_true, Bool.not_false, if_true, if_false, Bool.false_eq_true, reduceCtorEq, hlt', r_ld hc, hx]
    rw [ho, hd]
    exact ⟨rfl, by first | rfl | trivial⟩

/-- How levels are put in order: by y and then by their beginnings. -/
def cmpZ (p q : T3) : Int := orI [cmpI p.1 q.1, cmpI p.2.1 q.2.1]
def lvLt (p q : T3) : Bool := decide (p.1 < q.1 ∨ (p.1 = q.1 ∧ p.2.1 < q.2.1))
theorem ltOf_cmpZ : ltOf cmpZ = lvLt := by
  funext p q
  unfold ltOf lvLt cmpZ
  rw [decide_eq_decide]
  simp only [orI, cmpI]
  by_cases h1 : p.1 < q.1
  · simp [h1]
  · by_cases h2 : q.1 < p.1
    · simp [h1, h2]; omega
    · have e1 : p.1 = q.1 := by omega
      by_cases h3 : p.2.1 < q.2.1
      · simp [e1, h3]
      · by_cases h4 : q.2.1 < p.2.1
        · simp [e1, h3, h4]
        · have e2 : p.2.1 = q.2.1 := by omega
          simp [e1, e2]
theorem lvLt_iff {p q : T3} : lvLt p q = true ↔ p.1 < q.1 ∨ (p.1 = q.1 ∧ p.2.1 < q.2.1) := decide_eq_true_iff
theorem lvLt_not {p q : T3} : lvLt p q = false ↔ ¬ (p.1 < q.1 ∨ (p.1 = q.1 ∧ p.2.1 < q.2.1)) := decide_eq_false_iff_not
theorem swoL : Go.Sort.SWO (ltOf cmpZ) := by
  rw [ltOf_cmpZ]
  exact ⟨fun x => by rw [lvLt_not]; omega, fun x y z h1 h2 => by rw [lvLt_iff] at *; omega, fun x y z h1 h2 => by rw [lvLt_not] at *; omega⟩

set_option maxRecDepth 100000 in
theorem cmp66_calls (x y : T3) (W : World) : Calls Tryd.prog 66 #[t3V x, t3V y] W fun e w' => e = .returned (.int .i64 (cmpZ x y)) ∧ ∃ q os, w' = Go.Sort.grow (W.drewN q) os := by
  refine lift66 ?_
  unfold S66
  simp only [boxW, Drew]
  have g1 : ((W.alloc (.cells (t3V x).cells 71)).alloc (.cells (t3V y).cells 71)).drew.heap[W.heap.size]? = some (.cells (t3V x).cells 71 (0, 0)) := block_below (heap_alloc_new W _) ((below_alloc _).drew)
  have g2 : ((W.alloc (.cells (t3V x).cells 71)).alloc (.cells (t3V y).cells 71)).drew.heap[(W.alloc (.cells (t3V x).cells 71)).heap.size]? = some (.cells (t3V y).cells 71 (0, 0)) := heap_alloc_new (W.alloc (.cells (t3V x).cells 71)) _
  obtain ⟨c0, c1, c2⟩ := tri_cells (p := x) g1
  obtain ⟨d0, d1, d2⟩ := tri_cells (p := y) g2
  simp (disch := omega) only [r_ln, r_pick, r_pickT, r_pickF, r_condT, r_condF, r_gdTT, r_gdFF, r_gdTF, r_gdFT, r_gqTT, r_gqFF, r_gqTF, r_gqFT, r_not, r_lss, r_leq, r_gtr, r_geq, r_eql, r_neq, r_add, r_sub, r_min2, r_max2, r_min3, r_max3, r_fa, r_iaS, r_iaA, r_ex2a, r_ex2b, r_ex3a, r_ex3b, r_ex3c, r_nc, r_keepE, Nat.zero_add, Nat.add_zero, Nat.mul_one, Int.toNat_natCast, toNat_sub1, toNat_add1, decide_true, decide_false, Bool.not_true, Bool.not_false, if_true, if_false, Bool.false_eq_true, reduceCtorEq, r_ld c0, r_ld c1, r_ld c2, r_ld d0, r_ld d1, r_ld d2]
  refine r_use fok68 (cmp_calls _ _ _) rfl ?_
  rintro _ _ ⟨rfl, rfl⟩
  refine ⟨_, rfl, Below.refl _ _, ?_⟩
  refine r_use fok68 (cmp_calls _ _ _) rfl ?_
  rintro _ _ ⟨rfl, rfl⟩
  refine ⟨_, rfl, ?_⟩
  rw [bs34_2]
  refine r_use fok67 (or_calls _ [cmpI x.1 y.1, cmpI x.2.1 y.2.1] _ (rd_two (heap_alloc_new _ _))) rfl ?_
  rintro _ _ ⟨rfl, rfl⟩
  refine ⟨_, rfl, rfl, 1, #[Obj.cells (t3V x).cells 71, Obj.cells (t3V y).cells 71, Obj.cells #[.int .i64 (cmpI x.1 y.1), .int .i64 (cmpI x.2.1 y.2.1)] 3], ?_⟩
  simp only [World.alloc, World.drew, Go.Sort.grow, World.drewN]
  congr 1

theorem t3Cells_get (P : List T3) (t : Nat) (ht : t < P.length * 3) : (recCells t3C P)[t]? = (t3C (P.toArray[t / 3]!))[t % 3]? := by
  have hq : t / 3 < P.length := by omega
  have h := recCells_at t3C_len P (t / 3) (t % 3) P[t / 3] (List.getElem?_eq_getElem hq) (Nat.mod_lt _ (by decide))
  rw [show t / 3 * 3 + t % 3 = t by omega] at h
  rw [h]
  simp [hq]
theorem flat_get (P : List T3) (t : Nat) (ht : t < P.length * 3) : (recCells t3C P)[t]? = some (Go.Sort.flatK t3C 3 P.toArray)[t]! := by
  rw [Go.Sort.get_flatK _ _ _ _ (by simpa using ht), t3Cells_get P t ht]
  have : t % 3 < 3 := Nat.mod_lt _ (by decide)
  generalize P.toArray[t / 3]! = p
  generalize t % 3 = r at *
  match r, this with
  | 0, _ => rfl
  | 1, _ => rfl
  | 2, _ => rfl

/-- In order. -/
def LvSorted (S : List T3) : Prop := S.Pairwise fun a b => lvLt b a = false

set_option maxRecDepth 100000 in
theorem sortf_calls {base : Nat} {v : Value} {P : List T3} {w : World} (h : LvAt base w v P) (h0 : 0 < P.length) (hP : P.length ≤ 1000) :
    Calls Tryd.prog 65 #[v, .func (.func 66) #[] #[]] w fun e w' => e = .returned (.tuple #[]) ∧ ∃ S, S.Perm P ∧ LvSorted S ∧ LvAt base w' v S ∧ Chg (fun k => v.ownBlock = some k) w w' := by
  obtain ⟨g, cap, cur, rfl, hb, hg, hle, hm, hs, ht⟩ := h.blk h0
  have eg : ∀ args w, (callFunc 66 args).run Tryd.prog w = .ok (.enter 66 args) w := enters_of Tryd.func66 (by kernel_rfl) rfl
  have hH : Go.Sort.HoldsK t3C 3 w g 0 P.toArray := by
    intro j hj
    have hj' : j < P.length * 3 := by simpa using hj
    refine ⟨?_, by rw [Nat.zero_add]; exact frozen_row hg⟩
    rw [Nat.zero_add, cell_row hg]
    have e : cur.toList[j]? = (recCells t3C P)[j]? := by rw [← ht, List.getElem?_take, if_pos hj']
    rw [← Array.getElem?_toList, e, flat_get P j hj']
    rfl
  have hcon := AnyQ.slices_SortFunc sortQ 3 Tryd.isAgg71 Tryd.sizeOf71 t3C (fun _ => rfl) t3C_one cmpZ swoL 66 #[] g 0 cap P.toArray w eg (fun _ _ _ _ x y => cmp66_calls x y _) hH (block_lt hg) (by simp; omega)
  have hsz : P.toArray.size = P.length := by simp
  rw [hsz] at hcon
  change Calls Tryd.prog 65 _ _ _ at hcon
  refine hcon.mono ?_
  rintro e w' ⟨rfl, d', n, os, hp, hso, rfl⟩
  have hdl : d'.size = P.length := by have := hp.1; simpa using this
  have hperm : d'.toList.Perm P := by
    have := hp.2.2
    have e1 : d'.extract 0 P.length = d' := by rw [← hdl]; simp
    have e2 : P.toArray.extract 0 P.length = P.toArray := by rw [← hsz]; simp
    rw [e1, e2] at this
    simpa using this
  have hsort : LvSorted d'.toList := by
    unfold LvSorted
    rw [List.pairwise_iff_getElem]
    intro i j hi hj hij
    have hi' : i < d'.size := by simpa using hi
    have hj' : j < d'.size := by simpa using hj
    have := hso i j (by omega) hij (by omega)
    rw [ltOf_cmpZ, getElem!_pos d' i hi', getElem!_pos d' j hj'] at this
    simpa using this
  have hHd := Go.Proofs.holdsK_sortWorldK_c t3C 3 w g 0 P.toArray d' n os hH (block_lt hg) (by simpa using hdl)
  have hblk : (sortWorldK t3C 3 w g 0 n d' os).heap[g]? = some (.cells (Go.Sort.putCells id 0 (Go.Sort.flatK t3C 3 d') cur) 71 (0, 0)) := by
    have hgl := block_lt hg
    show ((w.heap.modify g _) ++ os)[g]? = _
    rw [Array.getElem?_append_left (by simpa using hgl), Array.getElem?_modify, if_pos rfl, hg]
    rfl
  have hl2 : d'.toList.length = P.length := by simp [hdl]
  refine ⟨rfl, d'.toList, hperm, hsort, ⟨?_, .inr ⟨g, cap, _, ?_, hb, hblk, by omega, hm, by simp [Go.Sort.putCells, hs], ?_⟩⟩, ?_⟩
  · rw [recCells_length t3C_len]
  · rw [hl2]
  · apply List.ext_getElem?
    intro t
    rw [hl2, List.getElem?_take]
    by_cases hlt : t < P.length * 3
    · rw [if_pos hlt, flat_get d'.toList t (by omega), Array.getElem?_toList]
      have := (hHd t (by simp [hdl]; omega)).1
      rw [Nat.zero_add, cell_row hblk] at this
      rw [this]
      rfl
    · rw [if_neg hlt, List.getElem?_eq_none (by rw [recCells_length t3C_len, hl2]; omega)]
  · refine ⟨rfl, rfl, rfl, ?_, fun k hk hn => ?_⟩
    · show _ ≤ ((w.heap.modify g _) ++ os).size
      simp
    · show ((w.heap.modify g _) ++ os)[k]? = _
      have hgk : ¬ g = k := fun e => hn (by rw [e]; rfl)
      rw [Array.getElem?_append_left (by simpa using hk), Array.getElem?_modify, if_neg hgk]
theorem fok65 : fnOk Tryd.prog 65 = true := by kernel_rfl

end Go.Proofs.YtkdcldbedbagjaaDoor

/- Contract: levels of the program. -/
namespace Go.Proofs.YtkdcldbedbagjaaDoor
open Go.Lf Go.RowKit Go.Dt

def sidesL (L : List T3) : List T3 := L.flatMap fun s => [(s.2.1, s.1, s.1 + s.2.2), (s.2.1 + s.2.2, s.1, s.1 + s.2.2)]
/-- A side comes to the levels so far. -/
def mstep (out : List T3) (l : T3) : List T3 :=
  match out.getLast? with
  | some m => if m.1 = l.1 ∧ l.2.1 ≤ m.2.2 then out.dropLast ++ [(m.1, m.2.1, max m.2.2 l.2.2)] else out ++ [l]
  | none => [l]
def mergeL (S : List T3) : List T3 := S.foldl mstep []
theorem sides_snoc (L : List T3) (s : T3) : sidesL (L ++ [s]) = sidesL L ++ [(s.2.1, s.1, s.1 + s.2.2), (s.2.1 + s.2.2, s.1, s.1 + s.2.2)] := by simp [sidesL]
theorem sides_len (L : List T3) : (sidesL L).length = 2 * L.length := by
  induction L with
  | nil => rfl
  | cons s L ih => simp only [sidesL, List.flatMap_cons, List.length_append, List.length_cons, List.length_nil] at ih ⊢; omega
theorem mstep_len (out : List T3) (l : T3) : (mstep out l).length ≤ out.length + 1 := by
  unfold mstep
  split
  · rename_i m hm
    have : out ≠ [] := fun h => by rw [h] at hm; cases hm
    have := List.length_pos_iff.2 this
    split
    · rw [List.length_append, List.length_dropLast, List.length_singleton]; omega
    · rw [List.length_append, List.length_singleton]; exact Nat.le_refl _
  · rw [List.length_singleton]; omega
theorem fold_len (S : List T3) : ∀ out : List T3, (S.foldl mstep out).length ≤ out.length + S.length := by
  induction S with
  | nil => intro out; simp
  | cons l S ih => intro out; have h1 := ih (mstep out l); have h2 := mstep_len out l; simp only [List.foldl_cons, List.length_cons]; omega

set_option maxRecDepth 100000 in
theorem bd71 {x y z : Int} {K : Value → Prop} : bdQ Tryd.prog 71 [(0, .int .i64 x), (1, .int .i64 y), (2, .int .i64 z)] K = K (t3V (x, y, z)) := by kernel_rfl
set_option maxRecDepth 100000 in
theorem bd44 {x y z : Int} {K : Value → Prop} : bdQ Tryd.prog 44 [(0, .int .i64 x), (1, .int .i64 y), (2, .int .i64 z)] K = K (t3V (x, y, z)) := by kernel_rfl
set_option maxRecDepth 100000 in
theorem bs68_2 (p q : T3) (w : World) (K : Value → World → Prop) : bsW Tryd.prog 68 2 [(0, t3V p), (1, t3V q)] w K = K (.slice (some ⟨w.heap.size, 0, none⟩) 2 2) (w.alloc (.cells #[.int .i64 p.1, .int .i64 p.2.1, .int .i64 p.2.2, .int .i64 q.1, .int .i64 q.2.1, .int .i64 q.2.2] 71)) := by kernel_rfl
set_option maxRecDepth 100000 in
theorem bs68 (p : T3) (w : World) (K : Value → World → Prop) : bsW Tryd.prog 68 1 [(0, t3V p)] w K = K (.slice (some ⟨w.heap.size, 0, none⟩) 1 1) (w.alloc (.cells (t3V p).cells 71)) := by kernel_rfl
set_option maxRecDepth 100000 in
theorem bs22 (p : T3) (w : World) (K : Value → World → Prop) : bsW Tryd.prog 22 1 [(0, t3V p)] w K = K (.slice (some ⟨w.heap.size, 0, none⟩) 1 1) (w.alloc (.cells (t3V p).cells 44)) := by kernel_rfl

set_option maxRecDepth 100000 in
/-- append(out, p, q) -/
theorem r_push2L {base : Nat} {w : World} {v : Value} {P : List T3} {p q : T3} {K : Value → World → Prop} (h : LvAt base w v P) (hn : P.length + 2 ≤ 1000000) (hb : base ≤ w.heap.size)
    (hk : ∀ v' w', LvAt base w' v' (P ++ [p, q]) → Chg (fun k => v.ownBlock = some k) w w' → K v' w') :
    bsW Tryd.prog 68 2 [(0, t3V p), (1, t3V q)] w fun s w => semW Tryd.prog (apS [68, 68] 68 [v, s]) w K := by
  rw [bs68_2]
  have k1 : Kp w (w.alloc (.cells #[.int .i64 p.1, .int .i64 p.2.1, .int .i64 p.2.2, .int .i64 q.1, .int .i64 q.2.1, .int .i64 q.2.2] 71)) := below_alloc _
  have hnew := heap_alloc_new w (.cells #[.int .i64 p.1, .int .i64 p.2.1, .int .i64 p.2.2, .int .i64 q.1, .int .i64 q.2.1, .int .i64 q.2.2] 71)
  have hsz := k1.size
  generalize w.alloc (.cells #[.int .i64 p.1, .int .i64 p.2.1, .int .i64 p.2.2, .int .i64 q.1, .int .i64 q.2.1, .int .i64 q.2.2] 71) = w1 at *
  refine r_apAt (m := 2) (news := t3C p ++ t3C q) slt68 (h.kp k1) rfl (cells_at_row hnew) (fun u hu => ?_) (by omega) (by omega) (by omega) fun v' w' ho c1 _ => ?_
  · rcases List.mem_append.1 hu with h | h
    · exact t3C_one p u h
    · exact t3C_one q u h
  · refine hk v' w' ?_ ((Chg.of_kp k1).trans c1)
    unfold LvAt RecAt
    rw [recCells_append, List.length_append]
    simpa [recCells] using ho

/-- Sides lie within a rectangle. -/
def SmallT (p : T3) : Prop := (-5000 ≤ p.1 ∧ p.1 ≤ 5000) ∧ (-5000 ≤ p.2.1 ∧ p.2.1 ≤ 5000) ∧ -5000 ≤ p.2.2 ∧ p.2.2 ≤ 5000

set_option maxRecDepth 100000 in
set_option maxHeartbeats 2000000 in
/-- The merging loop. -/
theorem r46_1 {base : Nat} {t3 : Value} {S : List T3} {w0 : World} {R : Ending → World → Prop} (hS : LvAt base w0 t3 S) (hl : S.length ≤ 1000)
    (hR : ∀ v w', LvAt w0.heap.size w' v (mergeL S) → Kp w0 w' → R (.returned v) w') : S46L1 t3 (.int .i64 S.length) R w0 := by
  unfold S46L1
  refine ⟨fun t6 t47 wr => ∃ (i : Nat) (P : List T3), i ≤ S.length ∧ t47 = .int .i64 i ∧ P = (S.take i).foldl mstep [] ∧ LvAt w0.heap.size wr t6 P ∧ Kp w0 wr, fun _ t47 _ => S.length - (intOf t47).toNat, ⟨0, [], by omega, rfl, rfl, RecAt.nil, Kp.refl _⟩, ?_⟩
  rintro _ t6 _ wr ⟨i, P, hi, rfl, hP, hO, kr⟩
  have hPl : P.length ≤ i := by
    have := fold_len (S.take i) []
    rw [← hP, List.length_take] at this
    simp only [List.length_nil] at this
    omega
  have hsz := kr.size
  by_cases hlt : i < S.length
  case neg =>
    have hlt' : ¬ (i : Int) < (S.length : Int) := by omega
    rw [List.take_of_length_le (by omega)] at hP
    simp only [r_lss, hlt', decide_false, r_condF]
    refine hR t6 wr ?_ kr
    unfold mergeL
    rw [← hP]; exact hO
  have hlt' : (i : Int) < (S.length : Int) := by omega
  simp only [r_lss, decide_eq_true hlt', r_condT]
  have hnext : (S.take (i + 1)).foldl mstep [] = mstep P (S.getD i (0, 0, 0)) := by
    rw [take_succ' _ _ hlt, List.foldl_append, ← hP, ← getD_lt _ _ (0, 0, 0) hlt]; rfl
  refine r_join1 (fun v w' => LvAt w0.heap.size w' v (mstep P (S.getD i (0, 0, 0))) ∧ Kp w0 w') ?_ fun kk hkk => ?_
  · rintro v w' ⟨o1, k1⟩
    rw [r_add _ _ (by omega) (by omega)]
    exact ⟨⟨i + 1, _, by omega, by go_num, rfl, by rw [hnext]; exact o1, k1⟩, by simp only [intOf]; omega⟩
  have rdS := (hS.kp kr).rd t3C_len
  rw [tri_at rdS hlt]
  generalize S.getD i (0, 0, 0) = l at *
  refine r_box fun b8 w1 e8 s8 h8 k1 => ?_
  have h8' : w1.heap[b8]? = some (.cells #[.int .i64 0, .int .i64 0, .int .i64 0] 71 (0, 0)) := h8
  refine st71 h8' fun w2 c2 s2 h82 => ?_
  have k2 : Kp wr w2 := Kp.of_chg k1 c2 fun q e => by omega
  have hO2 := hO.kp k2
  obtain ⟨pa, pc, ep, _⟩ := hO2.len
  have ln6 : ∀ K : Value → Prop, ln1 t6 K = K (.int .i64 P.length) := fun K => by rw [ep]; rfl
  rw [ln6]
  refine r_drew fun w3 k3 _ => ?_
  have k23 := Kp.trans k2 k3
  have k03 := Kp.trans kr k23
  have hO3 := hO2.kp k3
  have h83 := block_below h82 k3
  obtain ⟨l0, l1, l2⟩ := tri_cells (p := l) h83
  -- the side stands for itself
  have fresh : ∀ w' : World, Kp w3 w' → mstep P l = P ++ [l] → ldN 3 w' (ptrV b8) fun t92 => bsW Tryd.prog 68 1 [(0, t92)] w' fun t93 w => semW Tryd.prog (apS [68, 68] 68 [t6, t93]) w fun t94 w => kk t94 w := fun w' k hm => by
    rw [tri_box (block_below h83 k)]
    have hsz' := (Kp.trans k03 k).size
    refine r_pushRec (x := l) slt68 t3C_len rfl (bs68 l _) (t3C_one l) (by omega) (hO3.kp k) (by omega) (by omega) fun v' w'' o1 c1 _ => ?_
    refine hkk v' w'' ⟨by rw [hm]; exact o1, Kp.of_chg (Kp.trans k03 k) c1 fun q hq => ((hO3.kp k).lt hq).1⟩
  by_cases hpos : 0 < P.length
  case neg =>
    have hP0 : P = [] := List.length_eq_zero_iff.1 (by omega)
    have hm : mstep P l = P ++ [l] := by rw [hP0]; rfl
    have := fresh w3 (Kp.refl _) hm
    have hn0 : ¬ (0 : Int) < (P.length : Int) := by omega
    simp (disch := omega) only [r_ln, r_pick, r_pickT, r_pickF, r_condT, r_condF, r_gdTT, r_gdFF, r_gdTF, r_gdFT, r_gqTT, r_gqFF, r_gqTF, r_gqFT, r_not, r_lss, r_leq, r_gtr, r_geq, r_eql, r_neq, r_add, r_sub, r_min2, r_max2, r_min3, r_max3, r_fa, r_iaS, r_iaA, r_ex2a, r_ex2b, r_ex3a, r_ex3b, r_ex3c, r_nc, r_keepE, Nat.zero_add, Nat.add_zero, Nat.mul_one, Int.toNat_natCast, toNat_sub1, toNat_add1, decide_true, decide_false, Bool.not_true, Bool.not_false, if_true, if_false, Bool.false_eq_true, reduceCtorEq, r_gqU, hn0]
    exact this
  have hn0 : (0 : Int) < (P.length : Int) := by omega
  have hne : P ≠ [] := List.length_pos_iff.1 hpos
  obtain ⟨m, hm⟩ : ∃ m, P[P.length - 1]? = some m := ⟨_, List.getElem?_eq_getElem (by omega)⟩
  have hlast : P.getLast? = some m := by rw [List.getLast?_eq_getElem?]; exact hm
  have hms : mstep P l = if m.1 = l.1 ∧ l.2.1 ≤ m.2.2 then P.dropLast ++ [(m.1, m.2.1, max m.2.2 l.2.2)] else P ++ [l] := by unfold mstep; rw [hlast]
  obtain ⟨g, cap, ev, hbg, hc⟩ := own_at t3C_len hO3 hm
  have m0 : w3.cell? ⟨g, (P.length - 1) * 3, none⟩ = some (.int .i64 m.1) := hc 0 _ rfl
  have m2 := hc 2 _ rfl
  have hidx : ((P.length : Int) - 1).toNat = P.length - 1 := by omega
  have ia : ∀ K : Value → Prop, iaS 3 t6 (.int .i64 ((P.length : Int) - 1)) K = K (.pointer (some ⟨g, (P.length - 1) * 3, none⟩)) := fun K => by
    rw [ev, r_iaS _ _ _ _ _ _ _ (by omega) (by omega), hidx, Nat.zero_add]
  by_cases g1 : m.1 = l.1
  case neg =>
    have := fresh w3 (Kp.refl _) (by rw [hms, if_neg fun h => g1 h.1])
    simp (disch := omega) only [r_ln, r_pick, r_pickT, r_pickF, r_condT, r_condF, r_gdTT, r_gdFF, r_gdTF, r_gdFT, r_gqTT, r_gqFF, r_gqTF, r_gqFT, r_not, r_lss, r_leq, r_gtr, r_geq, r_eql, r_neq, r_add, r_sub, r_min2, r_max2, r_min3, r_max3, r_fa, r_iaS, r_iaA, r_ex2a, r_ex2b, r_ex3a, r_ex3b, r_ex3c, r_nc, r_keepE, Nat.zero_add, Nat.add_zero, Nat.mul_one, Int.toNat_natCast, toNat_sub1, toNat_add1, decide_true, decide_false, Bool.not_true, Bool.not_false, if_true, if_false, Bool.false_eq_true, reduceCtorEq, r_gqU, decide_eq_true hn0, ia, r_ld m0, r_ld l0, g1]
    exact this
  by_cases g2 : l.2.1 ≤ m.2.2
  case neg =>
    have := fresh w3 (Kp.refl _) (by rw [hms, if_neg fun h => g2 h.2])
    simp (disch := omega) only [r_ln, r_pick, r_pickT, r_pickF, r_condT, r_condF, r_gdTT, r_gdFF, r_gdTF, r_gdFT, r_gqTT, r_gqFF, r_gqTF, r_gqFT, r_not, r_lss, r_leq, r_gtr, r_geq, r_eql, r_neq, r_add, r_sub, r_min2, r_max2, r_min3, r_max3, r_fa, r_iaS, r_iaA, r_ex2a, r_ex2b, r_ex3a, r_ex3b, r_ex3c, r_nc, r_keepE, Nat.zero_add, Nat.add_zero, Nat.mul_one, Int.toNat_natCast, toNat_sub1, toNat_add1, decide_true, decide_false, Bool.not_true, Bool.not_false, if_true, if_false, Bool.false_eq_true, reduceCtorEq, r_gqU, decide_eq_true hn0, ia, r_ld m0, r_ld l0, decide_eq_true g1, r_ld m2, r_ld l1, g2]
    exact this
  rw [if_pos ⟨g1, g2⟩] at hms
  simp (disch := omega) only [r_ln, r_pick, r_pickT, r_pickF, r_condT, r_condF, r_gdTT, r_gdFF, r_gdTF, r_gdFT, r_gqTT, r_gqFF, r_gqTF, r_gqFT, r_not, r_lss, r_leq, r_gtr, r_geq, r_eql, r_neq, r_add, r_sub, r_min2, r_max2, r_min3, r_max3, r_fa, r_iaS, r_iaA, r_ex2a, r_ex2b, r_ex3a, r_ex3b, r_ex3c, r_nc, r_keepE, Nat.zero_add, Nat.add_zero, Nat.mul_one, Int.toNat_natCast, toNat_sub1, toNat_add1, decide_true, decide_false, Bool.not_true, Bool.not_false, if_true, if_false, Bool.false_eq_true, reduceCtorEq, r_gqU, decide_eq_true hn0, ia, r_ld m0, r_ld l0, decide_eq_true g1, r_ld m2, r_ld l1, decide_eq_true g2]
  refine r_drew fun w4 k4 _ => ?_
  have hO4 := hO3.kp k4
  have m24 := cell_later k4 m2
  have l24 : w4.cell? ⟨b8, 2, none⟩ = some (.int .i64 l.2.2) := cell_later k4 (by simpa using l2)
  obtain ⟨g', cap', ev', _, ⟨x, hx⟩, hfr, hset⟩ := RecAt.set (j := 2) (p' := (m.1, m.2.1, max m.2.2 l.2.2)) (u := .int .i64 (max m.2.2 l.2.2)) t3C_len hO4 hm (by omega) rfl
  rw [ev] at ev'
  cases ev'
  rw [r_ld m24, r_ld l24, r_max2, st3 hx hfr]
  have hch : Chg (fun k => k = g) w4 (w4.setCell ⟨g, (P.length - 1) * 3 + 2, none⟩ (.int .i64 (max m.2.2 l.2.2))) := Chg.setCell _ _ rfl
  refine hkk _ _ ⟨?_, Kp.of_chg (Kp.trans k03 k4) hch fun q e => by omega⟩
  rw [hms]
  have : P.set (P.length - 1) (m.1, m.2.1, max m.2.2 l.2.2) = P.dropLast ++ [(m.1, m.2.1, max m.2.2 l.2.2)] := by
    conv => lhs; rw [← List.dropLast_concat_getLast hne]
    rw [List.set_append]
    simp
  rw [← this]; exact hset

set_option maxRecDepth 100000 in
set_option maxHeartbeats 2000000 in
theorem levels_calls {v : Value} {L : List T3} (w : World) (hr : RdS w v L) (hl0 : 0 < L.length) (hl : L.length ≤ 40) (hs : ∀ s ∈ L, -1000 ≤ s.1 ∧ s.1 ≤ 1000 ∧ -1000 ≤ s.2.1 ∧ s.2.1 ≤ 1000 ∧ -1000 ≤ s.2.2 ∧ s.2.2 ≤ 1000) :
    Calls Tryd.prog 46 #[v] w fun e w' => Kp w w' ∧ ∃ v' S, e = .returned v' ∧ S.Perm (sidesL L) ∧ LvSorted S ∧ LvAt w.heap.size w' v' (mergeL S) := by
  obtain ⟨a, cap, ev, _⟩ := hr.len
  have lnv : ∀ K : Value → Prop, ln1 v K = K (.int .i64 L.length) := fun K => by rw [ev]; rfl
  refine lift46 ?_
  unfold S46
  rw [lnv]
  unfold S46L0
  refine ⟨fun t3 t12 wr => ∃ i : Nat, i ≤ L.length ∧ t12 = .int .i64 i ∧ LvAt w.heap.size wr t3 (sidesL (L.take i)) ∧ Kp w wr, fun _ t12 _ => L.length - (intOf t12).toNat, ⟨0, by omega, rfl, RecAt.nil, Kp.refl _⟩, ?_⟩
  rintro _ t3 _ wr ⟨i, hi, rfl, hO, kr⟩
  have hsl := sides_len (L.take i)
  rw [List.length_take] at hsl
  have hsz := kr.size
  by_cases hlt : i < L.length
  case neg =>
    have hlt' : ¬ (i : Int) < (L.length : Int) := by omega
    rw [List.take_of_length_le (by omega)] at hO hsl
    simp only [r_lss, hlt', decide_false, r_condF]
    obtain ⟨oa, oc, eo, _⟩ := hO.len
    have ln3 : ∀ (n : Nat), n = (sidesL L).length → ∀ K : Value → Prop, ln1 t3 K = K (.int .i64 n) := fun n e K => by rw [eo, e]; rfl
    refine r_use fok65 (sortf_calls hO (by omega) (by omega)) rfl ?_
    rintro _ w2 ⟨rfl, S, hperm, hsort, hS, c2⟩
    refine ⟨_, rfl, ?_⟩
    have k2 : Kp w w2 := Kp.of_chg kr c2 fun k hk => (hO.lt hk).1
    rw [ln3 S.length hperm.length_eq]
    have hSl := hperm.length_eq
    exact r46_1 hS (by omega) fun v' w' o' k' => ⟨Kp.trans k2 k', v', S, rfl, hperm, hsort, o'.down k2.size⟩
  have hlt' : (i : Int) < (L.length : Int) := by omega
  simp only [r_lss, decide_eq_true hlt', r_condT]
  rw [tri_at (hr.kp kr) hlt]
  have hmem := hs _ (getD_mem (d := (0, 0, 0)) hlt)
  have hsn : sidesL (L.take (i + 1)) = sidesL (L.take i) ++ [((L.getD i (0, 0, 0)).2.1, (L.getD i (0, 0, 0)).1, (L.getD i (0, 0, 0)).1 + (L.getD i (0, 0, 0)).2.2), ((L.getD i (0, 0, 0)).2.1 + (L.getD i (0, 0, 0)).2.2, (L.getD i (0, 0, 0)).1, (L.getD i (0, 0, 0)).1 + (L.getD i (0, 0, 0)).2.2)] := by
    rw [take_succ' _ _ hlt, sides_snoc, ← getD_lt _ _ (0, 0, 0) hlt]
  generalize L.getD i (0, 0, 0) = s at *
  refine r_box fun b5 w1 e5 s5 h5 k1 => ?_
  have h5' : w1.heap[b5]? = some (.cells #[.int .i64 0, .int .i64 0, .int .i64 0] 44 (0, 0)) := h5
  refine st44 h5' fun w2 c2 s2 h52 => ?_
  have k2 : Kp wr w2 := Kp.of_chg k1 c2 fun q e => by omega
  obtain ⟨c0, c1, cc⟩ := tri_cells (p := s) h52
  have hsz2 := k2.size
  simp (disch := omega) only [r_ln, r_pick, r_pickT, r_pickF, r_condT, r_condF, r_gdTT, r_gdFF, r_gdTF, r_gdFT, r_gqTT, r_gqFF, r_gqTF, r_gqFT, r_not, r_lss, r_leq, r_gtr, r_geq, r_eql, r_neq, r_add, r_sub, r_min2, r_max2, r_min3, r_max3, r_fa, r_iaS, r_iaA, r_ex2a, r_ex2b, r_ex3a, r_ex3b, r_ex3c, r_nc, r_keepE, Nat.zero_add, Nat.add_zero, Nat.mul_one, Int.toNat_natCast, toNat_sub1, toNat_add1, decide_true, decide_false, Bool.not_true, Bool.not_false, if_true, if_false, Bool.false_eq_true, reduceCtorEq, r_ld c0, r_ld c1, r_ld cc, bd71]
  refine r_push2L (hO.kp k2) (by omega) (by omega) fun v' w' o1 c3 => ?_
  exact ⟨⟨i + 1, by omega, by go_num, by rw [hsn]; exact o1, Kp.of_chg (Kp.trans kr k2) c3 fun k hk => (hO.lt hk).1⟩, by simp only [intOf]; omega⟩

end Go.Proofs.YtkdcldbedbagjaaDoor

/- Equality of the seat's structs. -/
namespace Go.Proofs.YtkdcldbedbagjaaDoor
open Go.Lf Go.RowKit Go.Dt

theorem eqs3_bool (p q : T3) : (p.1 == q.1 && (p.2.1 == q.2.1 && p.2.2 == q.2.2)) = decide (p = q) := by
  obtain ⟨a, b, c⟩ := p
  obtain ⟨a', b', c'⟩ := q
  by_cases h1 : a = a' <;> by_cases h2 : b = b' <;> by_cases h3 : c = c' <;> simp [h1, h2, h3]
theorem eqs2_bool (p q : Int × Int) : (p.1 == q.1 && p.2 == q.2) = decide (p = q) := by
  obtain ⟨a, b⟩ := p
  obtain ⟨a', b'⟩ := q
  by_cases h1 : a = a' <;> by_cases h2 : b = b' <;> simp [h1, h2]

abbrev paV2 (p : Int × Int) : Value := .agg #[.int .i64 p.1, .int .i64 p.2]

set_option maxRecDepth 100000 in
theorem eqs71 (a b c a' b' c' : Int) (w : World) : (Op.equalIn 10000 71 (t3V (a, b, c)) (t3V (a', b', c'))).run Tryd.prog w = .ok (a == a' && (b == b' && c == c')) w := by
  have u3 := Tryd.underlying3
  have a3 := Tryd.isAgg3
  have z3 := Tryd.sizeOf3
  have hS : Tryd.prog.underlying 71 = some (.struct (Tryd.prog.fieldsOf 71)) := by kernel_rfl
  have hp : Tryd.prog.stoodInHeld 71 = false := by kernel_rfl
  rw [show (10000 : Nat) = 9999 + 1 from rfl, run_equalIn_agg w 9999 71 _ _ hS hp]
  simp only [Program.fieldsOf, Tryd.underlying71]
  go_simp
  by_cases h1 : a = a' <;> by_cases h2 : b = b' <;> by_cases h3 : c = c' <;> simp [h1, h2, h3]
set_option maxRecDepth 100000 in
theorem r_eq71 {w : World} {lit : Bool} (p q : T3) (K : Value → Prop) : binQ Tryd.prog w .eql 71 lit (t3V p) (t3V q) K = K (.bool (decide (p = q))) := by
  have hg : Tryd.prog.eqGuardType Tryd.prog.depth 71 = false := by kernel_rfl
  have hrun : ∀ w, (semBin .eql 71 lit (t3V p) (t3V q)).run Tryd.prog w = .ok (.value (.bool (decide (p = q)))) w := fun w => by
    unfold semBin
    have := eqs71 p.1 p.2.1 p.2.2 q.1 q.2.1 q.2.2 w
    rw [eqs3_bool] at this
    simp [run_eqGuard_agg w _ _ _ _ _ _ hg, run_eql_struct, this]
  refine propext ⟨?_, fun h => ⟨_, fun w' _ => hrun w', h⟩⟩
  rintro ⟨v, hv, hk⟩
  have h1 := hv w (Below.refl _ _)
  rw [hrun] at h1
  injection h1 with h1 _
  injection h1 with h1
  rw [h1]; exact hk
set_option maxRecDepth 100000 in
theorem r_ne71 {w : World} {lit : Bool} (p q : T3) (K : Value → Prop) : binQ Tryd.prog w .neq 71 lit (t3V p) (t3V q) K = K (.bool (!decide (p = q))) := by
  have hg : Tryd.prog.eqGuardType Tryd.prog.depth 71 = false := by kernel_rfl
  have hrun : ∀ w, (semBin .neq 71 lit (t3V p) (t3V q)).run Tryd.prog w = .ok (.value (.bool (!decide (p = q)))) w := fun w => by
    unfold semBin
    have := eqs71 p.1 p.2.1 p.2.2 q.1 q.2.1 q.2.2 w
    rw [eqs3_bool] at this
    simp [run_eqGuard_agg w _ _ _ _ _ _ hg, run_neq_struct, this]
  refine propext ⟨?_, fun h => ⟨_, fun w' _ => hrun w', h⟩⟩
  rintro ⟨v, hv, hk⟩
  have h1 := hv w (Below.refl _ _)
  rw [hrun] at h1
  injection h1 with h1 _
  injection h1 with h1
  rw [h1]; exact hk

set_option maxRecDepth 100000 in
theorem eqs44 (a b c a' b' c' : Int) (w : World) : (Op.equalIn 10000 44 (t3V (a, b, c)) (t3V (a', b', c'))).run Tryd.prog w = .ok (a == a' && (b == b' && c == c')) w := by
  have u3 := Tryd.underlying3
  have a3 := Tryd.isAgg3
  have z3 := Tryd.sizeOf3
  have hS : Tryd.prog.underlying 44 = some (.struct (Tryd.prog.fieldsOf 44)) := by kernel_rfl
  have hp : Tryd.prog.stoodInHeld 44 = false := by kernel_rfl
  rw [show (10000 : Nat) = 9999 + 1 from rfl, run_equalIn_agg w 9999 44 _ _ hS hp]
  simp only [Program.fieldsOf, Tryd.underlying44]
  go_simp
  by_cases h1 : a = a' <;> by_cases h2 : b = b' <;> by_cases h3 : c = c' <;> simp [h1, h2, h3]
set_option maxRecDepth 100000 in
theorem r_eq44 {w : World} {lit : Bool} (p q : T3) (K : Value → Prop) : binQ Tryd.prog w .eql 44 lit (t3V p) (t3V q) K = K (.bool (decide (p = q))) := by
  have hg : Tryd.prog.eqGuardType Tryd.prog.depth 44 = false := by kernel_rfl
  have hrun : ∀ w, (semBin .eql 44 lit (t3V p) (t3V q)).run Tryd.prog w = .ok (.value (.bool (decide (p = q)))) w := fun w => by
    unfold semBin
    have := eqs44 p.1 p.2.1 p.2.2 q.1 q.2.1 q.2.2 w
    rw [eqs3_bool] at this
    simp [run_eqGuard_agg w _ _ _ _ _ _ hg, run_eql_struct, this]
  refine propext ⟨?_, fun h => ⟨_, fun w' _ => hrun w', h⟩⟩
  rintro ⟨v, hv, hk⟩
  have h1 := hv w (Below.refl _ _)
  rw [hrun] at h1
  injection h1 with h1 _
  injection h1 with h1
  rw [h1]; exact hk
set_option maxRecDepth 100000 in
theorem r_ne44 {w : World} {lit : Bool} (p q : T3) (K : Value → Prop) : binQ Tryd.prog w .neq 44 lit (t3V p) (t3V q) K = K (.bool (!decide (p = q))) := by
  have hg : Tryd.prog.eqGuardType Tryd.prog.depth 44 = false := by kernel_rfl
  have hrun : ∀ w, (semBin .neq 44 lit (t3V p) (t3V q)).run Tryd.prog w = .ok (.value (.bool (!decide (p = q)))) w := fun w => by
    unfold semBin
    have := eqs44 p.1 p.2.1 p.2.2 q.1 q.2.1 q.2.2 w
    rw [eqs3_bool] at this
    simp [run_eqGuard_agg w _ _ _ _ _ _ hg, run_neq_struct, this]
  refine propext ⟨?_, fun h => ⟨_, fun w' _ => hrun w', h⟩⟩
  rintro ⟨v, hv, hk⟩
  have h1 := hv w (Below.refl _ _)
  rw [hrun] at h1
  injection h1 with h1 _
  injection h1 with h1
  rw [h1]; exact hk

set_option maxRecDepth 100000 in
theorem eqs40 (a b a' b' : Int) (w : World) : (Op.equalIn 10000 40 (paV2 (a, b)) (paV2 (a', b'))).run Tryd.prog w = .ok (a == a' && b == b') w := by
  have u3 := Tryd.underlying3
  have a3 := Tryd.isAgg3
  have z3 := Tryd.sizeOf3
  have hS : Tryd.prog.underlying 40 = some (.struct (Tryd.prog.fieldsOf 40)) := by kernel_rfl
  have hp : Tryd.prog.stoodInHeld 40 = false := by kernel_rfl
  rw [show (10000 : Nat) = 9999 + 1 from rfl, run_equalIn_agg w 9999 40 _ _ hS hp]
  simp only [Program.fieldsOf, Tryd.underlying40]
  go_simp
  by_cases h1 : a = a' <;> by_cases h2 : b = b' <;> simp [h1, h2]
set_option maxRecDepth 100000 in
theorem r_eq40 {w : World} {lit : Bool} (p q : Int × Int) (K : Value → Prop) : binQ Tryd.prog w .eql 40 lit (paV2 p) (paV2 q) K = K (.bool (decide (p = q))) := by
  have hg : Tryd.prog.eqGuardType Tryd.prog.depth 40 = false := by kernel_rfl
  have hrun : ∀ w, (semBin .eql 40 lit (paV2 p) (paV2 q)).run Tryd.prog w = .ok (.value (.bool (decide (p = q)))) w := fun w => by
    unfold semBin
    have := eqs40 p.1 p.2 q.1 q.2 w
    rw [eqs2_bool] at this
    simp [run_eqGuard_agg w _ _ _ _ _ _ hg, run_eql_struct, this]
  refine propext ⟨?_, fun h => ⟨_, fun w' _ => hrun w', h⟩⟩
  rintro ⟨v, hv, hk⟩
  have h1 := hv w (Below.refl _ _)
  rw [hrun] at h1
  injection h1 with h1 _
  injection h1 with h1
  rw [h1]; exact hk
set_option maxRecDepth 100000 in
theorem r_ne40 {w : World} {lit : Bool} (p q : Int × Int) (K : Value → Prop) : binQ Tryd.prog w .neq 40 lit (paV2 p) (paV2 q) K = K (.bool (!decide (p = q))) := by
  have hg : Tryd.prog.eqGuardType Tryd.prog.depth 40 = false := by kernel_rfl
  have hrun : ∀ w, (semBin .neq 40 lit (paV2 p) (paV2 q)).run Tryd.prog w = .ok (.value (.bool (!decide (p = q)))) w := fun w => by
    unfold semBin
    have := eqs40 p.1 p.2 q.1 q.2 w
    rw [eqs2_bool] at this
    simp [run_eqGuard_agg w _ _ _ _ _ _ hg, run_neq_struct, this]
  refine propext ⟨?_, fun h => ⟨_, fun w' _ => hrun w', h⟩⟩
  rintro ⟨v, hv, hk⟩
  have h1 := hv w (Below.refl _ _)
  rw [hrun] at h1
  injection h1 with h1 _
  injection h1 with h1
  rw [h1]; exact hk

set_option maxRecDepth 100000 in
theorem eqs58 (a b a' b' : Int) (w : World) : (Op.equalIn 10000 58 (paV2 (a, b)) (paV2 (a', b'))).run Tryd.prog w = .ok (a == a' && b == b') w := by
  have u3 := Tryd.underlying3
  have a3 := Tryd.isAgg3
  have z3 := Tryd.sizeOf3
  have hS : Tryd.prog.underlying 58 = some (.struct (Tryd.prog.fieldsOf 58)) := by kernel_rfl
  have hp : Tryd.prog.stoodInHeld 58 = false := by kernel_rfl
  rw [show (10000 : Nat) = 9999 + 1 from rfl, run_equalIn_agg w 9999 58 _ _ hS hp]
  simp only [Program.fieldsOf, Tryd.underlying58]
  go_simp
  by_cases h1 : a = a' <;> by_cases h2 : b = b' <;> simp [h1, h2]
set_option maxRecDepth 100000 in
theorem r_eq58 {w : World} {lit : Bool} (p q : Int × Int) (K : Value → Prop) : binQ Tryd.prog w .eql 58 lit (paV2 p) (paV2 q) K = K (.bool (decide (p = q))) := by
  have hg : Tryd.prog.eqGuardType Tryd.prog.depth 58 = false := by kernel_rfl
  have hrun : ∀ w, (semBin .eql 58 lit (paV2 p) (paV2 q)).run Tryd.prog w = .ok (.value (.bool (decide (p = q)))) w := fun w => by
    unfold semBin
    have := eqs58 p.1 p.2 q.1 q.2 w
    rw [eqs2_bool] at this
    simp [run_eqGuard_agg w _ _ _ _ _ _ hg, run_eql_struct, this]
  refine propext ⟨?_, fun h => ⟨_, fun w' _ => hrun w', h⟩⟩
  rintro ⟨v, hv, hk⟩
  have h1 := hv w (Below.refl _ _)
  rw [hrun] at h1
  injection h1 with h1 _
  injection h1 with h1
  rw [h1]; exact hk
set_option maxRecDepth 100000 in
theorem r_ne58 {w : World} {lit : Bool} (p q : Int × Int) (K : Value → Prop) : binQ Tryd.prog w .neq 58 lit (paV2 p) (paV2 q) K = K (.bool (!decide (p = q))) := by
  have hg : Tryd.prog.eqGuardType Tryd.prog.depth 58 = false := by kernel_rfl
  have hrun : ∀ w, (semBin .neq 58 lit (paV2 p) (paV2 q)).run Tryd.prog w = .ok (.value (.bool (!decide (p = q)))) w := fun w => by
    unfold semBin
    have := eqs58 p.1 p.2 q.1 q.2 w
    rw [eqs2_bool] at this
    simp [run_eqGuard_agg w _ _ _ _ _ _ hg, run_neq_struct, this]
  refine propext ⟨?_, fun h => ⟨_, fun w' _ => hrun w', h⟩⟩
  rintro ⟨v, hv, hk⟩
  have h1 := hv w (Below.refl _ _)
  rw [hrun] at h1
  injection h1 with h1 _
  injection h1 with h1
  rw [h1]; exact hk

end Go.Proofs.YtkdcldbedbagjaaDoor
