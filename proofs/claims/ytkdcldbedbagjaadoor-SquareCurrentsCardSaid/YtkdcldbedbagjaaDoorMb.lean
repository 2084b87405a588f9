/- Contracts: the program's sort of levels, by the shelf's contract of slices.SortFunc at structs; levels. -/
import Derived.Test.YtkdcldbedbagjaaDoorMa
import Derived.Shelf.SlSortCmp.WholeK
set_option linter.all false
namespace Go.Proofs.YtkdcldbedbagjaaDoor
open Go.Lf Go.RowKit Go.Dt Go.Shelf Go.Proofs

def sortQ_ren : Go.Shelf.Ren := ⟨fun | 6 => 65 | 15 => 81 | 14 => 80 | 28 => 97 | 29 => 98 | 20 => 89 | 21 => 90 | 22 => 91 | 23 => 92 | 24 => 93 | 25 => 94 | 26 => 95 | 27 => 96 | 46 => 100 | 47 => 101 | 48 => 102 | 49 => 103 | 50 => 104 | 57 => 105 | n => n, fun | 22 => 68 | 24 => 71 | 25 => 95 | 3 => 3 | 39 => 109 | 0 => 0 | 53 => 124 | 55 => 126 | 4 => 4 | 46 => 117 | 45 => 116 | 50 => 121 | 5 => 5 | 9 => 9 | 66 => 127 | 70 => 131 | 76 => 133 | 77 => 134 | n => n, fun | n => n⟩
set_option maxRecDepth 100000 in
theorem sortQ : SlLaysF0.n6 Tryd.prog sortQ_ren :=
  { mixed := by kernel_rfl,
    f6 := ⟨Tryd.f65.name, by decide, Tryd.func65.trans (congrArg some (by kernel_rfl))⟩,
    f14 := ⟨Tryd.f80.name, by decide, Tryd.func80.trans (congrArg some (by kernel_rfl))⟩,
    f15 := Tryd.func81.trans (congrArg some (by kernel_rfl)),
    f20 := ⟨Tryd.f89.name, by decide, Tryd.func89.trans (congrArg some (by kernel_rfl))⟩,
    f21 := ⟨Tryd.f90.name, by decide, Tryd.func90.trans (congrArg some (by kernel_rfl))⟩,
    f22 := ⟨Tryd.f91.name, by decide, Tryd.func91.trans (congrArg some (by kernel_rfl))⟩,
    f23 := ⟨Tryd.f92.name, by decide, Tryd.func92.trans (congrArg some (by kernel_rfl))⟩,
    f24 := ⟨Tryd.f93.name, by decide, Tryd.func93.trans (congrArg some (by kernel_rfl))⟩,
    f25 := ⟨Tryd.f94.name, by decide, Tryd.func94.trans (congrArg some (by kernel_rfl))⟩,
    f26 := ⟨Tryd.f95.name, by decide, Tryd.func95.trans (congrArg some (by kernel_rfl))⟩,
    f27 := ⟨Tryd.f96.name, by decide, Tryd.func96.trans (congrArg some (by kernel_rfl))⟩,
    f28 := Tryd.func97.trans (congrArg some (by kernel_rfl)),
    f29 := Tryd.func98.trans (congrArg some (by kernel_rfl)),
    f46 := ⟨Tryd.f100.name, by decide, Tryd.func100.trans (congrArg some (by kernel_rfl))⟩,
    f47 := Tryd.func101.trans (congrArg some (by kernel_rfl)),
    f48 := Tryd.func102.trans (congrArg some (by kernel_rfl)),
    f49 := ⟨Tryd.f103.name, by decide, Tryd.func103.trans (congrArg some (by kernel_rfl))⟩,
    f50 := ⟨Tryd.f104.name, by decide, Tryd.func104.trans (congrArg some (by kernel_rfl))⟩,
    f57 := ⟨Tryd.f105.name, by decide, Tryd.func105.trans (congrArg some (by kernel_rfl))⟩,
    t0 := Tryd.underlying0,
    a0 := Tryd.isAgg0,
    z0 := Tryd.sizeOf0,
    v0 := Tryd.zeroValue0,
    t3 := Tryd.underlying3,
    a3 := Tryd.isAgg3,
    z3 := Tryd.sizeOf3,
    v3 := Tryd.zeroValue3,
    t4 := Tryd.underlying4,
    a4 := Tryd.isAgg4,
    z4 := Tryd.sizeOf4,
    v4 := Tryd.zeroValue4,
    t5 := Tryd.underlying5,
    a5 := Tryd.isAgg5,
    z5 := Tryd.sizeOf5,
    v5 := Tryd.zeroValue5,
    t9 := Tryd.underlying9,
    a9 := Tryd.isAgg9,
    z9 := Tryd.sizeOf9,
    v9 := Tryd.zeroValue9,
    t22 := Tryd.underlying68,
    a22 := Tryd.isAgg68,
    z22 := Tryd.sizeOf68,
    v22 := Tryd.zeroValue68,
    t25 := Tryd.underlying95,
    a25 := Tryd.isAgg95,
    z25 := Tryd.sizeOf95,
    v25 := Tryd.zeroValue95,
    t39 := Tryd.underlying109,
    a39 := Tryd.isAgg109,
    z39 := Tryd.sizeOf109,
    v39 := Tryd.zeroValue109,
    t45 := Tryd.underlying116,
    a45 := Tryd.isAgg116,
    z45 := Tryd.sizeOf116,
    v45 := Tryd.zeroValue116,
    t46 := Tryd.underlying117,
    a46 := Tryd.isAgg117,
    z46 := Tryd.sizeOf117,
    v46 := Tryd.zeroValue117,
    t50 := Tryd.underlying121,
    a50 := Tryd.isAgg121,
    z50 := Tryd.sizeOf121,
    v50 := Tryd.zeroValue121,
    t53 := Tryd.underlying124,
    a53 := Tryd.isAgg124,
    z53 := Tryd.sizeOf124,
    v53 := Tryd.zeroValue124,
    t55 := Tryd.underlying126,
    a55 := Tryd.isAgg126,
    z55 := Tryd.sizeOf126,
    v55 := Tryd.zeroValue126,
    t66 := Tryd.underlying127,
    a66 := Tryd.isAgg127,
    z66 := Tryd.sizeOf127,
    v66 := Tryd.zeroValue127,
    t70 := Tryd.underlying131,
    a70 := Tryd.isAgg131,
    z70 := Tryd.sizeOf131,
    v70 := Tryd.zeroValue131,
    t76 := Tryd.underlying133,
    a76 := Tryd.isAgg133,
    z76 := Tryd.sizeOf133,
    v76 := Tryd.zeroValue133,
    t77 := Tryd.underlying134,
    a77 := Tryd.isAgg134,
    z77 := Tryd.sizeOf134,
    v77 := Tryd.zeroValue134 }


theorem slt68 : SlT 68 71 3 24 := SlT.mk' (z := t3V (0, 0, 0)) (by kernel_rfl) (by kernel_rfl) rfl (by decide)
theorem slt22 : SlT 22 44 3 24 := SlT.mk' (z := t3V (0, 0, 0)) (by kernel_rfl) (by kernel_rfl) rfl (by decide)
abbrev LvAt (base : Nat) (w : World) (v : Value) (P : List T3) : Prop := RecAt 71 3 t3C base w v P
abbrev SqAt (base : Nat) (w : World) (v : Value) (P : List T3) : Prop := RecAt 44 3 t3C base w v P

theorem neq_self (x : Int) (w : World) : Calls Tryd.prog 82 #[.int .i64 x] w fun e w' => e = .returned (.bool false) ∧ w = w' := by
  refine lift82 ?_
  unfold S82
  simp only [r_ln, r_pick, r_pickT, r_pickF, r_condT, r_condF, r_gdTT, r_gdFF, r_gdTF, r_gdFT, r_gqTT, r_gqFF, r_gqTF, r_gqFT, r_not, r_lss, r_leq, r_gtr, r_geq, r_eql, r_neq, r_add, r_sub, r_min2, r_max2, r_min3, r_max3, r_fa, r_iaS, r_iaA, r_ex2a, r_ex2b, r_ex3a, r_ex3b, r_ex3c, r_nc, r_keepE, Nat.zero_add, Nat.add_zero, Nat.mul_one, Int.toNat_natCast, toNat_sub1, toNat_add1, decide_true, decide_false, Bool.not_true, Bool.not_false, if_true, if_false, Bool.false_eq_true, reduceCtorEq]
  exact ⟨trivial, trivial⟩
def cmpI (x y : Int) : Int := if x < y then -1 else if y < x then 1 else 0
theorem cmp_calls (x y : Int) (w : World) : Calls Tryd.prog 68 #[.int .i64 x, .int .i64 y] w fun e w' => e = .returned (.int .i64 (cmpI x y)) ∧ w = w' := by
  refine lift68 ?_
  unfold S68
  refine r_use fok82 (neq_self x w) rfl ?_
  rintro _ _ ⟨rfl, rfl⟩
  refine ⟨_, rfl, ?_⟩
  refine r_use fok82 (neq_self y w) rfl ?_
  rintro _ _ ⟨rfl, rfl⟩
  refine ⟨_, rfl, ?_⟩
  by_cases h1 : x < y
  · simp only [r_ln, r_pick, r_pickT, r_pickF, r_condT, r_condF, r_gdTT, r_gdFF, r_gdTF, r_gdFT, r_gqTT, r_gqFF, r_gqTF, r_gqFT, r_not, r_lss, r_leq, r_gtr, r_geq, r_eql, r_neq, r_add, r_sub, r_min2, r_max2, r_min3, r_max3, r_fa, r_iaS, r_iaA, r_ex2a, r_ex2b, r_ex3a, r_ex3b, r_ex3c, r_nc, r_keepE, Nat.zero_add, Nat.add_zero, Nat.mul_one, Int.toNat_natCast, toNat_sub1, toNat_add1, decide_true, decide_false, Bool.not_true, Bool.not_false, if_true, if_false, Bool.false_eq_true, reduceCtorEq, h1]
    exact ⟨by simp [cmpI, h1], trivial⟩
  by_cases h2 : y < x
  · simp only [r_ln, r_pick, r_pickT, r_pickF, r_condT, r_condF, r_gdTT, r_gdFF, r_gdTF, r_gdFT, r_gqTT, r_gqFF, r_gqTF, r_gqFT, r_not, r_lss, r_leq, r_gtr, r_geq, r_eql, r_neq, r_add, r_sub, r_min2, r_max2, r_min3, r_max3, r_fa, r_iaS, r_iaA, r_ex2a, r_ex2b, r_ex3a, r_ex3b, r_ex3c, r_nc, r_keepE, Nat.zero_add, Nat.add_zero, Nat.mul_one, Int.toNat_natCast, toNat_sub1, toNat_add1, decide_true, decide_false, Bool.not_true, Bool.not_false, if_true, if_false, Bool.false_eq_true, reduceCtorEq, h1, h2]
    exact ⟨by simp [cmpI, h1, h2], trivial⟩
  simp only [r_ln, r_pick, r_pickT, r_pickF, r_condT, r_condF, r_gdTT, r_gdFF, r_gdTF, r_gdFT, r_gqTT, r_gqFF, r_gqTF, r_gqFT, r_not, r_lss, r_leq, r_gtr, r_geq, r_eql, r_neq, r_add, r_sub, r_min2, r_max2, r_min3, r_max3, r_fa, r_iaS, r_iaA, r_ex2a, r_ex2b, r_ex3a, r_ex3b, r_ex3c, r_nc, r_keepE, Nat.zero_add, Nat.add_zero, Nat.mul_one, Int.toNat_natCast, toNat_sub1, toNat_add1, decide_true, decide_false, Bool.not_true, Bool.not_false, if_true, if_false, Bool.false_eq_true, reduceCtorEq, h1, h2]
  exact ⟨by simp [cmpI, h1, h2], trivial⟩

def orI : List Int → Int
  | [] => 0
  | x :: l => if x = 0 then orI l else x
set_option maxRecDepth 100000 in
theorem or_calls (v : Value) (l : List Int) (w : World) (h : RdInts w v l) : Calls Tryd.prog 67 #[v] w fun e w' => e = .returned (.int .i64 (orI l)) ∧ w = w' := by
  obtain ⟨a, cap, rfl, hlen⟩ := h.len
  refine lift67 ?_
  unfold S67 S67L0
  simp (disch := omega) only [r_ln, r_pick, r_pickT, r_pickF, r_condT, r_condF, r_gdTT, r_gdFF, r_gdTF, r_gdFT, r_gqTT, r_gqFF, r_gqTF, r_gqFT, r_not, r_lss, r_leq, r_gtr, r_geq, r_eql, r_neq, r_add, r_sub, r_min2, r_max2, r_min3, r_max3, r_fa, r_iaS, r_iaA, r_ex2a, r_ex2b, r_ex3a, r_ex3b, r_ex3c, r_nc, r_keepE, Nat.zero_add, Nat.add_zero, Nat.mul_one, Int.toNat_natCast, toNat_sub1, toNat_add1, decide_true, decide_false, Bool.not_true, Bool.not_false, if_true, if_false, Bool.false_eq_true, reduceCtorEq]
  refine ⟨fun t8 wr => ∃ j : Nat, j ≤ l.length ∧ t8 = .int .i64 j ∧ orI l = orI (l.drop j) ∧ w = wr, fun t8 _ => l.length - (intOf t8).toNat, ⟨0, by omega, rfl, rfl, rfl⟩, ?_⟩
  rintro _ _ _ ⟨j, hj, rfl, ho, rfl⟩
  by_cases hlt : j < l.length
  case neg =>
    have hlt' : ¬ (j : Int) < (l.length : Int) := by omega
    simp (disch := omega) only [r_ln, r_pick, r_pickT, r_pickF, r_condT, r_condF, r_gdTT, r_gdFF, r_gdTF, r_gdFT, r_gqTT, r_gqFF, r_gqTF, r_gqFT, r_not, r_lss, r_leq, r_gtr, r_geq, r_eql, r_neq, r_add, r_sub, r_min2, r_max2, r_min3, r_max3, r_fa, r_iaS, r_iaA, r_ex2a, r_ex2b, r_ex3a, r_ex3b, r_ex3c, r_nc, r_keepE, Nat.zero_add, Nat.add_zero, Nat.mul_one, Int.toNat_natCast, toNat_sub1, toNat_add1, decide_true, decide_false, Bool.not_true, Bool.not_false, if_true, if_false, Bool.false_eq_true, reduceCtorEq, hlt']
    rw [ho, List.drop_eq_nil_of_le (by omega)]
    exact ⟨rfl, by first | rfl | trivial⟩
  have hlt' : (j : Int) < (l.length : Int) := by omega
  obtain ⟨b, off, cap', e1, hc⟩ := h.at hlt
  cases e1
  have hd : orI (l.drop j) = if l.getD j 0 = 0 then orI (l.drop (j + 1)) else l.getD j 0 := by
    rw [List.drop_eq_getElem_cons hlt, orI, getD_lt _ _ _ hlt]
  by_cases hx : l.getD j 0 = 0
  · rw [if_pos hx] at hd
    simp (disch := omega) only [r_ln, r_pick, r_pickT, r_pickF, r_condT, r_condF, r_gdTT, r_gdFF, r_gdTF, r_gdFT, r_gqTT, r_gqFF, r_gqTF, r_gqFT, r_not, r_lss, r_leq, r_gtr, r_geq, r_eql, r_neq, r_add, r_sub, r_min2, r_max2, r_min3, r_max3, r_fa, r_iaS, r_iaA, r_ex2a, r_ex2b, r_ex3a, r_ex3b, r_ex3c, r_nc, r_keepE, Nat.zero_add, Nat.add_zero, Nat.mul_one, Int.toNat_natCast, toNat_sub1, toNat_add1, decide_true, decide_false, Bool.not_true, Bool.not_false, if_true, if_false, Bool.false_eq_true, reduceCtorEq, hlt', r_ld hc, decide_eq_true hx]
    exact ⟨⟨j + 1, by omega, by go_num, by rw [ho, hd], by first | rfl | trivial⟩, by simp only [intOf]; omega⟩
  · rw [if_neg hx] at hd
    simp (disch := omega) only [r_ln, r_pick, r_pickT, r_pickF, r_condT, r_condF, r_gdTT, r_gdFF, r_gdTF, r_gdFT, r_gqTT, r_gqFF, r_gqTF, r_gqFT, r_not, r_lss, r_leq, r_gtr, r_geq, r_eql, r_neq, r_add, r_sub, r_min2, r_max2, r_min3, r_max3, r_fa, r_iaS, r_iaA, r_ex2a, r_ex2b, r_ex3a, r_ex3b, r_ex3c, r_nc, r_keepE, Nat.zero_add, Nat.add_zero, Nat.mul_one, Int.toNat_natCast, toNat_sub1, toNat_add1, decide_true, decide_false, Bool.not_true, Bool.not_false, if_true, if_false, Bool.false_eq_true, reduceCtorEq, hlt', r_ld hc, hx]
    rw [ho, hd]
    exact ⟨rfl, by first | rfl | trivial⟩

/-- How levels are put in order: by y and then by their beginnings. -/
def cmpZ (p q : T3) : Int := orI [cmpI p.1 q.1, cmpI p.2.1 q.2.1]
def lvLt (p q : T3) : Bool := decide (p.1 < q.1 ∨ (p.1 = q.1 ∧ p.2.1 < q.2.1))
theorem ltOf_cmpZ : ltOf cmpZ = lvLt := by
  funext p q
  unfold ltOf lvLt cmpZ
  rw [decide_eq_decide]
  simp only [orI, cmpI]
  by_cases h1 : p.1 < q.1
  · simp [h1]
  · by_cases h2 : q.1 < p.1
    · simp [h1, h2]; omega
    · have e1 : p.1 = q.1 := by omega
      by_cases h3 : p.2.1 < q.2.1
      · simp [e1, h3]
      · by_cases h4 : q.2.1 < p.2.1
        · simp [e1, h3, h4]
        · have e2 : p.2.1 = q.2.1 := by omega
          simp [e1, e2]
theorem lvLt_iff {p q : T3} : lvLt p q = true ↔ p.1 < q.1 ∨ (p.1 = q.1 ∧ p.2.1 < q.2.1) := decide_eq_true_iff
theorem lvLt_not {p q : T3} : lvLt p q = false ↔ ¬ (p.1 < q.1 ∨ (p.1 = q.1 ∧ p.2.1 < q.2.1)) := decide_eq_false_iff_not
theorem swoL : Go.Sort.SWO (ltOf cmpZ) := by
  rw [ltOf_cmpZ]
  exact ⟨fun x => by rw [lvLt_not]; omega, fun x y z h1 h2 => by rw [lvLt_iff] at *; omega, fun x y z h1 h2 => by rw [lvLt_not] at *; omega⟩

set_option maxRecDepth 100000 in
theorem cmp66_calls (x y : T3) (W : World) : Calls Tryd.prog 66 #[t3V x, t3V y] W fun e w' => e = .returned (.int .i64 (cmpZ x y)) ∧ ∃ q os, w' = Go.Sort.grow (W.drewN q) os := by
  refine lift66 ?_
  unfold S66
  simp only [boxW, Drew]
  have g1 : ((W.alloc (.cells (t3V x).cells 71)).alloc (.cells (t3V y).cells 71)).drew.heap[W.heap.size]? = some (.cells (t3V x).cells 71 (0, 0)) := block_below (heap_alloc_new W _) ((below_alloc _).drew)
  have g2 : ((W.alloc (.cells (t3V x).cells 71)).alloc (.cells (t3V y).cells 71)).drew.heap[(W.alloc (.cells (t3V x).cells 71)).heap.size]? = some (.cells (t3V y).cells 71 (0, 0)) := heap_alloc_new (W.alloc (.cells (t3V x).cells 71)) _
  obtain ⟨c0, c1, c2⟩ := tri_cells (p := x) g1
  obtain ⟨d0, d1, d2⟩ := tri_cells (p := y) g2
  simp (disch := omega) only [r_ln, r_pick, r_pickT, r_pickF, r_condT, r_condF, r_gdTT, r_gdFF, r_gdTF, r_gdFT, r_gqTT, r_gqFF, r_gqTF, r_gqFT, r_not, r_lss, r_leq, r_gtr, r_geq, r_eql, r_neq, r_add, r_sub, r_min2, r_max2, r_min3, r_max3, r_fa, r_iaS, r_iaA, r_ex2a, r_ex2b, r_ex3a, r_ex3b, r_ex3c, r_nc, r_keepE, Nat.zero_add, Nat.add_zero, Nat.mul_one, Int.toNat_natCast, toNat_sub1, toNat_add1, decide_true, decide_false, Bool.not_true, Bool.not_false, if_true, if_false, Bool.false_eq_true, reduceCtorEq, r_ld c0, r_ld c1, r_ld c2, r_ld d0, r_ld d1, r_ld d2]
  refine r_use fok68 (cmp_calls _ _ _) rfl ?_
  rintro _ _ ⟨rfl, rfl⟩
  refine ⟨_, rfl, Below.refl _ _, ?_⟩
  refine r_use fok68 (cmp_calls _ _ _) rfl ?_
  rintro _ _ ⟨rfl, rfl⟩
  refine ⟨_, rfl, ?_⟩
  rw [bs34_2]
  refine r_use fok67 (or_calls _ [cmpI x.1 y.1, cmpI x.2.1 y.2.1] _ (rd_two (heap_alloc_new _ _))) rfl ?_
  rintro _ _ ⟨rfl, rfl⟩
  refine ⟨_, rfl, rfl, 1, #[Obj.cells (t3V x).cells 71, Obj.cells (t3V y).cells 71, Obj.cells #[.int .i64 (cmpI x.1 y.1), .int .i64 (cmpI x.2.1 y.2.1)] 3], ?_⟩
  simp only [World.alloc, World.drew, Go.Sort.grow, World.drewN]
  congr 1

theorem t3Cells_get (P : List T3) (t : Nat) (ht : t < P.length * 3) : (recCells t3C P)[t]? = (t3C (P.toArray[t / 3]!))[t % 3]? := by
  have hq : t / 3 < P.length := by omega
  have h := recCells_at t3C_len P (t / 3) (t % 3) P[t / 3] (List.getElem?_eq_getElem hq) (Nat.mod_lt _ (by decide))
  rw [show t / 3 * 3 + t % 3 = t by omega] at h
  rw [h]
  simp [hq]
theorem flat_get (P : List T3) (t : Nat) (ht : t < P.length * 3) : (recCells t3C P)[t]? = some (Go.Sort.flatK t3C 3 P.toArray)[t]! := by
  rw [Go.Sort.get_flatK _ _ _ _ (by simpa using ht), t3Cells_get P t ht]
  have : t % 3 < 3 := Nat.mod_lt _ (by decide)
  generalize P.toArray[t / 3]! = p
  generalize t % 3 = r at *
  match r, this with
  | 0, _ => rfl
  | 1, _ => rfl
  | 2, _ => rfl

/-- In order. -/
def LvSorted (S : List T3) : Prop := S.Pairwise fun a b => lvLt b a = false

set_option maxRecDepth 100000 in
theorem sortf_calls {base : Nat} {v : Value} {P : List T3} {w : World} (h : LvAt base w v P) (h0 : 0 < P.length) (hP : P.length ≤ 1000) :
    Calls Tryd.prog 65 #[v, .func (.func 66) #[] #[]] w fun e w' => e = .returned (.tuple #[]) ∧ ∃ S, S.Perm P ∧ LvSorted S ∧ LvAt base w' v S ∧ Chg (fun k => v.ownBlock = some k) w w' := by
  obtain ⟨g, cap, cur, rfl, hb, hg, hle, hm, hs, ht⟩ := h.blk h0
  have eg : ∀ args w, (callFunc 66 args).run Tryd.prog w = .ok (.enter 66 args) w := enters_of Tryd.func66 (by kernel_rfl) rfl
  have hH : Go.Sort.HoldsK t3C 3 w g 0 P.toArray := by
    intro j hj
    have hj' : j < P.length * 3 := by simpa using hj
    refine ⟨?_, by rw [Nat.zero_add]; exact frozen_row hg⟩
    rw [Nat.zero_add, cell_row hg]
    have e : cur.toList[j]? = (recCells t3C P)[j]? := by rw [← ht, List.getElem?_take, if_pos hj']
    rw [← Array.getElem?_toList, e, flat_get P j hj']
    rfl
  have hcon := AnyQ.slices_SortFunc sortQ 3 Tryd.isAgg71 Tryd.sizeOf71 t3C (fun _ => rfl) t3C_one cmpZ swoL 66 #[] g 0 cap P.toArray w eg (fun _ _ _ _ x y => cmp66_calls x y _) hH (block_lt hg) (by simp; omega)
  have hsz : P.toArray.size = P.length := by simp
  rw [hsz] at hcon
  change Calls Tryd.prog 65 _ _ _ at hcon
  refine hcon.mono ?_
  rintro e w' ⟨rfl, d', n, os, hp, hso, rfl⟩
  have hdl : d'.size = P.length := by have := hp.1; simpa using this
  have hperm : d'.toList.Perm P := by
    have := hp.2.2
    have e1 : d'.extract 0 P.length = d' := by rw [← hdl]; simp
    have e2 : P.toArray.extract 0 P.length = P.toArray := by rw [← hsz]; simp
    rw [e1, e2] at this
    simpa using this
  have hsort : LvSorted d'.toList := by
    unfold LvSorted
    rw [List.pairwise_iff_getElem]
    intro i j hi hj hij
    have hi' : i < d'.size := by simpa using hi
    have hj' : j < d'.size := by simpa using hj
    have := hso i j (by omega) hij (by omega)
    rw [ltOf_cmpZ, getElem!_pos d' i hi', getElem!_pos d' j hj'] at this
    simpa using this
  have hHd := Go.Proofs.holdsK_sortWorldK_c t3C 3 w g 0 P.toArray d' n os hH (block_lt hg) (by simpa using hdl)
  have hblk : (sortWorldK t3C 3 w g 0 n d' os).heap[g]? = some (.cells (Go.Sort.putCells id 0 (Go.Sort.flatK t3C 3 d') cur) 71 (0, 0)) := by
    have hgl := block_lt hg
    show ((w.heap.modify g _) ++ os)[g]? = _
    rw [Array.getElem?_append_left (by simpa using hgl), Array.getElem?_modify, if_pos rfl, hg]
    rfl
  have hl2 : d'.toList.length = P.length := by simp [hdl]
  refine ⟨rfl, d'.toList, hperm, hsort, ⟨?_, .inr ⟨g, cap, _, ?_, hb, hblk, by omega, hm, by simp [Go.Sort.putCells, hs], ?_⟩⟩, ?_⟩
  · rw [recCells_length t3C_len]
  · rw [hl2]
  · apply List.ext_getElem?
    intro t
    rw [hl2, List.getElem?_take]
    by_cases hlt : t < P.length * 3
    · rw [if_pos hlt, flat_get d'.toList t (by omega), Array.getElem?_toList]
      have := (hHd t (by simp [hdl]; omega)).1
      rw [Nat.zero_add, cell_row hblk] at this
      rw [this]
      rfl
    · rw [if_neg hlt, List.getElem?_eq_none (by rw [recCells_length t3C_len, hl2]; omega)]
  · refine ⟨rfl, rfl, rfl, ?_, fun k hk hn => ?_⟩
    · show _ ≤ ((w.heap.modify g _) ++ os).size
      simp
    · show ((w.heap.modify g _) ++ os)[k]? = _
      have hgk : ¬ g = k := fun e => hn (by rw [e]; rfl)
      rw [Array.getElem?_append_left (by simpa using hk), Array.getElem?_modify, if_neg hgk]
theorem fok65 : fnOk Tryd.prog 65 = true := by kernel_rfl

end Go.Proofs.YtkdcldbedbagjaaDoor
