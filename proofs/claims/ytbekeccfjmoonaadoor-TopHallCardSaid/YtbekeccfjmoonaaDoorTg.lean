/- Contracts: the order of cells; slices.SortFunc at cells, by the shelf. -/
import Derived.Test.YtbekeccfjmoonaaDoorTf
import Derived.Test.YtbekeccfjmoonaaDoorSc
import Derived.Shelf.SlSortCmp.WholeK
set_option linter.all false
namespace Go.Proofs.YtbekeccfjmoonaaDoor
open Go.Lf Go.RowKit Go.Ht Go.Shelf Go.Proofs

def sortQ_ren : Go.Shelf.Ren := ⟨fun | 6 => 39 | 15 => 67 | 14 => 66 | 28 => 91 | 29 => 92 | 20 => 83 | 21 => 84 | 22 => 85 | 23 => 86 | 24 => 87 | 25 => 88 | 26 => 89 | 27 => 90 | 46 => 98 | 47 => 99 | 48 => 100 | 49 => 101 | 50 => 102 | 57 => 106 | n => n, fun | 22 => 39 | 24 => 43 | 25 => 93 | 3 => 3 | 39 => 122 | 0 => 0 | 53 => 144 | 55 => 146 | 4 => 4 | 46 => 138 | 45 => 137 | 50 => 58 | 5 => 5 | 9 => 9 | 66 => 151 | 70 => 155 | 76 => 158 | 77 => 159 | n => n, fun | n => n⟩
set_option maxRecDepth 100000 in
theorem sortQ : Go.Proofs.SlLaysF0.n6 Tryd.prog sortQ_ren :=
  { mixed := by kernel_rfl,
    f6 := ⟨Tryd.f39.name, by decide, Tryd.func39.trans (congrArg some (by kernel_rfl))⟩,
    f14 := ⟨Tryd.f66.name, by decide, Tryd.func66.trans (congrArg some (by kernel_rfl))⟩,
    f15 := Tryd.func67.trans (congrArg some (by kernel_rfl)),
    f20 := ⟨Tryd.f83.name, by decide, Tryd.func83.trans (congrArg some (by kernel_rfl))⟩,
    f21 := ⟨Tryd.f84.name, by decide, Tryd.func84.trans (congrArg some (by kernel_rfl))⟩,
    f22 := ⟨Tryd.f85.name, by decide, Tryd.func85.trans (congrArg some (by kernel_rfl))⟩,
    f23 := ⟨Tryd.f86.name, by decide, Tryd.func86.trans (congrArg some (by kernel_rfl))⟩,
    f24 := ⟨Tryd.f87.name, by decide, Tryd.func87.trans (congrArg some (by kernel_rfl))⟩,
    f25 := ⟨Tryd.f88.name, by decide, Tryd.func88.trans (congrArg some (by kernel_rfl))⟩,
    f26 := ⟨Tryd.f89.name, by decide, Tryd.func89.trans (congrArg some (by kernel_rfl))⟩,
    f27 := ⟨Tryd.f90.name, by decide, Tryd.func90.trans (congrArg some (by kernel_rfl))⟩,
    f28 := Tryd.func91.trans (congrArg some (by kernel_rfl)),
    f29 := Tryd.func92.trans (congrArg some (by kernel_rfl)),
    f46 := ⟨Tryd.f98.name, by decide, Tryd.func98.trans (congrArg some (by kernel_rfl))⟩,
    f47 := Tryd.func99.trans (congrArg some (by kernel_rfl)),
    f48 := Tryd.func100.trans (congrArg some (by kernel_rfl)),
    f49 := ⟨Tryd.f101.name, by decide, Tryd.func101.trans (congrArg some (by kernel_rfl))⟩,
    f50 := ⟨Tryd.f102.name, by decide, Tryd.func102.trans (congrArg some (by kernel_rfl))⟩,
    f57 := ⟨Tryd.f106.name, by decide, Tryd.func106.trans (congrArg some (by kernel_rfl))⟩,
    t0 := Tryd.underlying0,
    a0 := Tryd.isAgg0,
    z0 := Tryd.sizeOf0,
    v0 := Tryd.zeroValue0,
    t3 := Tryd.underlying3,
    a3 := Tryd.isAgg3,
    z3 := Tryd.sizeOf3,
    v3 := Tryd.zeroValue3,
    t4 := Tryd.underlying4,
    a4 := Tryd.isAgg4,
    z4 := Tryd.sizeOf4,
    v4 := Tryd.zeroValue4,
    t5 := Tryd.underlying5,
    a5 := Tryd.isAgg5,
    z5 := Tryd.sizeOf5,
    v5 := Tryd.zeroValue5,
    t9 := Tryd.underlying9,
    a9 := Tryd.isAgg9,
    z9 := Tryd.sizeOf9,
    v9 := Tryd.zeroValue9,
    t22 := Tryd.underlying39,
    a22 := Tryd.isAgg39,
    z22 := Tryd.sizeOf39,
    v22 := Tryd.zeroValue39,
    t25 := Tryd.underlying93,
    a25 := Tryd.isAgg93,
    z25 := Tryd.sizeOf93,
    v25 := Tryd.zeroValue93,
    t39 := Tryd.underlying122,
    a39 := Tryd.isAgg122,
    z39 := Tryd.sizeOf122,
    v39 := Tryd.zeroValue122,
    t45 := Tryd.underlying137,
    a45 := Tryd.isAgg137,
    z45 := Tryd.sizeOf137,
    v45 := Tryd.zeroValue137,
    t46 := Tryd.underlying138,
    a46 := Tryd.isAgg138,
    z46 := Tryd.sizeOf138,
    v46 := Tryd.zeroValue138,
    t50 := Tryd.underlying58,
    a50 := Tryd.isAgg58,
    z50 := Tryd.sizeOf58,
    v50 := Tryd.zeroValue58,
    t53 := Tryd.underlying144,
    a53 := Tryd.isAgg144,
    z53 := Tryd.sizeOf144,
    v53 := Tryd.zeroValue144,
    t55 := Tryd.underlying146,
    a55 := Tryd.isAgg146,
    z55 := Tryd.sizeOf146,
    v55 := Tryd.zeroValue146,
    t66 := Tryd.underlying151,
    a66 := Tryd.isAgg151,
    z66 := Tryd.sizeOf151,
    v66 := Tryd.zeroValue151,
    t70 := Tryd.underlying155,
    a70 := Tryd.isAgg155,
    z70 := Tryd.sizeOf155,
    v70 := Tryd.zeroValue155,
    t76 := Tryd.underlying158,
    a76 := Tryd.isAgg158,
    z76 := Tryd.sizeOf158,
    v76 := Tryd.zeroValue158,
    t77 := Tryd.underlying159,
    a77 := Tryd.isAgg159,
    z77 := Tryd.sizeOf159,
    v77 := Tryd.zeroValue159 }

theorem neq_self (x : Int) (w : World) : Calls Tryd.prog 93 #[.int .i64 x] w fun e w' => e = .returned (.bool false) ∧ w = w' := by
  refine lift93 ?_
  unfold S93
  simp only [r_ln, r_pick, r_pickT, r_pickF, r_condT, r_condF, r_gdTT, r_gdFF, r_gdTF, r_gdFT, r_gqTT, r_gqFF, r_gqTF, r_gqFT, r_not, r_lss, r_leq, r_gtr, r_geq, r_eql, r_neq, r_add, r_sub, r_min2, r_max2, r_min3, r_max3, r_fa, r_iaS, r_iaA, r_ex2a, r_ex2b, r_ex3a, r_ex3b, r_ex3c, r_nc, r_keepE, Nat.zero_add, Nat.add_zero, Nat.mul_one, Int.toNat_natCast, toNat_sub1, toNat_add1, decide_true, decide_false, Bool.not_true, Bool.not_false, if_true, if_false, Bool.false_eq_true, reduceCtorEq]
  exact ⟨trivial, trivial⟩
def cmpI (x y : Int) : Int := if x < y then -1 else if y < x then 1 else 0
theorem cmp_calls (x y : Int) (w : World) : Calls Tryd.prog 69 #[.int .i64 x, .int .i64 y] w fun e w' => e = .returned (.int .i64 (cmpI x y)) ∧ w = w' := by
  refine lift69 ?_
  unfold S69
  refine r_use fok93 (neq_self x w) rfl ?_
  rintro _ _ ⟨rfl, rfl⟩
  refine ⟨_, rfl, ?_⟩
  refine r_use fok93 (neq_self y w) rfl ?_
  rintro _ _ ⟨rfl, rfl⟩
  refine ⟨_, rfl, ?_⟩
  by_cases h1 : x < y
  · simp only [r_ln, r_pick, r_pickT, r_pickF, r_condT, r_condF, r_gdTT, r_gdFF, r_gdTF, r_gdFT, r_gqTT, r_gqFF, r_gqTF, r_gqFT, r_not, r_lss, r_leq, r_gtr, r_geq, r_eql, r_neq, r_add, r_sub, r_min2, r_max2, r_min3, r_max3, r_fa, r_iaS, r_iaA, r_ex2a, r_ex2b, r_ex3a, r_ex3b, r_ex3c, r_nc, r_keepE, Nat.zero_add, Nat.add_zero, Nat.mul_one, Int.toNat_natCast, toNat_sub1, toNat_add1, decide_true, decide_false, Bool.not_true, Bool.not_false, if_true, if_false, Bool.false_eq_true, reduceCtorEq, h1]
    exact ⟨by simp [cmpI, h1], trivial⟩
  by_cases h2 : y < x
  · simp only [r_ln, r_pick, r_pickT, r_pickF, r_condT, r_condF, r_gdTT, r_gdFF, r_gdTF, r_gdFT, r_gqTT, r_gqFF, r_gqTF, r_gqFT, r_not, r_lss, r_leq, r_gtr, r_geq, r_eql, r_neq, r_add, r_sub, r_min2, r_max2, r_min3, r_max3, r_fa, r_iaS, r_iaA, r_ex2a, r_ex2b, r_ex3a, r_ex3b, r_ex3c, r_nc, r_keepE, Nat.zero_add, Nat.add_zero, Nat.mul_one, Int.toNat_natCast, toNat_sub1, toNat_add1, decide_true, decide_false, Bool.not_true, Bool.not_false, if_true, if_false, Bool.false_eq_true, reduceCtorEq, h1, h2]
    exact ⟨by simp [cmpI, h1, h2], trivial⟩
  simp only [r_ln, r_pick, r_pickT, r_pickF, r_condT, r_condF, r_gdTT, r_gdFF, r_gdTF, r_gdFT, r_gqTT, r_gqFF, r_gqTF, r_gqFT, r_not, r_lss, r_leq, r_gtr, r_geq, r_eql, r_neq, r_add, r_sub, r_min2, r_max2, r_min3, r_max3, r_fa, r_iaS, r_iaA, r_ex2a, r_ex2b, r_ex3a, r_ex3b, r_ex3c, r_nc, r_keepE, Nat.zero_add, Nat.add_zero, Nat.mul_one, Int.toNat_natCast, toNat_sub1, toNat_add1, decide_true, decide_false, Bool.not_true, Bool.not_false, if_true, if_false, Bool.false_eq_true, reduceCtorEq, h1, h2]
  exact ⟨by simp [cmpI, h1, h2], trivial⟩

def orI : List Int → Int
  | [] => 0
  | x :: l => if x = 0 then orI l else x
set_option maxRecDepth 100000 in
theorem or_calls (v : Value) (l : List Int) (w : World) (h : RdInts w v l) : Calls Tryd.prog 68 #[v] w fun e w' => e = .returned (.int .i64 (orI l)) ∧ w = w' := by
  obtain ⟨a, cap, rfl, hlen⟩ := h.len
  refine lift68 ?_
  unfold S68 S68L0
  simp (disch := omega) only [r_ln, r_pick, r_pickT, r_pickF, r_condT, r_condF, r_gdTT, r_gdFF, r_gdTF, r_gdFT, r_gqTT, r_gqFF, r_gqTF, r_gqFT, r_not, r_lss, r_leq, r_gtr, r_geq, r_eql, r_neq, r_add, r_sub, r_min2, r_max2, r_min3, r_max3, r_fa, r_iaS, r_iaA, r_ex2a, r_ex2b, r_ex3a, r_ex3b, r_ex3c, r_nc, r_keepE, Nat.zero_add, Nat.add_zero, Nat.mul_one, Int.toNat_natCast, toNat_sub1, toNat_add1, decide_true, decide_false, Bool.not_true, Bool.not_false, if_true, if_false, Bool.false_eq_true, reduceCtorEq]
  refine ⟨fun t8 wr => ∃ j : Nat, j ≤ l.length ∧ t8 = .int .i64 j ∧ orI l = orI (l.drop j) ∧ w = wr, fun t8 _ => l.length - (intOf t8).toNat, ⟨0, by omega, rfl, rfl, rfl⟩, ?_⟩
  rintro _ _ _ ⟨j, hj, rfl, ho, rfl⟩
  by_cases hlt : j < l.length
  case neg =>
    have hlt' : ¬ (j : Int) < (l.length : Int) := by omega
    simp (disch := omega) only [r_ln, r_pick, r_pickT, r_pickF, r_condT, r_condF, r_gdTT, r_gdFF, r_gdTF, r_gdFT, r_gqTT, r_gqFF, r_gqTF, r_gqFT, r_not, r_lss, r_leq, r_gtr, r_geq, r_eql, r_neq, r_add, r_sub, r_min2, r_max2, r_min3, r_max3, r_fa, r_iaS, r_iaA, r_ex2a, r_ex2b, r_ex3a, r_ex3b, r_ex3c, r_nc, r_keepE, Nat.zero_add, Nat.add_zero, Nat.mul_one, Int.toNat_natCast, toNat_sub1, toNat_add1, decide_true, decide_false, Bool.not_true, Bool.not_false, if_true, if_false, Bool.false_eq_true, reduceCtorEq, hlt']
    rw [ho, List.drop_eq_nil_of_le (by omega)]
    exact ⟨rfl, by first | rfl | trivial⟩
  have hlt' : (j : Int) < (l.length : Int) := by omega
  obtain ⟨b, off, cap', e1, hc⟩ := h.at hlt
  cases e1
  have hd : orI (l.drop j) = if l.getD j 0 = 0 then orI (l.drop (j + 1)) else l.getD j 0 := by
    rw [List.drop_eq_getElem_cons hlt, orI, getD_lt _ _ _ hlt]
  by_cases hx : l.getD j 0 = 0
  · rw [if_pos hx] at hd
    simp (disch := omega) only [r_ln, r_pick, r_pickT, r_pickF, r_condT, r_condF, r_gdTT, r_gdFF, r_gdTF, r_gdFT, r_gqTT, r_gqFF, r_gqTF, r_gqFT, r_not, r_lss, r_leq, r_gtr, r_geq, r_eql, r_neq, r_add, r_sub, r_min2, r_max2, r_min3, r_max3, r_fa, r_iaS, r_iaA, r_ex2a, r_ex2b, r_ex3a, r_ex3b, r_ex3c, r_nc, r_keepE, Nat.zero_add, Nat.add_zero, Nat.mul_one, Int.toNat_natCast, toNat_sub1, toNat_add1, decide_true, decide_false, Bool.not_true, Bool.not_false, if_true, if_false, Bool.false_eq_true, reduceCtorEq, hlt', r_ld hc, decide_eq_true hx]
    exact ⟨⟨j + 1, by omega, by go_num, by rw [ho, hd], by first | rfl | trivial⟩, by simp only [intOf]; omega⟩
  · rw [if_neg hx] at hd
    simp (disch := omega) only [r_ln, r_pick, r_pickT, r_pickF, r_condT, r_condF, r_gdTT, r_gdFF, r_gdTF, r_gdFT, r_gqTT, r_gqFF, r_gqTF, r_gqFT, r_not, r_lss, r_leq, r_gtr, r_geq, r_eql, r_neq, r_add, r_sub, r_min2, r_max2, r_min3, r_max3, r_fa, r_iaS, r_iaA, r_ex2a, r_ex2b, r_ex3a, r_ex3b, r_ex3c, r_nc, r_keepE, Nat.zero_add, Nat.add_zero, Nat.mul_one, Int.toNat_natCast, toNat_sub1, toNat_add1, decide_true, decide_false, Bool.not_true, Bool.not_false, if_true, if_false, Bool.false_eq_true, reduceCtorEq, hlt', r_ld hc, hx]
    rw [ho, hd]
    exact ⟨rfl, by first | rfl | trivial⟩

/-- Reading order. -/
def cmpZ (p q : C2) : Int := orI [cmpI p.2 q.2, cmpI p.1 q.1]
def rdLt (p q : C2) : Bool := decide (p.2 < q.2 ∨ (p.2 = q.2 ∧ p.1 < q.1))
theorem ltOf_cmpZ : ltOf cmpZ = rdLt := by
  funext p q
  unfold ltOf rdLt cmpZ
  rw [decide_eq_decide]
  simp only [orI, cmpI]
  by_cases h1 : p.2 < q.2
  · simp [h1]
  · by_cases h2 : q.2 < p.2
    · simp [h1, h2]; omega
    · have e1 : p.2 = q.2 := by omega
      by_cases h3 : p.1 < q.1
      · simp [e1, h3]
      · by_cases h4 : q.1 < p.1
        · simp [e1, h3, h4]
        · have e2 : p.1 = q.1 := by omega
          simp [e1, e2]
theorem rdLt_iff {p q : C2} : rdLt p q = true ↔ p.2 < q.2 ∨ (p.2 = q.2 ∧ p.1 < q.1) := decide_eq_true_iff
theorem rdLt_not {p q : C2} : rdLt p q = false ↔ ¬ (p.2 < q.2 ∨ (p.2 = q.2 ∧ p.1 < q.1)) := decide_eq_false_iff_not
theorem swoC : Go.Sort.SWO (ltOf cmpZ) := by
  rw [ltOf_cmpZ]
  exact ⟨fun x => by rw [rdLt_not]; omega, fun x y z h1 h2 => by rw [rdLt_iff] at *; omega, fun x y z h1 h2 => by rw [rdLt_not] at *; omega⟩
theorem bs31_2 (x y : Int) (w : World) (K : Value → World → Prop) : bsW Tryd.prog 31 2 [(0, .int .i64 x), (1, .int .i64 y)] w K = K (.slice (some ⟨w.heap.size, 0, none⟩) 2 2) (w.alloc (.cells #[.int .i64 x, .int .i64 y] 3)) := by kernel_rfl
theorem rd_two {w : World} {b : Nat} {x y : Int} {t : TypeId} (h : w.heap[b]? = some (.cells #[.int .i64 x, .int .i64 y] t (0, 0))) : RdInts w (.slice (some ⟨b, 0, none⟩) 2 2) [x, y] := by
  refine ⟨_, _, rfl, ⟨by simp, by simp⟩, fun _ => ⟨b, 0, rfl, fun i hi => ?_⟩⟩
  rw [cell_row h]
  have hi : i < 2 := hi
  match i, hi with
  | 0, _ => rfl
  | 1, _ => rfl

set_option maxRecDepth 100000 in
theorem reading_calls (x y : C2) (W : World) : Calls Tryd.prog 40 #[cV x, cV y] W fun e w' => e = .returned (.int .i64 (cmpZ x y)) ∧ ∃ q os, w' = Go.Sort.grow (W.drewN q) os := by
  refine lift40 ?_
  unfold S40
  simp only [boxW, Drew]
  have g1 : ((W.alloc (.cells (cV x).cells 43)).alloc (.cells (cV y).cells 43)).drew.heap[W.heap.size]? = some (.cells (cV x).cells 43 (0, 0)) := block_below (heap_alloc_new W _) ((below_alloc _).drew)
  have g2 : ((W.alloc (.cells (cV x).cells 43)).alloc (.cells (cV y).cells 43)).drew.heap[(W.alloc (.cells (cV x).cells 43)).heap.size]? = some (.cells (cV y).cells 43 (0, 0)) := heap_alloc_new (W.alloc (.cells (cV x).cells 43)) _
  obtain ⟨c0, c1⟩ := c_cells (p := x) g1
  obtain ⟨d0, d1⟩ := c_cells (p := y) g2
  simp (disch := omega) only [r_ln, r_pick, r_pickT, r_pickF, r_condT, r_condF, r_gdTT, r_gdFF, r_gdTF, r_gdFT, r_gqTT, r_gqFF, r_gqTF, r_gqFT, r_not, r_lss, r_leq, r_gtr, r_geq, r_eql, r_neq, r_add, r_sub, r_min2, r_max2, r_min3, r_max3, r_fa, r_iaS, r_iaA, r_ex2a, r_ex2b, r_ex3a, r_ex3b, r_ex3c, r_nc, r_keepE, Nat.zero_add, Nat.add_zero, Nat.mul_one, Int.toNat_natCast, toNat_sub1, toNat_add1, decide_true, decide_false, Bool.not_true, Bool.not_false, if_true, if_false, Bool.false_eq_true, reduceCtorEq, r_ld c0, r_ld c1, r_ld d0, r_ld d1]
  refine r_use fok69 (cmp_calls _ _ _) rfl ?_
  rintro _ _ ⟨rfl, rfl⟩
  refine ⟨_, rfl, Below.refl _ _, ?_⟩
  refine r_use fok69 (cmp_calls _ _ _) rfl ?_
  rintro _ _ ⟨rfl, rfl⟩
  refine ⟨_, rfl, ?_⟩
  rw [bs31_2]
  refine r_use fok68 (or_calls _ [cmpI x.2 y.2, cmpI x.1 y.1] _ (rd_two (heap_alloc_new _ _))) rfl ?_
  rintro _ _ ⟨rfl, rfl⟩
  refine ⟨_, rfl, rfl, 1, #[Obj.cells (cV x).cells 43, Obj.cells (cV y).cells 43, Obj.cells #[.int .i64 (cmpI x.2 y.2), .int .i64 (cmpI x.1 y.1)] 3], ?_⟩
  simp only [World.alloc, World.drew, Go.Sort.grow, World.drewN]
  congr 1

theorem cCells_get (P : List C2) (t : Nat) (ht : t < P.length * 2) : (recCells cC P)[t]? = (cC (P.toArray[t / 2]!))[t % 2]? := by
  have hq : t / 2 < P.length := by omega
  have h := recCells_at cC_len P (t / 2) (t % 2) P[t / 2] (List.getElem?_eq_getElem hq) (Nat.mod_lt _ (by decide))
  rw [show t / 2 * 2 + t % 2 = t by omega] at h
  rw [h]
  simp [hq]
theorem flat_get (P : List C2) (t : Nat) (ht : t < P.length * 2) : (recCells cC P)[t]? = some (Go.Sort.flatK cC 2 P.toArray)[t]! := by
  rw [Go.Sort.get_flatK _ _ _ _ (by simpa using ht), cCells_get P t ht]
  have : t % 2 < 2 := Nat.mod_lt _ (by decide)
  generalize P.toArray[t / 2]! = p
  generalize t % 2 = r at *
  match r, this with
  | 0, _ => rfl
  | 1, _ => rfl

/-- In order. -/
def RdSorted (S : List C2) : Prop := S.Pairwise fun a b => rdLt b a = false

set_option maxRecDepth 100000 in
theorem sortC_calls {base : Nat} {v : Value} {P : List C2} {w : World} (h : ClAt base w v P) (h0 : 0 < P.length) (hP : P.length ≤ 1000) :
    Calls Tryd.prog 39 #[v, .func (.func 40) #[] #[]] w fun e w' => e = .returned (.tuple #[]) ∧ ∃ S, S.Perm P ∧ RdSorted S ∧ ClAt base w' v S ∧ Chg (fun k => v.ownBlock = some k) w w' := by
  obtain ⟨g, cap, cur, rfl, hb, hg, hle, hm, hs, ht⟩ := h.blk h0
  have eg : ∀ args w, (callFunc 40 args).run Tryd.prog w = .ok (.enter 40 args) w := enters_of Tryd.func40 (by kernel_rfl) rfl
  have hH : Go.Sort.HoldsK cC 2 w g 0 P.toArray := by
    intro j hj
    have hj' : j < P.length * 2 := by simpa using hj
    refine ⟨?_, by rw [Nat.zero_add]; exact frozen_row hg⟩
    rw [Nat.zero_add, cell_row hg]
    have e : cur.toList[j]? = (recCells cC P)[j]? := by rw [← ht, List.getElem?_take, if_pos hj']
    rw [← Array.getElem?_toList, e, flat_get P j hj']
    rfl
  have hcon := AnyQ.slices_SortFunc sortQ 2 Tryd.isAgg43 Tryd.sizeOf43 cC (fun _ => rfl) cC_one cmpZ swoC 40 #[] g 0 cap P.toArray w eg (fun _ _ _ _ x y => reading_calls x y _) hH (block_lt hg) (by simp; omega)
  have hsz : P.toArray.size = P.length := by simp
  rw [hsz] at hcon
  change Calls Tryd.prog 39 _ _ _ at hcon
  refine hcon.mono ?_
  rintro e w' ⟨rfl, d', n, os, hp, hso, rfl⟩
  have hdl : d'.size = P.length := by have := hp.1; simpa using this
  have hperm : d'.toList.Perm P := by
    have := hp.2.2
    have e1 : d'.extract 0 P.length = d' := by rw [← hdl]; simp
    have e2 : P.toArray.extract 0 P.length = P.toArray := by rw [← hsz]; simp
    rw [e1, e2] at this
    simpa using this
  have hsort : RdSorted d'.toList := by
    unfold RdSorted
    rw [List.pairwise_iff_getElem]
    intro i j hi hj hij
    have hi' : i < d'.size := by simpa using hi
    have hj' : j < d'.size := by simpa using hj
    have := hso i j (by omega) hij (by omega)
    rw [ltOf_cmpZ, getElem!_pos d' i hi', getElem!_pos d' j hj'] at this
    simpa using this
  have hHd := Go.Proofs.holdsK_sortWorldK_c cC 2 w g 0 P.toArray d' n os hH (block_lt hg) (by simpa using hdl)
  have hblk : (sortWorldK cC 2 w g 0 n d' os).heap[g]? = some (.cells (Go.Sort.putCells id 0 (Go.Sort.flatK cC 2 d') cur) 43 (0, 0)) := by
    have hgl := block_lt hg
    show ((w.heap.modify g _) ++ os)[g]? = _
    rw [Array.getElem?_append_left (by simpa using hgl), Array.getElem?_modify, if_pos rfl, hg]
    rfl
  have hl2 : d'.toList.length = P.length := by simp [hdl]
  refine ⟨rfl, d'.toList, hperm, hsort, ⟨?_, .inr ⟨g, cap, _, ?_, hb, hblk, by omega, hm, by simp [Go.Sort.putCells, hs], ?_⟩⟩, ?_⟩
  · rw [recCells_length cC_len]
  · rw [hl2]
  · apply List.ext_getElem?
    intro t
    rw [hl2, List.getElem?_take]
    by_cases hlt : t < P.length * 2
    · rw [if_pos hlt, flat_get d'.toList t (by omega), Array.getElem?_toList]
      have := (hHd t (by simp [hdl]; omega)).1
      rw [Nat.zero_add, cell_row hblk] at this
      rw [this]
      rfl
    · rw [if_neg hlt, List.getElem?_eq_none (by rw [recCells_length cC_len, hl2]; omega)]
  · refine ⟨rfl, rfl, rfl, ?_, fun k hk hn => ?_⟩
    · show _ ≤ ((w.heap.modify g _) ++ os).size
      simp
    · show ((w.heap.modify g _) ++ os)[k]? = _
      have hgk : ¬ g = k := fun e => hn (by rw [e]; rfl)
      rw [Array.getElem?_append_left (by simpa using hk), Array.getElem?_modify, if_neg hgk]
theorem fok39 : fnOk Tryd.prog 39 = true := by kernel_rfl

end Go.Proofs.YtbekeccfjmoonaaDoor
