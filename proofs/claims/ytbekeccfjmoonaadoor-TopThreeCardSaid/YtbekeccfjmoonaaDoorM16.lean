/- Texts of my own, merged by program: Tx Ky. -/
import Derived.Test.YtbekeccfjmoonaaDoorM15
import Derived.Laws.StructEq
import Derived.DeepKeys4
set_option linter.all false
/- Small pieces of wip/T's Td, Te, Tf, Tg. -/
namespace Go.Proofs.YtbekeccfjmoonaaDoor
open Go.Lf Go.RowKit Go.Ht

theorem filter_mono {α : Type} {p q : α → Bool} : ∀ {L : List α}, (∀ x ∈ L, p x = true → q x = true) → (L.filter p).length ≤ (L.filter q).length
  | [], _ => Nat.le_refl _
  | a :: L, h => by
    have ih := filter_mono (L := L) fun x hx => h x (List.mem_cons_of_mem _ hx)
    rw [List.filter_cons, List.filter_cons]
    by_cases hp : p a = true
    · rw [if_pos hp, if_pos (h a (List.mem_cons_self ..) hp)]; simp only [List.length_cons]; omega
    · rw [if_neg hp]
      split
      · simp only [List.length_cons]; omega
      · exact ih

theorem filter_less {α : Type} {p q : α → Bool} {y : α} : ∀ {L : List α}, (∀ x ∈ L, p x = true → q x = true) → y ∈ L → p y = false → q y = true → (L.filter p).length < (L.filter q).length
  | [], _, hy, _, _ => by cases hy
  | a :: L, h, hy, h1, h2 => by
    have hm := filter_mono (L := L) fun x hx => h x (List.mem_cons_of_mem _ hx)
    rw [List.filter_cons, List.filter_cons]
    by_cases e : a = y
    · subst e
      rw [if_neg (by rw [h1]; simp), if_pos h2]; simp only [List.length_cons]; omega
    · have hy' : y ∈ L := by rcases List.mem_cons.1 hy with q | q; exact absurd q.symm e; exact q
      have ih := filter_less (L := L) (fun x hx => h x (List.mem_cons_of_mem _ hx)) hy' h1 h2
      by_cases hp : p a = true
      · rw [if_pos hp, if_pos (h a (List.mem_cons_self ..) hp)]; simp only [List.length_cons]; omega
      · rw [if_neg hp]
        split
        · simp only [List.length_cons]; omega
        · exact ih

theorem BX.of_chg {X S : Nat → Prop} {w w' : World} (h : Chg S w w') (hs : ∀ k, S k → X k) : BX X w w' := ⟨h.os, h.tape, h.output, h.size, fun k hk hx => h.block k hk fun q => hx (hs k q)⟩

theorem r_joinW {F : (World → Prop) → Prop} {k : World → Prop} (J : World → Prop) (hk : ∀ w, J w → k w) (hF : ∀ k' : World → Prop, (∀ w, J w → k' w) → F k') : Join F k := hF k hk

theorem r_mm {w : World} {K : Value → World → Prop} (h : K (.map (some w.heap.size)) (w.alloc (.map #[] 0))) : mmW w K := h

theorem neq_self (x : Int) (w : World) : Calls Tryd.prog 93 #[.int .i64 x] w fun e w' => e = .returned (.bool false) ∧ w = w' := by
  refine lift93 ?_
  unfold S93
  simp only [r_ln, r_pick, r_pickT, r_pickF, r_condT, r_condF, r_gdTT, r_gdFF, r_gdTF, r_gdFT, r_gqTT, r_gqFF, r_gqTF, r_gqFT, r_not, r_lss, r_leq, r_gtr, r_geq, r_eql, r_neq, r_add, r_sub, r_min2, r_max2, r_min3, r_max3, r_fa, r_iaS, r_iaA, r_ex2a, r_ex2b, r_ex3a, r_ex3b, r_ex3c, r_nc, r_keepE, Nat.zero_add, Nat.add_zero, Nat.mul_one, Int.toNat_natCast, toNat_sub1, toNat_add1, decide_true, decide_false, Bool.not_true, Bool.not_false, if_true, if_false, Bool.false_eq_true, reduceCtorEq]
  exact ⟨trivial, trivial⟩

def cmpI (x y : Int) : Int := if x < y then -1 else if y < x then 1 else 0

theorem cmp_calls (x y : Int) (w : World) : Calls Tryd.prog 69 #[.int .i64 x, .int .i64 y] w fun e w' => e = .returned (.int .i64 (cmpI x y)) ∧ w = w' := by
  refine lift69 ?_
  unfold S69
  refine r_use fok93 (neq_self x w) rfl ?_
  rintro _ _ ⟨rfl, rfl⟩
  refine ⟨_, rfl, ?_⟩
  refine r_use fok93 (neq_self y w) rfl ?_
  rintro _ _ ⟨rfl, rfl⟩
  refine ⟨_, rfl, ?_⟩
  by_cases h1 : x < y
  · simp only [r_ln, r_pick, r_pickT, r_pickF, r_condT, r_condF, r_gdTT, r_gdFF, r_gdTF, r_gdFT, r_gqTT, r_gqFF, r_gqTF, r_gqFT, r_not, r_lss, r_leq, r_gtr, r_geq, r_eql, r_neq, r_add, r_sub, r_min2, r_max2, r_min3, r_max3, r_fa, r_iaS, r_iaA, r_ex2a, r_ex2b, r_ex3a, r_ex3b, r_ex3c, r_nc, r_keepE, Nat.zero_add, Nat.add_zero, Nat.mul_one, Int.toNat_natCast, toNat_sub1, toNat_add1, decide_true, decide_false, Bool.not_true, Bool.not_false, if_true, if_false, Bool.false_eq_true, reduceCtorEq, h1]
    exact ⟨by simp [cmpI, h1], trivial⟩
  by_cases h2 : y < x
  · simp only [r_ln, r_pick, r_pickT, r_pickF, r_condT, r_condF, r_gdTT, r_gdFF, r_gdTF, r_gdFT, r_gqTT, r_gqFF, r_gqTF, r_gqFT, r_not, r_lss, r_leq, r_gtr, r_geq, r_eql, r_neq, r_add, r_sub, r_min2, r_max2, r_min3, r_max3, r_fa, r_iaS, r_iaA, r_ex2a, r_ex2b, r_ex3a, r_ex3b, r_ex3c, r_nc, r_keepE, Nat.zero_add, Nat.add_zero, Nat.mul_one, Int.toNat_natCast, toNat_sub1, toNat_add1, decide_true, decide_false, Bool.not_true, Bool.not_false, if_true, if_false, Bool.false_eq_true, reduceCtorEq, h1, h2]
    exact ⟨by simp [cmpI, h1, h2], trivial⟩
  simp only [r_ln, r_pick, r_pickT, r_pickF, r_condT, r_condF, r_gdTT, r_gdFF, r_gdTF, r_gdFT, r_gqTT, r_gqFF, r_gqTF, r_gqFT, r_not, r_lss, r_leq, r_gtr, r_geq, r_eql, r_neq, r_add, r_sub, r_min2, r_max2, r_min3, r_max3, r_fa, r_iaS, r_iaA, r_ex2a, r_ex2b, r_ex3a, r_ex3b, r_ex3c, r_nc, r_keepE, Nat.zero_add, Nat.add_zero, Nat.mul_one, Int.toNat_natCast, toNat_sub1, toNat_add1, decide_true, decide_false, Bool.not_true, Bool.not_false, if_true, if_false, Bool.false_eq_true, reduceCtorEq, h1, h2]
  exact ⟨by simp [cmpI, h1, h2], trivial⟩

def orI : List Int → Int
  | [] => 0
  | x :: l => if x = 0 then orI l else x

set_option maxRecDepth 100000 in
theorem or_calls (v : Value) (l : List Int) (w : World) (h : RdInts w v l) : Calls Tryd.prog 68 #[v] w fun e w' => e = .returned (.int .i64 (orI l)) ∧ w = w' := by
  obtain ⟨a, cap, rfl, hlen⟩ := h.len
  refine lift68 ?_
  unfold S68 S68L0
  simp (disch := omega) only [r_ln, r_pick, r_pickT, r_pickF, r_condT, r_condF, r_gdTT, r_gdFF, r_gdTF, r_gdFT, r_gqTT, r_gqFF, r_gqTF, r_gqFT, r_not, r_lss, r_leq, r_gtr, r_geq, r_eql, r_neq, r_add, r_sub, r_min2, r_max2, r_min3, r_max3, r_fa, r_iaS, r_iaA, r_ex2a, r_ex2b, r_ex3a, r_ex3b, r_ex3c, r_nc, r_keepE, Nat.zero_add, Nat.add_zero, Nat.mul_one, Int.toNat_natCast, toNat_sub1, toNat_add1, decide_true, decide_false, Bool.not_true, Bool.not_false, if_true, if_false, Bool.false_eq_true, reduceCtorEq]
  refine ⟨fun t8 wr => ∃ j : Nat, j ≤ l.length ∧ t8 = .int .i64 j ∧ orI l = orI (l.drop j) ∧ w = wr, fun t8 _ => l.length - (intOf t8).toNat, ⟨0, by omega, rfl, rfl, rfl⟩, ?_⟩
  rintro _ _ _ ⟨j, hj, rfl, ho, rfl⟩
  by_cases hlt : j < l.length
  case neg =>
    have hlt' : ¬ (j : Int) < (l.length : Int) := by omega
    simp (disch := omega) only [r_ln, r_pick, r_pickT, r_pickF, r_condT, r_condF, r_gdTT, r_gdFF, r_gdTF, r_gdFT, r_gqTT, r_gqFF, r_gqTF, r_gqFT, r_not, r_lss, r_leq, r_gtr, r_geq, r_eql, r_neq, r_add, r_sub, r_min2, r_max2, r_min3, r_max3, r_fa, r_iaS, r_iaA, r_ex2a, r_ex2b, r_ex3a, r_ex3b, r_ex3c, r_nc, r_keepE, Nat.zero_add, Nat.add_zero, Nat.mul_one, Int.toNat_natCast, toNat_sub1, toNat_add1, decide_true, decide_false, Bool.not_true, Bool.not_false, if_true, if_false, Bool.false_eq_true, reduceCtorEq, hlt']
    rw [ho, List.drop_eq_nil_of_le (by omega)]
    exact ⟨rfl, by first | rfl | trivial⟩
  have hlt' : (j : Int) < (l.length : Int) := by omega
  obtain ⟨b, off, cap', e1, hc⟩ := h.at hlt
  cases e1
  have hd : orI (l.drop j) = if l.getD j 0 = 0 then orI (l.drop (j + 1)) else l.getD j 0 := by
    rw [List.drop_eq_getElem_cons hlt, orI, getD_lt _ _ _ hlt]
  by_cases hx : l.getD j 0 = 0
  · rw [if_pos hx] at hd
    simp (disch := omega) only [r_ln, r_pick, r_pickT, r_pickF, r_condT, r_condF, r_gdTT, r_gdFF, r_gdTF, r_gdFT, r_gqTT, r_gqFF, r_gqTF, r_gqFT, r_not, r_lss, r_leq, r_gtr, r_geq, r_eql, r_neq, r_add, r_sub, r_min2, r_max2, r_min3, r_max3, r_fa, r_iaS, r_iaA, r_ex2a, r_ex2b, r_ex3a, r_ex3b, r_ex3c, r_nc, r_keepE, Nat.zero_add, Nat.add_zero, Nat.mul_one, Int.toNat_natCast, toNat_sub1, toNat_add1, decide_true, decide_false, Bool.not_true, Bool.not_false, if_true, if_false, Bool.false_eq_true, reduceCtorEq, hlt', r_ld hc, decide_eq_true hx]
    exact ⟨⟨j + 1, by omega, by go_num, by rw [ho, hd], by first | rfl | trivial⟩, by simp only [intOf]; omega⟩
  · rw [if_neg hx] at hd
    simp (disch := omega) only [r_ln, r_pick, r_pickT, r_pickF, r_condT, r_condF, r_gdTT, r_gdFF, r_gdTF, r_gdFT, r_gqTT, r_gqFF, r_gqTF, r_gqFT, r_not, r_lss, r_leq, r_gtr, r_geq, r_eql, r_neq, r_add, r_sub, r_min2, r_max2, r_min3, r_max3, r_fa, r_iaS, r_iaA, r_ex2a, r_ex2b, r_ex3a, r_ex3b, r_ex3c, r_nc, r_keepE, Nat.zero_add, Nat.add_zero, Nat.mul_one, Int.toNat_natCast, toNat_sub1, toNat_add1, decide_true, decide_false, Bool.not_true, Bool.not_false, if_true, if_false, Bool.false_eq_true, reduceCtorEq, hlt', r_ld hc, hx]
    rw [ho, hd]
    exact ⟨rfl, by first | rfl | trivial⟩

/-- Reading order. -/
def cmpZ (p q : C2) : Int := orI [cmpI p.2 q.2, cmpI p.1 q.1]

theorem bs31_2 (x y : Int) (w : World) (K : Value → World → Prop) : bsW Tryd.prog 31 2 [(0, .int .i64 x), (1, .int .i64 y)] w K = K (.slice (some ⟨w.heap.size, 0, none⟩) 2 2) (w.alloc (.cells #[.int .i64 x, .int .i64 y] 3)) := by kernel_rfl

theorem rd_two {w : World} {b : Nat} {x y : Int} {t : TypeId} (h : w.heap[b]? = some (.cells #[.int .i64 x, .int .i64 y] t (0, 0))) : RdInts w (.slice (some ⟨b, 0, none⟩) 2 2) [x, y] := by
  refine ⟨_, _, rfl, ⟨by simp, by simp⟩, fun _ => ⟨b, 0, rfl, fun i hi => ?_⟩⟩
  rw [cell_row h]
  have hi : i < 2 := hi
  match i, hi with
  | 0, _ => rfl
  | 1, _ => rfl

end Go.Proofs.YtbekeccfjmoonaaDoor

/- Keys of maps: cells, states, integers. -/
namespace Go.Proofs.YtbekeccfjmoonaaDoor
open Go.Lf Go.RowKit Go.Ht

theorem laid : laidOutB Tryd.prog = true := by kernel_rfl
def i64B (n : Int) : Prop := -9223372036854775808 ≤ n ∧ n ≤ 9223372036854775807
theorem i64_wf {n : Int} (h : i64B n) : (Lit.int .i64 n).wf = true := by
  have e1 : IntKind.i64.min = -9223372036854775808 := by decide
  have e2 : IntKind.i64.max = 9223372036854775807 := by decide
  simpa [i64B, Lit.wf, e1, e2] using h
def okC (c : C2) : Prop := i64B c.1 ∧ i64B c.2
theorem cells43 : Tryd.prog.cellsOf 43 = 2 := by kernel_rfl
theorem cells72 : Tryd.prog.cellsOf 72 = 2 := by kernel_rfl
theorem cells3 : Tryd.prog.cellsOf 3 = 1 := by kernel_rfl
theorem sizeT : ∃ m, Tryd.prog.types.size = m + 1 := ⟨Tryd.prog.types.size - 1, by kernel_rfl⟩
theorem key43 {x y : Int} (hx : (Lit.int .i64 x).wf = true) (hy : (Lit.int .i64 y).wf = true) : keyOf Tryd.prog 43 (cV (x, y)) = some (.string (keyBytes [.int .i64 x, .int .i64 y])) := by
  have hkt : Tryd.prog.keyType 43 = true := by kernel_rfl
  obtain ⟨m, hm⟩ := sizeT
  unfold keyOf
  simp only [Tryd.underlying43]
  rw [if_pos (by simp [hkt, Value.formed, Tryd.underlying43, cells43]), hm]
  unfold Program.keyLits
  simp only [Tryd.underlying43, Value.cells]
  rw [if_pos ⟨by rw [cells43]; rfl, by kernel_rfl⟩]
  simp [Program.keyLits, Tryd.underlying3, cells3, hx, hy]
theorem key72 {x y : Int} (hx : (Lit.int .i64 x).wf = true) (hy : (Lit.int .i64 y).wf = true) : keyOf Tryd.prog 72 (cV (x, y)) = some (.string (keyBytes [.int .i64 x, .int .i64 y])) := by
  have hkt : Tryd.prog.keyType 72 = true := by kernel_rfl
  obtain ⟨m, hm⟩ := sizeT
  unfold keyOf
  simp only [Tryd.underlying72]
  rw [if_pos (by simp [hkt, Value.formed, Tryd.underlying72, cells72]), hm]
  unfold Program.keyLits
  simp only [Tryd.underlying72, Value.cells]
  rw [if_pos ⟨by rw [cells72]; rfl, by kernel_rfl⟩]
  simp [Program.keyLits, Tryd.underlying3, cells3, hx, hy]
theorem row43 : (43 : TypeId) < Tryd.prog.types.size := of_decide_eq_true (by kernel_rfl)
theorem row72 : (72 : TypeId) < Tryd.prog.types.size := of_decide_eq_true (by kernel_rfl)
theorem wide43 : (match Tryd.prog.underlying 43 with | some (.array _ _) | some (.struct _) => true | _ => false) = true := by rw [Tryd.underlying43]
theorem wide72 : (match Tryd.prog.underlying 72 with | some (.array _ _) | some (.struct _) => true | _ => false) = true := by rw [Tryd.underlying72]
set_option maxRecDepth 100000 in
theorem keyed43 : Maps.Keyed Tryd.prog 43 := Maps.Keyed.of_law (deep_law_laid laid (m := 2) (by omega) row43 (by kernel_rfl) wide43)
set_option maxRecDepth 100000 in
theorem keyed72 : Maps.Keyed Tryd.prog 72 := Maps.Keyed.of_law (deep_law_laid laid (m := 2) (by omega) row72 (by kernel_rfl) wide72)
theorem cV_inj {a b : C2} (h : cV a = cV b) : a = b := by
  injection h with h
  have := congrArg Array.toList h
  simp at this
  exact Prod.ext this.1 this.2
theorem keyC : KeyE 43 cV okC := ⟨keyed43, fun {k} h => ⟨_, key43 (i64_wf h.1) (i64_wf h.2)⟩, cV_inj⟩
theorem keyS : KeyE 72 cV okC := ⟨keyed72, fun {k} h => ⟨_, key72 (i64_wf h.1) (i64_wf h.2)⟩, cV_inj⟩
theorem und87 : Tryd.prog.underlying 87 = some (.map 43 43) := by kernel_rfl
theorem und79 : Tryd.prog.underlying 79 = some (.map 43 4) := by kernel_rfl
theorem und66 : Tryd.prog.underlying 66 = some (.map 72 3) := by kernel_rfl
theorem und53 : Tryd.prog.underlying 53 = some (.map 43 3) := by kernel_rfl
theorem zero43 (w : World) : (zeroValue 43).run Tryd.prog w = .ok (cV (0, 0)) w := by kernel_rfl
theorem zero4 (w : World) : (zeroValue 4).run Tryd.prog w = .ok (.bool false) w := by kernel_rfl
theorem zero3 (w : World) : (zeroValue 3).run Tryd.prog w = .ok (.int .i64 0) w := by kernel_rfl

end Go.Proofs.YtbekeccfjmoonaaDoor
