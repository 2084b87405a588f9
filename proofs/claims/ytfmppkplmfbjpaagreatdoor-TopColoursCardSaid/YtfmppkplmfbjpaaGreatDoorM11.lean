/- Texts of my own, merged by program: Tx Ky. -/
import Derived.Test.YtfmppkplmfbjpaaGreatDoorM10
import Derived.Laws.StructEq
import Derived.DeepKeys4
set_option linter.all false
/- Small pieces of wip/T's Td, Te, Tf, Tg. -/
namespace Go.Proofs.YtfmppkplmfbjpaaGreatDoor
open Go.Lf Go.RowKit Go.Ht

def stepC (c s : C2) : C2 := (c.1 + s.1, c.2 + s.2)

theorem eqs2_bool (p q : Int × Int) : (p.1 == q.1 && p.2 == q.2) = decide (p = q) := by
  obtain ⟨a, b⟩ := p
  obtain ⟨a', b'⟩ := q
  by_cases h1 : a = a' <;> by_cases h2 : b = b' <;> simp [h1, h2]

set_option maxRecDepth 100000 in
theorem eqs43 (a b a' b' : Int) (w : World) : (Op.equalIn 10000 100 (cV (a, b)) (cV (a', b'))).run Tryz.prog w = .ok (a == a' && b == b') w := by
  have u3 := Tryz.underlying3
  have a3 := Tryz.isAgg3
  have z3 := Tryz.sizeOf3
  have hS : Tryz.prog.underlying 100 = some (.struct (Tryz.prog.fieldsOf 100)) := by kernel_rfl
  have hp : Tryz.prog.stoodInHeld 100 = false := by kernel_rfl
  rw [show (10000 : Nat) = 9999 + 1 from rfl, run_equalIn_agg w 9999 100 _ _ hS hp]
  simp only [Program.fieldsOf, Tryz.underlying100]
  go_simp
  by_cases h1 : a = a' <;> by_cases h2 : b = b' <;> simp [h1, h2]

set_option maxRecDepth 100000 in
theorem r_eq43 {w : World} {lit : Bool} (p q : Int × Int) (K : Value → Prop) : binQ Tryz.prog w .eql 100 lit (cV p) (cV q) K = K (.bool (decide (p = q))) := by
  have hg : Tryz.prog.eqGuardType Tryz.prog.depth 100 = false := by kernel_rfl
  have hrun : ∀ w, (semBin .eql 100 lit (cV p) (cV q)).run Tryz.prog w = .ok (.value (.bool (decide (p = q)))) w := fun w => by
    unfold semBin
    have := eqs43 p.1 p.2 q.1 q.2 w
    rw [eqs2_bool] at this
    simp [run_eqGuard_agg w _ _ _ _ _ _ hg, run_eql_struct, this]
  refine propext ⟨?_, fun h => ⟨_, fun w' _ => hrun w', h⟩⟩
  rintro ⟨v, hv, hk⟩
  have h1 := hv w (Below.refl _ _)
  rw [hrun] at h1
  injection h1 with h1 _
  injection h1 with h1
  rw [h1]; exact hk

theorem filter_mono {α : Type} {p q : α → Bool} : ∀ {L : List α}, (∀ x ∈ L, p x = true → q x = true) → (L.filter p).length ≤ (L.filter q).length
  | [], _ => Nat.le_refl _
  | a :: L, h => by
    have ih := filter_mono (L := L) fun x hx => h x (List.mem_cons_of_mem _ hx)
    rw [List.filter_cons, List.filter_cons]
    by_cases hp : p a = true
    · rw [if_pos hp, if_pos (h a (List.mem_cons_self ..) hp)]; simp only [List.length_cons]; omega
    · rw [if_neg hp]
      split
      · simp only [List.length_cons]; omega
      · exact ih

theorem filter_less {α : Type} {p q : α → Bool} {y : α} : ∀ {L : List α}, (∀ x ∈ L, p x = true → q x = true) → y ∈ L → p y = false → q y = true → (L.filter p).length < (L.filter q).length
  | [], _, hy, _, _ => by cases hy
  | a :: L, h, hy, h1, h2 => by
    have hm := filter_mono (L := L) fun x hx => h x (List.mem_cons_of_mem _ hx)
    rw [List.filter_cons, List.filter_cons]
    by_cases e : a = y
    · subst e
      rw [if_neg (by rw [h1]; simp), if_pos h2]; simp only [List.length_cons]; omega
    · have hy' : y ∈ L := by rcases List.mem_cons.1 hy with q | q; exact absurd q.symm e; exact q
      have ih := filter_less (L := L) (fun x hx => h x (List.mem_cons_of_mem _ hx)) hy' h1 h2
      by_cases hp : p a = true
      · rw [if_pos hp, if_pos (h a (List.mem_cons_self ..) hp)]; simp only [List.length_cons]; omega
      · rw [if_neg hp]
        split
        · simp only [List.length_cons]; omega
        · exact ih

theorem BX.of_chg {X S : Nat → Prop} {w w' : World} (h : Chg S w w') (hs : ∀ k, S k → X k) : BX X w w' := ⟨h.os, h.tape, h.output, h.size, fun k hk hx => h.block k hk fun q => hx (hs k q)⟩

theorem r_joinW {F : (World → Prop) → Prop} {k : World → Prop} (J : World → Prop) (hk : ∀ w, J w → k w) (hF : ∀ k' : World → Prop, (∀ w, J w → k' w) → F k') : Join F k := hF k hk

theorem r_mm {w : World} {K : Value → World → Prop} (h : K (.map (some w.heap.size)) (w.alloc (.map #[] 0))) : mmW w K := h

theorem neq_self (x : Int) (w : World) : Calls Tryz.prog 106 #[.int .i64 x] w fun e w' => e = .returned (.bool false) ∧ w = w' := by
  refine lift106 ?_
  unfold S106
  simp only [r_ln, r_pick, r_pickT, r_pickF, r_condT, r_condF, r_gdTT, r_gdFF, r_gdTF, r_gdFT, r_gqTT, r_gqFF, r_gqTF, r_gqFT, r_not, r_lss, r_leq, r_gtr, r_geq, r_eql, r_neq, r_add, r_sub, r_min2, r_max2, r_min3, r_max3, r_fa, r_iaS, r_iaA, r_ex2a, r_ex2b, r_ex3a, r_ex3b, r_ex3c, r_nc, r_keepE, Nat.zero_add, Nat.add_zero, Nat.mul_one, Int.toNat_natCast, toNat_sub1, toNat_add1, decide_true, decide_false, Bool.not_true, Bool.not_false, if_true, if_false, Bool.false_eq_true, reduceCtorEq]
  exact ⟨trivial, trivial⟩

def cmpI (x y : Int) : Int := if x < y then -1 else if y < x then 1 else 0

theorem cmp_calls (x y : Int) (w : World) : Calls Tryz.prog 101 #[.int .i64 x, .int .i64 y] w fun e w' => e = .returned (.int .i64 (cmpI x y)) ∧ w = w' := by
  refine lift101 ?_
  unfold S101
  refine r_use fok106 (neq_self x w) rfl ?_
  rintro _ _ ⟨rfl, rfl⟩
  refine ⟨_, rfl, ?_⟩
  refine r_use fok106 (neq_self y w) rfl ?_
  rintro _ _ ⟨rfl, rfl⟩
  refine ⟨_, rfl, ?_⟩
  by_cases h1 : x < y
  · simp only [r_ln, r_pick, r_pickT, r_pickF, r_condT, r_condF, r_gdTT, r_gdFF, r_gdTF, r_gdFT, r_gqTT, r_gqFF, r_gqTF, r_gqFT, r_not, r_lss, r_leq, r_gtr, r_geq, r_eql, r_neq, r_add, r_sub, r_min2, r_max2, r_min3, r_max3, r_fa, r_iaS, r_iaA, r_ex2a, r_ex2b, r_ex3a, r_ex3b, r_ex3c, r_nc, r_keepE, Nat.zero_add, Nat.add_zero, Nat.mul_one, Int.toNat_natCast, toNat_sub1, toNat_add1, decide_true, decide_false, Bool.not_true, Bool.not_false, if_true, if_false, Bool.false_eq_true, reduceCtorEq, h1]
    exact ⟨by simp [cmpI, h1], trivial⟩
  by_cases h2 : y < x
  · simp only [r_ln, r_pick, r_pickT, r_pickF, r_condT, r_condF, r_gdTT, r_gdFF, r_gdTF, r_gdFT, r_gqTT, r_gqFF, r_gqTF, r_gqFT, r_not, r_lss, r_leq, r_gtr, r_geq, r_eql, r_neq, r_add, r_sub, r_min2, r_max2, r_min3, r_max3, r_fa, r_iaS, r_iaA, r_ex2a, r_ex2b, r_ex3a, r_ex3b, r_ex3c, r_nc, r_keepE, Nat.zero_add, Nat.add_zero, Nat.mul_one, Int.toNat_natCast, toNat_sub1, toNat_add1, decide_true, decide_false, Bool.not_true, Bool.not_false, if_true, if_false, Bool.false_eq_true, reduceCtorEq, h1, h2]
    exact ⟨by simp [cmpI, h1, h2], trivial⟩
  simp only [r_ln, r_pick, r_pickT, r_pickF, r_condT, r_condF, r_gdTT, r_gdFF, r_gdTF, r_gdFT, r_gqTT, r_gqFF, r_gqTF, r_gqFT, r_not, r_lss, r_leq, r_gtr, r_geq, r_eql, r_neq, r_add, r_sub, r_min2, r_max2, r_min3, r_max3, r_fa, r_iaS, r_iaA, r_ex2a, r_ex2b, r_ex3a, r_ex3b, r_ex3c, r_nc, r_keepE, Nat.zero_add, Nat.add_zero, Nat.mul_one, Int.toNat_natCast, toNat_sub1, toNat_add1, decide_true, decide_false, Bool.not_true, Bool.not_false, if_true, if_false, Bool.false_eq_true, reduceCtorEq, h1, h2]
  exact ⟨by simp [cmpI, h1, h2], trivial⟩

def orI : List Int → Int
  | [] => 0
  | x :: l => if x = 0 then orI l else x

set_option maxRecDepth 100000 in
theorem or_calls (v : Value) (l : List Int) (w : World) (h : RdInts w v l) : Calls Tryz.prog 100 #[v] w fun e w' => e = .returned (.int .i64 (orI l)) ∧ w = w' := by
  obtain ⟨a, cap, rfl, hlen⟩ := h.len
  refine lift100 ?_
  unfold S100 S100L0
  simp (disch := omega) only [r_ln, r_pick, r_pickT, r_pickF, r_condT, r_condF, r_gdTT, r_gdFF, r_gdTF, r_gdFT, r_gqTT, r_gqFF, r_gqTF, r_gqFT, r_not, r_lss, r_leq, r_gtr, r_geq, r_eql, r_neq, r_add, r_sub, r_min2, r_max2, r_min3, r_max3, r_fa, r_iaS, r_iaA, r_ex2a, r_ex2b, r_ex3a, r_ex3b, r_ex3c, r_nc, r_keepE, Nat.zero_add, Nat.add_zero, Nat.mul_one, Int.toNat_natCast, toNat_sub1, toNat_add1, decide_true, decide_false, Bool.not_true, Bool.not_false, if_true, if_false, Bool.false_eq_true, reduceCtorEq]
  refine ⟨fun t8 wr => ∃ j : Nat, j ≤ l.length ∧ t8 = .int .i64 j ∧ orI l = orI (l.drop j) ∧ w = wr, fun t8 _ => l.length - (intOf t8).toNat, ⟨0, by omega, rfl, rfl, rfl⟩, ?_⟩
  rintro _ _ _ ⟨j, hj, rfl, ho, rfl⟩
  by_cases hlt : j < l.length
  case neg =>
    have hlt' : ¬ (j : Int) < (l.length : Int) := by omega
    simp (disch := omega) only [r_ln, r_pick, r_pickT, r_pickF, r_condT, r_condF, r_gdTT, r_gdFF, r_gdTF, r_gdFT, r_gqTT, r_gqFF, r_gqTF, r_gqFT, r_not, r_lss, r_leq, r_gtr, r_geq, r_eql, r_neq, r_add, r_sub, r_min2, r_max2, r_min3, r_max3, r_fa, r_iaS, r_iaA, r_ex2a, r_ex2b, r_ex3a, r_ex3b, r_ex3c, r_nc, r_keepE, Nat.zero_add, Nat.add_zero, Nat.mul_one, Int.toNat_natCast, toNat_sub1, toNat_add1, decide_true, decide_false, Bool.not_true, Bool.not_false, if_true, if_false, Bool.false_eq_true, reduceCtorEq, hlt']
    rw [ho, List.drop_eq_nil_of_le (by omega)]
    exact ⟨rfl, by first | rfl | trivial⟩
  have hlt' : (j : Int) < (l.length : Int) := by omega
  obtain ⟨b, off, cap', e1, hc⟩ := h.at hlt
  cases e1
  have hd : orI (l.drop j) = if l.getD j 0 = 0 then orI (l.drop (j + 1)) else l.getD j 0 := by
    rw [List.drop_eq_getElem_cons hlt, orI, getD_lt _ _ _ hlt]
  by_cases hx : l.getD j 0 = 0
  · rw [if_pos hx] at hd
    simp (disch := omega) only [r_ln, r_pick, r_pickT, r_pickF, r_condT, r_condF, r_gdTT, r_gdFF, r_gdTF, r_gdFT, r_gqTT, r_gqFF, r_gqTF, r_gqFT, r_not, r_lss, r_leq, r_gtr, r_geq, r_eql, r_neq, r_add, r_sub, r_min2, r_max2, r_min3, r_max3, r_fa, r_iaS, r_iaA, r_ex2a, r_ex2b, r_ex3a, r_ex3b, r_ex3c, r_nc, r_keepE, Nat.zero_add, Nat.add_zero, Nat.mul_one, Int.toNat_natCast, toNat_sub1, toNat_add1, decide_true, decide_false, Bool.not_true, Bool.not_false, if_true, if_false, Bool.false_eq_true, reduceCtorEq, hlt', r_ld hc, decide_eq_true hx]
    exact ⟨⟨j + 1, by omega, by go_num, by rw [ho, hd], by first | rfl | trivial⟩, by simp only [intOf]; omega⟩
  · rw [if_neg hx] at hd
    simp (disch := omega) only [r_ln, r_pick, r_pickT, r_pickF, r_condT, r_condF, r_gdTT, r_gdFF, r_gdTF, r_gdFT, r_gqTT, r_gqFF, r_gqTF, r_gqFT, r_not, r_lss, r_leq, r_gtr, r_geq, r_eql, r_neq, r_add, r_sub, r_min2, r_max2, r_min3, r_max3, r_fa, r_iaS, r_iaA, r_ex2a, r_ex2b, r_ex3a, r_ex3b, r_ex3c, r_nc, r_keepE, Nat.zero_add, Nat.add_zero, Nat.mul_one, Int.toNat_natCast, toNat_sub1, toNat_add1, decide_true, decide_false, Bool.not_true, Bool.not_false, if_true, if_false, Bool.false_eq_true, reduceCtorEq, hlt', r_ld hc, hx]
    rw [ho, hd]
    exact ⟨rfl, by first | rfl | trivial⟩

/-- Reading order. -/
def cmpZ (p q : C2) : Int := orI [cmpI p.2 q.2, cmpI p.1 q.1]

theorem bs31_2 (x y : Int) (w : World) (K : Value → World → Prop) : bsW Tryz.prog 34 2 [(0, .int .i64 x), (1, .int .i64 y)] w K = K (.slice (some ⟨w.heap.size, 0, none⟩) 2 2) (w.alloc (.cells #[.int .i64 x, .int .i64 y] 3)) := by kernel_rfl

theorem rd_two {w : World} {b : Nat} {x y : Int} {t : TypeId} (h : w.heap[b]? = some (.cells #[.int .i64 x, .int .i64 y] t (0, 0))) : RdInts w (.slice (some ⟨b, 0, none⟩) 2 2) [x, y] := by
  refine ⟨_, _, rfl, ⟨by simp, by simp⟩, fun _ => ⟨b, 0, rfl, fun i hi => ?_⟩⟩
  rw [cell_row h]
  have hi : i < 2 := hi
  match i, hi with
  | 0, _ => rfl
  | 1, _ => rfl

end Go.Proofs.YtfmppkplmfbjpaaGreatDoor

/- Keys of maps: cells, states, integers. -/
namespace Go.Proofs.YtfmppkplmfbjpaaGreatDoor
open Go.Lf Go.RowKit Go.Ht

theorem laid : laidOutB Tryz.prog = true := by kernel_rfl
def i64B (n : Int) : Prop := -9223372036854775808 ≤ n ∧ n ≤ 9223372036854775807
theorem i64_wf {n : Int} (h : i64B n) : (Lit.int .i64 n).wf = true := by
  have e1 : IntKind.i64.min = -9223372036854775808 := by decide
  have e2 : IntKind.i64.max = 9223372036854775807 := by decide
  simpa [i64B, Lit.wf, e1, e2] using h
def okC (c : C2) : Prop := i64B c.1 ∧ i64B c.2
theorem cells43 : Tryz.prog.cellsOf 100 = 2 := by kernel_rfl
theorem cells72 : Tryz.prog.cellsOf 126 = 2 := by kernel_rfl
theorem cells3 : Tryz.prog.cellsOf 3 = 1 := by kernel_rfl
theorem sizeT : ∃ m, Tryz.prog.types.size = m + 1 := ⟨Tryz.prog.types.size - 1, by kernel_rfl⟩
theorem key43 {x y : Int} (hx : (Lit.int .i64 x).wf = true) (hy : (Lit.int .i64 y).wf = true) : keyOf Tryz.prog 100 (cV (x, y)) = some (.string (keyBytes [.int .i64 x, .int .i64 y])) := by
  have hkt : Tryz.prog.keyType 100 = true := by kernel_rfl
  obtain ⟨m, hm⟩ := sizeT
  unfold keyOf
  simp only [Tryz.underlying100]
  rw [if_pos (by simp [hkt, Value.formed, Tryz.underlying100, cells43]), hm]
  unfold Program.keyLits
  simp only [Tryz.underlying100, Value.cells]
  rw [if_pos ⟨by rw [cells43]; rfl, by kernel_rfl⟩]
  simp [Program.keyLits, Tryz.underlying3, cells3, hx, hy]
theorem key72 {x y : Int} (hx : (Lit.int .i64 x).wf = true) (hy : (Lit.int .i64 y).wf = true) : keyOf Tryz.prog 126 (cV (x, y)) = some (.string (keyBytes [.int .i64 x, .int .i64 y])) := by
  have hkt : Tryz.prog.keyType 126 = true := by kernel_rfl
  obtain ⟨m, hm⟩ := sizeT
  unfold keyOf
  simp only [Tryz.underlying126]
  rw [if_pos (by simp [hkt, Value.formed, Tryz.underlying126, cells72]), hm]
  unfold Program.keyLits
  simp only [Tryz.underlying126, Value.cells]
  rw [if_pos ⟨by rw [cells72]; rfl, by kernel_rfl⟩]
  simp [Program.keyLits, Tryz.underlying3, cells3, hx, hy]
theorem row43 : (100 : TypeId) < Tryz.prog.types.size := of_decide_eq_true (by kernel_rfl)
theorem row72 : (126 : TypeId) < Tryz.prog.types.size := of_decide_eq_true (by kernel_rfl)
theorem wide43 : (match Tryz.prog.underlying 100 with | some (.array _ _) | some (.struct _) => true | _ => false) = true := by rw [Tryz.underlying100]
theorem wide72 : (match Tryz.prog.underlying 126 with | some (.array _ _) | some (.struct _) => true | _ => false) = true := by rw [Tryz.underlying126]
set_option maxRecDepth 100000 in
theorem keyed43 : Maps.Keyed Tryz.prog 100 := Maps.Keyed.of_law (deep_law_laid laid (m := 2) (by omega) row43 (by kernel_rfl) wide43)
set_option maxRecDepth 100000 in
theorem keyed72 : Maps.Keyed Tryz.prog 126 := Maps.Keyed.of_law (deep_law_laid laid (m := 2) (by omega) row72 (by kernel_rfl) wide72)
theorem cV_inj {a b : C2} (h : cV a = cV b) : a = b := by
  injection h with h
  have := congrArg Array.toList h
  simp at this
  exact Prod.ext this.1 this.2
theorem keyC : KeyE 100 cV okC := ⟨keyed43, fun {k} h => ⟨_, key43 (i64_wf h.1) (i64_wf h.2)⟩, cV_inj⟩
theorem keyS : KeyE 126 cV okC := ⟨keyed72, fun {k} h => ⟨_, key72 (i64_wf h.1) (i64_wf h.2)⟩, cV_inj⟩
theorem und66 : Tryz.prog.underlying 120 = some (.map 126 3) := by kernel_rfl
theorem und53 : Tryz.prog.underlying 134 = some (.map 100 3) := by kernel_rfl
theorem zero43 (w : World) : (zeroValue 100).run Tryz.prog w = .ok (cV (0, 0)) w := by kernel_rfl
theorem zero4 (w : World) : (zeroValue 4).run Tryz.prog w = .ok (.bool false) w := by kernel_rfl
theorem zero3 (w : World) : (zeroValue 3).run Tryz.prog w = .ok (.int .i64 0) w := by kernel_rfl

end Go.Proofs.YtfmppkplmfbjpaaGreatDoor
