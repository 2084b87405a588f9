/- Contract: below, the rows that can be under a row. -/
import Derived.Test.YtaephdjmpmbfpaaD1
import Derived.Test.YtaephdjmpmbfpaaBel
import Derived.Test.YtaephdjmpmbfpaaC3
set_option linter.all false
namespace Go.Proofs.Ytaephdjmpmbfpaa
open Go.Lf Go.RowKit Go.Hp

abbrev ptrV (b : Nat) : Value := .pointer (some ⟨b, 0, none⟩)

theorem slt83 : SlT 83 80 4 32 := SlT.mk' (z := rowV [0, 0, 0, 0]) (by kernel_rfl) (by kernel_rfl) rfl (by decide)
theorem bs83' (a b c d : Int) (w : World) (K : Value → World → Prop) : bsW Try.prog 83 1 [(0, rowV [a, b, c, d])] w K = K (.slice (some ⟨w.heap.size, 0, none⟩) 1 1) (w.alloc (.cells (rowV [a, b, c, d]).cells 80)) := by kernel_rfl
theorem bs83 {r : List Int} (h : r.length = 4) (w : World) (K : Value → World → Prop) : bsW Try.prog 83 1 [(0, rowV r)] w K = K (.slice (some ⟨w.heap.size, 0, none⟩) 1 1) (w.alloc (.cells (rowV r).cells 80)) := by
  match r, h with
  | [a, b, c, d], _ => exact bs83' a b c d w K

structure BelSt (base bb bo br bab bat : Nat) (A C : Int) (B : Nat) (ab r : List Int) (rows : List (List Int)) (w : World) : Prop where
  box : w.heap[bb]? = some (.cells (boxV A B C).cells 25 (0, 0))
  abv : w.heap[bab]? = some (.cells (intCells ab).toArray 80 (0, 0))
  fn : w.heap[bat]? = some (.cells #[.func (.func 84) #[] #[ptrV bb, ptrV bo, ptrV br, ptrV bab, ptrV bat]] 102 (0, 0))
  row : w.heap[br]? = some (.cells (intCells r).toArray 80 (0, 0))
  out : ∃ v, w.heap[bo]? = some (.cells #[v] 83 (0, 0)) ∧ w.ownsRow base 80 4 v rows.length (rows.flatMap intCells)
  size : base ≤ w.heap.size

structure BelNo (base bb bo br bab bat : Nat) : Prop where
  lt : bb < base ∧ bo < base ∧ br < base ∧ bab < base ∧ bat < base
  ne : bo ≠ br ∧ bb ≠ bo ∧ bb ≠ br ∧ bab ≠ bo ∧ bab ≠ br ∧ bat ≠ bo ∧ bat ≠ br

theorem BelSt.setRow {base bb bo br bab bat : Nat} {A C : Int} {B : Nat} {ab r : List Int} {rows : List (List Int)} {w : World} (s : BelSt base bb bo br bab bat A C B ab r rows w) (no : BelNo base bb bo br bab bat) (j : Nat) (x : Int) :
    BelSt base bb bo br bab bat A C B ab (r.set j x) rows (w.setCell ⟨br, j, none⟩ (.int .i64 x)) := by
  have hc : Chg (fun k => k = br) w (w.setCell ⟨br, j, none⟩ (.int .i64 x)) := Chg.setCell _ _ rfl
  obtain ⟨h1, h2, h3, h4, h5⟩ := no.lt
  obtain ⟨n1, n2, n3, n4, n5, n6, n7⟩ := no.ne
  obtain ⟨v, o1, o2⟩ := s.out
  refine ⟨hc.at s.box n3, hc.at s.abv n5, hc.at s.fn n7, row_set s.row rfl, ⟨v, hc.at o1 n1, owns_chg o2 hc fun k hk e => ?_⟩, by rw [setCell_size]; exact s.size⟩
  subst e
  rcases o2.2 with ⟨rfl, _⟩ | ⟨g, cap, cur, rfl, hb, _⟩
  · simp [Value.ownBlock] at hk
  · simp [Value.ownBlock] at hk; omega

abbrev BelS (base bo br : Nat) : Nat → Prop := fun k => k = bo ∨ k = br ∨ base ≤ k

def cellInt (w : World) (a : Addr) : Int := match w.cell? a with | some (.int _ x) => x | _ => 0

theorem owned_nonneg {w : World} {base n size : Nat} {e : TypeId} {v : Value} {xs : List Value} (h : w.ownsRow base e size v n xs) : v.cells = #[v] ∧ v.oneCell' = true := by
  rcases h.2 with ⟨rfl, _⟩ | ⟨g, cap, cur, rfl, _⟩ <;> exact ⟨rfl, rfl⟩

theorem owned_block {w : World} {base n size k : Nat} {e : TypeId} {v : Value} {xs : List Value} (h : w.ownsRow base e size v n xs) (hk : v.ownBlock = some k) : base ≤ k := by
  rcases h.2 with ⟨rfl, _⟩ | ⟨g, cap, cur, rfl, hb, _⟩
  · simp [Value.ownBlock] at hk
  · simp [Value.ownBlock] at hk; omega

set_option maxRecDepth 100000 in
theorem at_calls {base bb bo br bab bat : Nat} {A C : Int} {B : Nat} {ab : List Int} (no : BelNo base bb bo br bab bat) (hB : B ≤ 4) (hab : ab.length = 4) (hbd : ∀ k, ab.getD k 0 ≤ 1000000) :
    ∀ (n j : Nat) (r : List Int) (rows : List (List Int)) (w : World), j + n = B → r.length = 4 → (∀ k, j ≤ k → r.getD k 0 = 0) → rows.length + (bel ab n j r).length ≤ 1000000 → BelSt base bb bo br bab bat A C B ab r rows w →
      Calls Try.prog 84 #[.int .i64 j, ptrV bb, ptrV bo, ptrV br, ptrV bab, ptrV bat] w fun e w' => e = .returned (.tuple #[]) ∧ BelSt base bb bo br bab bat A C B ab r (rows ++ bel ab n j r) w' ∧ Chg (BelS base bo br) w w' := by
  obtain ⟨l1, l2, l3, l4, l5⟩ := no.lt
  obtain ⟨n1, n2, n3, n4, n5, n6, n7⟩ := no.ne
  intro n
  induction n with
  | zero =>
    intro j r rows w hj hr hz hlen s
    refine lift84 ?_
    unfold S84
    obtain ⟨c0, c1, c2⟩ := box3 s.box
    have e : (j : Int) = B := by omega
    obtain ⟨v, o1, o2⟩ := s.out
    have cv : w.cell? ⟨bo, 0, none⟩ = some v := by rw [cell_row o1]; rfl
    simp (disch := omega) only [r_ln, r_pick, r_pickT, r_pickF, r_condT, r_condF, r_gdTT, r_gdFF, r_gdTF, r_gdFT, r_gqTT, r_gqFF, r_gqTF, r_gqFT, r_not, r_lss, r_leq, r_gtr, r_geq, r_eql, r_neq, r_add, r_sub, r_min2, r_max2, r_min3, r_max3, r_fa, r_iaS, r_iaA, r_ex2a, r_ex2b, r_ex3a, r_ex3b, r_ex3c, r_nc, r_keepE, Nat.zero_add, Nat.add_zero, Nat.mul_one, Int.toNat_natCast, toNat_sub1, toNat_add1, decide_true, decide_false, Bool.not_true, Bool.not_false, if_true, if_false, Bool.false_eq_true, reduceCtorEq, r_ld c1, e, r_ld cv, r_ldRow (n := 4) s.row (by simp [intCells, hr])]
    simp only [bel, List.length_singleton] at hlen
    refine r_push slt83 (bs83 hr w) (by simp [Value.cells, intCells, hr]) (rowV_one r) o2 (by omega) (by omega) s.size fun v' w' ho hg => ?_
    obtain ⟨hv1, hv2⟩ := owned_nonneg ho
    have hch : Chg (BelS base bo br) w w' := Chg.of_grown hg fun k hk => .inr (.inr (owned_block o2 hk))
    have hch2 : Chg (fun k => base ≤ k) w w' := Chg.of_grown hg fun k hk => owned_block o2 hk
    refine r_stAll (n := 1) (ty := 83) (cs := #[v]) (by kernel_rfl) (by rw [hv1]; rfl) (by rw [hv1]; intro u hu; simp at hu; subst hu; exact hv2) (hch2.at o1 (by omega)) rfl fun w5 hc5 hs5 hb5 => ?_
    have hb : ∀ {k : Nat} {o : Obj}, k < base → k ≠ bo → w.heap[k]? = some o → w5.heap[k]? = some o := fun h1 h2 h3 => hc5.at (hch2.at h3 (by omega)) h2
    refine ⟨trivial, ⟨hb l1 n2 s.box, hb l4 n4 s.abv, hb l5 n6 s.fn, hb l3 (Ne.symm n1) s.row, ⟨v', by rw [hb5, hv1], ?_⟩, by have := hg.size; have := s.size; omega⟩, hch.trans (hc5.mono fun _ _ h => .inl h)⟩
    have := owns_chg ho hc5 fun k hk e => by have := owned_block ho hk; omega
    have e2 : (rows.flatMap intCells ++ (rowV r).cells.toList) = (rows ++ [r]).flatMap intCells := by simp [Value.cells]
    rw [e2] at this
    simpa [bel] using this
  | succ n ih =>
    intro j r rows w hj hr hz hlen s
    refine lift84 ?_
    unfold S84
    obtain ⟨c0, c1, c2⟩ := box3 s.box
    have hjB : ¬ (j : Int) = B := by omega
    have hj4 : j < 4 := by omega
    have ca := row_cell (j := j) s.abv (by omega)
    simp (disch := omega) only [r_ln, r_pick, r_pickT, r_pickF, r_condT, r_condF, r_gdTT, r_gdFF, r_gdTF, r_gdFT, r_gqTT, r_gqFF, r_gqTF, r_gqFT, r_not, r_lss, r_leq, r_gtr, r_geq, r_eql, r_neq, r_add, r_sub, r_min2, r_max2, r_min3, r_max3, r_fa, r_iaS, r_iaA, r_ex2a, r_ex2b, r_ex3a, r_ex3b, r_ex3c, r_nc, r_keepE, Nat.zero_add, Nat.add_zero, Nat.mul_one, Int.toNat_natCast, toNat_sub1, toNat_add1, decide_true, decide_false, Bool.not_true, Bool.not_false, if_true, if_false, Bool.false_eq_true, reduceCtorEq, r_ld c1, hjB, r_ld ca]
    refine r_join1 (fun t7 w2 => t7 = .int .i64 (mostR ab r j) ∧ w = w2) ?_ ?_
    · rintro _ _ ⟨rfl, rfl⟩
      have cr := row_cell (j := j) s.row (by omega)
      rw [st3 cr (frozen_row s.row)]
      have hmb : mostR ab r j ≤ 1000000 := by
        have := hbd j
        unfold mostR
        split <;> omega
      have hsum : (bel ab (n + 1) j r) = (List.range (mostR ab r j + 1).toNat).flatMap fun (x : Nat) => bel ab n (j + 1) (r.set j (x : Int)) := rfl
      rw [hsum] at hlen ⊢
      generalize mostR ab r j = M at *
      refine ⟨fun wr => ∃ x : Nat, x ≤ (M + 1).toNat ∧ BelSt base bb bo br bab bat A C B ab (r.set j (x : Int)) (rows ++ (List.range x).flatMap fun (x : Nat) => bel ab n (j + 1) (r.set j (x : Int))) wr ∧ Chg (BelS base bo br) w wr,
        fun wr => (M + 1 - cellInt wr ⟨br, j, none⟩).toNat, ⟨0, by omega, by simpa using s.setRow no j 0, Chg.setCell _ _ (.inr (.inl rfl))⟩, ?_⟩
      rintro _ wr ⟨x, hx, sx, hch⟩
      have cx := row_cell (j := j) sx.row (by simp; omega)
      have ex : (r.set j (x : Int)).getD j 0 = x := by simp [List.getD_eq_getElem?_getD, List.getElem?_set_self (show j < r.length by omega)]
      rw [ex] at cx
      by_cases hle : (x : Int) ≤ M
      case neg =>
        simp (disch := omega) only [r_ln, r_pick, r_pickT, r_pickF, r_condT, r_condF, r_gdTT, r_gdFF, r_gdTF, r_gdFT, r_gqTT, r_gqFF, r_gqTF, r_gqFT, r_not, r_lss, r_leq, r_gtr, r_geq, r_eql, r_neq, r_add, r_sub, r_min2, r_max2, r_min3, r_max3, r_fa, r_iaS, r_iaA, r_ex2a, r_ex2b, r_ex3a, r_ex3b, r_ex3c, r_nc, r_keepE, Nat.zero_add, Nat.add_zero, Nat.mul_one, Int.toNat_natCast, toNat_sub1, toNat_add1, decide_true, decide_false, Bool.not_true, Bool.not_false, if_true, if_false, Bool.false_eq_true, reduceCtorEq, r_ld cx, hle]
        rw [st3 cx (frozen_row sx.row)]
        have := sx.setRow no j 0
        have hxM : x = (M + 1).toNat := by omega
        subst hxM
        have hset : ((r.set j (((M + 1).toNat : Nat) : Int)).set j 0) = r := by
          rw [List.set_set]
          have h0 := hz j (Nat.le_refl _)
          apply List.ext_getElem?
          intro i
          by_cases hi : i = j
          · subst hi
            rw [List.getElem?_set_self (by omega)]
            rw [getD_lt _ _ _ (by omega)] at h0
            rw [List.getElem?_eq_getElem (by omega), h0]
          · rw [List.getElem?_set_ne (Ne.symm hi)]
        rw [hset] at this
        exact ⟨trivial, this, hch.trans (Chg.setCell _ _ (.inr (.inl rfl)))⟩
      have cf : wr.cell? ⟨bat, 0, none⟩ = some (.func (.func 84) #[] #[ptrV bb, ptrV bo, ptrV br, ptrV bab, ptrV bat]) := by rw [cell_row sx.fn]; rfl
      simp (disch := omega) only [r_ln, r_pick, r_pickT, r_pickF, r_condT, r_condF, r_gdTT, r_gdFF, r_gdTF, r_gdFT, r_gqTT, r_gqFF, r_gqTF, r_gqFT, r_not, r_lss, r_leq, r_gtr, r_geq, r_eql, r_neq, r_add, r_sub, r_min2, r_max2, r_min3, r_max3, r_fa, r_iaS, r_iaA, r_ex2a, r_ex2b, r_ex3a, r_ex3b, r_ex3c, r_nc, r_keepE, Nat.zero_add, Nat.add_zero, Nat.mul_one, Int.toNat_natCast, toNat_sub1, toNat_add1, decide_true, decide_false, Bool.not_true, Bool.not_false, if_true, if_false, Bool.false_eq_true, reduceCtorEq, r_ld cx, hle, r_ld cf]
      have hl2 : ((List.range x).flatMap fun (x : Nat) => bel ab n (j + 1) (r.set j (x : Int))).length + (bel ab n (j + 1) (r.set j (x : Int))).length ≤ ((List.range (M + 1).toNat).flatMap fun (x : Nat) => bel ab n (j + 1) (r.set j (x : Int))).length := by
        have hs : (M + 1).toNat = (x + 1) + ((M + 1).toNat - (x + 1)) := by omega
        rw [hs, List.range_add, List.flatMap_append, List.range_succ, List.flatMap_append]
        simp
      refine r_use fok84 (ih (j + 1) (r.set j (x : Int)) _ wr (by omega) (by simpa using hr) (fun k hk => ?_) ?_ sx) rfl ?_
      · have := hz k (by omega)
        rwa [List.getD_eq_getElem?_getD, List.getElem?_set_ne (by omega), ← List.getD_eq_getElem?_getD]
      · simp only [List.length_append]; omega
      · rintro e w5 ⟨rfl, s5, hch5⟩
        refine ⟨_, rfl, ?_⟩
        have c5 := row_cell (j := j) s5.row (by simp; omega)
        rw [ex] at c5
        simp (disch := omega) only [r_ln, r_pick, r_pickT, r_pickF, r_condT, r_condF, r_gdTT, r_gdFF, r_gdTF, r_gdFT, r_gqTT, r_gqFF, r_gqTF, r_gqFT, r_not, r_lss, r_leq, r_gtr, r_geq, r_eql, r_neq, r_add, r_sub, r_min2, r_max2, r_min3, r_max3, r_fa, r_iaS, r_iaA, r_ex2a, r_ex2b, r_ex3a, r_ex3b, r_ex3c, r_nc, r_keepE, Nat.zero_add, Nat.add_zero, Nat.mul_one, Int.toNat_natCast, toNat_sub1, toNat_add1, decide_true, decide_false, Bool.not_true, Bool.not_false, if_true, if_false, Bool.false_eq_true, reduceCtorEq, r_ld c5]
        rw [st3 c5 (frozen_row s5.row)]
        have s6 := s5.setRow no j ((x : Int) + 1)
        rw [List.set_set] at s6
        refine ⟨⟨x + 1, by omega, ?_, (hch.trans hch5).trans (Chg.setCell _ _ (.inr (.inl rfl)))⟩, ?_⟩
        · rw [List.range_succ, List.flatMap_append, ← List.append_assoc]
          simpa using s6
        · have c6 := row_cell (j := j) s6.row (by simp; omega)
          have ex6 : (r.set j ((x : Int) + 1)).getD j 0 = x + 1 := by simp [List.getD_eq_getElem?_getD, List.getElem?_set_self (show j < r.length by omega)]
          rw [ex6] at c6
          simp only [cellInt, c6, cx]
          omega
    · intro k hk
      by_cases h0 : 0 < j
      · have h0' : (0 : Int) < j := by omega
        have cr := row_cell (j := j - 1) s.row (by omega)
        simp (disch := omega) only [r_ln, r_pick, r_pickT, r_pickF, r_condT, r_condF, r_gdTT, r_gdFF, r_gdTF, r_gdFT, r_gqTT, r_gqFF, r_gqTF, r_gqFT, r_not, r_lss, r_leq, r_gtr, r_geq, r_eql, r_neq, r_add, r_sub, r_min2, r_max2, r_min3, r_max3, r_fa, r_iaS, r_iaA, r_ex2a, r_ex2b, r_ex3a, r_ex3b, r_ex3c, r_nc, r_keepE, Nat.zero_add, Nat.add_zero, Nat.mul_one, Int.toNat_natCast, toNat_sub1, toNat_add1, decide_true, decide_false, Bool.not_true, Bool.not_false, if_true, if_false, Bool.false_eq_true, reduceCtorEq, h0', r_ld cr]
        exact hk _ _ ⟨by simp only [mostR, h0, if_true], rfl⟩
      · have h0' : ¬ (0 : Int) < j := by omega
        simp (disch := omega) only [r_ln, r_pick, r_pickT, r_pickF, r_condT, r_condF, r_gdTT, r_gdFF, r_gdTF, r_gdFT, r_gqTT, r_gqFF, r_gqTF, r_gqFT, r_not, r_lss, r_leq, r_gtr, r_geq, r_eql, r_neq, r_add, r_sub, r_min2, r_max2, r_min3, r_max3, r_fa, r_iaS, r_iaA, r_ex2a, r_ex2b, r_ex3a, r_ex3b, r_ex3c, r_nc, r_keepE, Nat.zero_add, Nat.add_zero, Nat.mul_one, Int.toNat_natCast, toNat_sub1, toNat_add1, decide_true, decide_false, Bool.not_true, Bool.not_false, if_true, if_false, Bool.false_eq_true, reduceCtorEq, h0']
        exact hk _ _ ⟨by simp only [mostR, h0, if_false], rfl⟩

set_option maxRecDepth 100000 in
theorem below_calls (A C : Int) (B : Nat) (ab : List Int) (w : World) (hB : B ≤ 4) (hab : ab.length = 4) (hbd : ∀ k, ab.getD k 0 ≤ 8) :
    Calls Try.prog 55 #[boxV A B C, rowV ab] w fun e w' => ∃ v, e = .returned v ∧ Kp w w' ∧ w'.ownsRow w.heap.size 80 4 v (belowM B ab).length ((belowM B ab).flatMap intCells) := by
  refine lift55 ?_
  unfold S55
  refine r_box fun b1 w1 e1 s1 h1 k1 => ?_
  refine r_box fun b2 w2 e2 s2 h2 k2 => ?_
  refine r_box fun b3 w3 e3 s3 h3 k3 => ?_
  refine r_box fun b4 w4 e4 s4 h4 k4 => ?_
  refine r_box fun b5 w5 e5 s5 h5 k5 => ?_
  refine r_stAll (n := 1) (ty := 102) (cs := #[.nilFunc]) (by kernel_rfl) rfl (by intro u hu; simp [Value.cells] at hu; subst hu; rfl) h5 rfl fun w6 c6 s6 h6 => ?_
  have cf : w6.cell? ⟨b5, 0, none⟩ = some (.func (.func 84) #[] #[ptrV b1, ptrV b3, ptrV b4, ptrV b2, ptrV b5]) := by rw [cell_row h6]; rfl
  simp (disch := omega) only [r_ln, r_pick, r_pickT, r_pickF, r_condT, r_condF, r_gdTT, r_gdFF, r_gdTF, r_gdFT, r_gqTT, r_gqFF, r_gqTF, r_gqFT, r_not, r_lss, r_leq, r_gtr, r_geq, r_eql, r_neq, r_add, r_sub, r_min2, r_max2, r_min3, r_max3, r_fa, r_iaS, r_iaA, r_ex2a, r_ex2b, r_ex3a, r_ex3b, r_ex3c, r_nc, r_keepE, Nat.zero_add, Nat.add_zero, Nat.mul_one, Int.toNat_natCast, toNat_sub1, toNat_add1, decide_true, decide_false, Bool.not_true, Bool.not_false, if_true, if_false, Bool.false_eq_true, reduceCtorEq, r_ld cf]
  have hcount : (belowM B ab).length ≤ 9 ^ 4 := Nat.le_trans (bel_count (m := 9) (fun j => by have := hbd j; omega) B 0 _) (Nat.pow_le_pow_right (by decide) hB)
  have hst : BelSt w6.heap.size b1 b3 b4 b2 b5 A C B ab [0, 0, 0, 0] [] w6 := by
    refine ⟨c6.at (block_below h1 (Kp.trans (Kp.trans k2 k3) (Kp.trans k4 k5))) (by omega), c6.at (block_below h2 (Kp.trans k3 (Kp.trans k4 k5))) (by omega), h6, c6.at (block_below h4 k5) (by omega), ⟨_, c6.at (block_below h3 (Kp.trans k4 k5)) (by omega), World.ownsRow_nil _ _ _ _⟩, Nat.le_refl _⟩
  refine r_use fok84 (at_calls ⟨by omega, by omega⟩ hB hab (fun k => by have := hbd k; omega) B 0 [0, 0, 0, 0] [] w6 (by omega) rfl (fun k _ => ?_) (by simp only [List.length_nil, Nat.zero_add]; exact Nat.le_trans hcount (by decide)) hst) rfl ?_
  · match k with
    | 0 => rfl
    | 1 => rfl
    | 2 => rfl
    | 3 => rfl
    | k + 4 => rfl
  rintro e w7 ⟨rfl, st, hch⟩
  refine ⟨_, rfl, ?_⟩
  obtain ⟨v, o1, o2⟩ := st.out
  have cv : w7.cell? ⟨b3, 0, none⟩ = some v := by rw [cell_row o1]; rfl
  simp (disch := omega) only [r_ln, r_pick, r_pickT, r_pickF, r_condT, r_condF, r_gdTT, r_gdFF, r_gdTF, r_gdFT, r_gqTT, r_gqFF, r_gqTF, r_gqFT, r_not, r_lss, r_leq, r_gtr, r_geq, r_eql, r_neq, r_add, r_sub, r_min2, r_max2, r_min3, r_max3, r_fa, r_iaS, r_iaA, r_ex2a, r_ex2b, r_ex3a, r_ex3b, r_ex3c, r_nc, r_keepE, Nat.zero_add, Nat.add_zero, Nat.mul_one, Int.toNat_natCast, toNat_sub1, toNat_add1, decide_true, decide_false, Bool.not_true, Bool.not_false, if_true, if_false, Bool.false_eq_true, reduceCtorEq, r_ld cv]
  refine ⟨v, rfl, ?_, ?_⟩
  · refine Kp.of_chg (Kp.of_chg (Kp.trans (Kp.trans k1 k2) (Kp.trans k3 (Kp.trans k4 k5))) c6 fun i hi => ?_) hch fun i hi => ?_
    · omega
    · rcases hi with rfl | rfl | hi <;> omega
  · exact ⟨o2.1, by
      rcases o2.2 with h | ⟨g, cap, cur, r1, r2, r3⟩
      · exact .inl h
      · exact .inr ⟨g, cap, cur, r1, by omega, r3⟩⟩

end Go.Proofs.Ytaephdjmpmbfpaa
