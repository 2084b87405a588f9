/- Texts of my own, merged by program: D2 Memo Grow. -/
import Derived.Test.YtaephdjmpmbfpaaM04
import Derived.Test.YtaephdjmpmbfpaaM05
import Derived.Maps.Keyed
import Derived.DeepKeys4
import Derived.Shelf.Spec.SlicesGrow
set_option linter.all false
/- Contract: below, the rows that can be under a row. -/
namespace Go.Proofs.Ytaephdjmpmbfpaa
open Go.Lf Go.RowKit Go.Hp

abbrev ptrV (b : Nat) : Value := .pointer (some ⟨b, 0, none⟩)

theorem slt83 : SlT 83 80 4 32 := SlT.mk' (z := rowV [0, 0, 0, 0]) (by kernel_rfl) (by kernel_rfl) rfl (by decide)
theorem bs83' (a b c d : Int) (w : World) (K : Value → World → Prop) : bsW Try.prog 83 1 [(0, rowV [a, b, c, d])] w K = K (.slice (some ⟨w.heap.size, 0, none⟩) 1 1) (w.alloc (.cells (rowV [a, b, c, d]).cells 80)) := by kernel_rfl
theorem bs83 {r : List Int} (h : r.length = 4) (w : World) (K : Value → World → Prop) : bsW Try.prog 83 1 [(0, rowV r)] w K = K (.slice (some ⟨w.heap.size, 0, none⟩) 1 1) (w.alloc (.cells (rowV r).cells 80)) := by
  match r, h with
  | [a, b, c, d], _ => exact bs83' a b c d w K

structure BelSt (base bb bo br bab bat : Nat) (A C : Int) (B : Nat) (ab r : List Int) (rows : List (List Int)) (w : World) : Prop where
  box : w.heap[bb]? = some (.cells (boxV A B C).cells 25 (0, 0))
  abv : w.heap[bab]? = some (.cells (intCells ab).toArray 80 (0, 0))
  fn : w.heap[bat]? = some (.cells #[.func (.func 84) #[] #[ptrV bb, ptrV bo, ptrV br, ptrV bab, ptrV bat]] 102 (0, 0))
  row : w.heap[br]? = some (.cells (intCells r).toArray 80 (0, 0))
  out : ∃ v, w.heap[bo]? = some (.cells #[v] 83 (0, 0)) ∧ w.ownsRow base 80 4 v rows.length (rows.flatMap intCells)
  size : base ≤ w.heap.size

structure BelNo (base bb bo br bab bat : Nat) : Prop where
  lt : bb < base ∧ bo < base ∧ br < base ∧ bab < base ∧ bat < base
  ne : bo ≠ br ∧ bb ≠ bo ∧ bb ≠ br ∧ bab ≠ bo ∧ bab ≠ br ∧ bat ≠ bo ∧ bat ≠ br

theorem BelSt.setRow {base bb bo br bab bat : Nat} {A C : Int} {B : Nat} {ab r : List Int} {rows : List (List Int)} {w : World} (s : BelSt base bb bo br bab bat A C B ab r rows w) (no : BelNo base bb bo br bab bat) (j : Nat) (x : Int) :
    BelSt base bb bo br bab bat A C B ab (r.set j x) rows (w.setCell ⟨br, j, none⟩ (.int .i64 x)) := by
  have hc : Chg (fun k => k = br) w (w.setCell ⟨br, j, none⟩ (.int .i64 x)) := Chg.setCell _ _ rfl
  obtain ⟨h1, h2, h3, h4, h5⟩ := no.lt
  obtain ⟨n1, n2, n3, n4, n5, n6, n7⟩ := no.ne
  obtain ⟨v, o1, o2⟩ := s.out
  refine ⟨hc.at s.box n3, hc.at s.abv n5, hc.at s.fn n7, row_set s.row rfl, ⟨v, hc.at o1 n1, owns_chg o2 hc fun k hk e => ?_⟩, by rw [setCell_size]; exact s.size⟩
  subst e
  rcases o2.2 with ⟨rfl, _⟩ | ⟨g, cap, cur, rfl, hb, _⟩
  · simp [Value.ownBlock] at hk
  · simp [Value.ownBlock] at hk; omega

abbrev BelS (base bo br : Nat) : Nat → Prop := fun k => k = bo ∨ k = br ∨ base ≤ k

def cellInt (w : World) (a : Addr) : Int := match w.cell? a with | some (.int _ x) => x | _ => 0

theorem owned_nonneg {w : World} {base n size : Nat} {e : TypeId} {v : Value} {xs : List Value} (h : w.ownsRow base e size v n xs) : v.cells = #[v] ∧ v.oneCell' = true := by
  rcases h.2 with ⟨rfl, _⟩ | ⟨g, cap, cur, rfl, _⟩ <;> exact ⟨rfl, rfl⟩

theorem owned_block {w : World} {base n size k : Nat} {e : TypeId} {v : Value} {xs : List Value} (h : w.ownsRow base e size v n xs) (hk : v.ownBlock = some k) : base ≤ k := by
  rcases h.2 with ⟨rfl, _⟩ | ⟨g, cap, cur, rfl, hb, _⟩
  · simp [Value.ownBlock] at hk
  · simp [Value.ownBlock] at hk; omega

set_option maxRecDepth 100000 in
theorem at_calls {base bb bo br bab bat : Nat} {A C : Int} {B : Nat} {ab : List Int} (no : BelNo base bb bo br bab bat) (hB : B ≤ 4) (hab : ab.length = 4) (hbd : ∀ k, ab.getD k 0 ≤ 1000000) :
    ∀ (n j : Nat) (r : List Int) (rows : List (List Int)) (w : World), j + n = B → r.length = 4 → (∀ k, j ≤ k → r.getD k 0 = 0) → rows.length + (bel ab n j r).length ≤ 1000000 → BelSt base bb bo br bab bat A C B ab r rows w →
      Calls Try.prog 84 #[.int .i64 j, ptrV bb, ptrV bo, ptrV br, ptrV bab, ptrV bat] w fun e w' => e = .returned (.tuple #[]) ∧ BelSt base bb bo br bab bat A C B ab r (rows ++ bel ab n j r) w' ∧ Chg (BelS base bo br) w w' := by
  obtain ⟨l1, l2, l3, l4, l5⟩ := no.lt
  obtain ⟨n1, n2, n3, n4, n5, n6, n7⟩ := no.ne
  intro n
  induction n with
  | zero =>
    intro j r rows w hj hr hz hlen s
    refine lift84 ?_
    unfold S84
    obtain ⟨c0, c1, c2⟩ := box3 s.box
    have e : (j : Int) = B := by omega
    obtain ⟨v, o1, o2⟩ := s.out
    have cv : w.cell? ⟨bo, 0, none⟩ = some v := by rw [cell_row o1]; rfl
    simp (disch := omega) only [r_ln, r_pick, r_pickT, r_pickF, r_condT, r_condF, r_gdTT, r_gdFF, r_gdTF, r_gdFT, r_gqTT, r_gqFF, r_gqTF, r_gqFT, r_not, r_lss, r_leq, r_gtr, r_geq, r_eql, r_neq, r_add, r_sub, r_min2, r_max2, r_min3, r_max3, r_fa, r_iaS, r_iaA, r_ex2a, r_ex2b, r_ex3a, r_ex3b, r_ex3c, r_nc, r_keepE, Nat.zero_add, Nat.add_zero, Nat.mul_one, Int.toNat_natCast, toNat_sub1, toNat_add1, decide_true, decide_false, Bool.not_true, Bool.not_false, if_true, if_false, Bool.false_eq_true, reduceCtorEq, r_ld c1, e, r_ld cv, r_ldRow (n := 4) s.row (by simp [intCells, hr])]
    simp only [bel, List.length_singleton] at hlen
    refine r_push slt83 (bs83 hr w) (by simp [Value.cells, intCells, hr]) (rowV_one r) o2 (by omega) (by omega) s.size fun v' w' ho hg => ?_
    obtain ⟨hv1, hv2⟩ := owned_nonneg ho
    have hch : Chg (BelS base bo br) w w' := Chg.of_grown hg fun k hk => .inr (.inr (owned_block o2 hk))
    have hch2 : Chg (fun k => base ≤ k) w w' := Chg.of_grown hg fun k hk => owned_block o2 hk
    refine r_stAll (n := 1) (ty := 83) (cs := #[v]) (by kernel_rfl) (by rw [hv1]; rfl) (by rw [hv1]; intro u hu; simp at hu; subst hu; exact hv2) (hch2.at o1 (by omega)) rfl fun w5 hc5 hs5 hb5 => ?_
    have hb : ∀ {k : Nat} {o : Obj}, k < base → k ≠ bo → w.heap[k]? = some o → w5.heap[k]? = some o := fun h1 h2 h3 => hc5.at (hch2.at h3 (by omega)) h2
    refine ⟨trivial, ⟨hb l1 n2 s.box, hb l4 n4 s.abv, hb l5 n6 s.fn, hb l3 (Ne.symm n1) s.row, ⟨v', by rw [hb5, hv1], ?_⟩, by have := hg.size; have := s.size; omega⟩, hch.trans (hc5.mono fun _ _ h => .inl h)⟩
    have := owns_chg ho hc5 fun k hk e => by have := owned_block ho hk; omega
    have e2 : (rows.flatMap intCells ++ (rowV r).cells.toList) = (rows ++ [r]).flatMap intCells := by simp [Value.cells]
    rw [e2] at this
    simpa [bel] using this
  | succ n ih =>
    intro j r rows w hj hr hz hlen s
    refine lift84 ?_
    unfold S84
    obtain ⟨c0, c1, c2⟩ := box3 s.box
    have hjB : ¬ (j : Int) = B := by omega
    have hj4 : j < 4 := by omega
    have ca := row_cell (j := j) s.abv (by omega)
    simp (disch := omega) only [r_ln, r_pick, r_pickT, r_pickF, r_condT, r_condF, r_gdTT, r_gdFF, r_gdTF, r_gdFT, r_gqTT, r_gqFF, r_gqTF, r_gqFT, r_not, r_lss, r_leq, r_gtr, r_geq, r_eql, r_neq, r_add, r_sub, r_min2, r_max2, r_min3, r_max3, r_fa, r_iaS, r_iaA, r_ex2a, r_ex2b, r_ex3a, r_ex3b, r_ex3c, r_nc, r_keepE, Nat.zero_add, Nat.add_zero, Nat.mul_one, Int.toNat_natCast, toNat_sub1, toNat_add1, decide_true, decide_false, Bool.not_true, Bool.not_false, if_true, if_false, Bool.false_eq_true, reduceCtorEq, r_ld c1, hjB, r_ld ca]
    refine r_join1 (fun t7 w2 => t7 = .int .i64 (mostR ab r j) ∧ w = w2) ?_ ?_
    · rintro _ _ ⟨rfl, rfl⟩
      have cr := row_cell (j := j) s.row (by omega)
      rw [st3 cr (frozen_row s.row)]
      have hmb : mostR ab r j ≤ 1000000 := by
        have := hbd j
        unfold mostR
        split <;> omega
      have hsum : (bel ab (n + 1) j r) = (List.range (mostR ab r j + 1).toNat).flatMap fun (x : Nat) => bel ab n (j + 1) (r.set j (x : Int)) := rfl
      rw [hsum] at hlen ⊢
      generalize mostR ab r j = M at *
      refine ⟨fun wr => ∃ x : Nat, x ≤ (M + 1).toNat ∧ BelSt base bb bo br bab bat A C B ab (r.set j (x : Int)) (rows ++ (List.range x).flatMap fun (x : Nat) => bel ab n (j + 1) (r.set j (x : Int))) wr ∧ Chg (BelS base bo br) w wr,
        fun wr => (M + 1 - cellInt wr ⟨br, j, none⟩).toNat, ⟨0, by omega, by simpa using s.setRow no j 0, Chg.setCell _ _ (.inr (.inl rfl))⟩, ?_⟩
      rintro _ wr ⟨x, hx, sx, hch⟩
      have cx := row_cell (j := j) sx.row (by simp; omega)
      have ex : (r.set j (x : Int)).getD j 0 = x := by simp [List.getD_eq_getElem?_getD, List.getElem?_set_self (show j < r.length by omega)]
      rw [ex] at cx
      by_cases hle : (x : Int) ≤ M
      case neg =>
        simp (disch := omega) only [r_ln, r_pick, r_pickT, r_pickF, r_condT, r_condF, r_gdTT, r_gdFF, r_gdTF, r_gdFT, r_gqTT, r_gqFF, r_gqTF, r_gqFT, r_not, r_lss, r_leq, r_gtr, r_geq, r_eql, r_neq, r_add, r_sub, r_min2, r_max2, r_min3, r_max3, r_fa, r_iaS, r_iaA, r_ex2a, r_ex2b, r_ex3a, r_ex3b, r_ex3c, r_nc, r_keepE, Nat.zero_add, Nat.add_zero, Nat.mul_one, Int.toNat_natCast, toNat_sub1, toNat_add1, decide_true, decide_false, Bool.not_true, Bool.not_false, if_true, if_false, Bool.false_eq_true, reduceCtorEq, r_ld cx, hle]
        rw [st3 cx (frozen_row sx.row)]
        have := sx.setRow no j 0
        have hxM : x = (M + 1).toNat := by omega
        subst hxM
        have hset : ((r.set j (((M + 1).toNat : Nat) : Int)).set j 0) = r := by
          rw [List.set_set]
          have h0 := hz j (Nat.le_refl _)
          apply List.ext_getElem?
          intro i
          by_cases hi : i = j
          · subst hi
            rw [List.getElem?_set_self (by omega)]
            rw [getD_lt _ _ _ (by omega)] at h0
            rw [List.getElem?_eq_getElem (by omega), h0]
          · rw [List.getElem?_set_ne (Ne.symm hi)]
        rw [hset] at this
        exact ⟨trivial, this, hch.trans (Chg.setCell _ _ (.inr (.inl rfl)))⟩
      have cf : wr.cell? ⟨bat, 0, none⟩ = some (.func (.func 84) #[] #[ptrV bb, ptrV bo, ptrV br, ptrV bab, ptrV bat]) := by rw [cell_row sx.fn]; rfl
      simp (disch := omega) only [r_ln, r_pick, r_pickT, r_pickF, r_condT, r_condF, r_gdTT, r_gdFF, r_gdTF, r_gdFT, r_gqTT, r_gqFF, r_gqTF, r_gqFT, r_not, r_lss, r_leq, r_gtr, r_geq, r_eql, r_neq, r_add, r_sub, r_min2, r_max2, r_min3, r_max3, r_fa, r_iaS, r_iaA, r_ex2a, r_ex2b, r_ex3a, r_ex3b, r_ex3c, r_nc, r_keepE, Nat.zero_add, Nat.add_zero, Nat.mul_one, Int.toNat_natCast, toNat_sub1, toNat_add1, decide_true, decide_false, Bool.not_true, Bool.not_false, if_true, if_false, Bool.false_eq_true, reduceCtorEq, r_ld cx, hle, r_ld cf]
      have hl2 : ((List.range x).flatMap fun (x : Nat) => bel ab n (j + 1) (r.set j (x : Int))).length + (bel ab n (j + 1) (r.set j (x : Int))).length ≤ ((List.range (M + 1).toNat).flatMap fun (x : Nat) => bel ab n (j + 1) (r.set j (x : Int))).length := by
        have hs : (M + 1).toNat = (x + 1) + ((M + 1).toNat - (x + 1)) := by omega
        rw [hs, List.range_add, List.flatMap_append, List.range_succ, List.flatMap_append]
        simp
      refine r_use fok84 (ih (j + 1) (r.set j (x : Int)) _ wr (by omega) (by simpa using hr) (fun k hk => ?_) ?_ sx) rfl ?_
      · have := hz k (by omega)
        rwa [List.getD_eq_getElem?_getD, List.getElem?_set_ne (by omega), ← List.getD_eq_getElem?_getD]
      · simp only [List.length_append]; omega
      · rintro e w5 ⟨rfl, s5, hch5⟩
        refine ⟨_, rfl, ?_⟩
        have c5 := row_cell (j := j) s5.row (by simp; omega)
        rw [ex] at c5
        simp (disch := omega) only [r_ln, r_pick, r_pickT, r_pickF, r_condT, r_condF, r_gdTT, r_gdFF, r_gdTF, r_gdFT, r_gqTT, r_gqFF, r_gqTF, r_gqFT, r_not, r_lss, r_leq, r_gtr, r_geq, r_eql, r_neq, r_add, r_sub, r_min2, r_max2, r_min3, r_max3, r_fa, r_iaS, r_iaA, r_ex2a, r_ex2b, r_ex3a, r_ex3b, r_ex3c, r_nc, r_keepE, Nat.zero_add, Nat.add_zero, Nat.mul_one, Int.toNat_natCast, toNat_sub1, toNat_add1, decide_true, decide_false, Bool.not_true, Bool.not_false, if_true, if_false, Bool.false_eq_true, reduceCtorEq, r_ld c5]
        rw [st3 c5 (frozen_row s5.row)]
        have s6 := s5.setRow no j ((x : Int) + 1)
        rw [List.set_set] at s6
        refine ⟨⟨x + 1, by omega, ?_, (hch.trans hch5).trans (Chg.setCell _ _ (.inr (.inl rfl)))⟩, ?_⟩
        · rw [List.range_succ, List.flatMap_append, ← List.append_assoc]
          simpa using s6
        · have c6 := row_cell (j := j) s6.row (by simp; omega)
          have ex6 : (r.set j ((x : Int) + 1)).getD j 0 = x + 1 := by simp [List.getD_eq_getElem?_getD, List.getElem?_set_self (show j < r.length by omega)]
          rw [ex6] at c6
          simp only [cellInt, c6, cx]
          omega
    · intro k hk
      by_cases h0 : 0 < j
      · have h0' : (0 : Int) < j := by omega
        have cr := row_cell (j := j - 1) s.row (by omega)
        simp (disch := omega) only [r_ln, r_pick, r_pickT, r_pickF, r_condT, r_condF, r_gdTT, r_gdFF, r_gdTF, r_gdFT, r_gqTT, r_gqFF, r_gqTF, r_gqFT, r_not, r_lss, r_leq, r_gtr, r_geq, r_eql, r_neq, r_add, r_sub, r_min2, r_max2, r_min3, r_max3, r_fa, r_iaS, r_iaA, r_ex2a, r_ex2b, r_ex3a, r_ex3b, r_ex3c, r_nc, r_keepE, Nat.zero_add, Nat.add_zero, Nat.mul_one, Int.toNat_natCast, toNat_sub1, toNat_add1, decide_true, decide_false, Bool.not_true, Bool.not_false, if_true, if_false, Bool.false_eq_true, reduceCtorEq, h0', r_ld cr]
        exact hk _ _ ⟨by simp only [mostR, h0, if_true], rfl⟩
      · have h0' : ¬ (0 : Int) < j := by omega
        simp (disch := omega) only [r_ln, r_pick, r_pickT, r_pickF, r_condT, r_condF, r_gdTT, r_gdFF, r_gdTF, r_gdFT, r_gqTT, r_gqFF, r_gqTF, r_gqFT, r_not, r_lss, r_leq, r_gtr, r_geq, r_eql, r_neq, r_add, r_sub, r_min2, r_max2, r_min3, r_max3, r_fa, r_iaS, r_iaA, r_ex2a, r_ex2b, r_ex3a, r_ex3b, r_ex3c, r_nc, r_keepE, Nat.zero_add, Nat.add_zero, Nat.mul_one, Int.toNat_natCast, toNat_sub1, toNat_add1, decide_true, decide_false, Bool.not_true, Bool.not_false, if_true, if_false, Bool.false_eq_true, reduceCtorEq, h0']
        exact hk _ _ ⟨by simp only [mostR, h0, if_false], rfl⟩

set_option maxRecDepth 100000 in
theorem below_calls (A C : Int) (B : Nat) (ab : List Int) (w : World) (hB : B ≤ 4) (hab : ab.length = 4) (hbd : ∀ k, ab.getD k 0 ≤ 8) :
    Calls Try.prog 55 #[boxV A B C, rowV ab] w fun e w' => ∃ v, e = .returned v ∧ Kp w w' ∧ w'.ownsRow w.heap.size 80 4 v (belowM B ab).length ((belowM B ab).flatMap intCells) := by
  refine lift55 ?_
  unfold S55
  refine r_box fun b1 w1 e1 s1 h1 k1 => ?_
  refine r_box fun b2 w2 e2 s2 h2 k2 => ?_
  refine r_box fun b3 w3 e3 s3 h3 k3 => ?_
  refine r_box fun b4 w4 e4 s4 h4 k4 => ?_
  refine r_box fun b5 w5 e5 s5 h5 k5 => ?_
  refine r_stAll (n := 1) (ty := 102) (cs := #[.nilFunc]) (by kernel_rfl) rfl (by intro u hu; simp [Value.cells] at hu; subst hu; rfl) h5 rfl fun w6 c6 s6 h6 => ?_
  have cf : w6.cell? ⟨b5, 0, none⟩ = some (.func (.func 84) #[] #[ptrV b1, ptrV b3, ptrV b4, ptrV b2, ptrV b5]) := by rw [cell_row h6]; rfl
  simp (disch := omega) only [r_ln, r_pick, r_pickT, r_pickF, r_condT, r_condF, r_gdTT, r_gdFF, r_gdTF, r_gdFT, r_gqTT, r_gqFF, r_gqTF, r_gqFT, r_not, r_lss, r_leq, r_gtr, r_geq, r_eql, r_neq, r_add, r_sub, r_min2, r_max2, r_min3, r_max3, r_fa, r_iaS, r_iaA, r_ex2a, r_ex2b, r_ex3a, r_ex3b, r_ex3c, r_nc, r_keepE, Nat.zero_add, Nat.add_zero, Nat.mul_one, Int.toNat_natCast, toNat_sub1, toNat_add1, decide_true, decide_false, Bool.not_true, Bool.not_false, if_true, if_false, Bool.false_eq_true, reduceCtorEq, r_ld cf]
  have hcount : (belowM B ab).length ≤ 9 ^ 4 := Nat.le_trans (bel_count (m := 9) (fun j => by have := hbd j; omega) B 0 _) (Nat.pow_le_pow_right (by decide) hB)
  have hst : BelSt w6.heap.size b1 b3 b4 b2 b5 A C B ab [0, 0, 0, 0] [] w6 := by
    refine ⟨c6.at (block_below h1 (Kp.trans (Kp.trans k2 k3) (Kp.trans k4 k5))) (by omega), c6.at (block_below h2 (Kp.trans k3 (Kp.trans k4 k5))) (by omega), h6, c6.at (block_below h4 k5) (by omega), ⟨_, c6.at (block_below h3 (Kp.trans k4 k5)) (by omega), World.ownsRow_nil _ _ _ _⟩, Nat.le_refl _⟩
  refine r_use fok84 (at_calls ⟨by omega, by omega⟩ hB hab (fun k => by have := hbd k; omega) B 0 [0, 0, 0, 0] [] w6 (by omega) rfl (fun k _ => ?_) (by simp only [List.length_nil, Nat.zero_add]; exact Nat.le_trans hcount (by decide)) hst) rfl ?_
  · match k with
    | 0 => rfl
    | 1 => rfl
    | 2 => rfl
    | 3 => rfl
    | k + 4 => rfl
  rintro e w7 ⟨rfl, st, hch⟩
  refine ⟨_, rfl, ?_⟩
  obtain ⟨v, o1, o2⟩ := st.out
  have cv : w7.cell? ⟨b3, 0, none⟩ = some v := by rw [cell_row o1]; rfl
  simp (disch := omega) only [r_ln, r_pick, r_pickT, r_pickF, r_condT, r_condF, r_gdTT, r_gdFF, r_gdTF, r_gdFT, r_gqTT, r_gqFF, r_gqTF, r_gqFT, r_not, r_lss, r_leq, r_gtr, r_geq, r_eql, r_neq, r_add, r_sub, r_min2, r_max2, r_min3, r_max3, r_fa, r_iaS, r_iaA, r_ex2a, r_ex2b, r_ex3a, r_ex3b, r_ex3c, r_nc, r_keepE, Nat.zero_add, Nat.add_zero, Nat.mul_one, Int.toNat_natCast, toNat_sub1, toNat_add1, decide_true, decide_false, Bool.not_true, Bool.not_false, if_true, if_false, Bool.false_eq_true, reduceCtorEq, r_ld cv]
  refine ⟨v, rfl, ?_, ?_⟩
  · refine Kp.of_chg (Kp.of_chg (Kp.trans (Kp.trans k1 k2) (Kp.trans k3 (Kp.trans k4 k5))) c6 fun i hi => ?_) hch fun i hi => ?_
    · omega
    · rcases hi with rfl | rfl | hi <;> omega
  · exact ⟨o2.1, by
      rcases o2.2 with h | ⟨g, cap, cur, r1, r2, r3⟩
      · exact .inl h
      · exact .inr ⟨g, cap, cur, r1, by omega, r3⟩⟩

end Go.Proofs.Ytaephdjmpmbfpaa

/- The map of what is known: places as keys, numbers as elements. -/
namespace Go.Proofs.Ytaephdjmpmbfpaa
open Go.Lf Go.RowKit Go.Hp

theorem keyed88 : Maps.Keyed Try.prog 88 := Maps.Keyed.of_law (deep_law_laid (m := 3) (by kernel_rfl) (by decide) (Nat.le_of_ble_eq_true (n := 89) (by kernel_rfl)) (by kernel_rfl) (by kernel_rfl))

/-- A place: how many rows there are to come, and the last one. -/
abbrev placeV (l : Int) (r : List Int) : Value := .agg (.int .i64 l :: intCells r).toArray

def twoFields (P : Program) (t : TypeId) : Bool := match P.underlying t with
  | some (.struct fs) => (fs.toList.map fun (f : Field) => (f.type, f.offset)) == [(3, 0), (80, 1)] && fs.all fun (f : Field) => f.name != "_"
  | _ => false
theorem check88_true : twoFields Try.prog 88 = true := by kernel_rfl
theorem u80 : Try.prog.underlying 80 = some (.array 4 3) := by kernel_rfl
theorem u3 : Try.prog.underlying 3 = some (.int .i64) := by kernel_rfl
theorem cells88 : Try.prog.cellsOf 88 = 5 := by kernel_rfl
theorem cells80 : Try.prog.cellsOf 80 = 4 := by kernel_rfl
theorem cells3 : Try.prog.cellsOf 3 = 1 := by kernel_rfl

theorem lits3 {n : Int} (d : Nat) (h : -9223372036854775808 ≤ n ∧ n ≤ 9223372036854775807) : Try.prog.keyLits (d + 1) 3 [.int .i64 n] = some [.int .i64 n] := by
  have hw : (Lit.int .i64 n).wf = true := by
    have e1 : IntKind.i64.min = -9223372036854775808 := by decide
    have e2 : IntKind.i64.max = 9223372036854775807 := by decide
    simp [Lit.wf, e1, e2, h]
  unfold Program.keyLits
  simp [u3, hw]

theorem lits80 {a b c e : Int} (d : Nat) (ha : -9223372036854775808 ≤ a ∧ a ≤ 9223372036854775807) (hb : -9223372036854775808 ≤ b ∧ b ≤ 9223372036854775807) (hc : -9223372036854775808 ≤ c ∧ c ≤ 9223372036854775807) (he : -9223372036854775808 ≤ e ∧ e ≤ 9223372036854775807) :
    Try.prog.keyLits (d + 2) 80 [.int .i64 a, .int .i64 b, .int .i64 c, .int .i64 e] = some [.int .i64 a, .int .i64 b, .int .i64 c, .int .i64 e] := by
  unfold Program.keyLits
  have h4 : List.range 4 = [0, 1, 2, 3] := by decide
  simp [u80, cells80, cells3, h4, lits3, ha, hb, hc, he]

theorem key88 {l : Int} {r : List Int} (hr : r.length = 4) (hl : -9223372036854775808 ≤ l ∧ l ≤ 9223372036854775807) (hb : ∀ k, -9223372036854775808 ≤ r.getD k 0 ∧ r.getD k 0 ≤ 9223372036854775807) : ∃ k, keyOf Try.prog 88 (placeV l r) = some k := by
  have hc := check88_true
  unfold twoFields at hc
  split at hc
  case h_2 => cases hc
  rename_i fs hu
  simp only [Bool.and_eq_true, beq_iff_eq] at hc
  obtain ⟨hm, hall⟩ := hc
  obtain ⟨f1, f2, hfs⟩ : ∃ f1 f2, fs.toList = [f1, f2] := by
    have hl := congrArg List.length hm
    simp only [List.length_map, List.length_cons, List.length_nil] at hl
    rcases hq : fs.toList with _ | ⟨f1, _ | ⟨f2, _ | ⟨f3, q⟩⟩⟩ <;> simp [hq] at hl
    exact ⟨f1, f2, rfl⟩
  rw [hfs] at hm
  · simp only [List.map_cons, List.map_nil, List.cons.injEq, Prod.mk.injEq, and_true] at hm
    obtain ⟨⟨e1, e2⟩, e3, e4⟩ := hm
    match r, hr with
    | [a, b, c, d], _ =>
      have h0 := hb 0
      have h1 := hb 1
      have h2 := hb 2
      have h3 := hb 3
      simp at h0 h1 h2 h3
      have hk : Try.prog.keyType 88 = true := by kernel_rfl
      have hf : (placeV l [a, b, c, d]).formed Try.prog 88 = true := by simp [Value.formed, hu, cells88, intCells]
      obtain ⟨N, hN⟩ : ∃ N, Try.prog.types.size + 1 = N + 3 := ⟨Try.prog.types.size - 2, by kernel_rfl⟩
      have hlits : Try.prog.keyLits (N + 3) 88 (placeV l [a, b, c, d]).cells.toList = some [.int .i64 l, .int .i64 a, .int .i64 b, .int .i64 c, .int .i64 d] := by
        unfold Program.keyLits
        simp [hu, cells88, cells80, cells3, hfs, e1, e2, e3, e4, Value.cells, intCells, lits3, lits80, hl, h0, h1, h2, h3, hall]
      simp only [keyOf, hu, hk, hf, Bool.and_self, if_true, hN, hlits, Option.map_some]
      exact ⟨_, rfl⟩

/-- Numbers of a place, none too large. -/
def Fine (l : Int) (r : List Int) : Prop := r.length = 4 ∧ (-100 ≤ l ∧ l ≤ 100) ∧ ∀ k, -100 ≤ r.getD k 0 ∧ r.getD k 0 ≤ 100
theorem Fine.key {l : Int} {r : List Int} (h : Fine l r) : ∃ k, keyOf Try.prog 88 (placeV l r) = some k :=
  key88 h.1 (by have := h.2.1; omega) fun k => by have := h.2.2 k; omega

theorem placeV_inj {l l' : Int} {r r' : List Int} (h : placeV l r = placeV l' r') : l = l' ∧ r = r' := by
  have h0 := congrArg Array.toList (Value.agg.inj h)
  simp only [List.cons.injEq, Value.int.injEq, true_and] at h0
  refine ⟨h0.1, ?_⟩
  have h2 := h0.2
  clear h h0
  induction r generalizing r' with
  | nil => cases r' with
    | nil => rfl
    | cons => simp [intCells] at h2
  | cons x r ih => cases r' with
    | nil => simp [intCells] at h2
    | cons y r' =>
      simp only [intCells, List.map_cons, List.cons.injEq, Value.int.injEq, true_and] at h2
      rw [h2.1, ih h2.2]

/-- Block m is a map in which every place has its number. -/
def MemoAt (w : World) (m : Nat) (f : Int → List Int → Int) : Prop :=
  ∃ es clock, w.heap[m]? = some (.map es clock) ∧ ∀ e ∈ es.toList, ∃ l r, e.key = placeV l r ∧ Fine l r ∧ e.val = .int .i64 (f l r)

theorem MemoAt.chg {S : Nat → Prop} {w w' : World} {m : Nat} {f : Int → List Int → Int} (h : MemoAt w m f) (hc : Chg S w w') (hs : ¬ S m) : MemoAt w' m f :=
  let ⟨es, c, h1, h2⟩ := h; ⟨es, c, hc.at h1 hs, h2⟩
theorem MemoAt.kp {w w' : World} {m : Nat} {f : Int → List Int → Int} (h : MemoAt w m f) (hc : Kp w w') : MemoAt w' m f := h.chg (S := fun _ => False) (Chg.of_kp hc) fun h => h
theorem MemoAt.lt {w : World} {m : Nat} {f : Int → List Int → Int} (h : MemoAt w m f) : m < w.heap.size := let ⟨_, _, h1, _⟩ := h; block_lt h1

theorem u75 : Try.prog.underlying 75 = some (.map 88 3) := by kernel_rfl
theorem zero3 (w : World) : (zeroValue 3).run Try.prog w = .ok (.int .i64 0) w := by kernel_rfl

theorem MemoAt.keys {es : Array MapEntry} {f : Int → List Int → Int} (h : ∀ e ∈ es.toList, ∃ l r, e.key = placeV l r ∧ Fine l r ∧ e.val = .int .i64 (f l r)) : ∀ e ∈ es.toList, ∃ l, keyOf Try.prog 88 e.key = some l := fun e he => by
  obtain ⟨l, r, h1, h2, _⟩ := h e he
  rw [h1]; exact h2.key

set_option maxRecDepth 100000 in
/-- A look into the map. -/
theorem r_look {w : World} {m : Nat} {f : Int → List Int → Int} {l : Int} {r : List Int} {K : Value → World → Prop} (h : MemoAt w m f) (hf : Fine l r) (h1 : K (.tuple #[.int .i64 (f l r), .bool true]) w) (h2 : K (.tuple #[.int .i64 0, .bool false]) w) :
    semW Try.prog (lkS 75 (.map (some m)) (placeV l r) true) w K := by
  obtain ⟨es, c, hb, hes⟩ := h
  obtain ⟨kl, hkey⟩ := hf.key
  rcases keyed88.find w hkey es.toList (MemoAt.keys hes) with ⟨g1, g2⟩ | ⟨j, e0, g1, g2, g3⟩
  · exact semW_of_run (by simp [lkS, Instr.lookup, run_underlying u75, MapKept.run_getObj_map hb, keyed88.check w _ hkey, g1, zero3, Result.andThen]) h2
  · obtain ⟨l', r', e1, e2, e3⟩ := hes e0 (List.mem_of_getElem? g2)
    obtain ⟨rfl, rfl⟩ := placeV_inj (e1.symm.trans g3)
    rw [← e3] at h1
    exact semW_of_run (by simp [lkS, Instr.lookup, run_underlying u75, MapKept.run_getObj_map hb, keyed88.check w _ hkey, g1, Result.andThen]) h1

set_option maxRecDepth 100000 in
/-- A store into the map. -/
theorem r_store {w : World} {m : Nat} {f : Int → List Int → Int} {l : Int} {r : List Int} {K : Value → World → Prop} (h : MemoAt w m f) (hf : Fine l r) (hk : ∀ w', MemoAt w' m f → Chg (fun k => k = m) w w' → w'.heap.size = w.heap.size → K undef w') :
    semW Try.prog (muS 75 (.map (some m)) (placeV l r) (.int .i64 (f l r))) w K := by
  obtain ⟨es, c, hb, hes⟩ := h
  obtain ⟨kl, hkey⟩ := hf.key
  have hset : ∀ o : Obj, Chg (fun k => k = m) w { w with heap := w.heap.setIfInBounds m o } ∧ ({ w with heap := w.heap.setIfInBounds m o } : World).heap.size = w.heap.size ∧ ({ w with heap := w.heap.setIfInBounds m o } : World).heap[m]? = some o := fun o =>
    ⟨⟨rfl, rfl, rfl, by simp, fun i _ hn => by simp [Array.getElem?_setIfInBounds_ne (Ne.symm hn)]⟩, by simp, by simp [Array.getElem?_setIfInBounds_self_of_lt (block_lt hb)]⟩
  rcases keyed88.find w hkey es.toList (MemoAt.keys hes) with ⟨g1, g2⟩ | ⟨j, e0, g1, g2, g3⟩
  · obtain ⟨s1, s2, s3⟩ := hset (.map (es.push ⟨placeV l r, .int .i64 (f l r), c⟩) (c + 1))
    refine semW_of_skip (by simp [muS, Instr.mapUpdate, run_underlying u75, MapKept.run_getObj_map hb, keyed88.check w _ hkey, g1, MapKept.run_setObj_map _ hb, Result.andThen]) (hk _ ⟨_, _, s3, fun e he => ?_⟩ s1 s2)
    simp only [Array.toList_push, List.mem_append, List.mem_singleton] at he
    rcases he with he | rfl
    · exact hes e he
    · exact ⟨l, r, rfl, hf, rfl⟩
  · have hj : es[j]? = some e0 := by simpa using g2
    obtain ⟨s1, s2, s3⟩ := hset (.map (es.modify j fun e => { e with key := placeV l r, val := .int .i64 (f l r) }) c)
    refine semW_of_skip (by simp [muS, Instr.mapUpdate, run_underlying u75, MapKept.run_getObj_map hb, keyed88.check w _ hkey, g1, hj, g3, keyed88.stays w hkey, MapKept.run_setObj_map _ hb, Result.andThen]) (hk _ ⟨_, _, s3, fun e he => ?_⟩ s1 s2)
    rw [Array.toList_modify] at he
    obtain ⟨i, hi, ex⟩ := List.getElem_of_mem he
    have hi' : i < es.toList.length := by simpa using hi
    rw [List.getElem_modify] at ex
    split at ex
    · exact ⟨l, r, by rw [← ex], hf, by rw [← ex]⟩
    · rw [← ex]; exact hes _ (List.getElem_mem hi')

end Go.Proofs.Ytaephdjmpmbfpaa

/- Contracts: slices.Grow of a nil slice (by the shelf), slices.Concat, cmp.Compare, slices.Compare. -/
namespace Go.Proofs.Ytaephdjmpmbfpaa
open Go.Lf Go.RowKit Go.Hp Go.Shelf Go.Proofs
def growI_ren : Go.Shelf.Ren := ⟨fun | 4 => 95 | n => n, fun | 22 => 36 | 25 => 3 | n => n, fun | n => n⟩
set_option maxRecDepth 100000 in
theorem growI : Lays8.n4 Try.prog growI_ren := { mixed := by kernel_rfl, f4 := ⟨Try.f95.name, by decide, Try.func95.trans (congrArg some (by kernel_rfl))⟩, t0 := Try.underlying0, a0 := Try.isAgg0, z0 := Try.sizeOf0, v0 := Try.zeroValue0, t3 := Try.underlying3, a3 := Try.isAgg3, z3 := Try.sizeOf3, v3 := Try.zeroValue3, t4 := Try.underlying4, a4 := Try.isAgg4, z4 := Try.sizeOf4, v4 := Try.zeroValue4, t9 := Try.underlying9, a9 := Try.isAgg9, z9 := Try.sizeOf9, v9 := Try.zeroValue9, t20 := Try.underlying20, a20 := Try.isAgg20, z20 := Try.sizeOf20, v20 := Try.zeroValue20, t22 := Try.underlying36, a22 := Try.isAgg36, z22 := Try.sizeOf36, v22 := Try.zeroValue36 }

theorem zeroCells_size (z : Array Value) (n : Nat) : (Builtin.zeroCells z n).size = n * z.size := by simp [Builtin.zeroCells]

set_option maxRecDepth 100000 in
theorem grow_calls (n : Nat) (w : World) (h0 : 0 < n) (hn : n ≤ 1000000) : Calls Try.prog 95 #[.slice none 0 0, .int .i64 n] w fun e w' => ∃ v, e = .returned v ∧ Kp w w' ∧ w'.ownsRow w.heap.size 3 1 v 0 [] := by
  obtain ⟨i, z, i1, i2, i3, i4, i5⟩ := slt36.info
  have h : Calls Try.prog 95 #[.slice none 0 0, .int .i64 n] w _ := Any8.slices_Grow_grow growI i z i1 i2 (by omega) none 0 0 n [] w (by omega) (by omega) (by rw [i4]; omega) (by omega) (by simp) (fun _ => rfl) (by intro a h; cases h)
  refine h.mono ?_
  rintro e w' ⟨rfl, rfl⟩
  refine ⟨_, rfl, (Below.refl _ _).drew.alloc (Nat.le_refl _) _, by simp, .inr ⟨w.heap.size, _, _, rfl, Nat.le_refl _, heap_alloc_new w.drew _, by omega, grownCap_le_maxLen w _ _ _ (by unfold maxLen; omega), ?_, by simp⟩⟩
  have := grownCap_ge w (0 + n) 0 3
  have hG : grownCap w (0 + n) 0 3 = grownCap w (0 + n) 0 (growI_ren.t 25) := rfl
  rw [← hG]
  simp only [Array.size_append, zeroCells_size, i5]
  simp only [List.size_toArray, List.length_nil]
  omega

theorem intCells_append (a b : List Int) : intCells (a ++ b) = intCells a ++ intCells b := by simp [intCells]

theorem flatten_take {rows : List (List Int)} {i : Nat} (h : i < rows.length) : (rows.take (i + 1)).flatten = (rows.take i).flatten ++ rows.getD i [] := by
  rw [List.take_succ_eq_append_getElem h, List.flatten_append, getD_lt _ _ _ h]
  simp only [List.flatten_cons, List.flatten_nil, List.append_nil]

theorem flatten_le {rows : List (List Int)} (i : Nat) : (rows.take i).flatten.length ≤ rows.flatten.length := by
  have : rows.flatten = (rows.take i).flatten ++ (rows.drop i).flatten := by rw [← List.flatten_append, List.take_append_drop]
  rw [this, List.length_append]
  omega

set_option maxRecDepth 100000 in
/-- append(v, src...) at integers, src any slice that reads as l. -/
theorem r_apInts {base n : Nat} {ty : TypeId} {v src : Value} {xs l : List Int} {w : World} {K : Value → World → Prop} (hown : w.ownsRow base 3 1 v n (intCells xs)) (hs : RdInts w src l)
    (hn : n + l.length ≤ 1099511627776) (hb : base ≤ w.heap.size) (hk : ∀ v' w', w'.ownsRow base 3 1 v' (n + l.length) (intCells (xs ++ l)) → w.grownBy w' v.ownBlock → K v' w') : semW Try.prog (apS [36, 36] ty [v, src]) w K := by
  obtain ⟨a, cap, rfl, hl, hc⟩ := hs
  by_cases h0 : 0 < l.length
  · obtain ⟨b, off, rfl, hcell⟩ := hc h0
    refine r_ap (news := intCells l) slt36 hown (by simp [intCells]) (fun j u hj => ?_) intCells_one hn (by omega) hb fun v' w' ho hg _ => hk v' w' (by rw [intCells_append]; exact ho) hg
    rw [r_addr]
    have hjl : j < l.length := by rw [← intCells_length]; exact (List.getElem?_eq_some_iff.1 hj).1
    rw [hcell j hjl]
    simp [intCells, hjl] at hj
    simp [hjl, hj]
  · have e : l = [] := List.length_eq_zero_iff.1 (by omega)
    subst e
    refine r_ap0 slt36 hown (hk v w (by simpa using hown) ⟨rfl, rfl, rfl, Nat.le_refl _, fun _ _ _ => rfl⟩)

set_option maxRecDepth 100000 in
theorem concat_calls (v : Value) (rows : List (List Int)) (w : World) (hr : RdRows w v rows) (h0 : 0 < rows.flatten.length) (hle : rows.flatten.length ≤ 1000000) :
    Calls Try.prog 85 #[v] w fun e w' => ∃ v', e = .returned v' ∧ Kp w w' ∧ w'.ownsRow w.heap.size 3 1 v' rows.flatten.length (intCells rows.flatten) := by
  obtain ⟨a, cap, rfl, hl⟩ := hr.len
  refine lift85 ?_
  unfold S85
  simp (disch := omega) only [r_ln, r_pick, r_pickT, r_pickF, r_condT, r_condF, r_gdTT, r_gdFF, r_gdTF, r_gdFT, r_gqTT, r_gqFF, r_gqTF, r_gqFT, r_not, r_lss, r_leq, r_gtr, r_geq, r_eql, r_neq, r_add, r_sub, r_min2, r_max2, r_min3, r_max3, r_fa, r_iaS, r_iaA, r_ex2a, r_ex2b, r_ex3a, r_ex3b, r_ex3c, r_nc, r_keepE, Nat.zero_add, Nat.add_zero, Nat.mul_one, Int.toNat_natCast, toNat_sub1, toNat_add1, decide_true, decide_false, Bool.not_true, Bool.not_false, if_true, if_false, Bool.false_eq_true, reduceCtorEq]
  refine ⟨fun t3 t11 wr => ∃ i : Nat, i ≤ rows.length ∧ t11 = .int .i64 i ∧ t3 = .int .i64 ((rows.take i).flatten.length : Nat) ∧ w = wr, fun _ t11 _ => rows.length - (intOf t11).toNat, ⟨0, by omega, rfl, by simp, rfl⟩, ?_⟩
  rintro _ _ _ _ ⟨i, hi, rfl, rfl, rfl⟩
  by_cases hlt : i < rows.length
  case pos =>
    have hlt' : (i : Int) < (rows.length : Int) := by omega
    obtain ⟨b, off, cap', rv, he, hc, hrow⟩ := hr.row hlt
    cases he
    obtain ⟨ra, rcap, rfl, hrl⟩ := hrow.len
    have h1 := flatten_le (rows := rows) (i + 1)
    rw [flatten_take hlt, List.length_append] at h1
    have h2 : ¬ (((rows.take i).flatten.length : Nat) : Int) + ((rows.getD i []).length : Nat) < 0 := by omega
    simp (disch := omega) only [r_ln, r_pick, r_pickT, r_pickF, r_condT, r_condF, r_gdTT, r_gdFF, r_gdTF, r_gdFT, r_gqTT, r_gqFF, r_gqTF, r_gqFT, r_not, r_lss, r_leq, r_gtr, r_geq, r_eql, r_neq, r_add, r_sub, r_min2, r_max2, r_min3, r_max3, r_fa, r_iaS, r_iaA, r_ex2a, r_ex2b, r_ex3a, r_ex3b, r_ex3c, r_nc, r_keepE, Nat.zero_add, Nat.add_zero, Nat.mul_one, Int.toNat_natCast, toNat_sub1, toNat_add1, decide_true, decide_false, Bool.not_true, Bool.not_false, if_true, if_false, Bool.false_eq_true, reduceCtorEq, hlt', r_ld hc, h2]
    refine r_join0 (fun w2 => w = w2) ?_ (fun k hk => hk _ rfl)
    rintro _ rfl
    exact ⟨⟨i + 1, by omega, by go_num, by rw [flatten_take hlt, List.length_append]; go_num, rfl⟩, by simp only [intOf]; omega⟩
  have hlt' : ¬ (i : Int) < (rows.length : Int) := by omega
  have hiR : i = rows.length := by omega
  subst hiR
  simp (disch := omega) only [r_ln, r_pick, r_pickT, r_pickF, r_condT, r_condF, r_gdTT, r_gdFF, r_gdTF, r_gdFT, r_gqTT, r_gqFF, r_gqTF, r_gqFT, r_not, r_lss, r_leq, r_gtr, r_geq, r_eql, r_neq, r_add, r_sub, r_min2, r_max2, r_min3, r_max3, r_fa, r_iaS, r_iaA, r_ex2a, r_ex2b, r_ex3a, r_ex3b, r_ex3c, r_nc, r_keepE, Nat.zero_add, Nat.add_zero, Nat.mul_one, Int.toNat_natCast, toNat_sub1, toNat_add1, decide_true, decide_false, Bool.not_true, Bool.not_false, if_true, if_false, Bool.false_eq_true, reduceCtorEq, hlt', List.take_length]
  refine r_use fok95 (grow_calls rows.flatten.length w h0 hle) rfl ?_
  rintro e w1 ⟨v1, rfl, hk1, ho1⟩
  refine ⟨_, rfl, ?_⟩
  refine ⟨fun t6 t27 wr => ∃ i : Nat, i ≤ rows.length ∧ t27 = .int .i64 i ∧ Kp w wr ∧ wr.ownsRow w.heap.size 3 1 t6 (rows.take i).flatten.length (intCells (rows.take i).flatten), fun _ t27 _ => rows.length - (intOf t27).toNat,
    ⟨0, by omega, rfl, hk1, by simpa [intCells] using ho1⟩, ?_⟩
  rintro _ t6 _ wr ⟨i, hi, rfl, hk, ho⟩
  by_cases hlt : i < rows.length
  case pos =>
    have hlt' : (i : Int) < (rows.length : Int) := by omega
    obtain ⟨b, off, cap', rv, he, hc, hrow⟩ := hr.row hlt
    cases he
    have h1 := flatten_le (rows := rows) (i + 1)
    rw [flatten_take hlt, List.length_append] at h1
    simp (disch := omega) only [r_ln, r_pick, r_pickT, r_pickF, r_condT, r_condF, r_gdTT, r_gdFF, r_gdTF, r_gdFT, r_gqTT, r_gqFF, r_gqTF, r_gqFT, r_not, r_lss, r_leq, r_gtr, r_geq, r_eql, r_neq, r_add, r_sub, r_min2, r_max2, r_min3, r_max3, r_fa, r_iaS, r_iaA, r_ex2a, r_ex2b, r_ex3a, r_ex3b, r_ex3c, r_nc, r_keepE, Nat.zero_add, Nat.add_zero, Nat.mul_one, Int.toNat_natCast, toNat_sub1, toNat_add1, decide_true, decide_false, Bool.not_true, Bool.not_false, if_true, if_false, Bool.false_eq_true, reduceCtorEq, hlt', r_ld (cell_later hk hc)]
    refine r_apInts ho (hrow.below hk) (by omega) hk.size fun v' w' ho' hg => ?_
    refine ⟨⟨i + 1, by omega, by go_num, Below.grown hk hg hk.size fun k hk' => (ho.lt k hk').1, ?_⟩, by simp only [intOf]; omega⟩
    rw [flatten_take hlt, List.length_append]
    exact ho'
  have hlt' : ¬ (i : Int) < (rows.length : Int) := by omega
  have hiR : i = rows.length := by omega
  subst hiR
  simp (disch := omega) only [r_ln, r_pick, r_pickT, r_pickF, r_condT, r_condF, r_gdTT, r_gdFF, r_gdTF, r_gdFT, r_gqTT, r_gqFF, r_gqTF, r_gqFT, r_not, r_lss, r_leq, r_gtr, r_geq, r_eql, r_neq, r_add, r_sub, r_min2, r_max2, r_min3, r_max3, r_fa, r_iaS, r_iaA, r_ex2a, r_ex2b, r_ex3a, r_ex3b, r_ex3c, r_nc, r_keepE, Nat.zero_add, Nat.add_zero, Nat.mul_one, Int.toNat_natCast, toNat_sub1, toNat_add1, decide_true, decide_false, Bool.not_true, Bool.not_false, if_true, if_false, Bool.false_eq_true, reduceCtorEq, hlt', List.take_length] at ho ⊢
  exact ⟨t6, rfl, hk, ho⟩

theorem neq_self (x : Int) (w : World) : Calls Try.prog 93 #[.int .i64 x] w fun e w' => e = .returned (.bool false) ∧ w = w' := by
  refine lift93 ?_
  unfold S93
  simp only [r_ln, r_pick, r_pickT, r_pickF, r_condT, r_condF, r_gdTT, r_gdFF, r_gdTF, r_gdFT, r_gqTT, r_gqFF, r_gqTF, r_gqFT, r_not, r_lss, r_leq, r_gtr, r_geq, r_eql, r_neq, r_add, r_sub, r_min2, r_max2, r_min3, r_max3, r_fa, r_iaS, r_iaA, r_ex2a, r_ex2b, r_ex3a, r_ex3b, r_ex3c, r_nc, r_keepE, Nat.zero_add, Nat.add_zero, Nat.mul_one, Int.toNat_natCast, toNat_sub1, toNat_add1, decide_true, decide_false, Bool.not_true, Bool.not_false, if_true, if_false, Bool.false_eq_true, reduceCtorEq]
  exact ⟨trivial, trivial⟩

/-- How two integers compare. -/
def cmpI (x y : Int) : Int := if x < y then -1 else if y < x then 1 else 0

theorem cmp_calls (x y : Int) (w : World) : Calls Try.prog 81 #[.int .i64 x, .int .i64 y] w fun e w' => e = .returned (.int .i64 (cmpI x y)) ∧ w = w' := by
  refine lift81 ?_
  unfold S81
  refine r_use fok93 (neq_self x w) rfl ?_
  rintro _ _ ⟨rfl, rfl⟩
  refine ⟨_, rfl, ?_⟩
  refine r_use fok93 (neq_self y w) rfl ?_
  rintro _ _ ⟨rfl, rfl⟩
  refine ⟨_, rfl, ?_⟩
  by_cases h1 : x < y
  · simp only [r_ln, r_pick, r_pickT, r_pickF, r_condT, r_condF, r_gdTT, r_gdFF, r_gdTF, r_gdFT, r_gqTT, r_gqFF, r_gqTF, r_gqFT, r_not, r_lss, r_leq, r_gtr, r_geq, r_eql, r_neq, r_add, r_sub, r_min2, r_max2, r_min3, r_max3, r_fa, r_iaS, r_iaA, r_ex2a, r_ex2b, r_ex3a, r_ex3b, r_ex3c, r_nc, r_keepE, Nat.zero_add, Nat.add_zero, Nat.mul_one, Int.toNat_natCast, toNat_sub1, toNat_add1, decide_true, decide_false, Bool.not_true, Bool.not_false, if_true, if_false, Bool.false_eq_true, reduceCtorEq, h1]
    exact ⟨by simp [cmpI, h1], trivial⟩
  by_cases h2 : y < x
  · simp only [r_ln, r_pick, r_pickT, r_pickF, r_condT, r_condF, r_gdTT, r_gdFF, r_gdTF, r_gdFT, r_gqTT, r_gqFF, r_gqTF, r_gqFT, r_not, r_lss, r_leq, r_gtr, r_geq, r_eql, r_neq, r_add, r_sub, r_min2, r_max2, r_min3, r_max3, r_fa, r_iaS, r_iaA, r_ex2a, r_ex2b, r_ex3a, r_ex3b, r_ex3c, r_nc, r_keepE, Nat.zero_add, Nat.add_zero, Nat.mul_one, Int.toNat_natCast, toNat_sub1, toNat_add1, decide_true, decide_false, Bool.not_true, Bool.not_false, if_true, if_false, Bool.false_eq_true, reduceCtorEq, h1, h2]
    exact ⟨by simp [cmpI, h1, h2], trivial⟩
  simp only [r_ln, r_pick, r_pickT, r_pickF, r_condT, r_condF, r_gdTT, r_gdFF, r_gdTF, r_gdFT, r_gqTT, r_gqFF, r_gqTF, r_gqFT, r_not, r_lss, r_leq, r_gtr, r_geq, r_eql, r_neq, r_add, r_sub, r_min2, r_max2, r_min3, r_max3, r_fa, r_iaS, r_iaA, r_ex2a, r_ex2b, r_ex3a, r_ex3b, r_ex3c, r_nc, r_keepE, Nat.zero_add, Nat.add_zero, Nat.mul_one, Int.toNat_natCast, toNat_sub1, toNat_add1, decide_true, decide_false, Bool.not_true, Bool.not_false, if_true, if_false, Bool.false_eq_true, reduceCtorEq, h1, h2]
  exact ⟨by simp [cmpI, h1, h2], trivial⟩

/-- How two lists compare, lexicographically. -/
def cmpL : List Int → List Int → Int
  | [], [] => 0
  | [], _ :: _ => -1
  | _ :: _, [] => 1
  | a :: xs, b :: ys => if cmpI a b = 0 then cmpL xs ys else cmpI a b

theorem cmpL_nil (l : List Int) : cmpL [] l = if l.length = 0 then 0 else -1 := by cases l <;> simp [cmpL]
theorem cmpL_step {l m : List Int} {j : Nat} (h1 : j < l.length) (h2 : j < m.length) : cmpL (l.drop j) (m.drop j) = if cmpI (l.getD j 0) (m.getD j 0) = 0 then cmpL (l.drop (j + 1)) (m.drop (j + 1)) else cmpI (l.getD j 0) (m.getD j 0) := by
  rw [List.drop_eq_getElem_cons h1, List.drop_eq_getElem_cons h2, getD_lt _ _ _ h1, getD_lt _ _ _ h2]
  rfl
theorem cmpL_longer {l m : List Int} {j : Nat} (h1 : j < l.length) (h2 : m.length ≤ j) : cmpL (l.drop j) (m.drop j) = 1 := by
  rw [List.drop_eq_getElem_cons h1, List.drop_eq_nil_of_le h2]
  rfl

set_option maxRecDepth 100000 in
theorem compare_calls (v1 v2 : Value) (l m : List Int) (w : World) (hl : RdInts w v1 l) (hm : RdInts w v2 m) : Calls Try.prog 56 #[v1, v2] w fun e w' => e = .returned (.int .i64 (cmpL l m)) ∧ w = w' := by
  obtain ⟨a1, cap1, rfl, hl1⟩ := hl.len
  obtain ⟨a2, cap2, rfl, hl2⟩ := hm.len
  refine lift56 ?_
  unfold S56
  simp (disch := omega) only [r_ln, r_pick, r_pickT, r_pickF, r_condT, r_condF, r_gdTT, r_gdFF, r_gdTF, r_gdFT, r_gqTT, r_gqFF, r_gqTF, r_gqFT, r_not, r_lss, r_leq, r_gtr, r_geq, r_eql, r_neq, r_add, r_sub, r_min2, r_max2, r_min3, r_max3, r_fa, r_iaS, r_iaA, r_ex2a, r_ex2b, r_ex3a, r_ex3b, r_ex3c, r_nc, r_keepE, Nat.zero_add, Nat.add_zero, Nat.mul_one, Int.toNat_natCast, toNat_sub1, toNat_add1, decide_true, decide_false, Bool.not_true, Bool.not_false, if_true, if_false, Bool.false_eq_true, reduceCtorEq]
  refine ⟨fun t11 wr => ∃ i : Nat, i ≤ l.length ∧ i ≤ m.length ∧ t11 = .int .i64 i ∧ cmpL l m = cmpL (l.drop i) (m.drop i) ∧ w = wr, fun t11 _ => l.length - (intOf t11).toNat, ⟨0, by omega, by omega, rfl, rfl, rfl⟩, ?_⟩
  rintro _ _ _ ⟨i, hi, hi2, rfl, he, rfl⟩
  by_cases hlt : i < l.length
  case pos =>
    have hlt' : (i : Int) < (l.length : Int) := by omega
    obtain ⟨b, off, _, e1, hc⟩ := hl.at hlt
    cases e1
    by_cases hlm : m.length ≤ i
    · have hlm' : (m.length : Int) ≤ i := by omega
      simp (disch := omega) only [r_ln, r_pick, r_pickT, r_pickF, r_condT, r_condF, r_gdTT, r_gdFF, r_gdTF, r_gdFT, r_gqTT, r_gqFF, r_gqTF, r_gqFT, r_not, r_lss, r_leq, r_gtr, r_geq, r_eql, r_neq, r_add, r_sub, r_min2, r_max2, r_min3, r_max3, r_fa, r_iaS, r_iaA, r_ex2a, r_ex2b, r_ex3a, r_ex3b, r_ex3c, r_nc, r_keepE, Nat.zero_add, Nat.add_zero, Nat.mul_one, Int.toNat_natCast, toNat_sub1, toNat_add1, decide_true, decide_false, Bool.not_true, Bool.not_false, if_true, if_false, Bool.false_eq_true, reduceCtorEq, hlt', r_ld hc, hlm']
      exact ⟨by rw [he, cmpL_longer hlt hlm], trivial⟩
    have hlm' : ¬ (m.length : Int) ≤ i := by omega
    obtain ⟨b2, off2, _, e2, hc2⟩ := hm.at (j := i) (by omega)
    cases e2
    simp (disch := omega) only [r_ln, r_pick, r_pickT, r_pickF, r_condT, r_condF, r_gdTT, r_gdFF, r_gdTF, r_gdFT, r_gqTT, r_gqFF, r_gqTF, r_gqFT, r_not, r_lss, r_leq, r_gtr, r_geq, r_eql, r_neq, r_add, r_sub, r_min2, r_max2, r_min3, r_max3, r_fa, r_iaS, r_iaA, r_ex2a, r_ex2b, r_ex3a, r_ex3b, r_ex3c, r_nc, r_keepE, Nat.zero_add, Nat.add_zero, Nat.mul_one, Int.toNat_natCast, toNat_sub1, toNat_add1, decide_true, decide_false, Bool.not_true, Bool.not_false, if_true, if_false, Bool.false_eq_true, reduceCtorEq, hlt', r_ld hc, hlm', r_ld hc2]
    refine r_use fok81 (cmp_calls _ _ w) rfl ?_
    rintro _ _ ⟨rfl, rfl⟩
    refine ⟨_, rfl, ?_⟩
    have hs := cmpL_step hlt (show i < m.length by omega)
    by_cases h0 : cmpI (l.getD i 0) (m.getD i 0) = 0
    · rw [if_pos h0] at hs
      simp (disch := omega) only [r_ln, r_pick, r_pickT, r_pickF, r_condT, r_condF, r_gdTT, r_gdFF, r_gdTF, r_gdFT, r_gqTT, r_gqFF, r_gqTF, r_gqFT, r_not, r_lss, r_leq, r_gtr, r_geq, r_eql, r_neq, r_add, r_sub, r_min2, r_max2, r_min3, r_max3, r_fa, r_iaS, r_iaA, r_ex2a, r_ex2b, r_ex3a, r_ex3b, r_ex3c, r_nc, r_keepE, Nat.zero_add, Nat.add_zero, Nat.mul_one, Int.toNat_natCast, toNat_sub1, toNat_add1, decide_true, decide_false, Bool.not_true, Bool.not_false, if_true, if_false, Bool.false_eq_true, reduceCtorEq, h0]
      exact ⟨⟨i + 1, by omega, by omega, by go_num, by rw [he, hs], trivial⟩, by simp only [intOf]; omega⟩
    · rw [if_neg h0] at hs
      simp (disch := omega) only [r_ln, r_pick, r_pickT, r_pickF, r_condT, r_condF, r_gdTT, r_gdFF, r_gdTF, r_gdFT, r_gqTT, r_gqFF, r_gqTF, r_gqFT, r_not, r_lss, r_leq, r_gtr, r_geq, r_eql, r_neq, r_add, r_sub, r_min2, r_max2, r_min3, r_max3, r_fa, r_iaS, r_iaA, r_ex2a, r_ex2b, r_ex3a, r_ex3b, r_ex3c, r_nc, r_keepE, Nat.zero_add, Nat.add_zero, Nat.mul_one, Int.toNat_natCast, toNat_sub1, toNat_add1, decide_true, decide_false, Bool.not_true, Bool.not_false, if_true, if_false, Bool.false_eq_true, reduceCtorEq, h0]
      exact ⟨by rw [he, hs], trivial⟩
  have hlt' : ¬ (i : Int) < (l.length : Int) := by omega
  have hd : l.drop i = [] := List.drop_eq_nil_of_le (by omega)
  rw [hd, cmpL_nil, List.length_drop] at he
  by_cases hlm : l.length < m.length
  · have hlm' : (l.length : Int) < (m.length : Int) := by omega
    simp (disch := omega) only [r_ln, r_pick, r_pickT, r_pickF, r_condT, r_condF, r_gdTT, r_gdFF, r_gdTF, r_gdFT, r_gqTT, r_gqFF, r_gqTF, r_gqFT, r_not, r_lss, r_leq, r_gtr, r_geq, r_eql, r_neq, r_add, r_sub, r_min2, r_max2, r_min3, r_max3, r_fa, r_iaS, r_iaA, r_ex2a, r_ex2b, r_ex3a, r_ex3b, r_ex3c, r_nc, r_keepE, Nat.zero_add, Nat.add_zero, Nat.mul_one, Int.toNat_natCast, toNat_sub1, toNat_add1, decide_true, decide_false, Bool.not_true, Bool.not_false, if_true, if_false, Bool.false_eq_true, reduceCtorEq, hlt', hlm']
    exact ⟨by rw [he, if_neg (by omega)], trivial⟩
  · have hlm' : ¬ (l.length : Int) < (m.length : Int) := by omega
    simp (disch := omega) only [r_ln, r_pick, r_pickT, r_pickF, r_condT, r_condF, r_gdTT, r_gdFF, r_gdTF, r_gdFT, r_gqTT, r_gqFF, r_gqTF, r_gqFT, r_not, r_lss, r_leq, r_gtr, r_geq, r_eql, r_neq, r_add, r_sub, r_min2, r_max2, r_min3, r_max3, r_fa, r_iaS, r_iaA, r_ex2a, r_ex2b, r_ex3a, r_ex3b, r_ex3c, r_nc, r_keepE, Nat.zero_add, Nat.add_zero, Nat.mul_one, Int.toNat_natCast, toNat_sub1, toNat_add1, decide_true, decide_false, Bool.not_true, Bool.not_false, if_true, if_false, Bool.false_eq_true, reduceCtorEq, hlt', hlm']
    exact ⟨by rw [he, if_pos (by omega)], trivial⟩

end Go.Proofs.Ytaephdjmpmbfpaa
