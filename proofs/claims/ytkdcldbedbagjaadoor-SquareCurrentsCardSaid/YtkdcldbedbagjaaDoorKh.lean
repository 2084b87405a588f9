/- Contracts: of, between, Trees, Merged of the program; the errors of a network. -/
import Derived.Test.YtkdcldbedbagjaaDoorKg
set_option linter.all false
namespace Go.Proofs.YtkdcldbedbagjaaDoor
open Go.Lf Go.RowKit Go.Dt

abbrev RdW (w : World) (v : Value) (L : List (Int × Int)) : Prop := Rd 2 wC w v L

def badB (n : Int) (e : Int × Int) : Bool := decide (e.1 < 0) || decide (n ≤ e.1) || decide (e.2 < 0) || decide (n ≤ e.2) || decide (e.1 = e.2)
def netErr (n : Int) (L : List (Int × Int)) : Int := if n < 2 ∨ 8 < n then 2 else if 16 < L.length then 3 else if L.any (badB n) = true then 2 else 0
def endErr (n : Int) (L : List (Int × Int)) (s t : Int) : Int := if netErr n L = 0 then (if s < 0 ∨ n ≤ s ∨ t < 0 ∨ n ≤ t ∨ s = t then 2 else 0) else netErr n L
def natW (e : Int × Int) : Wr := (e.1.toNat, e.2.toNat)

theorem netErr_cases (n : Int) (L : List (Int × Int)) : netErr n L = 0 ∨ netErr n L = 2 ∨ netErr n L = 3 := by
  unfold netErr; split
  · exact .inr (.inl rfl)
  · split
    · exact .inr (.inr rfl)
    · split
      · exact .inr (.inl rfl)
      · exact .inl rfl
theorem net_ok {n : Int} {L : List (Int × Int)} (h : netErr n L = 0) : ∃ N : Nat, n = N ∧ NetOk N (L.map natW) ∧ ∀ e ∈ L, wN (natW e) = wC e := by
  unfold netErr at h
  by_cases h1 : n < 2 ∨ 8 < n
  · rw [if_pos h1] at h; cases h
  by_cases h2 : 16 < L.length
  · rw [if_neg h1, if_pos h2] at h; cases h
  by_cases h3 : L.any (badB n) = true
  · rw [if_neg h1, if_neg h2, if_pos h3] at h; cases h
  have hb : ∀ e ∈ L, 0 ≤ e.1 ∧ e.1 < n ∧ 0 ≤ e.2 ∧ e.2 < n ∧ e.1 ≠ e.2 := fun e he => by
    have : ¬ badB n e = true := fun hb => h3 (List.any_eq_true.2 ⟨e, he, hb⟩)
    simp only [badB, Bool.or_eq_true, decide_eq_true_eq] at this
    omega
  refine ⟨n.toNat, by omega, ⟨by omega, by omega, by rw [List.length_map]; omega, fun x hx => ?_⟩, fun e he => ?_⟩
  · obtain ⟨e, he, rfl⟩ := List.mem_map.1 hx
    have := hb e he
    simp only [natW]
    omega
  · have := hb e he
    simp only [wN, wC, natW]
    rw [show ((e.1.toNat : Nat) : Int) = e.1 by omega, show ((e.2.toNat : Nat) : Int) = e.2 by omega]
theorem RdW.nat {w : World} {v : Value} {L : List (Int × Int)} (h : RdW w v L) (hb : ∀ e ∈ L, wN (natW e) = wC e) : Rd 2 wN w v (L.map natW) := Rd.map h hb
theorem end_ok {n : Int} {L : List (Int × Int)} {s t : Int} (h : endErr n L s t = 0) : netErr n L = 0 ∧ ∃ S T : Nat, s = S ∧ t = T ∧ (S : Int) < n ∧ (T : Int) < n ∧ S ≠ T := by
  unfold endErr at h
  by_cases h1 : netErr n L = 0
  · rw [if_pos h1] at h
    by_cases h2 : s < 0 ∨ n ≤ s ∨ t < 0 ∨ n ≤ t ∨ s = t
    · rw [if_pos h2] at h; cases h
    · exact ⟨h1, s.toNat, t.toNat, by omega, by omega, by omega, by omega, by omega⟩
  · rw [if_neg h1] at h; exact absurd h h1

/-! ### boxes of two and three cells -/
set_option maxRecDepth 100000 in
theorem st80 {w : World} {b : Nat} {x y : Value} {n : Int} {a : Option Addr} {m c : Nat} {K : World → Prop} (h : w.heap[b]? = some (.cells #[x, y] 80 (0, 0))) (hk : ∀ w', Chg (fun k => k = b) w w' → w'.heap.size = w.heap.size → w'.heap[b]? = some (.cells #[.int .i64 n, .slice a m c] 80 (0, 0)) → K w') : stW Tryd.prog 80 (ptrV b) (netV n (.slice a m c)) w K :=
  r_stAll (n := 2) (by kernel_rfl) rfl (by intro u hu; simp [Value.cells] at hu; rcases hu with rfl | rfl <;> rfl) h rfl fun w' h1 h2 h3 => hk w' h1 h2 h3
set_option maxRecDepth 100000 in
theorem st58 {w : World} {b : Nat} {x y : Value} {p q : Int} {K : World → Prop} (h : w.heap[b]? = some (.cells #[x, y] 58 (0, 0))) (hk : ∀ w', Chg (fun k => k = b) w w' → w'.heap.size = w.heap.size → w'.heap[b]? = some (.cells #[.int .i64 p, .int .i64 q] 58 (0, 0)) → K w') : stW Tryd.prog 58 (ptrV b) (wV p q) w K :=
  r_stAll (n := 2) (by kernel_rfl) rfl (by intro u hu; simp [Value.cells] at hu; rcases hu with rfl | rfl <;> rfl) h rfl fun w' h1 h2 h3 => hk w' h1 h2 h3
abbrev flV (cv : Value) (t v : Int) : Value := .agg #[cv, .int .i64 t, .int .i64 v]
set_option maxRecDepth 100000 in
theorem st36 {w : World} {b : Nat} {x y z : Value} {p q : Int} {a : Option Addr} {m c : Nat} {K : World → Prop} (h : w.heap[b]? = some (.cells #[x, y, z] 36 (0, 0))) (hk : ∀ w', Chg (fun k => k = b) w w' → w'.heap.size = w.heap.size → w'.heap[b]? = some (.cells #[.slice a m c, .int .i64 p, .int .i64 q] 36 (0, 0)) → K w') : stW Tryd.prog 36 (ptrV b) (flV (.slice a m c) p q) w K :=
  r_stAll (n := 3) (by kernel_rfl) rfl (by intro u hu; simp [Value.cells] at hu; rcases hu with rfl | rfl | rfl <;> rfl) h rfl fun w' h1 h2 h3 => hk w' h1 h2 h3
set_option maxRecDepth 100000 in
theorem bd80_0 {K : Value → Prop} : bdQ Tryd.prog 80 [] K = K (netV 0 nilS) := by kernel_rfl
set_option maxRecDepth 100000 in
theorem bd80 {n : Int} {a : Option Addr} {m c : Nat} {K : Value → Prop} : bdQ Tryd.prog 80 [(0, .int .i64 n), (1, .slice a m c)] K = K (netV n (.slice a m c)) := by kernel_rfl
set_option maxRecDepth 100000 in
theorem bd58_0 {K : Value → Prop} : bdQ Tryd.prog 58 [] K = K (wV 0 0) := by kernel_rfl
set_option maxRecDepth 100000 in
theorem bd58 {x y : Int} {K : Value → Prop} : bdQ Tryd.prog 58 [(0, .int .i64 x), (1, .int .i64 y)] K = K (wV x y) := by kernel_rfl
set_option maxRecDepth 100000 in
theorem bd36_0 {K : Value → Prop} : bdQ Tryd.prog 36 [] K = K (flV nilS 0 0) := by kernel_rfl
set_option maxRecDepth 100000 in
theorem bd36 {x y : Int} {K : Value → Prop} : bdQ Tryd.prog 36 [(1, .int .i64 x), (2, .int .i64 y)] K = K (flV nilS x y) := by kernel_rfl

/-! ### the wires -/
set_option maxRecDepth 100000 in
theorem bad_calls {n a b : Int} {q : Nat} (w : World) (hc : w.cell? ⟨q, 0, none⟩ = some (.int .i64 n)) : Calls Tryd.prog 74 #[wV a b, ptrV q] w fun e w' => e = .returned (.bool (badB n (a, b))) ∧ Kp w w' := by
  refine lift74 ?_
  unfold S74
  refine r_box fun b2 w1 e1 s1 h1 k1 => ?_
  have h1' : w1.heap[b2]? = some (.cells #[.int .i64 a, .int .i64 b] 40 (0, 0)) := h1
  have cA : w1.cell? ⟨b2, 0 + 0, none⟩ = some (.int .i64 a) := by rw [cell_row h1']; rfl
  have cB : w1.cell? ⟨b2, 0 + 1, none⟩ = some (.int .i64 b) := by rw [cell_row h1']; rfl
  have cn := cell_later k1 hc
  unfold badB
  by_cases g1 : a < 0
  · simp (disch := omega) only [r_ln, r_pick, r_pickT, r_pickF, r_condT, r_condF, r_gdTT, r_gdFF, r_gdTF, r_gdFT, r_gqTT, r_gqFF, r_gqTF, r_gqFT, r_not, r_lss, r_leq, r_gtr, r_geq, r_eql, r_neq, r_add, r_sub, r_min2, r_max2, r_min3, r_max3, r_fa, r_iaS, r_iaA, r_ex2a, r_ex2b, r_ex3a, r_ex3b, r_ex3c, r_nc, r_keepE, Nat.zero_add, Nat.add_zero, Nat.mul_one, Int.toNat_natCast, toNat_sub1, toNat_add1, decide_true, decide_false, Bool.not_true, Bool.not_false, if_true, if_false, Bool.false_eq_true, reduceCtorEq, r_ld cA, r_ld cB, r_ld cn, r_gdU, decide_eq_true g1, Bool.true_or]
    exact ⟨by first | rfl | trivial, k1⟩
  by_cases g2 : n ≤ a
  · simp (disch := omega) only [r_ln, r_pick, r_pickT, r_pickF, r_condT, r_condF, r_gdTT, r_gdFF, r_gdTF, r_gdFT, r_gqTT, r_gqFF, r_gqTF, r_gqFT, r_not, r_lss, r_leq, r_gtr, r_geq, r_eql, r_neq, r_add, r_sub, r_min2, r_max2, r_min3, r_max3, r_fa, r_iaS, r_iaA, r_ex2a, r_ex2b, r_ex3a, r_ex3b, r_ex3c, r_nc, r_keepE, Nat.zero_add, Nat.add_zero, Nat.mul_one, Int.toNat_natCast, toNat_sub1, toNat_add1, decide_true, decide_false, Bool.not_true, Bool.not_false, if_true, if_false, Bool.false_eq_true, reduceCtorEq, r_ld cA, r_ld cB, r_ld cn, r_gdU, g1, decide_eq_true g2, Bool.true_or, Bool.or_true, Bool.false_or]
    exact ⟨by first | rfl | trivial, k1⟩
  by_cases g3 : b < 0
  · simp (disch := omega) only [r_ln, r_pick, r_pickT, r_pickF, r_condT, r_condF, r_gdTT, r_gdFF, r_gdTF, r_gdFT, r_gqTT, r_gqFF, r_gqTF, r_gqFT, r_not, r_lss, r_leq, r_gtr, r_geq, r_eql, r_neq, r_add, r_sub, r_min2, r_max2, r_min3, r_max3, r_fa, r_iaS, r_iaA, r_ex2a, r_ex2b, r_ex3a, r_ex3b, r_ex3c, r_nc, r_keepE, Nat.zero_add, Nat.add_zero, Nat.mul_one, Int.toNat_natCast, toNat_sub1, toNat_add1, decide_true, decide_false, Bool.not_true, Bool.not_false, if_true, if_false, Bool.false_eq_true, reduceCtorEq, r_ld cA, r_ld cB, r_ld cn, r_gdU, g1, g2, decide_eq_true g3, Bool.true_or, Bool.or_true, Bool.false_or]
    exact ⟨by first | rfl | trivial, k1⟩
  by_cases g4 : n ≤ b
  · simp (disch := omega) only [r_ln, r_pick, r_pickT, r_pickF, r_condT, r_condF, r_gdTT, r_gdFF, r_gdTF, r_gdFT, r_gqTT, r_gqFF, r_gqTF, r_gqFT, r_not, r_lss, r_leq, r_gtr, r_geq, r_eql, r_neq, r_add, r_sub, r_min2, r_max2, r_min3, r_max3, r_fa, r_iaS, r_iaA, r_ex2a, r_ex2b, r_ex3a, r_ex3b, r_ex3c, r_nc, r_keepE, Nat.zero_add, Nat.add_zero, Nat.mul_one, Int.toNat_natCast, toNat_sub1, toNat_add1, decide_true, decide_false, Bool.not_true, Bool.not_false, if_true, if_false, Bool.false_eq_true, reduceCtorEq, r_ld cA, r_ld cB, r_ld cn, r_gdU, g1, g2, g3, decide_eq_true g4, Bool.true_or, Bool.or_true, Bool.false_or]
    exact ⟨by first | rfl | trivial, k1⟩
  simp (disch := omega) only [r_ln, r_pick, r_pickT, r_pickF, r_condT, r_condF, r_gdTT, r_gdFF, r_gdTF, r_gdFT, r_gqTT, r_gqFF, r_gqTF, r_gqFT, r_not, r_lss, r_leq, r_gtr, r_geq, r_eql, r_neq, r_add, r_sub, r_min2, r_max2, r_min3, r_max3, r_fa, r_iaS, r_iaA, r_ex2a, r_ex2b, r_ex3a, r_ex3b, r_ex3c, r_nc, r_keepE, Nat.zero_add, Nat.add_zero, Nat.mul_one, Int.toNat_natCast, toNat_sub1, toNat_add1, decide_true, decide_false, Bool.not_true, Bool.not_false, if_true, if_false, Bool.false_eq_true, reduceCtorEq, r_ld cA, r_ld cB, r_ld cn, r_gdU, g1, g2, g3, g4, Bool.false_or]
  exact ⟨by first | rfl | trivial, k1⟩

theorem wireZ_at {w : World} {v : Value} {L : List (Int × Int)} (h : RdW w v L) {i : Nat} (hi : i < L.length) : ∀ K : Value → Prop, (iaS 2 v (.int .i64 i) fun p => ldN 2 w p K) = K (wV (L.getD i (0, 0)).1 (L.getD i (0, 0)).2) := fun K => by
  obtain ⟨b, off, cap, e, _, hc⟩ := h.at (List.getElem?_eq_getElem hi)
  have hii : (i : Int).toNat = i := by omega
  rw [e, r_iaS _ _ _ _ _ _ _ (by omega) (by omega), hii, r_ldCells (n := 2) (l := wC L[i]) rfl hc, getD_lt _ _ _ hi]
  rfl

set_option maxRecDepth 100000 in
theorem anybad_calls {v : Value} {L : List (Int × Int)} {n : Int} {q : Nat} (w : World) (hr : RdW w v L) (hl : L.length ≤ 1000) (hc : w.cell? ⟨q, 0, none⟩ = some (.int .i64 n)) :
    Calls Tryd.prog 73 #[v, .func (.func 74) #[] #[ptrV q]] w fun e w' => e = .returned (.bool (L.any (badB n))) ∧ Kp w w' := by
  obtain ⟨a, cap, ev, _⟩ := hr.len
  have lnv : ∀ K : Value → Prop, ln1 v K = K (.int .i64 L.length) := fun K => by rw [ev]; rfl
  have h87 : Calls Tryd.prog 87 #[v, .func (.func 74) #[] #[ptrV q]] w fun e w' => Kp w w' ∧ ∃ p : Int, e = .returned (.int .i64 p) ∧ (0 ≤ p ↔ L.any (badB n) = true) := by
    refine lift87 ?_
    unfold S87 S87L0
    rw [lnv]
    refine ⟨fun t8 wr => ∃ j : Nat, j ≤ L.length ∧ t8 = .int .i64 j ∧ (∀ e ∈ L.take j, badB n e = false) ∧ Kp w wr, fun t8 _ => L.length - (intOf t8).toNat, ⟨0, by omega, rfl, by simp, Kp.refl _⟩, ?_⟩
    rintro _ _ wr ⟨j, hj, rfl, hz, kr⟩
    by_cases hlt : j < L.length
    case neg =>
      have hlt' : ¬ (j : Int) < (L.length : Int) := by omega
      simp only [r_lss, hlt', decide_false, r_condF]
      rw [List.take_of_length_le (by omega)] at hz
      refine ⟨kr, _, rfl, ⟨fun h => by omega, fun h => ?_⟩⟩
      obtain ⟨e, he, hb⟩ := List.any_eq_true.1 h
      rw [hz e he] at hb; cases hb
    have hlt' : (j : Int) < (L.length : Int) := by omega
    simp only [r_lss, decide_eq_true hlt', r_condT]
    rw [wireZ_at (hr.kp kr) hlt]
    refine r_use fok74 (bad_calls wr (cell_later kr hc)) rfl ?_
    rintro _ w2 ⟨rfl, k2⟩
    refine ⟨_, rfl, ?_⟩
    cases hb : badB n ((L.getD j (0, 0)).1, (L.getD j (0, 0)).2) with
    | true =>
      simp only [r_condT]
      exact ⟨Kp.trans kr k2, _, rfl, ⟨fun _ => List.any_eq_true.2 ⟨_, getD_mem hlt, hb⟩, fun _ => by omega⟩⟩
    | false =>
      simp only [r_condF]
      rw [r_add _ _ (by omega) (by omega)]
      refine ⟨⟨j + 1, by omega, by go_num, fun e hm => ?_, Kp.trans kr k2⟩, by simp only [intOf]; omega⟩
      rw [take_succ' _ _ hlt] at hm
      rcases List.mem_append.1 hm with h | h
      · exact hz e h
      · simp at h
        rw [h, ← getD_lt _ _ (0, 0) hlt]; exact hb
  refine lift73 ?_
  unfold S73
  refine r_use fok87 h87 rfl ?_
  rintro _ w1 ⟨k1, p, rfl, hp⟩
  refine ⟨_, rfl, ?_⟩
  rw [r_geq]
  refine ⟨ret_bool ?_, k1⟩
  cases hb : L.any (badB n) with
  | true => exact decide_eq_true (hp.2 hb)
  | false => exact decide_eq_false fun h => by rw [hp.1 h] at hb; cases hb

set_option maxRecDepth 100000 in
set_option maxHeartbeats 1000000 in
theorem of_calls {v : Value} {L : List (Int × Int)} {n : Int} (w : World) (hr : RdW w v L) : Calls Tryd.prog 58 #[.int .i64 n, v] w fun e w' => Kp w w' ∧ e = .returned (.tuple #[if netErr n L = 0 then netV n v else netV 0 nilS, .int .i64 (netErr n L)]) := by
  obtain ⟨a, cap, ev, _⟩ := hr.len
  subst ev
  refine lift58 ?_
  unfold S58
  refine r_box fun b2 w1 e1 s1 h1 k1 => ?_
  refine r_box fun b4 w2 e2 s2 h2 k2 => ?_
  have k02 := Kp.trans k1 k2
  have h1' : w1.heap[b2]? = some (.cells #[.int .i64 n] 3 (0, 0)) := h1
  have h2' : w2.heap[b4]? = some (.cells #[.int .i64 0, .slice none 0 0] 80 (0, 0)) := h2
  have h12 := block_below h1' k2
  have cn : w2.cell? ⟨b2, 0, none⟩ = some (.int .i64 n) := by rw [cell_row h12]; rfl
  have empty : ∀ (w' : World) (K : Value → World → Prop) (y : Int), w2.heap.size ≤ w'.heap.size → Kp w2 w' → (∀ w'', Kp w w'' → K (netV 0 nilS) w'') → stW Tryd.prog 80 (ptrV b4) (netV 0 nilS) w' fun w => ldN 2 w (ptrV b4) fun r => K r w := fun w' K y hsz k hK => by
    refine st80 (block_below h2' k) fun w3 c3 s3 h3 => ?_
    rw [net_box h3]
    exact hK w3 (Kp.of_chg (Kp.trans k02 k) c3 fun q e => by omega)
  by_cases g1 : n < 2
  · have hE : netErr n L = 2 := by unfold netErr; rw [if_pos (.inl g1)]
    rw [hE]
    simp (disch := omega) only [r_ln, r_pick, r_pickT, r_pickF, r_condT, r_condF, r_gdTT, r_gdFF, r_gdTF, r_gdFT, r_gqTT, r_gqFF, r_gqTF, r_gqFT, r_not, r_lss, r_leq, r_gtr, r_geq, r_eql, r_neq, r_add, r_sub, r_min2, r_max2, r_min3, r_max3, r_fa, r_iaS, r_iaA, r_ex2a, r_ex2b, r_ex3a, r_ex3b, r_ex3c, r_nc, r_keepE, Nat.zero_add, Nat.add_zero, Nat.mul_one, Int.toNat_natCast, toNat_sub1, toNat_add1, decide_true, decide_false, Bool.not_true, Bool.not_false, if_true, if_false, Bool.false_eq_true, reduceCtorEq, r_ld cn, r_gdU, decide_eq_true g1]
    rw [bd80_0]
    refine empty w2 (fun r w => Kp _ w ∧ _) 0 (Nat.le_refl _) (Kp.refl _) fun w'' k => ⟨k, rfl⟩
  by_cases g2 : 8 < n
  · have hE : netErr n L = 2 := by unfold netErr; rw [if_pos (.inr g2)]
    rw [hE]
    simp (disch := omega) only [r_ln, r_pick, r_pickT, r_pickF, r_condT, r_condF, r_gdTT, r_gdFF, r_gdTF, r_gdFT, r_gqTT, r_gqFF, r_gqTF, r_gqFT, r_not, r_lss, r_leq, r_gtr, r_geq, r_eql, r_neq, r_add, r_sub, r_min2, r_max2, r_min3, r_max3, r_fa, r_iaS, r_iaA, r_ex2a, r_ex2b, r_ex3a, r_ex3b, r_ex3c, r_nc, r_keepE, Nat.zero_add, Nat.add_zero, Nat.mul_one, Int.toNat_natCast, toNat_sub1, toNat_add1, decide_true, decide_false, Bool.not_true, Bool.not_false, if_true, if_false, Bool.false_eq_true, reduceCtorEq, r_ld cn, r_gdU, g1, decide_eq_true g2]
    rw [bd80_0]
    refine empty w2 (fun r w => Kp _ w ∧ _) 0 (Nat.le_refl _) (Kp.refl _) fun w'' k => ⟨k, rfl⟩
  have h12n : ¬ (n < 2 ∨ 8 < n) := by omega
  by_cases g3 : (16 : Int) < (L.length : Int)
  · have hE : netErr n L = 3 := by unfold netErr; rw [if_neg h12n, if_pos (by omega)]
    rw [hE]
    simp (disch := omega) only [r_ln, r_pick, r_pickT, r_pickF, r_condT, r_condF, r_gdTT, r_gdFF, r_gdTF, r_gdFT, r_gqTT, r_gqFF, r_gqTF, r_gqFT, r_not, r_lss, r_leq, r_gtr, r_geq, r_eql, r_neq, r_add, r_sub, r_min2, r_max2, r_min3, r_max3, r_fa, r_iaS, r_iaA, r_ex2a, r_ex2b, r_ex3a, r_ex3b, r_ex3c, r_nc, r_keepE, Nat.zero_add, Nat.add_zero, Nat.mul_one, Int.toNat_natCast, toNat_sub1, toNat_add1, decide_true, decide_false, Bool.not_true, Bool.not_false, if_true, if_false, Bool.false_eq_true, reduceCtorEq, r_ld cn, r_gdU, g1, g2, decide_eq_true g3]
    rw [bd80_0]
    refine empty w2 (fun r w => Kp _ w ∧ _) 0 (Nat.le_refl _) (Kp.refl _) fun w'' k => ⟨k, rfl⟩
  have hE : netErr n L = if L.any (badB n) = true then 2 else 0 := by unfold netErr; rw [if_neg h12n, if_neg (by omega)]
  generalize netErr n L = E at *
  simp (disch := omega) only [r_ln, r_pick, r_pickT, r_pickF, r_condT, r_condF, r_gdTT, r_gdFF, r_gdTF, r_gdFT, r_gqTT, r_gqFF, r_gqTF, r_gqFT, r_not, r_lss, r_leq, r_gtr, r_geq, r_eql, r_neq, r_add, r_sub, r_min2, r_max2, r_min3, r_max3, r_fa, r_iaS, r_iaA, r_ex2a, r_ex2b, r_ex3a, r_ex3b, r_ex3c, r_nc, r_keepE, Nat.zero_add, Nat.add_zero, Nat.mul_one, Int.toNat_natCast, toNat_sub1, toNat_add1, decide_true, decide_false, Bool.not_true, Bool.not_false, if_true, if_false, Bool.false_eq_true, reduceCtorEq, r_ld cn, r_gdU, g1, g2, g3]
  refine r_use fok73 (anybad_calls w2 (hr.kp k02) (by omega) cn) rfl ?_
  rintro _ w3 ⟨rfl, k3⟩
  refine ⟨_, rfl, ?_⟩
  have c3 := cell_later k3 cn
  cases hb : L.any (badB n) with
  | true =>
    rw [hb, if_pos rfl] at hE
    rw [hE]
    simp only [r_condT]
    rw [bd80_0]
    refine empty w3 (fun r w => Kp _ w ∧ _) 0 k3.size k3 fun w'' k => ⟨k, rfl⟩
  | false =>
    rw [hb, if_neg (by decide)] at hE
    rw [hE]
    simp only [r_condF]
    rw [r_ld c3, bd80]
    refine st80 (block_below h2' k3) fun w4 c4 s4 h4 => ?_
    rw [net_box h4]
    refine ⟨Kp.of_chg (Kp.trans k02 k3) c4 fun q e => by omega, ?_⟩
    rfl

end Go.Proofs.YtkdcldbedbagjaaDoor
