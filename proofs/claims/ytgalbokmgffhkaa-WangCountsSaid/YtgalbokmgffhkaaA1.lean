/- Contracts: colours, sides, sets of tiles, their errors. -/
import Derived.Test.YtgalbokmgffhkaaRecs
import Derived.Test.YtgalbokmgffhkaaT1
import Derived.Test.YtgalbokmgffhkaaSa
import Derived.Laws.StructEq
set_option linter.all false
namespace Go.Proofs.Ytgalbokmgffhkaa
open Go.Lf Go.RowKit Go.Wg

def tlC (t : Tile) : List Value := [.int .i64 t.1, .int .i64 t.2.1, .int .i64 t.2.2.1, .int .i64 t.2.2.2]
abbrev tlV (t : Tile) : Value := .agg #[.int .i64 t.1, .int .i64 t.2.1, .int .i64 t.2.2.1, .int .i64 t.2.2.2]
theorem tlC_len (t : Tile) : (tlC t).length = 4 := rfl
/-- The slice v reads as the tiles l. -/
abbrev RdT (w : World) (v : Value) (l : List Tile) : Prop := Rd 4 tlC w v l

theorem RdT.tile {w : World} {v : Value} {l : List Tile} (h : RdT w v l) {i : Nat} (hi : i < l.length) :
    ∃ b off cap, v = .slice (some ⟨b, off, none⟩) l.length cap ∧ (∀ K : Value → Prop, ldN 4 w (.pointer (some ⟨b, off + i * 4, none⟩)) K = K (tlV (tl l i))) ∧
      w.cell? ⟨b, off + i * 4, none⟩ = some (.int .i64 (tN (tl l i))) ∧ w.cell? ⟨b, off + i * 4 + 1, none⟩ = some (.int .i64 (tE (tl l i))) ∧ w.cell? ⟨b, off + i * 4 + 2, none⟩ = some (.int .i64 (tS (tl l i))) ∧ w.cell? ⟨b, off + i * 4 + 3, none⟩ = some (.int .i64 (tW (tl l i))) := by
  have hx := tl_get hi
  obtain ⟨b, off, cap, e, _, hc⟩ := h.at hx
  refine ⟨b, off, cap, e, fun K => ?_, by simpa using hc 0 _ rfl, hc 1 _ rfl, hc 2 _ rfl, hc 3 _ rfl⟩
  exact r_ldCells (l := tlC (tl l i)) rfl hc

theorem colour_calls (n : Int) (w : World) : Calls Try.prog 56 #[.int .i64 n] w fun e w' => e = .returned (.bool (colB n)) ∧ w = w' := by
  refine lift56 ?_
  unfold S56
  by_cases h0 : 0 ≤ n
  · simp only [r_ln, r_pick, r_pickT, r_pickF, r_condT, r_condF, r_gdTT, r_gdFF, r_gdTF, r_gdFT, r_gqTT, r_gqFF, r_gqTF, r_gqFT, r_not, r_lss, r_leq, r_gtr, r_geq, r_eql, r_neq, r_add, r_sub, r_min2, r_max2, r_min3, r_max3, r_fa, r_iaS, r_iaA, r_ex2a, r_ex2b, r_ex3a, r_ex3b, r_ex3c, r_nc, r_keepE, Nat.zero_add, Nat.add_zero, Nat.mul_one, Int.toNat_natCast, toNat_sub1, toNat_add1, decide_true, decide_false, Bool.not_true, Bool.not_false, if_true, if_false, Bool.false_eq_true, reduceCtorEq, h0]
    exact ⟨ret_bool (by simp [colB, h0]), trivial⟩
  · simp only [r_ln, r_pick, r_pickT, r_pickF, r_condT, r_condF, r_gdTT, r_gdFF, r_gdTF, r_gdFT, r_gqTT, r_gqFF, r_gqTF, r_gqFT, r_not, r_lss, r_leq, r_gtr, r_geq, r_eql, r_neq, r_add, r_sub, r_min2, r_max2, r_min3, r_max3, r_fa, r_iaS, r_iaA, r_ex2a, r_ex2b, r_ex3a, r_ex3b, r_ex3c, r_nc, r_keepE, Nat.zero_add, Nat.add_zero, Nat.mul_one, Int.toNat_natCast, toNat_sub1, toNat_add1, decide_true, decide_false, Bool.not_true, Bool.not_false, if_true, if_false, Bool.false_eq_true, reduceCtorEq, h0]
    exact ⟨ret_bool (by simp [colB, h0]), trivial⟩
theorem refcolour_calls (n : Int) (w : World) : Calls Try.prog 62 #[.int .i64 n] w fun e w' => e = .returned (.bool (colB n)) ∧ w = w' := by
  refine lift62 ?_
  unfold S62
  by_cases h0 : 0 ≤ n
  · simp only [r_ln, r_pick, r_pickT, r_pickF, r_condT, r_condF, r_gdTT, r_gdFF, r_gdTF, r_gdFT, r_gqTT, r_gqFF, r_gqTF, r_gqFT, r_not, r_lss, r_leq, r_gtr, r_geq, r_eql, r_neq, r_add, r_sub, r_min2, r_max2, r_min3, r_max3, r_fa, r_iaS, r_iaA, r_ex2a, r_ex2b, r_ex3a, r_ex3b, r_ex3c, r_nc, r_keepE, Nat.zero_add, Nat.add_zero, Nat.mul_one, Int.toNat_natCast, toNat_sub1, toNat_add1, decide_true, decide_false, Bool.not_true, Bool.not_false, if_true, if_false, Bool.false_eq_true, reduceCtorEq, h0]
    exact ⟨ret_bool (by simp [colB, h0]), trivial⟩
  · simp only [r_ln, r_pick, r_pickT, r_pickF, r_condT, r_condF, r_gdTT, r_gdFF, r_gdTF, r_gdFT, r_gqTT, r_gqFF, r_gqTF, r_gqFT, r_not, r_lss, r_leq, r_gtr, r_geq, r_eql, r_neq, r_add, r_sub, r_min2, r_max2, r_min3, r_max3, r_fa, r_iaS, r_iaA, r_ex2a, r_ex2b, r_ex3a, r_ex3b, r_ex3c, r_nc, r_keepE, Nat.zero_add, Nat.add_zero, Nat.mul_one, Int.toNat_natCast, toNat_sub1, toNat_add1, decide_true, decide_false, Bool.not_true, Bool.not_false, if_true, if_false, Bool.false_eq_true, reduceCtorEq, h0]
    exact ⟨ret_bool (by simp [colB, h0]), trivial⟩
theorem side_calls (n : Int) (w : World) : Calls Try.prog 66 #[.int .i64 n] w fun e w' => e = .returned (.bool (sideB n)) ∧ w = w' := by
  refine lift66 ?_
  unfold S66
  by_cases h0 : 1 ≤ n
  · simp only [r_ln, r_pick, r_pickT, r_pickF, r_condT, r_condF, r_gdTT, r_gdFF, r_gdTF, r_gdFT, r_gqTT, r_gqFF, r_gqTF, r_gqFT, r_not, r_lss, r_leq, r_gtr, r_geq, r_eql, r_neq, r_add, r_sub, r_min2, r_max2, r_min3, r_max3, r_fa, r_iaS, r_iaA, r_ex2a, r_ex2b, r_ex3a, r_ex3b, r_ex3c, r_nc, r_keepE, Nat.zero_add, Nat.add_zero, Nat.mul_one, Int.toNat_natCast, toNat_sub1, toNat_add1, decide_true, decide_false, Bool.not_true, Bool.not_false, if_true, if_false, Bool.false_eq_true, reduceCtorEq, h0]
    exact ⟨ret_bool (by simp [sideB, h0]), trivial⟩
  · simp only [r_ln, r_pick, r_pickT, r_pickF, r_condT, r_condF, r_gdTT, r_gdFF, r_gdTF, r_gdFT, r_gqTT, r_gqFF, r_gqTF, r_gqFT, r_not, r_lss, r_leq, r_gtr, r_geq, r_eql, r_neq, r_add, r_sub, r_min2, r_max2, r_min3, r_max3, r_fa, r_iaS, r_iaA, r_ex2a, r_ex2b, r_ex3a, r_ex3b, r_ex3c, r_nc, r_keepE, Nat.zero_add, Nat.add_zero, Nat.mul_one, Int.toNat_natCast, toNat_sub1, toNat_add1, decide_true, decide_false, Bool.not_true, Bool.not_false, if_true, if_false, Bool.false_eq_true, reduceCtorEq, h0]
    exact ⟨ret_bool (by simp [sideB, h0]), trivial⟩
theorem size_calls (n : Int) (w : World) : Calls Try.prog 68 #[.int .i64 n] w fun e w' => e = .returned (.bool (sideB n)) ∧ w = w' := by
  refine lift68 ?_
  unfold S68
  by_cases h0 : 1 ≤ n
  · simp only [r_ln, r_pick, r_pickT, r_pickF, r_condT, r_condF, r_gdTT, r_gdFF, r_gdTF, r_gdFT, r_gqTT, r_gqFF, r_gqTF, r_gqFT, r_not, r_lss, r_leq, r_gtr, r_geq, r_eql, r_neq, r_add, r_sub, r_min2, r_max2, r_min3, r_max3, r_fa, r_iaS, r_iaA, r_ex2a, r_ex2b, r_ex3a, r_ex3b, r_ex3c, r_nc, r_keepE, Nat.zero_add, Nat.add_zero, Nat.mul_one, Int.toNat_natCast, toNat_sub1, toNat_add1, decide_true, decide_false, Bool.not_true, Bool.not_false, if_true, if_false, Bool.false_eq_true, reduceCtorEq, h0]
    exact ⟨ret_bool (by simp [sideB, h0]), trivial⟩
  · simp only [r_ln, r_pick, r_pickT, r_pickF, r_condT, r_condF, r_gdTT, r_gdFF, r_gdTF, r_gdFT, r_gqTT, r_gqFF, r_gqTF, r_gqFT, r_not, r_lss, r_leq, r_gtr, r_geq, r_eql, r_neq, r_add, r_sub, r_min2, r_max2, r_min3, r_max3, r_fa, r_iaS, r_iaA, r_ex2a, r_ex2b, r_ex3a, r_ex3b, r_ex3c, r_nc, r_keepE, Nat.zero_add, Nat.add_zero, Nat.mul_one, Int.toNat_natCast, toNat_sub1, toNat_add1, decide_true, decide_false, Bool.not_true, Bool.not_false, if_true, if_false, Bool.false_eq_true, reduceCtorEq, h0]
    exact ⟨ret_bool (by simp [sideB, h0]), trivial⟩

/-! ### equality of tiles -/

theorem eq32 (a b c d a' b' c' d' : Int) (w : World) : (Op.equalIn 10000 32 (tlV (a, b, c, d)) (tlV (a', b', c', d'))).run Try.prog w = .ok (a == a' && (b == b' && (c == c' && d == d'))) w := by
  have u3 := Try.underlying3
  have a3 := Try.isAgg3
  have z3 := Try.sizeOf3
  have hS : Try.prog.underlying 32 = some (.struct (Try.prog.fieldsOf 32)) := by kernel_rfl
  have hp : Try.prog.stoodInHeld 32 = false := by kernel_rfl
  rw [show (10000 : Nat) = 9999 + 1 from rfl, run_equalIn_agg w 9999 32 _ _ hS hp]
  simp only [Program.fieldsOf, Try.underlying32]
  go_simp
  by_cases h1 : a = a' <;> by_cases h2 : b = b' <;> by_cases h3 : c = c' <;> by_cases h4 : d = d' <;> simp [h1, h2, h3, h4]
theorem eq32_bool (p q : Tile) : (p.1 == q.1 && (p.2.1 == q.2.1 && (p.2.2.1 == q.2.2.1 && p.2.2.2 == q.2.2.2))) = decide (p = q) := by
  obtain ⟨a, b, c, d⟩ := p
  obtain ⟨a', b', c', d'⟩ := q
  by_cases h1 : a = a' <;> by_cases h2 : b = b' <;> by_cases h3 : c = c' <;> by_cases h4 : d = d' <;> simp [h1, h2, h3, h4]
theorem r_eq32 {w : World} {lit : Bool} (p q : Tile) (K : Value → Prop) : binQ Try.prog w .eql 32 lit (tlV p) (tlV q) K = K (.bool (decide (p = q))) := by
  have hg : Try.prog.eqGuardType Try.prog.depth 32 = false := by kernel_rfl
  have hrun : ∀ w, (semBin .eql 32 lit (tlV p) (tlV q)).run Try.prog w = .ok (.value (.bool (decide (p = q)))) w := fun w => by
    unfold semBin
    have := eq32 p.1 p.2.1 p.2.2.1 p.2.2.2 q.1 q.2.1 q.2.2.1 q.2.2.2 w
    rw [eq32_bool] at this
    simp [run_eqGuard_agg w _ _ _ _ _ _ hg, run_eql_struct, this]
  refine propext ⟨?_, fun h => ⟨_, fun w' _ => hrun w', h⟩⟩
  rintro ⟨v, hv, hk⟩
  have h1 := hv w (Below.refl _ _)
  rw [hrun] at h1
  injection h1 with h1 _
  injection h1 with h1
  rw [h1]; exact hk
theorem r_ne32 {w : World} {lit : Bool} (p q : Tile) (K : Value → Prop) : binQ Try.prog w .neq 32 lit (tlV p) (tlV q) K = K (.bool (!decide (p = q))) := by
  have hg : Try.prog.eqGuardType Try.prog.depth 32 = false := by kernel_rfl
  have hrun : ∀ w, (semBin .neq 32 lit (tlV p) (tlV q)).run Try.prog w = .ok (.value (.bool (!decide (p = q)))) w := fun w => by
    unfold semBin
    have := eq32 p.1 p.2.1 p.2.2.1 p.2.2.2 q.1 q.2.1 q.2.2.1 q.2.2.2 w
    rw [eq32_bool] at this
    simp [run_eqGuard_agg w _ _ _ _ _ _ hg, run_neq_struct, this]
  refine propext ⟨?_, fun h => ⟨_, fun w' _ => hrun w', h⟩⟩
  rintro ⟨v, hv, hk⟩
  have h1 := hv w (Below.refl _ _)
  rw [hrun] at h1
  injection h1 with h1 _
  injection h1 with h1
  rw [h1]; exact hk

/-! ### lists that are looked through -/

/-- The place of the first one, or -1. -/
def idxI {α : Type} [DecidableEq α] (l : List α) (x : α) : Int := if x ∈ l then ((l.idxOf x : Nat) : Int) else -1
theorem idx_first {α : Type} [DecidableEq α] {l : List α} {i : Nat} {x : α} (h : l[i]? = some x) (hn : x ∉ l.take i) : idxI l x = i := by
  have hm : x ∈ l := List.mem_of_getElem? h
  have hi : i < l.length := (List.getElem?_eq_some_iff.1 h).1
  have hlt := List.idxOf_lt_length_iff.2 hm
  have hg : l[l.idxOf x] = x := List.getElem_idxOf hlt
  rw [idxI, if_pos hm]
  congr 1
  rcases Nat.lt_trichotomy (l.idxOf x) i with h1 | h1 | h1
  · exact absurd (by rw [List.mem_take_iff_getElem]; exact ⟨l.idxOf x, by omega, hg⟩) hn
  · exact h1
  · have hx : l[i] = x := (List.getElem?_eq_some_iff.1 h).2
    have := List.not_of_lt_findIdx (p := fun y => y == x) (xs := l) (i := i) h1
    simp [hx] at this
theorem idx_nonneg {α : Type} [DecidableEq α] (l : List α) (x : α) : decide (0 ≤ idxI l x) = decide (x ∈ l) := by
  unfold idxI
  split
  · rename_i h; simp [h]
  · rename_i h; simp [h]

set_option maxRecDepth 100000 in
theorem index_calls {v : Value} {l : List Tile} (t : Tile) (w : World) (hr : RdT w v l) (hl : l.length ≤ 1000000) : Calls Try.prog 117 #[v, tlV t] w fun e w' => e = .returned (.int .i64 (idxI l t)) ∧ Kp w w' := by
  obtain ⟨a, cap, rfl, hcap⟩ := hr.len
  refine lift117 ?_
  unfold S117
  refine r_box fun b w1 hbw hsz hb hk => ?_
  simp only [r_ln, r_pick, r_pickT, r_pickF, r_condT, r_condF, r_gdTT, r_gdFF, r_gdTF, r_gdFT, r_gqTT, r_gqFF, r_gqTF, r_gqFT, r_not, r_lss, r_leq, r_gtr, r_geq, r_eql, r_neq, r_add, r_sub, r_min2, r_max2, r_min3, r_max3, r_fa, r_iaS, r_iaA, r_ex2a, r_ex2b, r_ex3a, r_ex3b, r_ex3c, r_nc, r_keepE, Nat.zero_add, Nat.add_zero, Nat.mul_one, Int.toNat_natCast, toNat_sub1, toNat_add1, decide_true, decide_false, Bool.not_true, Bool.not_false, if_true, if_false, Bool.false_eq_true, reduceCtorEq]
  refine ⟨fun t8 wr => ∃ i : Nat, i ≤ l.length ∧ t8 = .int .i64 i ∧ t ∉ l.take i ∧ Kp w1 wr, fun t8 _ => l.length - (intOf t8).toNat, ⟨0, by omega, rfl, by simp, Kp.refl _⟩, ?_⟩
  rintro _ _ wr ⟨i, hi, rfl, hn, hkr⟩
  by_cases hlt : i < l.length
  case neg =>
    have hlt' : ¬ (i : Int) < (l.length : Int) := by omega
    simp (disch := omega) only [r_ln, r_pick, r_pickT, r_pickF, r_condT, r_condF, r_gdTT, r_gdFF, r_gdTF, r_gdFT, r_gqTT, r_gqFF, r_gqTF, r_gqFT, r_not, r_lss, r_leq, r_gtr, r_geq, r_eql, r_neq, r_add, r_sub, r_min2, r_max2, r_min3, r_max3, r_fa, r_iaS, r_iaA, r_ex2a, r_ex2b, r_ex3a, r_ex3b, r_ex3c, r_nc, r_keepE, Nat.zero_add, Nat.add_zero, Nat.mul_one, Int.toNat_natCast, toNat_sub1, toNat_add1, decide_true, decide_false, Bool.not_true, Bool.not_false, if_true, if_false, Bool.false_eq_true, reduceCtorEq, hlt']
    rw [List.take_of_length_le (by omega)] at hn
    exact ⟨by rw [idxI, if_neg hn], Kp.trans hk hkr⟩
  have hlt' : (i : Int) < (l.length : Int) := by omega
  simp (disch := omega) only [r_ln, r_pick, r_pickT, r_pickF, r_condT, r_condF, r_gdTT, r_gdFF, r_gdTF, r_gdFT, r_gqTT, r_gqFF, r_gqTF, r_gqFT, r_not, r_lss, r_leq, r_gtr, r_geq, r_eql, r_neq, r_add, r_sub, r_min2, r_max2, r_min3, r_max3, r_fa, r_iaS, r_iaA, r_ex2a, r_ex2b, r_ex3a, r_ex3b, r_ex3c, r_nc, r_keepE, Nat.zero_add, Nat.add_zero, Nat.mul_one, Int.toNat_natCast, toNat_sub1, toNat_add1, decide_true, decide_false, Bool.not_true, Bool.not_false, if_true, if_false, Bool.false_eq_true, reduceCtorEq, hlt']
  refine r_drew fun wx kx _ => ?_
  have hkx := Kp.trans hkr kx
  obtain ⟨b1, o1, _, e1, hld, _⟩ := RdT.tile (hr.kp (Kp.trans hk hkx)) hlt
  cases e1
  have hb' := block_below hb hkx
  have hx := tl_get hlt
  have e4 : ∀ K : Value → Prop, ldN 4 wx (.pointer (some ⟨b, 0, none⟩)) K = K (tlV t) := fun K => r_ldRow (n := 4) hb' rfl
  by_cases he : t = tl l i
  · simp (disch := omega) only [r_ln, r_pick, r_pickT, r_pickF, r_condT, r_condF, r_gdTT, r_gdFF, r_gdTF, r_gdFT, r_gqTT, r_gqFF, r_gqTF, r_gqFT, r_not, r_lss, r_leq, r_gtr, r_geq, r_eql, r_neq, r_add, r_sub, r_min2, r_max2, r_min3, r_max3, r_fa, r_iaS, r_iaA, r_ex2a, r_ex2b, r_ex3a, r_ex3b, r_ex3c, r_nc, r_keepE, Nat.zero_add, Nat.add_zero, Nat.mul_one, Int.toNat_natCast, toNat_sub1, toNat_add1, decide_true, decide_false, Bool.not_true, Bool.not_false, if_true, if_false, Bool.false_eq_true, reduceCtorEq, hld, e4, r_eq32, decide_eq_true he]
    rw [← he] at hx
    exact ⟨by rw [idx_first hx hn], Kp.trans hk hkx⟩
  · simp (disch := omega) only [r_ln, r_pick, r_pickT, r_pickF, r_condT, r_condF, r_gdTT, r_gdFF, r_gdTF, r_gdFT, r_gqTT, r_gqFF, r_gqTF, r_gqFT, r_not, r_lss, r_leq, r_gtr, r_geq, r_eql, r_neq, r_add, r_sub, r_min2, r_max2, r_min3, r_max3, r_fa, r_iaS, r_iaA, r_ex2a, r_ex2b, r_ex3a, r_ex3b, r_ex3c, r_nc, r_keepE, Nat.zero_add, Nat.add_zero, Nat.mul_one, Int.toNat_natCast, toNat_sub1, toNat_add1, decide_true, decide_false, Bool.not_true, Bool.not_false, if_true, if_false, Bool.false_eq_true, reduceCtorEq, hld, e4, r_eq32, decide_eq_false he]
    refine ⟨⟨i + 1, by omega, by go_num, ?_, hkx⟩, by simp only [intOf]; omega⟩
    rw [List.take_add_one, hx]
    simp [hn, he]

set_option maxRecDepth 100000 in
theorem contains_calls {v : Value} {l : List Tile} (t : Tile) (w : World) (hr : RdT w v l) (hl : l.length ≤ 1000000) : Calls Try.prog 100 #[v, tlV t] w fun e w' => e = .returned (.bool (decide (t ∈ l))) ∧ Kp w w' := by
  refine lift100 ?_
  unfold S100
  refine r_box fun b w1 hbw hsz hb hk => ?_
  rw [r_ldRow (n := 4) hb rfl]
  refine r_use fok117 (index_calls t w1 (hr.kp hk) hl) rfl ?_
  rintro _ w2 ⟨rfl, k2⟩
  refine ⟨_, rfl, ?_⟩
  simp only [r_ln, r_pick, r_pickT, r_pickF, r_condT, r_condF, r_gdTT, r_gdFF, r_gdTF, r_gdFT, r_gqTT, r_gqFF, r_gqTF, r_gqFT, r_not, r_lss, r_leq, r_gtr, r_geq, r_eql, r_neq, r_add, r_sub, r_min2, r_max2, r_min3, r_max3, r_fa, r_iaS, r_iaA, r_ex2a, r_ex2b, r_ex3a, r_ex3b, r_ex3c, r_nc, r_keepE, Nat.zero_add, Nat.add_zero, Nat.mul_one, Int.toNat_natCast, toNat_sub1, toNat_add1, decide_true, decide_false, Bool.not_true, Bool.not_false, if_true, if_false, Bool.false_eq_true, reduceCtorEq, idx_nonneg]
  exact ⟨ret_bool (decide_eq_decide.2 Iff.rfl), Kp.trans hk k2⟩

theorem addr_add0 (a : Addr) : a.add 0 = a := by
  cases a with
  | mk b o h => cases h <;> rfl
/-- s[:j] -/
theorem r_slTo {sz : Nat} {a : Option Addr} {n c : Nat} {j : Int} {k : IntKind} {K : Value → Prop} (h0 : 0 ≤ j) (h1 : j ≤ c) : slS sz (.slice a n c) none (some (.int k j)) K = K (.slice a j.toNat c) := by
  have e : (if c = 0 then a else a.map fun x => x.add (0 * sz)) = a := by
    split
    · rfl
    · cases a with
      | none => rfl
      | some x => simp [addr_add0]
  simp only [slS, cutQ, bnd, h0, h1, and_self, if_true, Nat.sub_zero, e]
/-- s[j:] -/
theorem r_slFrom {sz : Nat} {a : Option Addr} {n c : Nat} {j : Int} {k : IntKind} {K : Value → Prop} (h0 : 0 ≤ j) (h1 : j ≤ n) : slS sz (.slice a n c) (some (.int k j)) none K = K (.slice (if c = j.toNat then a else a.map fun x => x.add (j.toNat * sz)) (n - j.toNat) (c - j.toNat)) := by
  simp only [slS, cutQ, bnd, h0, h1, and_self, if_true]

set_option maxRecDepth 100000 in
/-- valid: are tiles a set? -/
theorem valid_calls {v : Value} {l : List Tile} (w : World) (hr : RdT w v l) : Calls Try.prog 65 #[v] w fun e w' => e = .returned (.bool (setB l)) ∧ Kp w w' := by
  obtain ⟨a, cap, rfl, hcap⟩ := hr.len
  refine lift65 ?_
  unfold S65
  by_cases h1 : (l.length : Int) < 1
  · simp (disch := omega) only [r_ln, r_pick, r_pickT, r_pickF, r_condT, r_condF, r_gdTT, r_gdFF, r_gdTF, r_gdFT, r_gqTT, r_gqFF, r_gqTF, r_gqFT, r_not, r_lss, r_leq, r_gtr, r_geq, r_eql, r_neq, r_add, r_sub, r_min2, r_max2, r_min3, r_max3, r_fa, r_iaS, r_iaA, r_ex2a, r_ex2b, r_ex3a, r_ex3b, r_ex3c, r_nc, r_keepE, Nat.zero_add, Nat.add_zero, Nat.mul_one, Int.toNat_natCast, toNat_sub1, toNat_add1, decide_true, decide_false, Bool.not_true, Bool.not_false, if_true, if_false, Bool.false_eq_true, reduceCtorEq, h1]
    exact ⟨ret_bool (by have : l.length = 0 := by omega
                        simp [setB, this]), Kp.refl _⟩
  by_cases h2 : (16 : Int) < l.length
  · simp (disch := omega) only [r_ln, r_pick, r_pickT, r_pickF, r_condT, r_condF, r_gdTT, r_gdFF, r_gdTF, r_gdFT, r_gqTT, r_gqFF, r_gqTF, r_gqFT, r_not, r_lss, r_leq, r_gtr, r_geq, r_eql, r_neq, r_add, r_sub, r_min2, r_max2, r_min3, r_max3, r_fa, r_iaS, r_iaA, r_ex2a, r_ex2b, r_ex3a, r_ex3b, r_ex3c, r_nc, r_keepE, Nat.zero_add, Nat.add_zero, Nat.mul_one, Int.toNat_natCast, toNat_sub1, toNat_add1, decide_true, decide_false, Bool.not_true, Bool.not_false, if_true, if_false, Bool.false_eq_true, reduceCtorEq, h1, h2]
    exact ⟨ret_bool (by have : ¬ l.length ≤ 16 := by omega
                        simp [setB, this]), Kp.refl _⟩
  simp (disch := omega) only [r_ln, r_pick, r_pickT, r_pickF, r_condT, r_condF, r_gdTT, r_gdFF, r_gdTF, r_gdFT, r_gqTT, r_gqFF, r_gqTF, r_gqFT, r_not, r_lss, r_leq, r_gtr, r_geq, r_eql, r_neq, r_add, r_sub, r_min2, r_max2, r_min3, r_max3, r_fa, r_iaS, r_iaA, r_ex2a, r_ex2b, r_ex3a, r_ex3b, r_ex3c, r_nc, r_keepE, Nat.zero_add, Nat.add_zero, Nat.mul_one, Int.toNat_natCast, toNat_sub1, toNat_add1, decide_true, decide_false, Bool.not_true, Bool.not_false, if_true, if_false, Bool.false_eq_true, reduceCtorEq, h1, h2]
  refine ⟨fun t15 wr => ∃ i : Nat, i ≤ l.length ∧ t15 = .int .i64 i ∧ (∀ k, k < i → (colsB (tl l k) && !decide (tl l k ∈ l.take k)) = true) ∧ Kp w wr, fun t15 _ => l.length - (intOf t15).toNat, ⟨0, by omega, rfl, fun k hk => absurd hk (by omega), Kp.refl _⟩, ?_⟩
  rintro _ _ wr ⟨i, hi, rfl, hn, hkr⟩
  by_cases hlt : i < l.length
  case neg =>
    have hlt' : ¬ (i : Int) < (l.length : Int) := by omega
    simp (disch := omega) only [r_ln, r_pick, r_pickT, r_pickF, r_condT, r_condF, r_gdTT, r_gdFF, r_gdTF, r_gdFT, r_gqTT, r_gqFF, r_gqTF, r_gqFT, r_not, r_lss, r_leq, r_gtr, r_geq, r_eql, r_neq, r_add, r_sub, r_min2, r_max2, r_min3, r_max3, r_fa, r_iaS, r_iaA, r_ex2a, r_ex2b, r_ex3a, r_ex3b, r_ex3c, r_nc, r_keepE, Nat.zero_add, Nat.add_zero, Nat.mul_one, Int.toNat_natCast, toNat_sub1, toNat_add1, decide_true, decide_false, Bool.not_true, Bool.not_false, if_true, if_false, Bool.false_eq_true, reduceCtorEq, hlt']
    refine ⟨ret_bool ?_, hkr⟩
    symm
    simp only [setB, freshB, Bool.and_eq_true, decide_eq_true_eq, List.all_eq_true, List.mem_range]
    exact ⟨⟨by omega, by omega⟩, fun k hk => by have := hn k (by omega); simpa using this⟩
  have hlt' : (i : Int) < (l.length : Int) := by omega
  obtain ⟨b1, o1, _, e1, hld, _⟩ := RdT.tile (hr.kp hkr) hlt
  cases e1
  simp (disch := omega) only [r_ln, r_pick, r_pickT, r_pickF, r_condT, r_condF, r_gdTT, r_gdFF, r_gdTF, r_gdFT, r_gqTT, r_gqFF, r_gqTF, r_gqFT, r_not, r_lss, r_leq, r_gtr, r_geq, r_eql, r_neq, r_add, r_sub, r_min2, r_max2, r_min3, r_max3, r_fa, r_iaS, r_iaA, r_ex2a, r_ex2b, r_ex3a, r_ex3b, r_ex3c, r_nc, r_keepE, Nat.zero_add, Nat.add_zero, Nat.mul_one, Int.toNat_natCast, toNat_sub1, toNat_add1, decide_true, decide_false, Bool.not_true, Bool.not_false, if_true, if_false, Bool.false_eq_true, reduceCtorEq, hlt', hld]
  refine r_box fun b4 w1 e4 s4 h4 k4 => ?_
  refine r_stAll (n := 4) (ty := 32) (by kernel_rfl) rfl (by intro u hu; simp [Value.cells] at hu; rcases hu with rfl | rfl | rfl | rfl <;> rfl) h4 rfl fun w2 c2 s2 h2' => ?_
  have k02 : Kp wr w2 := Kp.of_chg k4 c2 fun i e => by omega
  refine r_drew fun w3 k3 _ => ?_
  have k03 := Kp.trans k02 k3
  have h3 := block_below h2' k3
  have cN : w3.cell? ⟨b4, 0, none⟩ = some (.int .i64 (tN (tl l i))) := by rw [cell_row h3]; rfl
  have cE : w3.cell? ⟨b4, 1, none⟩ = some (.int .i64 (tE (tl l i))) := by rw [cell_row h3]; rfl
  have cS : w3.cell? ⟨b4, 2, none⟩ = some (.int .i64 (tS (tl l i))) := by rw [cell_row h3]; rfl
  have cW : w3.cell? ⟨b4, 3, none⟩ = some (.int .i64 (tW (tl l i))) := by rw [cell_row h3]; rfl
  have bad : (colsB (tl l i) && !decide (tl l i ∈ l.take i)) = false → (setB l) = false := fun hb => by
    cases hs : setB l
    · rfl
    · simp only [setB, freshB, Bool.and_eq_true, decide_eq_true_eq, List.all_eq_true, List.mem_range] at hs
      have := hs.2 i hlt
      rw [this.1, this.2] at hb
      cases hb
  simp (disch := omega) only [r_ln, r_pick, r_pickT, r_pickF, r_condT, r_condF, r_gdTT, r_gdFF, r_gdTF, r_gdFT, r_gqTT, r_gqFF, r_gqTF, r_gqFT, r_not, r_lss, r_leq, r_gtr, r_geq, r_eql, r_neq, r_add, r_sub, r_min2, r_max2, r_min3, r_max3, r_fa, r_iaS, r_iaA, r_ex2a, r_ex2b, r_ex3a, r_ex3b, r_ex3c, r_nc, r_keepE, Nat.zero_add, Nat.add_zero, Nat.mul_one, Int.toNat_natCast, toNat_sub1, toNat_add1, decide_true, decide_false, Bool.not_true, Bool.not_false, if_true, if_false, Bool.false_eq_true, reduceCtorEq, r_ld cN]
  refine r_use fok56 (colour_calls _ w3) rfl ?_
  rintro _ _ ⟨rfl, rfl⟩
  refine ⟨_, rfl, Below.refl _ _, ?_⟩
  have hcols : colsB (tl l i) = (colB (tN (tl l i)) && colB (tE (tl l i)) && colB (tS (tl l i)) && colB (tW (tl l i))) := rfl
  have kall : Kp w w3 := Kp.trans hkr k03
  cases b1 : colB (tN (tl l i)) with
  | false =>
    simp (disch := omega) only [r_ln, r_pick, r_pickT, r_pickF, r_condT, r_condF, r_gdTT, r_gdFF, r_gdTF, r_gdFT, r_gqTT, r_gqFF, r_gqTF, r_gqFT, r_not, r_lss, r_leq, r_gtr, r_geq, r_eql, r_neq, r_add, r_sub, r_min2, r_max2, r_min3, r_max3, r_fa, r_iaS, r_iaA, r_ex2a, r_ex2b, r_ex3a, r_ex3b, r_ex3c, r_nc, r_keepE, Nat.zero_add, Nat.add_zero, Nat.mul_one, Int.toNat_natCast, toNat_sub1, toNat_add1, decide_true, decide_false, Bool.not_true, Bool.not_false, if_true, if_false, Bool.false_eq_true, reduceCtorEq]
    exact ⟨Below.refl _ _, Below.refl _ _, ret_bool (bad (by simp [hcols, b1])).symm, kall⟩
  | true =>
  simp (disch := omega) only [r_ln, r_pick, r_pickT, r_pickF, r_condT, r_condF, r_gdTT, r_gdFF, r_gdTF, r_gdFT, r_gqTT, r_gqFF, r_gqTF, r_gqFT, r_not, r_lss, r_leq, r_gtr, r_geq, r_eql, r_neq, r_add, r_sub, r_min2, r_max2, r_min3, r_max3, r_fa, r_iaS, r_iaA, r_ex2a, r_ex2b, r_ex3a, r_ex3b, r_ex3c, r_nc, r_keepE, Nat.zero_add, Nat.add_zero, Nat.mul_one, Int.toNat_natCast, toNat_sub1, toNat_add1, decide_true, decide_false, Bool.not_true, Bool.not_false, if_true, if_false, Bool.false_eq_true, reduceCtorEq, r_ld cE]
  refine r_use fok56 (colour_calls _ w3) rfl ?_
  rintro _ _ ⟨rfl, rfl⟩
  refine ⟨_, rfl, ?_⟩
  cases b2 : colB (tE (tl l i)) with
  | false =>
    simp (disch := omega) only [r_ln, r_pick, r_pickT, r_pickF, r_condT, r_condF, r_gdTT, r_gdFF, r_gdTF, r_gdFT, r_gqTT, r_gqFF, r_gqTF, r_gqFT, r_not, r_lss, r_leq, r_gtr, r_geq, r_eql, r_neq, r_add, r_sub, r_min2, r_max2, r_min3, r_max3, r_fa, r_iaS, r_iaA, r_ex2a, r_ex2b, r_ex3a, r_ex3b, r_ex3c, r_nc, r_keepE, Nat.zero_add, Nat.add_zero, Nat.mul_one, Int.toNat_natCast, toNat_sub1, toNat_add1, decide_true, decide_false, Bool.not_true, Bool.not_false, if_true, if_false, Bool.false_eq_true, reduceCtorEq]
    exact ⟨Below.refl _ _, Below.refl _ _, ret_bool (bad (by simp [hcols, b2])).symm, kall⟩
  | true =>
  simp (disch := omega) only [r_ln, r_pick, r_pickT, r_pickF, r_condT, r_condF, r_gdTT, r_gdFF, r_gdTF, r_gdFT, r_gqTT, r_gqFF, r_gqTF, r_gqFT, r_not, r_lss, r_leq, r_gtr, r_geq, r_eql, r_neq, r_add, r_sub, r_min2, r_max2, r_min3, r_max3, r_fa, r_iaS, r_iaA, r_ex2a, r_ex2b, r_ex3a, r_ex3b, r_ex3c, r_nc, r_keepE, Nat.zero_add, Nat.add_zero, Nat.mul_one, Int.toNat_natCast, toNat_sub1, toNat_add1, decide_true, decide_false, Bool.not_true, Bool.not_false, if_true, if_false, Bool.false_eq_true, reduceCtorEq, r_ld cS]
  refine r_use fok56 (colour_calls _ w3) rfl ?_
  rintro _ _ ⟨rfl, rfl⟩
  refine ⟨_, rfl, ?_⟩
  cases b3 : colB (tS (tl l i)) with
  | false =>
    simp (disch := omega) only [r_ln, r_pick, r_pickT, r_pickF, r_condT, r_condF, r_gdTT, r_gdFF, r_gdTF, r_gdFT, r_gqTT, r_gqFF, r_gqTF, r_gqFT, r_not, r_lss, r_leq, r_gtr, r_geq, r_eql, r_neq, r_add, r_sub, r_min2, r_max2, r_min3, r_max3, r_fa, r_iaS, r_iaA, r_ex2a, r_ex2b, r_ex3a, r_ex3b, r_ex3c, r_nc, r_keepE, Nat.zero_add, Nat.add_zero, Nat.mul_one, Int.toNat_natCast, toNat_sub1, toNat_add1, decide_true, decide_false, Bool.not_true, Bool.not_false, if_true, if_false, Bool.false_eq_true, reduceCtorEq]
    exact ⟨Below.refl _ _, Below.refl _ _, ret_bool (bad (by simp [hcols, b3])).symm, kall⟩
  | true =>
  simp (disch := omega) only [r_ln, r_pick, r_pickT, r_pickF, r_condT, r_condF, r_gdTT, r_gdFF, r_gdTF, r_gdFT, r_gqTT, r_gqFF, r_gqTF, r_gqFT, r_not, r_lss, r_leq, r_gtr, r_geq, r_eql, r_neq, r_add, r_sub, r_min2, r_max2, r_min3, r_max3, r_fa, r_iaS, r_iaA, r_ex2a, r_ex2b, r_ex3a, r_ex3b, r_ex3c, r_nc, r_keepE, Nat.zero_add, Nat.add_zero, Nat.mul_one, Int.toNat_natCast, toNat_sub1, toNat_add1, decide_true, decide_false, Bool.not_true, Bool.not_false, if_true, if_false, Bool.false_eq_true, reduceCtorEq, r_ld cW]
  refine r_use fok56 (colour_calls _ w3) rfl ?_
  rintro _ _ ⟨rfl, rfl⟩
  refine ⟨_, rfl, Below.refl _ _, ?_⟩
  cases b4' : colB (tW (tl l i)) with
  | false =>
    simp (disch := omega) only [r_ln, r_pick, r_pickT, r_pickF, r_condT, r_condF, r_gdTT, r_gdFF, r_gdTF, r_gdFT, r_gqTT, r_gqFF, r_gqTF, r_gqFT, r_not, r_lss, r_leq, r_gtr, r_geq, r_eql, r_neq, r_add, r_sub, r_min2, r_max2, r_min3, r_max3, r_fa, r_iaS, r_iaA, r_ex2a, r_ex2b, r_ex3a, r_ex3b, r_ex3c, r_nc, r_keepE, Nat.zero_add, Nat.add_zero, Nat.mul_one, Int.toNat_natCast, toNat_sub1, toNat_add1, decide_true, decide_false, Bool.not_true, Bool.not_false, if_true, if_false, Bool.false_eq_true, reduceCtorEq]
    exact ⟨Below.refl _ _, ret_bool (bad (by simp [hcols, b4'])).symm, kall⟩
  | true =>
  simp (disch := omega) only [r_ln, r_pick, r_pickT, r_pickF, r_condT, r_condF, r_gdTT, r_gdFF, r_gdTF, r_gdFT, r_gqTT, r_gqFF, r_gqTF, r_gqFT, r_not, r_lss, r_leq, r_gtr, r_geq, r_eql, r_neq, r_add, r_sub, r_min2, r_max2, r_min3, r_max3, r_fa, r_iaS, r_iaA, r_ex2a, r_ex2b, r_ex3a, r_ex3b, r_ex3c, r_nc, r_keepE, Nat.zero_add, Nat.add_zero, Nat.mul_one, Int.toNat_natCast, toNat_sub1, toNat_add1, decide_true, decide_false, Bool.not_true, Bool.not_false, if_true, if_false, Bool.false_eq_true, reduceCtorEq, r_slTo, r_ldRow (n := 4) h3 rfl]
  refine r_use fok100 (contains_calls (l := l.take i) (tl l i) w3 ((hr.kp (Kp.trans hkr k03)).take hi) (by rw [List.length_take]; omega)) rfl ?_
  rintro _ w5 ⟨rfl, k5⟩
  refine ⟨_, rfl, k5, ?_⟩
  have kall5 := Kp.trans kall k5
  cases b5 : decide (tl l i ∈ l.take i) with
  | true =>
    simp (disch := omega) only [r_ln, r_pick, r_pickT, r_pickF, r_condT, r_condF, r_gdTT, r_gdFF, r_gdTF, r_gdFT, r_gqTT, r_gqFF, r_gqTF, r_gqFT, r_not, r_lss, r_leq, r_gtr, r_geq, r_eql, r_neq, r_add, r_sub, r_min2, r_max2, r_min3, r_max3, r_fa, r_iaS, r_iaA, r_ex2a, r_ex2b, r_ex3a, r_ex3b, r_ex3c, r_nc, r_keepE, Nat.zero_add, Nat.add_zero, Nat.mul_one, Int.toNat_natCast, toNat_sub1, toNat_add1, decide_true, decide_false, Bool.not_true, Bool.not_false, if_true, if_false, Bool.false_eq_true, reduceCtorEq]
    exact ⟨ret_bool (bad (by simp [b5])).symm, kall5⟩
  | false =>
  simp (disch := omega) only [r_ln, r_pick, r_pickT, r_pickF, r_condT, r_condF, r_gdTT, r_gdFF, r_gdTF, r_gdFT, r_gqTT, r_gqFF, r_gqTF, r_gqFT, r_not, r_lss, r_leq, r_gtr, r_geq, r_eql, r_neq, r_add, r_sub, r_min2, r_max2, r_min3, r_max3, r_fa, r_iaS, r_iaA, r_ex2a, r_ex2b, r_ex3a, r_ex3b, r_ex3c, r_nc, r_keepE, Nat.zero_add, Nat.add_zero, Nat.mul_one, Int.toNat_natCast, toNat_sub1, toNat_add1, decide_true, decide_false, Bool.not_true, Bool.not_false, if_true, if_false, Bool.false_eq_true, reduceCtorEq]
  refine ⟨⟨i + 1, by omega, by go_num, fun k hk => ?_, kall5⟩, by simp only [intOf]; omega⟩
  by_cases hki : k < i
  · exact hn k hki
  · have : k = i := by omega
    subst this
    simp [hcols, b1, b2, b3, b4', b5]

end Go.Proofs.Ytgalbokmgffhkaa
