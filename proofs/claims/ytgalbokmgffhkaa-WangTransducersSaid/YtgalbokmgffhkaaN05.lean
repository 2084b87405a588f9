/- Texts of my own, merged by program: A1 A2 Sb. -/
import Derived.Test.YtgalbokmgffhkaaN04
import Derived.Test.YtgalbokmgffhkaaN00
import Derived.Laws.StructEq
import Derived.Test.YtgalbokmgffhkaaN03
set_option linter.all false
/- Contracts: colours, sides, sets of tiles, their errors. -/
namespace Go.Proofs.Ytgalbokmgffhkaa
open Go.Lf Go.RowKit Go.Wg

def tlC (t : Tile) : List Value := [.int .i64 t.1, .int .i64 t.2.1, .int .i64 t.2.2.1, .int .i64 t.2.2.2]
abbrev tlV (t : Tile) : Value := .agg #[.int .i64 t.1, .int .i64 t.2.1, .int .i64 t.2.2.1, .int .i64 t.2.2.2]
theorem tlC_len (t : Tile) : (tlC t).length = 4 := rfl
/-- The slice v reads as the tiles l. -/
abbrev RdT (w : World) (v : Value) (l : List Tile) : Prop := Rd 4 tlC w v l

theorem RdT.tile {w : World} {v : Value} {l : List Tile} (h : RdT w v l) {i : Nat} (hi : i < l.length) :
    ∃ b off cap, v = .slice (some ⟨b, off, none⟩) l.length cap ∧ (∀ K : Value → Prop, ldN 4 w (.pointer (some ⟨b, off + i * 4, none⟩)) K = K (tlV (tl l i))) ∧
      w.cell? ⟨b, off + i * 4, none⟩ = some (.int .i64 (tN (tl l i))) ∧ w.cell? ⟨b, off + i * 4 + 1, none⟩ = some (.int .i64 (tE (tl l i))) ∧ w.cell? ⟨b, off + i * 4 + 2, none⟩ = some (.int .i64 (tS (tl l i))) ∧ w.cell? ⟨b, off + i * 4 + 3, none⟩ = some (.int .i64 (tW (tl l i))) := by
  have hx := tl_get hi
  obtain ⟨b, off, cap, e, _, hc⟩ := h.at hx
  refine ⟨b, off, cap, e, fun K => ?_, by simpa using hc 0 _ rfl, hc 1 _ rfl, hc 2 _ rfl, hc 3 _ rfl⟩
  exact r_ldCells (l := tlC (tl l i)) rfl hc

theorem colour_calls (n : Int) (w : World) : Calls Try.prog 56 #[.int .i64 n] w fun e w' => e = .returned (.bool (colB n)) ∧ w = w' := by
  refine lift56 ?_
  unfold S56
  by_cases h0 : 0 ≤ n
  · simp only [r_ln, r_pick, r_pickT, r_pickF, r_condT, r_condF, r_gdTT, r_gdFF, r_gdTF, r_gdFT, r_gqTT, r_gqFF, r_gqTF, r_gqFT, r_not, r_lss, r_leq, r_gtr, r_geq, r_eql, r_neq, r_add, r_sub, r_min2, r_max2, r_min3, r_max3, r_fa, r_iaS, r_iaA, r_ex2a, r_ex2b, r_ex3a, r_ex3b, r_ex3c, r_nc, r_keepE, Nat.zero_add, Nat.add_zero, Nat.mul_one, Int.toNat_natCast, toNat_sub1, toNat_add1, decide_true, decide_false, Bool.not_true, Bool.not_false, if_true, if_false, Bool.false_eq_true, reduceCtorEq, h0]
    exact ⟨ret_bool (by simp [colB, h0]), trivial⟩
  · simp only [r_ln, r_pick, r_pickT, r_pickF, r_condT, r_condF, r_gdTT, r_gdFF, r_gdTF, r_gdFT, r_gqTT, r_gqFF, r_gqTF, r_gqFT, r_not, r_lss, r_leq, r_gtr, r_geq, r_eql, r_neq, r_add, r_sub, r_min2, r_max2, r_min3, r_max3, r_fa, r_iaS, r_iaA, r_ex2a, r_ex2b, r_ex3a, r_ex3b, r_ex3c, r_nc, r_keepE, Nat.zero_add, Nat.add_zero, Nat.mul_one, Int.toNat_natCast, toNat_sub1, toNat_add1, decide_true, decide_false, Bool.not_true, Bool.not_false, if_true, if_false, Bool.false_eq_true, reduceCtorEq, h0]
    exact ⟨ret_bool (by simp [colB, h0]), trivial⟩
theorem refcolour_calls (n : Int) (w : World) : Calls Try.prog 62 #[.int .i64 n] w fun e w' => e = .returned (.bool (colB n)) ∧ w = w' := by
  refine lift62 ?_
  unfold S62
  by_cases h0 : 0 ≤ n
  · simp only [r_ln, r_pick, r_pickT, r_pickF, r_condT, r_condF, r_gdTT, r_gdFF, r_gdTF, r_gdFT, r_gqTT, r_gqFF, r_gqTF, r_gqFT, r_not, r_lss, r_leq, r_gtr, r_geq, r_eql, r_neq, r_add, r_sub, r_min2, r_max2, r_min3, r_max3, r_fa, r_iaS, r_iaA, r_ex2a, r_ex2b, r_ex3a, r_ex3b, r_ex3c, r_nc, r_keepE, Nat.zero_add, Nat.add_zero, Nat.mul_one, Int.toNat_natCast, toNat_sub1, toNat_add1, decide_true, decide_false, Bool.not_true, Bool.not_false, if_true, if_false, Bool.false_eq_true, reduceCtorEq, h0]
    exact ⟨ret_bool (by simp [colB, h0]), trivial⟩
  · simp only [r_ln, r_pick, r_pickT, r_pickF, r_condT, r_condF, r_gdTT, r_gdFF, r_gdTF, r_gdFT, r_gqTT, r_gqFF, r_gqTF, r_gqFT, r_not, r_lss, r_leq, r_gtr, r_geq, r_eql, r_neq, r_add, r_sub, r_min2, r_max2, r_min3, r_max3, r_fa, r_iaS, r_iaA, r_ex2a, r_ex2b, r_ex3a, r_ex3b, r_ex3c, r_nc, r_keepE, Nat.zero_add, Nat.add_zero, Nat.mul_one, Int.toNat_natCast, toNat_sub1, toNat_add1, decide_true, decide_false, Bool.not_true, Bool.not_false, if_true, if_false, Bool.false_eq_true, reduceCtorEq, h0]
    exact ⟨ret_bool (by simp [colB, h0]), trivial⟩
theorem side_calls (n : Int) (w : World) : Calls Try.prog 66 #[.int .i64 n] w fun e w' => e = .returned (.bool (sideB n)) ∧ w = w' := by
  refine lift66 ?_
  unfold S66
  by_cases h0 : 1 ≤ n
  · simp only [r_ln, r_pick, r_pickT, r_pickF, r_condT, r_condF, r_gdTT, r_gdFF, r_gdTF, r_gdFT, r_gqTT, r_gqFF, r_gqTF, r_gqFT, r_not, r_lss, r_leq, r_gtr, r_geq, r_eql, r_neq, r_add, r_sub, r_min2, r_max2, r_min3, r_max3, r_fa, r_iaS, r_iaA, r_ex2a, r_ex2b, r_ex3a, r_ex3b, r_ex3c, r_nc, r_keepE, Nat.zero_add, Nat.add_zero, Nat.mul_one, Int.toNat_natCast, toNat_sub1, toNat_add1, decide_true, decide_false, Bool.not_true, Bool.not_false, if_true, if_false, Bool.false_eq_true, reduceCtorEq, h0]
    exact ⟨ret_bool (by simp [sideB, h0]), trivial⟩
  · simp only [r_ln, r_pick, r_pickT, r_pickF, r_condT, r_condF, r_gdTT, r_gdFF, r_gdTF, r_gdFT, r_gqTT, r_gqFF, r_gqTF, r_gqFT, r_not, r_lss, r_leq, r_gtr, r_geq, r_eql, r_neq, r_add, r_sub, r_min2, r_max2, r_min3, r_max3, r_fa, r_iaS, r_iaA, r_ex2a, r_ex2b, r_ex3a, r_ex3b, r_ex3c, r_nc, r_keepE, Nat.zero_add, Nat.add_zero, Nat.mul_one, Int.toNat_natCast, toNat_sub1, toNat_add1, decide_true, decide_false, Bool.not_true, Bool.not_false, if_true, if_false, Bool.false_eq_true, reduceCtorEq, h0]
    exact ⟨ret_bool (by simp [sideB, h0]), trivial⟩
theorem size_calls (n : Int) (w : World) : Calls Try.prog 68 #[.int .i64 n] w fun e w' => e = .returned (.bool (sideB n)) ∧ w = w' := by
  refine lift68 ?_
  unfold S68
  by_cases h0 : 1 ≤ n
  · simp only [r_ln, r_pick, r_pickT, r_pickF, r_condT, r_condF, r_gdTT, r_gdFF, r_gdTF, r_gdFT, r_gqTT, r_gqFF, r_gqTF, r_gqFT, r_not, r_lss, r_leq, r_gtr, r_geq, r_eql, r_neq, r_add, r_sub, r_min2, r_max2, r_min3, r_max3, r_fa, r_iaS, r_iaA, r_ex2a, r_ex2b, r_ex3a, r_ex3b, r_ex3c, r_nc, r_keepE, Nat.zero_add, Nat.add_zero, Nat.mul_one, Int.toNat_natCast, toNat_sub1, toNat_add1, decide_true, decide_false, Bool.not_true, Bool.not_false, if_true, if_false, Bool.false_eq_true, reduceCtorEq, h0]
    exact ⟨ret_bool (by simp [sideB, h0]), trivial⟩
  · simp only [r_ln, r_pick, r_pickT, r_pickF, r_condT, r_condF, r_gdTT, r_gdFF, r_gdTF, r_gdFT, r_gqTT, r_gqFF, r_gqTF, r_gqFT, r_not, r_lss, r_leq, r_gtr, r_geq, r_eql, r_neq, r_add, r_sub, r_min2, r_max2, r_min3, r_max3, r_fa, r_iaS, r_iaA, r_ex2a, r_ex2b, r_ex3a, r_ex3b, r_ex3c, r_nc, r_keepE, Nat.zero_add, Nat.add_zero, Nat.mul_one, Int.toNat_natCast, toNat_sub1, toNat_add1, decide_true, decide_false, Bool.not_true, Bool.not_false, if_true, if_false, Bool.false_eq_true, reduceCtorEq, h0]
    exact ⟨ret_bool (by simp [sideB, h0]), trivial⟩

/-! ### equality of tiles -/

theorem eq32 (a b c d a' b' c' d' : Int) (w : World) : (Op.equalIn 10000 32 (tlV (a, b, c, d)) (tlV (a', b', c', d'))).run Try.prog w = .ok (a == a' && (b == b' && (c == c' && d == d'))) w := by
  have u3 := Try.underlying3
  have a3 := Try.isAgg3
  have z3 := Try.sizeOf3
  have hS : Try.prog.underlying 32 = some (.struct (Try.prog.fieldsOf 32)) := by kernel_rfl
  have hp : Try.prog.stoodInHeld 32 = false := by kernel_rfl
  rw [show (10000 : Nat) = 9999 + 1 from rfl, run_equalIn_agg w 9999 32 _ _ hS hp]
  simp only [Program.fieldsOf, Try.underlying32]
  go_simp
  by_cases h1 : a = a' <;> by_cases h2 : b = b' <;> by_cases h3 : c = c' <;> by_cases h4 : d = d' <;> simp [h1, h2, h3, h4]
theorem eq32_bool (p q : Tile) : (p.1 == q.1 && (p.2.1 == q.2.1 && (p.2.2.1 == q.2.2.1 && p.2.2.2 == q.2.2.2))) = decide (p = q) := by
  obtain ⟨a, b, c, d⟩ := p
  obtain ⟨a', b', c', d'⟩ := q
  by_cases h1 : a = a' <;> by_cases h2 : b = b' <;> by_cases h3 : c = c' <;> by_cases h4 : d = d' <;> simp [h1, h2, h3, h4]
theorem r_eq32 {w : World} {lit : Bool} (p q : Tile) (K : Value → Prop) : binQ Try.prog w .eql 32 lit (tlV p) (tlV q) K = K (.bool (decide (p = q))) := by
  have hg : Try.prog.eqGuardType Try.prog.depth 32 = false := by kernel_rfl
  have hrun : ∀ w, (semBin .eql 32 lit (tlV p) (tlV q)).run Try.prog w = .ok (.value (.bool (decide (p = q)))) w := fun w => by
    unfold semBin
    have := eq32 p.1 p.2.1 p.2.2.1 p.2.2.2 q.1 q.2.1 q.2.2.1 q.2.2.2 w
    rw [eq32_bool] at this
    simp [run_eqGuard_agg w _ _ _ _ _ _ hg, run_eql_struct, this]
  refine propext ⟨?_, fun h => ⟨_, fun w' _ => hrun w', h⟩⟩
  rintro ⟨v, hv, hk⟩
  have h1 := hv w (Below.refl _ _)
  rw [hrun] at h1
  injection h1 with h1 _
  injection h1 with h1
  rw [h1]; exact hk
theorem r_ne32 {w : World} {lit : Bool} (p q : Tile) (K : Value → Prop) : binQ Try.prog w .neq 32 lit (tlV p) (tlV q) K = K (.bool (!decide (p = q))) := by
  have hg : Try.prog.eqGuardType Try.prog.depth 32 = false := by kernel_rfl
  have hrun : ∀ w, (semBin .neq 32 lit (tlV p) (tlV q)).run Try.prog w = .ok (.value (.bool (!decide (p = q)))) w := fun w => by
    unfold semBin
    have := eq32 p.1 p.2.1 p.2.2.1 p.2.2.2 q.1 q.2.1 q.2.2.1 q.2.2.2 w
    rw [eq32_bool] at this
    simp [run_eqGuard_agg w _ _ _ _ _ _ hg, run_neq_struct, this]
  refine propext ⟨?_, fun h => ⟨_, fun w' _ => hrun w', h⟩⟩
  rintro ⟨v, hv, hk⟩
  have h1 := hv w (Below.refl _ _)
  rw [hrun] at h1
  injection h1 with h1 _
  injection h1 with h1
  rw [h1]; exact hk

/-! ### lists that are looked through -/

/-- The place of the first one, or -1. -/
def idxI {α : Type} [DecidableEq α] (l : List α) (x : α) : Int := if x ∈ l then ((l.idxOf x : Nat) : Int) else -1
theorem idx_first {α : Type} [DecidableEq α] {l : List α} {i : Nat} {x : α} (h : l[i]? = some x) (hn : x ∉ l.take i) : idxI l x = i := by
  have hm : x ∈ l := List.mem_of_getElem? h
  have hi : i < l.length := (List.getElem?_eq_some_iff.1 h).1
  have hlt := List.idxOf_lt_length_iff.2 hm
  have hg : l[l.idxOf x] = x := List.getElem_idxOf hlt
  rw [idxI, if_pos hm]
  congr 1
  rcases Nat.lt_trichotomy (l.idxOf x) i with h1 | h1 | h1
  · exact absurd (by rw [List.mem_take_iff_getElem]; exact ⟨l.idxOf x, by omega, hg⟩) hn
  · exact h1
  · have hx : l[i] = x := (List.getElem?_eq_some_iff.1 h).2
    have := List.not_of_lt_findIdx (p := fun y => y == x) (xs := l) (i := i) h1
    simp [hx] at this
theorem idx_nonneg {α : Type} [DecidableEq α] (l : List α) (x : α) : decide (0 ≤ idxI l x) = decide (x ∈ l) := by
  unfold idxI
  split
  · rename_i h; simp [h]
  · rename_i h; simp [h]

set_option maxRecDepth 100000 in
theorem index_calls {v : Value} {l : List Tile} (t : Tile) (w : World) (hr : RdT w v l) (hl : l.length ≤ 1000000) : Calls Try.prog 117 #[v, tlV t] w fun e w' => e = .returned (.int .i64 (idxI l t)) ∧ Kp w w' := by
  obtain ⟨a, cap, rfl, hcap⟩ := hr.len
  refine lift117 ?_
  unfold S117
  refine r_box fun b w1 hbw hsz hb hk => ?_
  simp only [r_ln, r_pick, r_pickT, r_pickF, r_condT, r_condF, r_gdTT, r_gdFF, r_gdTF, r_gdFT, r_gqTT, r_gqFF, r_gqTF, r_gqFT, r_not, r_lss, r_leq, r_gtr, r_geq, r_eql, r_neq, r_add, r_sub, r_min2, r_max2, r_min3, r_max3, r_fa, r_iaS, r_iaA, r_ex2a, r_ex2b, r_ex3a, r_ex3b, r_ex3c, r_nc, r_keepE, Nat.zero_add, Nat.add_zero, Nat.mul_one, Int.toNat_natCast, toNat_sub1, toNat_add1, decide_true, decide_false, Bool.not_true, Bool.not_false, if_true, if_false, Bool.false_eq_true, reduceCtorEq]
  refine ⟨fun t8 wr => ∃ i : Nat, i ≤ l.length ∧ t8 = .int .i64 i ∧ t ∉ l.take i ∧ Kp w1 wr, fun t8 _ => l.length - (intOf t8).toNat, ⟨0, by omega, rfl, by simp, Kp.refl _⟩, ?_⟩
  rintro _ _ wr ⟨i, hi, rfl, hn, hkr⟩
  by_cases hlt : i < l.length
  case neg =>
    have hlt' : ¬ (i : Int) < (l.length : Int) := by omega
    simp (disch := omega) only [r_ln, r_pick, r_pickT, r_pickF, r_condT, r_condF, r_gdTT, r_gdFF, r_gdTF, r_gdFT, r_gqTT, r_gqFF, r_gqTF, r_gqFT, r_not, r_lss, r_leq, r_gtr, r_geq, r_eql, r_neq, r_add, r_sub, r_min2, r_max2, r_min3, r_max3, r_fa, r_iaS, r_iaA, r_ex2a, r_ex2b, r_ex3a, r_ex3b, r_ex3c, r_nc, r_keepE, Nat.zero_add, Nat.add_zero, Nat.mul_one, Int.toNat_natCast, toNat_sub1, toNat_add1, decide_true, decide_false, Bool.not_true, Bool.not_false, if_true, if_false, Bool.false_eq_true, reduceCtorEq, hlt']
    rw [List.take_of_length_le (by omega)] at hn
    exact ⟨by rw [idxI, if_neg hn], Kp.trans hk hkr⟩
  have hlt' : (i : Int) < (l.length : Int) := by omega
  simp (disch := omega) only [r_ln, r_pick, r_pickT, r_pickF, r_condT, r_condF, r_gdTT, r_gdFF, r_gdTF, r_gdFT, r_gqTT, r_gqFF, r_gqTF, r_gqFT, r_not, r_lss, r_leq, r_gtr, r_geq, r_eql, r_neq, r_add, r_sub, r_min2, r_max2, r_min3, r_max3, r_fa, r_iaS, r_iaA, r_ex2a, r_ex2b, r_ex3a, r_ex3b, r_ex3c, r_nc, r_keepE, Nat.zero_add, Nat.add_zero, Nat.mul_one, Int.toNat_natCast, toNat_sub1, toNat_add1, decide_true, decide_false, Bool.not_true, Bool.not_false, if_true, if_false, Bool.false_eq_true, reduceCtorEq, hlt']
  refine r_drew fun wx kx _ => ?_
  have hkx := Kp.trans hkr kx
  obtain ⟨b1, o1, _, e1, hld, _⟩ := RdT.tile (hr.kp (Kp.trans hk hkx)) hlt
  cases e1
  have hb' := block_below hb hkx
  have hx := tl_get hlt
  have e4 : ∀ K : Value → Prop, ldN 4 wx (.pointer (some ⟨b, 0, none⟩)) K = K (tlV t) := fun K => r_ldRow (n := 4) hb' rfl
  by_cases he : t = tl l i
  · simp (disch := omega) only [r_ln, r_pick, r_pickT, r_pickF, r_condT, r_condF, r_gdTT, r_gdFF, r_gdTF, r_gdFT, r_gqTT, r_gqFF, r_gqTF, r_gqFT, r_not, r_lss, r_leq, r_gtr, r_geq, r_eql, r_neq, r_add, r_sub, r_min2, r_max2, r_min3, r_max3, r_fa, r_iaS, r_iaA, r_ex2a, r_ex2b, r_ex3a, r_ex3b, r_ex3c, r_nc, r_keepE, Nat.zero_add, Nat.add_zero, Nat.mul_one, Int.toNat_natCast, toNat_sub1, toNat_add1, decide_true, decide_false, Bool.not_true, Bool.not_false, if_true, if_false, Bool.false_eq_true, reduceCtorEq, hld, e4, r_eq32, decide_eq_true he]
    rw [← he] at hx
    exact ⟨by rw [idx_first hx hn], Kp.trans hk hkx⟩
  · simp (disch := omega) only [r_ln, r_pick, r_pickT, r_pickF, r_condT, r_condF, r_gdTT, r_gdFF, r_gdTF, r_gdFT, r_gqTT, r_gqFF, r_gqTF, r_gqFT, r_not, r_lss, r_leq, r_gtr, r_geq, r_eql, r_neq, r_add, r_sub, r_min2, r_max2, r_min3, r_max3, r_fa, r_iaS, r_iaA, r_ex2a, r_ex2b, r_ex3a, r_ex3b, r_ex3c, r_nc, r_keepE, Nat.zero_add, Nat.add_zero, Nat.mul_one, Int.toNat_natCast, toNat_sub1, toNat_add1, decide_true, decide_false, Bool.not_true, Bool.not_false, if_true, if_false, Bool.false_eq_true, reduceCtorEq, hld, e4, r_eq32, decide_eq_false he]
    refine ⟨⟨i + 1, by omega, by go_num, ?_, hkx⟩, by simp only [intOf]; omega⟩
    rw [List.take_add_one, hx]
    simp [hn, he]

set_option maxRecDepth 100000 in
theorem contains_calls {v : Value} {l : List Tile} (t : Tile) (w : World) (hr : RdT w v l) (hl : l.length ≤ 1000000) : Calls Try.prog 100 #[v, tlV t] w fun e w' => e = .returned (.bool (decide (t ∈ l))) ∧ Kp w w' := by
  refine lift100 ?_
  unfold S100
  refine r_box fun b w1 hbw hsz hb hk => ?_
  rw [r_ldRow (n := 4) hb rfl]
  refine r_use fok117 (index_calls t w1 (hr.kp hk) hl) rfl ?_
  rintro _ w2 ⟨rfl, k2⟩
  refine ⟨_, rfl, ?_⟩
  simp only [r_ln, r_pick, r_pickT, r_pickF, r_condT, r_condF, r_gdTT, r_gdFF, r_gdTF, r_gdFT, r_gqTT, r_gqFF, r_gqTF, r_gqFT, r_not, r_lss, r_leq, r_gtr, r_geq, r_eql, r_neq, r_add, r_sub, r_min2, r_max2, r_min3, r_max3, r_fa, r_iaS, r_iaA, r_ex2a, r_ex2b, r_ex3a, r_ex3b, r_ex3c, r_nc, r_keepE, Nat.zero_add, Nat.add_zero, Nat.mul_one, Int.toNat_natCast, toNat_sub1, toNat_add1, decide_true, decide_false, Bool.not_true, Bool.not_false, if_true, if_false, Bool.false_eq_true, reduceCtorEq, idx_nonneg]
  exact ⟨ret_bool (decide_eq_decide.2 Iff.rfl), Kp.trans hk k2⟩

theorem addr_add0 (a : Addr) : a.add 0 = a := by
  cases a with
  | mk b o h => cases h <;> rfl
/-- s[:j] -/
theorem r_slTo {sz : Nat} {a : Option Addr} {n c : Nat} {j : Int} {k : IntKind} {K : Value → Prop} (h0 : 0 ≤ j) (h1 : j ≤ c) : slS sz (.slice a n c) none (some (.int k j)) K = K (.slice a j.toNat c) := by
  have e : (if c = 0 then a else a.map fun x => x.add (0 * sz)) = a := by
    split
    · rfl
    · cases a with
      | none => rfl
      | some x => simp [addr_add0]
  simp only [slS, cutQ, bnd, h0, h1, and_self, if_true, Nat.sub_zero, e]
/-- s[j:] -/
theorem r_slFrom {sz : Nat} {a : Option Addr} {n c : Nat} {j : Int} {k : IntKind} {K : Value → Prop} (h0 : 0 ≤ j) (h1 : j ≤ n) : slS sz (.slice a n c) (some (.int k j)) none K = K (.slice (if c = j.toNat then a else a.map fun x => x.add (j.toNat * sz)) (n - j.toNat) (c - j.toNat)) := by
  simp only [slS, cutQ, bnd, h0, h1, and_self, if_true]

set_option maxRecDepth 100000 in
/-- valid: are tiles a set? -/
theorem valid_calls {v : Value} {l : List Tile} (w : World) (hr : RdT w v l) : Calls Try.prog 65 #[v] w fun e w' => e = .returned (.bool (setB l)) ∧ Kp w w' := by
  obtain ⟨a, cap, rfl, hcap⟩ := hr.len
  refine lift65 ?_
  unfold S65
  by_cases h1 : (l.length : Int) < 1
  · simp (disch := omega) only [r_ln, r_pick, r_pickT, r_pickF, r_condT, r_condF, r_gdTT, r_gdFF, r_gdTF, r_gdFT, r_gqTT, r_gqFF, r_gqTF, r_gqFT, r_not, r_lss, r_leq, r_gtr, r_geq, r_eql, r_neq, r_add, r_sub, r_min2, r_max2, r_min3, r_max3, r_fa, r_iaS, r_iaA, r_ex2a, r_ex2b, r_ex3a, r_ex3b, r_ex3c, r_nc, r_keepE, Nat.zero_add, Nat.add_zero, Nat.mul_one, Int.toNat_natCast, toNat_sub1, toNat_add1, decide_true, decide_false, Bool.not_true, Bool.not_false, if_true, if_false, Bool.false_eq_true, reduceCtorEq, h1]
    exact ⟨ret_bool (by have : l.length = 0 := by omega
                        simp [setB, this]), Kp.refl _⟩
  by_cases h2 : (16 : Int) < l.length
  · simp (disch := omega) only [r_ln, r_pick, r_pickT, r_pickF, r_condT, r_condF, r_gdTT, r_gdFF, r_gdTF, r_gdFT, r_gqTT, r_gqFF, r_gqTF, r_gqFT, r_not, r_lss, r_leq, r_gtr, r_geq, r_eql, r_neq, r_add, r_sub, r_min2, r_max2, r_min3, r_max3, r_fa, r_iaS, r_iaA, r_ex2a, r_ex2b, r_ex3a, r_ex3b, r_ex3c, r_nc, r_keepE, Nat.zero_add, Nat.add_zero, Nat.mul_one, Int.toNat_natCast, toNat_sub1, toNat_add1, decide_true, decide_false, Bool.not_true, Bool.not_false, if_true, if_false, Bool.false_eq_true, reduceCtorEq, h1, h2]
    exact ⟨ret_bool (by have : ¬ l.length ≤ 16 := by omega
                        simp [setB, this]), Kp.refl _⟩
  simp (disch := omega) only [r_ln, r_pick, r_pickT, r_pickF, r_condT, r_condF, r_gdTT, r_gdFF, r_gdTF, r_gdFT, r_gqTT, r_gqFF, r_gqTF, r_gqFT, r_not, r_lss, r_leq, r_gtr, r_geq, r_eql, r_neq, r_add, r_sub, r_min2, r_max2, r_min3, r_max3, r_fa, r_iaS, r_iaA, r_ex2a, r_ex2b, r_ex3a, r_ex3b, r_ex3c, r_nc, r_keepE, Nat.zero_add, Nat.add_zero, Nat.mul_one, Int.toNat_natCast, toNat_sub1, toNat_add1, decide_true, decide_false, Bool.not_true, Bool.not_false, if_true, if_false, Bool.false_eq_true, reduceCtorEq, h1, h2]
  refine ⟨fun t15 wr => ∃ i : Nat, i ≤ l.length ∧ t15 = .int .i64 i ∧ (∀ k, k < i → (colsB (tl l k) && !decide (tl l k ∈ l.take k)) = true) ∧ Kp w wr, fun t15 _ => l.length - (intOf t15).toNat, ⟨0, by omega, rfl, fun k hk => absurd hk (by omega), Kp.refl _⟩, ?_⟩
  rintro _ _ wr ⟨i, hi, rfl, hn, hkr⟩
  by_cases hlt : i < l.length
  case neg =>
    have hlt' : ¬ (i : Int) < (l.length : Int) := by omega
    simp (disch := omega) only [r_ln, r_pick, r_pickT, r_pickF, r_condT, r_condF, r_gdTT, r_gdFF, r_gdTF, r_gdFT, r_gqTT, r_gqFF, r_gqTF, r_gqFT, r_not, r_lss, r_leq, r_gtr, r_geq, r_eql, r_neq, r_add, r_sub, r_min2, r_max2, r_min3, r_max3, r_fa, r_iaS, r_iaA, r_ex2a, r_ex2b, r_ex3a, r_ex3b, r_ex3c, r_nc, r_keepE, Nat.zero_add, Nat.add_zero, Nat.mul_one, Int.toNat_natCast, toNat_sub1, toNat_add1, decide_true, decide_false, Bool.not_true, Bool.not_false, if_true, if_false, Bool.false_eq_true, reduceCtorEq, hlt']
    refine ⟨ret_bool ?_, hkr⟩
    symm
    simp only [setB, freshB, Bool.and_eq_true, decide_eq_true_eq, List.all_eq_true, List.mem_range]
    exact ⟨⟨by omega, by omega⟩, fun k hk => by have := hn k (by omega); simpa using this⟩
  have hlt' : (i : Int) < (l.length : Int) := by omega
  obtain ⟨b1, o1, _, e1, hld, _⟩ := RdT.tile (hr.kp hkr) hlt
  cases e1
  simp (disch := omega) only [r_ln, r_pick, r_pickT, r_pickF, r_condT, r_condF, r_gdTT, r_gdFF, r_gdTF, r_gdFT, r_gqTT, r_gqFF, r_gqTF, r_gqFT, r_not, r_lss, r_leq, r_gtr, r_geq, r_eql, r_neq, r_add, r_sub, r_min2, r_max2, r_min3, r_max3, r_fa, r_iaS, r_iaA, r_ex2a, r_ex2b, r_ex3a, r_ex3b, r_ex3c, r_nc, r_keepE, Nat.zero_add, Nat.add_zero, Nat.mul_one, Int.toNat_natCast, toNat_sub1, toNat_add1, decide_true, decide_false, Bool.not_true, Bool.not_false, if_true, if_false, Bool.false_eq_true, reduceCtorEq, hlt', hld]
  refine r_box fun b4 w1 e4 s4 h4 k4 => ?_
  refine r_stAll (n := 4) (ty := 32) (by kernel_rfl) rfl (by intro u hu; simp [Value.cells] at hu; rcases hu with rfl | rfl | rfl | rfl <;> rfl) h4 rfl fun w2 c2 s2 h2' => ?_
  have k02 : Kp wr w2 := Kp.of_chg k4 c2 fun i e => by omega
  refine r_drew fun w3 k3 _ => ?_
  have k03 := Kp.trans k02 k3
  have h3 := block_below h2' k3
  have cN : w3.cell? ⟨b4, 0, none⟩ = some (.int .i64 (tN (tl l i))) := by rw [cell_row h3]; rfl
  have cE : w3.cell? ⟨b4, 1, none⟩ = some (.int .i64 (tE (tl l i))) := by rw [cell_row h3]; rfl
  have cS : w3.cell? ⟨b4, 2, none⟩ = some (.int .i64 (tS (tl l i))) := by rw [cell_row h3]; rfl
  have cW : w3.cell? ⟨b4, 3, none⟩ = some (.int .i64 (tW (tl l i))) := by rw [cell_row h3]; rfl
  have bad : (colsB (tl l i) && !decide (tl l i ∈ l.take i)) = false → (setB l) = false := fun hb => by
    cases hs : setB l
    · rfl
    · simp only [setB, freshB, Bool.and_eq_true, decide_eq_true_eq, List.all_eq_true, List.mem_range] at hs
      have := hs.2 i hlt
      rw [this.1, this.2] at hb
      cases hb
  simp (disch := omega) only [r_ln, r_pick, r_pickT, r_pickF, r_condT, r_condF, r_gdTT, r_gdFF, r_gdTF, r_gdFT, r_gqTT, r_gqFF, r_gqTF, r_gqFT, r_not, r_lss, r_leq, r_gtr, r_geq, r_eql, r_neq, r_add, r_sub, r_min2, r_max2, r_min3, r_max3, r_fa, r_iaS, r_iaA, r_ex2a, r_ex2b, r_ex3a, r_ex3b, r_ex3c, r_nc, r_keepE, Nat.zero_add, Nat.add_zero, Nat.mul_one, Int.toNat_natCast, toNat_sub1, toNat_add1, decide_true, decide_false, Bool.not_true, Bool.not_false, if_true, if_false, Bool.false_eq_true, reduceCtorEq, r_ld cN]
  refine r_use fok56 (colour_calls _ w3) rfl ?_
  rintro _ _ ⟨rfl, rfl⟩
  refine ⟨_, rfl, Below.refl _ _, ?_⟩
  have hcols : colsB (tl l i) = (colB (tN (tl l i)) && colB (tE (tl l i)) && colB (tS (tl l i)) && colB (tW (tl l i))) := rfl
  have kall : Kp w w3 := Kp.trans hkr k03
  cases b1 : colB (tN (tl l i)) with
  | false =>
    simp (disch := omega) only [r_ln, r_pick, r_pickT, r_pickF, r_condT, r_condF, r_gdTT, r_gdFF, r_gdTF, r_gdFT, r_gqTT, r_gqFF, r_gqTF, r_gqFT, r_not, r_lss, r_leq, r_gtr, r_geq, r_eql, r_neq, r_add, r_sub, r_min2, r_max2, r_min3, r_max3, r_fa, r_iaS, r_iaA, r_ex2a, r_ex2b, r_ex3a, r_ex3b, r_ex3c, r_nc, r_keepE, Nat.zero_add, Nat.add_zero, Nat.mul_one, Int.toNat_natCast, toNat_sub1, toNat_add1, decide_true, decide_false, Bool.not_true, Bool.not_false, if_true, if_false, Bool.false_eq_true, reduceCtorEq]
    exact ⟨Below.refl _ _, Below.refl _ _, ret_bool (bad (by simp [hcols, b1])).symm, kall⟩
  | true =>
  simp (disch := omega) only [r_ln, r_pick, r_pickT, r_pickF, r_condT, r_condF, r_gdTT, r_gdFF, r_gdTF, r_gdFT, r_gqTT, r_gqFF, r_gqTF, r_gqFT, r_not, r_lss, r_leq, r_gtr, r_geq, r_eql, r_neq, r_add, r_sub, r_min2, r_max2, r_min3, r_max3, r_fa, r_iaS, r_iaA, r_ex2a, r_ex2b, r_ex3a, r_ex3b, r_ex3c, r_nc, r_keepE, Nat.zero_add, Nat.add_zero, Nat.mul_one, Int.toNat_natCast, toNat_sub1, toNat_add1, decide_true, decide_false, Bool.not_true, Bool.not_false, if_true, if_false, Bool.false_eq_true, reduceCtorEq, r_ld cE]
  refine r_use fok56 (colour_calls _ w3) rfl ?_
  rintro _ _ ⟨rfl, rfl⟩
  refine ⟨_, rfl, ?_⟩
  cases b2 : colB (tE (tl l i)) with
  | false =>
    simp (disch := omega) only [r_ln, r_pick, r_pickT, r_pickF, r_condT, r_condF, r_gdTT, r_gdFF, r_gdTF, r_gdFT, r_gqTT, r_gqFF, r_gqTF, r_gqFT, r_not, r_lss, r_leq, r_gtr, r_geq, r_eql, r_neq, r_add, r_sub, r_min2, r_max2, r_min3, r_max3, r_fa, r_iaS, r_iaA, r_ex2a, r_ex2b, r_ex3a, r_ex3b, r_ex3c, r_nc, r_keepE, Nat.zero_add, Nat.add_zero, Nat.mul_one, Int.toNat_natCast, toNat_sub1, toNat_add1, decide_true, decide_false, Bool.not_true, Bool.not_false, if_true, if_false, Bool.false_eq_true, reduceCtorEq]
    exact ⟨Below.refl _ _, Below.refl _ _, ret_bool (bad (by simp [hcols, b2])).symm, kall⟩
  | true =>
  simp (disch := omega) only [r_ln, r_pick, r_pickT, r_pickF, r_condT, r_condF, r_gdTT, r_gdFF, r_gdTF, r_gdFT, r_gqTT, r_gqFF, r_gqTF, r_gqFT, r_not, r_lss, r_leq, r_gtr, r_geq, r_eql, r_neq, r_add, r_sub, r_min2, r_max2, r_min3, r_max3, r_fa, r_iaS, r_iaA, r_ex2a, r_ex2b, r_ex3a, r_ex3b, r_ex3c, r_nc, r_keepE, Nat.zero_add, Nat.add_zero, Nat.mul_one, Int.toNat_natCast, toNat_sub1, toNat_add1, decide_true, decide_false, Bool.not_true, Bool.not_false, if_true, if_false, Bool.false_eq_true, reduceCtorEq, r_ld cS]
  refine r_use fok56 (colour_calls _ w3) rfl ?_
  rintro _ _ ⟨rfl, rfl⟩
  refine ⟨_, rfl, ?_⟩
  cases b3 : colB (tS (tl l i)) with
  | false =>
    simp (disch := omega) only [r_ln, r_pick, r_pickT, r_pickF, r_condT, r_condF, r_gdTT, r_gdFF, r_gdTF, r_gdFT, r_gqTT, r_gqFF, r_gqTF, r_gqFT, r_not, r_lss, r_leq, r_gtr, r_geq, r_eql, r_neq, r_add, r_sub, r_min2, r_max2, r_min3, r_max3, r_fa, r_iaS, r_iaA, r_ex2a, r_ex2b, r_ex3a, r_ex3b, r_ex3c, r_nc, r_keepE, Nat.zero_add, Nat.add_zero, Nat.mul_one, Int.toNat_natCast, toNat_sub1, toNat_add1, decide_true, decide_false, Bool.not_true, Bool.not_false, if_true, if_false, Bool.false_eq_true, reduceCtorEq]
    exact ⟨Below.refl _ _, Below.refl _ _, ret_bool (bad (by simp [hcols, b3])).symm, kall⟩
  | true =>
  simp (disch := omega) only [r_ln, r_pick, r_pickT, r_pickF, r_condT, r_condF, r_gdTT, r_gdFF, r_gdTF, r_gdFT, r_gqTT, r_gqFF, r_gqTF, r_gqFT, r_not, r_lss, r_leq, r_gtr, r_geq, r_eql, r_neq, r_add, r_sub, r_min2, r_max2, r_min3, r_max3, r_fa, r_iaS, r_iaA, r_ex2a, r_ex2b, r_ex3a, r_ex3b, r_ex3c, r_nc, r_keepE, Nat.zero_add, Nat.add_zero, Nat.mul_one, Int.toNat_natCast, toNat_sub1, toNat_add1, decide_true, decide_false, Bool.not_true, Bool.not_false, if_true, if_false, Bool.false_eq_true, reduceCtorEq, r_ld cW]
  refine r_use fok56 (colour_calls _ w3) rfl ?_
  rintro _ _ ⟨rfl, rfl⟩
  refine ⟨_, rfl, Below.refl _ _, ?_⟩
  cases b4' : colB (tW (tl l i)) with
  | false =>
    simp (disch := omega) only [r_ln, r_pick, r_pickT, r_pickF, r_condT, r_condF, r_gdTT, r_gdFF, r_gdTF, r_gdFT, r_gqTT, r_gqFF, r_gqTF, r_gqFT, r_not, r_lss, r_leq, r_gtr, r_geq, r_eql, r_neq, r_add, r_sub, r_min2, r_max2, r_min3, r_max3, r_fa, r_iaS, r_iaA, r_ex2a, r_ex2b, r_ex3a, r_ex3b, r_ex3c, r_nc, r_keepE, Nat.zero_add, Nat.add_zero, Nat.mul_one, Int.toNat_natCast, toNat_sub1, toNat_add1, decide_true, decide_false, Bool.not_true, Bool.not_false, if_true, if_false, Bool.false_eq_true, reduceCtorEq]
    exact ⟨Below.refl _ _, ret_bool (bad (by simp [hcols, b4'])).symm, kall⟩
  | true =>
  simp (disch := omega) only [r_ln, r_pick, r_pickT, r_pickF, r_condT, r_condF, r_gdTT, r_gdFF, r_gdTF, r_gdFT, r_gqTT, r_gqFF, r_gqTF, r_gqFT, r_not, r_lss, r_leq, r_gtr, r_geq, r_eql, r_neq, r_add, r_sub, r_min2, r_max2, r_min3, r_max3, r_fa, r_iaS, r_iaA, r_ex2a, r_ex2b, r_ex3a, r_ex3b, r_ex3c, r_nc, r_keepE, Nat.zero_add, Nat.add_zero, Nat.mul_one, Int.toNat_natCast, toNat_sub1, toNat_add1, decide_true, decide_false, Bool.not_true, Bool.not_false, if_true, if_false, Bool.false_eq_true, reduceCtorEq, r_slTo, r_ldRow (n := 4) h3 rfl]
  refine r_use fok100 (contains_calls (l := l.take i) (tl l i) w3 ((hr.kp (Kp.trans hkr k03)).take hi) (by rw [List.length_take]; omega)) rfl ?_
  rintro _ w5 ⟨rfl, k5⟩
  refine ⟨_, rfl, k5, ?_⟩
  have kall5 := Kp.trans kall k5
  cases b5 : decide (tl l i ∈ l.take i) with
  | true =>
    simp (disch := omega) only [r_ln, r_pick, r_pickT, r_pickF, r_condT, r_condF, r_gdTT, r_gdFF, r_gdTF, r_gdFT, r_gqTT, r_gqFF, r_gqTF, r_gqFT, r_not, r_lss, r_leq, r_gtr, r_geq, r_eql, r_neq, r_add, r_sub, r_min2, r_max2, r_min3, r_max3, r_fa, r_iaS, r_iaA, r_ex2a, r_ex2b, r_ex3a, r_ex3b, r_ex3c, r_nc, r_keepE, Nat.zero_add, Nat.add_zero, Nat.mul_one, Int.toNat_natCast, toNat_sub1, toNat_add1, decide_true, decide_false, Bool.not_true, Bool.not_false, if_true, if_false, Bool.false_eq_true, reduceCtorEq]
    exact ⟨ret_bool (bad (by simp [b5])).symm, kall5⟩
  | false =>
  simp (disch := omega) only [r_ln, r_pick, r_pickT, r_pickF, r_condT, r_condF, r_gdTT, r_gdFF, r_gdTF, r_gdFT, r_gqTT, r_gqFF, r_gqTF, r_gqFT, r_not, r_lss, r_leq, r_gtr, r_geq, r_eql, r_neq, r_add, r_sub, r_min2, r_max2, r_min3, r_max3, r_fa, r_iaS, r_iaA, r_ex2a, r_ex2b, r_ex3a, r_ex3b, r_ex3c, r_nc, r_keepE, Nat.zero_add, Nat.add_zero, Nat.mul_one, Int.toNat_natCast, toNat_sub1, toNat_add1, decide_true, decide_false, Bool.not_true, Bool.not_false, if_true, if_false, Bool.false_eq_true, reduceCtorEq]
  refine ⟨⟨i + 1, by omega, by go_num, fun k hk => ?_, kall5⟩, by simp only [intOf]; omega⟩
  by_cases hki : k < i
  · exact hn k hki
  · have : k = i := by omega
    subst this
    simp [hcols, b1, b2, b3, b4', b5]

end Go.Proofs.Ytgalbokmgffhkaa

/- Contracts: sets in the specification, the errors of a set and measures; colours as numbers. -/
namespace Go.Proofs.Ytgalbokmgffhkaa
open Go.Lf Go.RowKit Go.Wg

set_option maxRecDepth 100000 in
/-- Set of the specification. -/
theorem refset_calls {v : Value} {l : List Tile} (w : World) (hr : RdT w v l) : Calls Try.prog 35 #[v] w fun e w' => e = .returned (.bool (setB l)) ∧ Kp w w' := by
  obtain ⟨a, cap, rfl, hcap⟩ := hr.len
  refine lift35 ?_
  unfold S35
  by_cases h1 : (l.length : Int) < 1
  · simp (disch := omega) only [r_ln, r_pick, r_pickT, r_pickF, r_condT, r_condF, r_gdTT, r_gdFF, r_gdTF, r_gdFT, r_gqTT, r_gqFF, r_gqTF, r_gqFT, r_not, r_lss, r_leq, r_gtr, r_geq, r_eql, r_neq, r_add, r_sub, r_min2, r_max2, r_min3, r_max3, r_fa, r_iaS, r_iaA, r_ex2a, r_ex2b, r_ex3a, r_ex3b, r_ex3c, r_nc, r_keepE, Nat.zero_add, Nat.add_zero, Nat.mul_one, Int.toNat_natCast, toNat_sub1, toNat_add1, decide_true, decide_false, Bool.not_true, Bool.not_false, if_true, if_false, Bool.false_eq_true, reduceCtorEq, h1]
    exact ⟨ret_bool (by have : l.length = 0 := by omega
                        simp [setB, this]), Kp.refl _⟩
  by_cases h2 : (16 : Int) < l.length
  · simp (disch := omega) only [r_ln, r_pick, r_pickT, r_pickF, r_condT, r_condF, r_gdTT, r_gdFF, r_gdTF, r_gdFT, r_gqTT, r_gqFF, r_gqTF, r_gqFT, r_not, r_lss, r_leq, r_gtr, r_geq, r_eql, r_neq, r_add, r_sub, r_min2, r_max2, r_min3, r_max3, r_fa, r_iaS, r_iaA, r_ex2a, r_ex2b, r_ex3a, r_ex3b, r_ex3c, r_nc, r_keepE, Nat.zero_add, Nat.add_zero, Nat.mul_one, Int.toNat_natCast, toNat_sub1, toNat_add1, decide_true, decide_false, Bool.not_true, Bool.not_false, if_true, if_false, Bool.false_eq_true, reduceCtorEq, h1, h2]
    exact ⟨ret_bool (by have : ¬ l.length ≤ 16 := by omega
                        simp [setB, this]), Kp.refl _⟩
  simp (disch := omega) only [r_ln, r_pick, r_pickT, r_pickF, r_condT, r_condF, r_gdTT, r_gdFF, r_gdTF, r_gdFT, r_gqTT, r_gqFF, r_gqTF, r_gqFT, r_not, r_lss, r_leq, r_gtr, r_geq, r_eql, r_neq, r_add, r_sub, r_min2, r_max2, r_min3, r_max3, r_fa, r_iaS, r_iaA, r_ex2a, r_ex2b, r_ex3a, r_ex3b, r_ex3c, r_nc, r_keepE, Nat.zero_add, Nat.add_zero, Nat.mul_one, Int.toNat_natCast, toNat_sub1, toNat_add1, decide_true, decide_false, Bool.not_true, Bool.not_false, if_true, if_false, Bool.false_eq_true, reduceCtorEq, h1, h2]
  refine ⟨fun t3 wr => ∃ i : Nat, i ≤ l.length ∧ t3 = .int .i64 i ∧ (∀ k, k < i → (colsB (tl l k) && !decide (tl l k ∈ l.take k)) = true) ∧ Kp w wr, fun t3 _ => l.length - (intOf t3).toNat, ⟨0, by omega, rfl, fun k hk => absurd hk (by omega), Kp.refl _⟩, ?_⟩
  rintro _ _ wr ⟨i, hi, rfl, hn, hkr⟩
  by_cases hlt : i < l.length
  case neg =>
    have hlt' : ¬ (i : Int) < (l.length : Int) := by omega
    simp (disch := omega) only [r_ln, r_pick, r_pickT, r_pickF, r_condT, r_condF, r_gdTT, r_gdFF, r_gdTF, r_gdFT, r_gqTT, r_gqFF, r_gqTF, r_gqFT, r_not, r_lss, r_leq, r_gtr, r_geq, r_eql, r_neq, r_add, r_sub, r_min2, r_max2, r_min3, r_max3, r_fa, r_iaS, r_iaA, r_ex2a, r_ex2b, r_ex3a, r_ex3b, r_ex3c, r_nc, r_keepE, Nat.zero_add, Nat.add_zero, Nat.mul_one, Int.toNat_natCast, toNat_sub1, toNat_add1, decide_true, decide_false, Bool.not_true, Bool.not_false, if_true, if_false, Bool.false_eq_true, reduceCtorEq, hlt']
    refine ⟨ret_bool ?_, hkr⟩
    symm
    simp only [setB, freshB, Bool.and_eq_true, decide_eq_true_eq, List.all_eq_true, List.mem_range]
    exact ⟨⟨by omega, by omega⟩, fun k hk => by have := hn k (by omega); simpa using this⟩
  have hlt' : (i : Int) < (l.length : Int) := by omega
  obtain ⟨b1, o1, _, e1, hld, _⟩ := RdT.tile (hr.kp hkr) hlt
  cases e1
  simp (disch := omega) only [r_ln, r_pick, r_pickT, r_pickF, r_condT, r_condF, r_gdTT, r_gdFF, r_gdTF, r_gdFT, r_gqTT, r_gqFF, r_gqTF, r_gqFT, r_not, r_lss, r_leq, r_gtr, r_geq, r_eql, r_neq, r_add, r_sub, r_min2, r_max2, r_min3, r_max3, r_fa, r_iaS, r_iaA, r_ex2a, r_ex2b, r_ex3a, r_ex3b, r_ex3c, r_nc, r_keepE, Nat.zero_add, Nat.add_zero, Nat.mul_one, Int.toNat_natCast, toNat_sub1, toNat_add1, decide_true, decide_false, Bool.not_true, Bool.not_false, if_true, if_false, Bool.false_eq_true, reduceCtorEq, hlt', hld]
  refine r_box fun b4 w1 e4 s4 h4 k4 => ?_
  refine r_stAll (n := 4) (ty := 32) (by kernel_rfl) rfl (by intro u hu; simp [Value.cells] at hu; rcases hu with rfl | rfl | rfl | rfl <;> rfl) h4 rfl fun w3 c2 s2 h3 => ?_
  have k03 : Kp wr w3 := Kp.of_chg k4 c2 fun i e => by omega
  have cN : w3.cell? ⟨b4, 0, none⟩ = some (.int .i64 (tN (tl l i))) := by rw [cell_row h3]; rfl
  have cE : w3.cell? ⟨b4, 1, none⟩ = some (.int .i64 (tE (tl l i))) := by rw [cell_row h3]; rfl
  have cS : w3.cell? ⟨b4, 2, none⟩ = some (.int .i64 (tS (tl l i))) := by rw [cell_row h3]; rfl
  have cW : w3.cell? ⟨b4, 3, none⟩ = some (.int .i64 (tW (tl l i))) := by rw [cell_row h3]; rfl
  have bad : (colsB (tl l i) && !decide (tl l i ∈ l.take i)) = false → (setB l) = false := fun hb => by
    cases hs : setB l
    · rfl
    · simp only [setB, freshB, Bool.and_eq_true, decide_eq_true_eq, List.all_eq_true, List.mem_range] at hs
      have := hs.2 i hlt
      rw [this.1, this.2] at hb
      cases hb
  have hcols : colsB (tl l i) = (colB (tN (tl l i)) && colB (tE (tl l i)) && colB (tS (tl l i)) && colB (tW (tl l i))) := rfl
  have kall : Kp w w3 := Kp.trans hkr k03
  simp (disch := omega) only [r_ln, r_pick, r_pickT, r_pickF, r_condT, r_condF, r_gdTT, r_gdFF, r_gdTF, r_gdFT, r_gqTT, r_gqFF, r_gqTF, r_gqFT, r_not, r_lss, r_leq, r_gtr, r_geq, r_eql, r_neq, r_add, r_sub, r_min2, r_max2, r_min3, r_max3, r_fa, r_iaS, r_iaA, r_ex2a, r_ex2b, r_ex3a, r_ex3b, r_ex3c, r_nc, r_keepE, Nat.zero_add, Nat.add_zero, Nat.mul_one, Int.toNat_natCast, toNat_sub1, toNat_add1, decide_true, decide_false, Bool.not_true, Bool.not_false, if_true, if_false, Bool.false_eq_true, reduceCtorEq, r_ld cN]
  refine r_use fok62 (refcolour_calls _ w3) rfl ?_
  rintro _ _ ⟨rfl, rfl⟩
  refine ⟨_, rfl, ?_⟩
  cases b1 : colB (tN (tl l i)) with
  | false =>
    simp (disch := omega) only [r_ln, r_pick, r_pickT, r_pickF, r_condT, r_condF, r_gdTT, r_gdFF, r_gdTF, r_gdFT, r_gqTT, r_gqFF, r_gqTF, r_gqFT, r_not, r_lss, r_leq, r_gtr, r_geq, r_eql, r_neq, r_add, r_sub, r_min2, r_max2, r_min3, r_max3, r_fa, r_iaS, r_iaA, r_ex2a, r_ex2b, r_ex3a, r_ex3b, r_ex3c, r_nc, r_keepE, Nat.zero_add, Nat.add_zero, Nat.mul_one, Int.toNat_natCast, toNat_sub1, toNat_add1, decide_true, decide_false, Bool.not_true, Bool.not_false, if_true, if_false, Bool.false_eq_true, reduceCtorEq]
    exact ⟨ret_bool (bad (by simp [hcols, b1])).symm, kall⟩
  | true =>
  simp (disch := omega) only [r_ln, r_pick, r_pickT, r_pickF, r_condT, r_condF, r_gdTT, r_gdFF, r_gdTF, r_gdFT, r_gqTT, r_gqFF, r_gqTF, r_gqFT, r_not, r_lss, r_leq, r_gtr, r_geq, r_eql, r_neq, r_add, r_sub, r_min2, r_max2, r_min3, r_max3, r_fa, r_iaS, r_iaA, r_ex2a, r_ex2b, r_ex3a, r_ex3b, r_ex3c, r_nc, r_keepE, Nat.zero_add, Nat.add_zero, Nat.mul_one, Int.toNat_natCast, toNat_sub1, toNat_add1, decide_true, decide_false, Bool.not_true, Bool.not_false, if_true, if_false, Bool.false_eq_true, reduceCtorEq, r_ld cE]
  refine r_use fok62 (refcolour_calls _ w3) rfl ?_
  rintro _ _ ⟨rfl, rfl⟩
  refine ⟨_, rfl, ?_⟩
  cases b2 : colB (tE (tl l i)) with
  | false =>
    simp (disch := omega) only [r_ln, r_pick, r_pickT, r_pickF, r_condT, r_condF, r_gdTT, r_gdFF, r_gdTF, r_gdFT, r_gqTT, r_gqFF, r_gqTF, r_gqFT, r_not, r_lss, r_leq, r_gtr, r_geq, r_eql, r_neq, r_add, r_sub, r_min2, r_max2, r_min3, r_max3, r_fa, r_iaS, r_iaA, r_ex2a, r_ex2b, r_ex3a, r_ex3b, r_ex3c, r_nc, r_keepE, Nat.zero_add, Nat.add_zero, Nat.mul_one, Int.toNat_natCast, toNat_sub1, toNat_add1, decide_true, decide_false, Bool.not_true, Bool.not_false, if_true, if_false, Bool.false_eq_true, reduceCtorEq]
    exact ⟨ret_bool (bad (by simp [hcols, b2])).symm, kall⟩
  | true =>
  simp (disch := omega) only [r_ln, r_pick, r_pickT, r_pickF, r_condT, r_condF, r_gdTT, r_gdFF, r_gdTF, r_gdFT, r_gqTT, r_gqFF, r_gqTF, r_gqFT, r_not, r_lss, r_leq, r_gtr, r_geq, r_eql, r_neq, r_add, r_sub, r_min2, r_max2, r_min3, r_max3, r_fa, r_iaS, r_iaA, r_ex2a, r_ex2b, r_ex3a, r_ex3b, r_ex3c, r_nc, r_keepE, Nat.zero_add, Nat.add_zero, Nat.mul_one, Int.toNat_natCast, toNat_sub1, toNat_add1, decide_true, decide_false, Bool.not_true, Bool.not_false, if_true, if_false, Bool.false_eq_true, reduceCtorEq, r_ld cS]
  refine r_use fok62 (refcolour_calls _ w3) rfl ?_
  rintro _ _ ⟨rfl, rfl⟩
  refine ⟨_, rfl, ?_⟩
  cases b3 : colB (tS (tl l i)) with
  | false =>
    simp (disch := omega) only [r_ln, r_pick, r_pickT, r_pickF, r_condT, r_condF, r_gdTT, r_gdFF, r_gdTF, r_gdFT, r_gqTT, r_gqFF, r_gqTF, r_gqFT, r_not, r_lss, r_leq, r_gtr, r_geq, r_eql, r_neq, r_add, r_sub, r_min2, r_max2, r_min3, r_max3, r_fa, r_iaS, r_iaA, r_ex2a, r_ex2b, r_ex3a, r_ex3b, r_ex3c, r_nc, r_keepE, Nat.zero_add, Nat.add_zero, Nat.mul_one, Int.toNat_natCast, toNat_sub1, toNat_add1, decide_true, decide_false, Bool.not_true, Bool.not_false, if_true, if_false, Bool.false_eq_true, reduceCtorEq]
    exact ⟨ret_bool (bad (by simp [hcols, b3])).symm, kall⟩
  | true =>
  simp (disch := omega) only [r_ln, r_pick, r_pickT, r_pickF, r_condT, r_condF, r_gdTT, r_gdFF, r_gdTF, r_gdFT, r_gqTT, r_gqFF, r_gqTF, r_gqFT, r_not, r_lss, r_leq, r_gtr, r_geq, r_eql, r_neq, r_add, r_sub, r_min2, r_max2, r_min3, r_max3, r_fa, r_iaS, r_iaA, r_ex2a, r_ex2b, r_ex3a, r_ex3b, r_ex3c, r_nc, r_keepE, Nat.zero_add, Nat.add_zero, Nat.mul_one, Int.toNat_natCast, toNat_sub1, toNat_add1, decide_true, decide_false, Bool.not_true, Bool.not_false, if_true, if_false, Bool.false_eq_true, reduceCtorEq, r_ld cW]
  refine r_use fok62 (refcolour_calls _ w3) rfl ?_
  rintro _ _ ⟨rfl, rfl⟩
  refine ⟨_, rfl, ?_⟩
  cases b4' : colB (tW (tl l i)) with
  | false =>
    simp (disch := omega) only [r_ln, r_pick, r_pickT, r_pickF, r_condT, r_condF, r_gdTT, r_gdFF, r_gdTF, r_gdFT, r_gqTT, r_gqFF, r_gqTF, r_gqFT, r_not, r_lss, r_leq, r_gtr, r_geq, r_eql, r_neq, r_add, r_sub, r_min2, r_max2, r_min3, r_max3, r_fa, r_iaS, r_iaA, r_ex2a, r_ex2b, r_ex3a, r_ex3b, r_ex3c, r_nc, r_keepE, Nat.zero_add, Nat.add_zero, Nat.mul_one, Int.toNat_natCast, toNat_sub1, toNat_add1, decide_true, decide_false, Bool.not_true, Bool.not_false, if_true, if_false, Bool.false_eq_true, reduceCtorEq]
    exact ⟨ret_bool (bad (by simp [hcols, b4'])).symm, kall⟩
  | true =>
  simp (disch := omega) only [r_ln, r_pick, r_pickT, r_pickF, r_condT, r_condF, r_gdTT, r_gdFF, r_gdTF, r_gdFT, r_gqTT, r_gqFF, r_gqTF, r_gqFT, r_not, r_lss, r_leq, r_gtr, r_geq, r_eql, r_neq, r_add, r_sub, r_min2, r_max2, r_min3, r_max3, r_fa, r_iaS, r_iaA, r_ex2a, r_ex2b, r_ex3a, r_ex3b, r_ex3c, r_nc, r_keepE, Nat.zero_add, Nat.add_zero, Nat.mul_one, Int.toNat_natCast, toNat_sub1, toNat_add1, decide_true, decide_false, Bool.not_true, Bool.not_false, if_true, if_false, Bool.false_eq_true, reduceCtorEq]
  refine ⟨fun t5 wq => ∃ k : Nat, k ≤ i ∧ t5 = .int .i64 k ∧ tl l i ∉ l.take k ∧ Kp w3 wq, fun t5 _ => i - (intOf t5).toNat, ⟨0, by omega, rfl, by simp, Kp.refl _⟩, ?_⟩
  rintro _ _ wq ⟨k, hk, rfl, hnk, hkq⟩
  by_cases hkl : k < i
  case neg =>
    have hkl' : ¬ (k : Int) < (i : Int) := by omega
    have : k = i := by omega
    subst this
    simp (disch := omega) only [r_ln, r_pick, r_pickT, r_pickF, r_condT, r_condF, r_gdTT, r_gdFF, r_gdTF, r_gdFT, r_gqTT, r_gqFF, r_gqTF, r_gqFT, r_not, r_lss, r_leq, r_gtr, r_geq, r_eql, r_neq, r_add, r_sub, r_min2, r_max2, r_min3, r_max3, r_fa, r_iaS, r_iaA, r_ex2a, r_ex2b, r_ex3a, r_ex3b, r_ex3c, r_nc, r_keepE, Nat.zero_add, Nat.add_zero, Nat.mul_one, Int.toNat_natCast, toNat_sub1, toNat_add1, decide_true, decide_false, Bool.not_true, Bool.not_false, if_true, if_false, Bool.false_eq_true, reduceCtorEq, hkl']
    refine ⟨⟨k + 1, by omega, by go_num, fun m hm => ?_, Kp.trans kall hkq⟩, by simp only [intOf]; omega⟩
    by_cases hki : m < k
    · exact hn m hki
    · have : m = k := by omega
      subst this
      simp [hcols, b1, b2, b3, b4', hnk]
  have hkl' : (k : Int) < (i : Int) := by omega
  simp (disch := omega) only [r_ln, r_pick, r_pickT, r_pickF, r_condT, r_condF, r_gdTT, r_gdFF, r_gdTF, r_gdFT, r_gqTT, r_gqFF, r_gqTF, r_gqFT, r_not, r_lss, r_leq, r_gtr, r_geq, r_eql, r_neq, r_add, r_sub, r_min2, r_max2, r_min3, r_max3, r_fa, r_iaS, r_iaA, r_ex2a, r_ex2b, r_ex3a, r_ex3b, r_ex3c, r_nc, r_keepE, Nat.zero_add, Nat.add_zero, Nat.mul_one, Int.toNat_natCast, toNat_sub1, toNat_add1, decide_true, decide_false, Bool.not_true, Bool.not_false, if_true, if_false, Bool.false_eq_true, reduceCtorEq, hkl']
  refine r_drew fun wx kx _ => ?_
  have hkx := Kp.trans hkq kx
  obtain ⟨b5, o5, _, e5, hld5, _⟩ := RdT.tile (i := k) (hr.kp (Kp.trans kall hkx)) (by omega)
  cases e5
  have e6 : ∀ K : Value → Prop, ldN 4 wx (.pointer (some ⟨b4, 0, none⟩)) K = K (tlV (tl l i)) := fun K => r_ldRow (n := 4) (block_below h3 hkx) rfl
  have hxk := tl_get (l := l) (i := k) (by omega)
  by_cases he : tl l k = tl l i
  · simp (disch := omega) only [r_ln, r_pick, r_pickT, r_pickF, r_condT, r_condF, r_gdTT, r_gdFF, r_gdTF, r_gdFT, r_gqTT, r_gqFF, r_gqTF, r_gqFT, r_not, r_lss, r_leq, r_gtr, r_geq, r_eql, r_neq, r_add, r_sub, r_min2, r_max2, r_min3, r_max3, r_fa, r_iaS, r_iaA, r_ex2a, r_ex2b, r_ex3a, r_ex3b, r_ex3c, r_nc, r_keepE, Nat.zero_add, Nat.add_zero, Nat.mul_one, Int.toNat_natCast, toNat_sub1, toNat_add1, decide_true, decide_false, Bool.not_true, Bool.not_false, if_true, if_false, Bool.false_eq_true, reduceCtorEq, hld5, e6, r_eq32, decide_eq_true he]
    have hm : tl l i ∈ l.take i := by
      rw [← he, List.mem_take_iff_getElem]
      exact ⟨k, by omega, (List.getElem?_eq_some_iff.1 hxk).2⟩
    exact ⟨ret_bool (bad (by simp [hm])).symm, Kp.trans kall hkx⟩
  · simp (disch := omega) only [r_ln, r_pick, r_pickT, r_pickF, r_condT, r_condF, r_gdTT, r_gdFF, r_gdTF, r_gdFT, r_gqTT, r_gqFF, r_gqTF, r_gqFT, r_not, r_lss, r_leq, r_gtr, r_geq, r_eql, r_neq, r_add, r_sub, r_min2, r_max2, r_min3, r_max3, r_fa, r_iaS, r_iaA, r_ex2a, r_ex2b, r_ex3a, r_ex3b, r_ex3c, r_nc, r_keepE, Nat.zero_add, Nat.add_zero, Nat.mul_one, Int.toNat_natCast, toNat_sub1, toNat_add1, decide_true, decide_false, Bool.not_true, Bool.not_false, if_true, if_false, Bool.false_eq_true, reduceCtorEq, hld5, e6, r_eq32, decide_eq_false he]
    refine ⟨⟨k + 1, by omega, by go_num, ?_, hkx⟩, by simp only [intOf]; omega⟩
    rw [List.take_add_one, hxk]
    simp only [Option.toList_some, List.mem_append, List.mem_singleton, not_or]
    exact ⟨hnk, fun e => he e.symm⟩

/-- The error of a set and measures. -/
def ordErr (l : List Tile) (w h : Int) : Int := if setB l = true ∧ sideB w = true ∧ sideB h = true then 0 else 2
theorem ordErr_cases (l : List Tile) (w h : Int) : ordErr l w h = 0 ∨ ordErr l w h = 2 := by
  unfold ordErr; split
  · exact .inl rfl
  · exact .inr rfl
theorem ord_ok {l : List Tile} {w h : Int} (e : ordErr l w h = 0) : IsSet l ∧ ∃ a b : Nat, w = a ∧ h = b ∧ (1 ≤ a ∧ a ≤ 4) ∧ (1 ≤ b ∧ b ≤ 4) := by
  unfold ordErr at e
  split at e
  · rename_i q
    obtain ⟨q1, q2, q3⟩ := q
    simp only [sideB, decide_eq_true_eq] at q2 q3
    exact ⟨isSet_of q1, w.toNat, h.toNat, by omega, by omega, by omega, by omega⟩
  · cases e

set_option maxRecDepth 100000 in
theorem board_calls {v : Value} {l : List Tile} (a b : Int) (w : World) (hr : RdT w v l) : Calls Try.prog 53 #[v, .int .i64 a, .int .i64 b] w fun e w' => e = .returned (.int .i64 (ordErr l a b)) ∧ Kp w w' := by
  refine lift53 ?_
  unfold S53
  refine r_use fok65 (valid_calls w hr) rfl ?_
  rintro _ w1 ⟨rfl, k1⟩
  refine ⟨_, rfl, ?_⟩
  unfold ordErr
  cases b1 : setB l with
  | false =>
    simp (disch := omega) only [r_ln, r_pick, r_pickT, r_pickF, r_condT, r_condF, r_gdTT, r_gdFF, r_gdTF, r_gdFT, r_gqTT, r_gqFF, r_gqTF, r_gqFT, r_not, r_lss, r_leq, r_gtr, r_geq, r_eql, r_neq, r_add, r_sub, r_min2, r_max2, r_min3, r_max3, r_fa, r_iaS, r_iaA, r_ex2a, r_ex2b, r_ex3a, r_ex3b, r_ex3c, r_nc, r_keepE, Nat.zero_add, Nat.add_zero, Nat.mul_one, Int.toNat_natCast, toNat_sub1, toNat_add1, decide_true, decide_false, Bool.not_true, Bool.not_false, if_true, if_false, Bool.false_eq_true, reduceCtorEq, false_and]
    exact ⟨trivial, k1⟩
  | true =>
  simp (disch := omega) only [r_ln, r_pick, r_pickT, r_pickF, r_condT, r_condF, r_gdTT, r_gdFF, r_gdTF, r_gdFT, r_gqTT, r_gqFF, r_gqTF, r_gqFT, r_not, r_lss, r_leq, r_gtr, r_geq, r_eql, r_neq, r_add, r_sub, r_min2, r_max2, r_min3, r_max3, r_fa, r_iaS, r_iaA, r_ex2a, r_ex2b, r_ex3a, r_ex3b, r_ex3c, r_nc, r_keepE, Nat.zero_add, Nat.add_zero, Nat.mul_one, Int.toNat_natCast, toNat_sub1, toNat_add1, decide_true, decide_false, Bool.not_true, Bool.not_false, if_true, if_false, Bool.false_eq_true, reduceCtorEq]
  refine r_use fok66 (side_calls a w1) rfl ?_
  rintro _ _ ⟨rfl, rfl⟩
  refine ⟨_, rfl, ?_⟩
  cases b2 : sideB a with
  | false =>
    simp (disch := omega) only [r_ln, r_pick, r_pickT, r_pickF, r_condT, r_condF, r_gdTT, r_gdFF, r_gdTF, r_gdFT, r_gqTT, r_gqFF, r_gqTF, r_gqFT, r_not, r_lss, r_leq, r_gtr, r_geq, r_eql, r_neq, r_add, r_sub, r_min2, r_max2, r_min3, r_max3, r_fa, r_iaS, r_iaA, r_ex2a, r_ex2b, r_ex3a, r_ex3b, r_ex3c, r_nc, r_keepE, Nat.zero_add, Nat.add_zero, Nat.mul_one, Int.toNat_natCast, toNat_sub1, toNat_add1, decide_true, decide_false, Bool.not_true, Bool.not_false, if_true, if_false, Bool.false_eq_true, reduceCtorEq, false_and, and_false]
    exact ⟨trivial, k1⟩
  | true =>
  simp (disch := omega) only [r_ln, r_pick, r_pickT, r_pickF, r_condT, r_condF, r_gdTT, r_gdFF, r_gdTF, r_gdFT, r_gqTT, r_gqFF, r_gqTF, r_gqFT, r_not, r_lss, r_leq, r_gtr, r_geq, r_eql, r_neq, r_add, r_sub, r_min2, r_max2, r_min3, r_max3, r_fa, r_iaS, r_iaA, r_ex2a, r_ex2b, r_ex3a, r_ex3b, r_ex3c, r_nc, r_keepE, Nat.zero_add, Nat.add_zero, Nat.mul_one, Int.toNat_natCast, toNat_sub1, toNat_add1, decide_true, decide_false, Bool.not_true, Bool.not_false, if_true, if_false, Bool.false_eq_true, reduceCtorEq]
  refine r_use fok66 (side_calls b w1) rfl ?_
  rintro _ _ ⟨rfl, rfl⟩
  refine ⟨_, rfl, ?_⟩
  cases b3 : sideB b with
  | false =>
    simp (disch := omega) only [r_ln, r_pick, r_pickT, r_pickF, r_condT, r_condF, r_gdTT, r_gdFF, r_gdTF, r_gdFT, r_gqTT, r_gqFF, r_gqTF, r_gqFT, r_not, r_lss, r_leq, r_gtr, r_geq, r_eql, r_neq, r_add, r_sub, r_min2, r_max2, r_min3, r_max3, r_fa, r_iaS, r_iaA, r_ex2a, r_ex2b, r_ex3a, r_ex3b, r_ex3c, r_nc, r_keepE, Nat.zero_add, Nat.add_zero, Nat.mul_one, Int.toNat_natCast, toNat_sub1, toNat_add1, decide_true, decide_false, Bool.not_true, Bool.not_false, if_true, if_false, Bool.false_eq_true, reduceCtorEq, false_and, and_false]
    exact ⟨trivial, k1⟩
  | true =>
    simp (disch := omega) only [r_ln, r_pick, r_pickT, r_pickF, r_condT, r_condF, r_gdTT, r_gdFF, r_gdTF, r_gdFT, r_gqTT, r_gqFF, r_gqTF, r_gqFT, r_not, r_lss, r_leq, r_gtr, r_geq, r_eql, r_neq, r_add, r_sub, r_min2, r_max2, r_min3, r_max3, r_fa, r_iaS, r_iaA, r_ex2a, r_ex2b, r_ex3a, r_ex3b, r_ex3c, r_nc, r_keepE, Nat.zero_add, Nat.add_zero, Nat.mul_one, Int.toNat_natCast, toNat_sub1, toNat_add1, decide_true, decide_false, Bool.not_true, Bool.not_false, if_true, if_false, Bool.false_eq_true, reduceCtorEq, and_self]
    exact ⟨trivial, k1⟩

set_option maxRecDepth 100000 in
theorem order_calls {v : Value} {l : List Tile} (a b : Int) (w : World) (hr : RdT w v l) : Calls Try.prog 23 #[v, .int .i64 a, .int .i64 b] w fun e w' => e = .returned (.int .i64 (ordErr l a b)) ∧ Kp w w' := by
  refine lift23 ?_
  unfold S23
  refine r_use fok35 (refset_calls w hr) rfl ?_
  rintro _ w1 ⟨rfl, k1⟩
  refine ⟨_, rfl, ?_⟩
  unfold ordErr
  cases b1 : setB l with
  | false =>
    simp (disch := omega) only [r_ln, r_pick, r_pickT, r_pickF, r_condT, r_condF, r_gdTT, r_gdFF, r_gdTF, r_gdFT, r_gqTT, r_gqFF, r_gqTF, r_gqFT, r_not, r_lss, r_leq, r_gtr, r_geq, r_eql, r_neq, r_add, r_sub, r_min2, r_max2, r_min3, r_max3, r_fa, r_iaS, r_iaA, r_ex2a, r_ex2b, r_ex3a, r_ex3b, r_ex3c, r_nc, r_keepE, Nat.zero_add, Nat.add_zero, Nat.mul_one, Int.toNat_natCast, toNat_sub1, toNat_add1, decide_true, decide_false, Bool.not_true, Bool.not_false, if_true, if_false, Bool.false_eq_true, reduceCtorEq, false_and]
    exact ⟨trivial, k1⟩
  | true =>
  simp (disch := omega) only [r_ln, r_pick, r_pickT, r_pickF, r_condT, r_condF, r_gdTT, r_gdFF, r_gdTF, r_gdFT, r_gqTT, r_gqFF, r_gqTF, r_gqFT, r_not, r_lss, r_leq, r_gtr, r_geq, r_eql, r_neq, r_add, r_sub, r_min2, r_max2, r_min3, r_max3, r_fa, r_iaS, r_iaA, r_ex2a, r_ex2b, r_ex3a, r_ex3b, r_ex3c, r_nc, r_keepE, Nat.zero_add, Nat.add_zero, Nat.mul_one, Int.toNat_natCast, toNat_sub1, toNat_add1, decide_true, decide_false, Bool.not_true, Bool.not_false, if_true, if_false, Bool.false_eq_true, reduceCtorEq]
  refine r_use fok68 (size_calls a w1) rfl ?_
  rintro _ _ ⟨rfl, rfl⟩
  refine ⟨_, rfl, ?_⟩
  cases b2 : sideB a with
  | false =>
    simp (disch := omega) only [r_ln, r_pick, r_pickT, r_pickF, r_condT, r_condF, r_gdTT, r_gdFF, r_gdTF, r_gdFT, r_gqTT, r_gqFF, r_gqTF, r_gqFT, r_not, r_lss, r_leq, r_gtr, r_geq, r_eql, r_neq, r_add, r_sub, r_min2, r_max2, r_min3, r_max3, r_fa, r_iaS, r_iaA, r_ex2a, r_ex2b, r_ex3a, r_ex3b, r_ex3c, r_nc, r_keepE, Nat.zero_add, Nat.add_zero, Nat.mul_one, Int.toNat_natCast, toNat_sub1, toNat_add1, decide_true, decide_false, Bool.not_true, Bool.not_false, if_true, if_false, Bool.false_eq_true, reduceCtorEq, false_and, and_false]
    exact ⟨trivial, k1⟩
  | true =>
  simp (disch := omega) only [r_ln, r_pick, r_pickT, r_pickF, r_condT, r_condF, r_gdTT, r_gdFF, r_gdTF, r_gdFT, r_gqTT, r_gqFF, r_gqTF, r_gqFT, r_not, r_lss, r_leq, r_gtr, r_geq, r_eql, r_neq, r_add, r_sub, r_min2, r_max2, r_min3, r_max3, r_fa, r_iaS, r_iaA, r_ex2a, r_ex2b, r_ex3a, r_ex3b, r_ex3c, r_nc, r_keepE, Nat.zero_add, Nat.add_zero, Nat.mul_one, Int.toNat_natCast, toNat_sub1, toNat_add1, decide_true, decide_false, Bool.not_true, Bool.not_false, if_true, if_false, Bool.false_eq_true, reduceCtorEq]
  refine r_use fok68 (size_calls b w1) rfl ?_
  rintro _ _ ⟨rfl, rfl⟩
  refine ⟨_, rfl, ?_⟩
  cases b3 : sideB b with
  | false =>
    simp (disch := omega) only [r_ln, r_pick, r_pickT, r_pickF, r_condT, r_condF, r_gdTT, r_gdFF, r_gdTF, r_gdFT, r_gqTT, r_gqFF, r_gqTF, r_gqFT, r_not, r_lss, r_leq, r_gtr, r_geq, r_eql, r_neq, r_add, r_sub, r_min2, r_max2, r_min3, r_max3, r_fa, r_iaS, r_iaA, r_ex2a, r_ex2b, r_ex3a, r_ex3b, r_ex3c, r_nc, r_keepE, Nat.zero_add, Nat.add_zero, Nat.mul_one, Int.toNat_natCast, toNat_sub1, toNat_add1, decide_true, decide_false, Bool.not_true, Bool.not_false, if_true, if_false, Bool.false_eq_true, reduceCtorEq, false_and, and_false]
    exact ⟨trivial, k1⟩
  | true =>
    simp (disch := omega) only [r_ln, r_pick, r_pickT, r_pickF, r_condT, r_condF, r_gdTT, r_gdFF, r_gdTF, r_gdFT, r_gqTT, r_gqFF, r_gqTF, r_gqFT, r_not, r_lss, r_leq, r_gtr, r_geq, r_eql, r_neq, r_add, r_sub, r_min2, r_max2, r_min3, r_max3, r_fa, r_iaS, r_iaA, r_ex2a, r_ex2b, r_ex3a, r_ex3b, r_ex3c, r_nc, r_keepE, Nat.zero_add, Nat.add_zero, Nat.mul_one, Int.toNat_natCast, toNat_sub1, toNat_add1, decide_true, decide_false, Bool.not_true, Bool.not_false, if_true, if_false, Bool.false_eq_true, reduceCtorEq, and_self]
    exact ⟨trivial, k1⟩

/-! ### numbers -/

theorem pow8_le {a : Nat} (h : a ≤ 4) : (8 : Int) ^ a ≤ 4096 := by
  have : a = 0 ∨ a = 1 ∨ a = 2 ∨ a = 3 ∨ a = 4 := by omega
  rcases this with rfl | rfl | rfl | rfl | rfl <;> decide
theorem pow8N_le {a : Nat} (h : a ≤ 4) : 8 ^ a ≤ 4096 := by
  have : a = 0 ∨ a = 1 ∨ a = 2 ∨ a = 3 ∨ a = 4 := by omega
  rcases this with rfl | rfl | rfl | rfl | rfl <;> decide

set_option maxRecDepth 100000 in
theorem codes_calls {a : Nat} (w : World) (ha : a ≤ 4) : Calls Try.prog 73 #[.int .i64 a] w fun e w' => e = .returned (.int .i64 ((8 ^ a : Nat) : Int)) ∧ w = w' := by
  refine lift73 ?_
  unfold S73
  refine ⟨fun t3 t5 wr => ∃ i : Nat, i ≤ a ∧ t5 = .int .i64 i ∧ t3 = .int .i64 ((8 ^ i : Nat) : Int) ∧ w = wr, fun _ t5 _ => a - (intOf t5).toNat, ⟨0, by omega, rfl, rfl, rfl⟩, ?_⟩
  rintro _ _ _ _ ⟨i, hi, rfl, rfl, rfl⟩
  by_cases hlt : i < a
  case neg =>
    have hlt' : ¬ (i : Int) < (a : Int) := by omega
    have : i = a := by omega
    subst this
    simp (disch := omega) only [r_ln, r_pick, r_pickT, r_pickF, r_condT, r_condF, r_gdTT, r_gdFF, r_gdTF, r_gdFT, r_gqTT, r_gqFF, r_gqTF, r_gqFT, r_not, r_lss, r_leq, r_gtr, r_geq, r_eql, r_neq, r_add, r_sub, r_min2, r_max2, r_min3, r_max3, r_fa, r_iaS, r_iaA, r_ex2a, r_ex2b, r_ex3a, r_ex3b, r_ex3c, r_nc, r_keepE, Nat.zero_add, Nat.add_zero, Nat.mul_one, Int.toNat_natCast, toNat_sub1, toNat_add1, decide_true, decide_false, Bool.not_true, Bool.not_false, if_true, if_false, Bool.false_eq_true, reduceCtorEq, hlt']
    exact ⟨by first | rfl | trivial, by first | rfl | trivial⟩
  have hlt' : (i : Int) < (a : Int) := by omega
  have hp := pow8N_le (show i ≤ 4 by omega)
  generalize hN : 8 ^ i = N at *
  simp (disch := omega) only [r_ln, r_pick, r_pickT, r_pickF, r_condT, r_condF, r_gdTT, r_gdFF, r_gdTF, r_gdFT, r_gqTT, r_gqFF, r_gqTF, r_gqFT, r_not, r_lss, r_leq, r_gtr, r_geq, r_eql, r_neq, r_add, r_sub, r_min2, r_max2, r_min3, r_max3, r_fa, r_iaS, r_iaA, r_ex2a, r_ex2b, r_ex3a, r_ex3b, r_ex3c, r_nc, r_keepE, Nat.zero_add, Nat.add_zero, Nat.mul_one, Int.toNat_natCast, toNat_sub1, toNat_add1, decide_true, decide_false, Bool.not_true, Bool.not_false, if_true, if_false, Bool.false_eq_true, reduceCtorEq, hlt', r_mul]
  exact ⟨⟨i + 1, by omega, by go_num, by rw [Nat.pow_succ, hN, Int.natCast_mul]; rfl, trivial⟩, by simp only [intOf]; omega⟩

/-- Numbers that are colours. -/
def Cols (c : List Int) : Prop := ∀ x ∈ c, 0 ≤ x ∧ x ≤ 7
theorem code_range {c : List Int} (h : Cols c) (hl : c.length ≤ 4) : 0 ≤ code c ∧ code c < 8 ^ c.length ∧ code c ≤ 4095 := by
  have h1 := code_bound h
  have h2 := pow8_le hl
  exact ⟨h1.1, h1.2, by omega⟩

set_option maxRecDepth 100000 in
theorem number_calls {v : Value} {c : List Int} (w : World) (hr : RdInts w v c) (hc : Cols c) (hl : c.length ≤ 4) : Calls Try.prog 58 #[v] w fun e w' => e = .returned (.int .i64 (code c)) ∧ w = w' := by
  obtain ⟨a, cap, rfl, _⟩ := hr.len
  refine lift58 ?_
  unfold S58
  simp only [r_ln, r_pick, r_pickT, r_pickF, r_condT, r_condF, r_gdTT, r_gdFF, r_gdTF, r_gdFT, r_gqTT, r_gqFF, r_gqTF, r_gqFT, r_not, r_lss, r_leq, r_gtr, r_geq, r_eql, r_neq, r_add, r_sub, r_min2, r_max2, r_min3, r_max3, r_fa, r_iaS, r_iaA, r_ex2a, r_ex2b, r_ex3a, r_ex3b, r_ex3c, r_nc, r_keepE, Nat.zero_add, Nat.add_zero, Nat.mul_one, Int.toNat_natCast, toNat_sub1, toNat_add1, decide_true, decide_false, Bool.not_true, Bool.not_false, if_true, if_false, Bool.false_eq_true, reduceCtorEq]
  refine ⟨fun t3 t8 wr => ∃ i : Nat, i ≤ c.length ∧ t8 = .int .i64 i ∧ t3 = .int .i64 (code (c.take i)) ∧ w = wr, fun _ t8 _ => c.length - (intOf t8).toNat, ⟨0, by omega, rfl, by simp [code], rfl⟩, ?_⟩
  rintro _ _ _ _ ⟨i, hi, rfl, rfl, rfl⟩
  by_cases hlt : i < c.length
  case neg =>
    have hlt' : ¬ (i : Int) < (c.length : Int) := by omega
    simp (disch := omega) only [r_ln, r_pick, r_pickT, r_pickF, r_condT, r_condF, r_gdTT, r_gdFF, r_gdTF, r_gdFT, r_gqTT, r_gqFF, r_gqTF, r_gqFT, r_not, r_lss, r_leq, r_gtr, r_geq, r_eql, r_neq, r_add, r_sub, r_min2, r_max2, r_min3, r_max3, r_fa, r_iaS, r_iaA, r_ex2a, r_ex2b, r_ex3a, r_ex3b, r_ex3c, r_nc, r_keepE, Nat.zero_add, Nat.add_zero, Nat.mul_one, Int.toNat_natCast, toNat_sub1, toNat_add1, decide_true, decide_false, Bool.not_true, Bool.not_false, if_true, if_false, Bool.false_eq_true, reduceCtorEq, hlt']
    rw [List.take_of_length_le (by omega)]
    exact ⟨by first | rfl | trivial, by first | rfl | trivial⟩
  have hlt' : (i : Int) < (c.length : Int) := by omega
  obtain ⟨b, off, _, e, hcell⟩ := hr.at hlt
  cases e
  have h1 := code_range (c := c.take i) (fun x hx => hc x (List.mem_of_mem_take hx)) (by rw [List.length_take]; omega)
  have h2 := hc (c.getD i 0) (getD_mem hlt)
  simp (disch := omega) only [r_ln, r_pick, r_pickT, r_pickF, r_condT, r_condF, r_gdTT, r_gdFF, r_gdTF, r_gdFT, r_gqTT, r_gqFF, r_gqTF, r_gqFT, r_not, r_lss, r_leq, r_gtr, r_geq, r_eql, r_neq, r_add, r_sub, r_min2, r_max2, r_min3, r_max3, r_fa, r_iaS, r_iaA, r_ex2a, r_ex2b, r_ex3a, r_ex3b, r_ex3c, r_nc, r_keepE, Nat.zero_add, Nat.add_zero, Nat.mul_one, Int.toNat_natCast, toNat_sub1, toNat_add1, decide_true, decide_false, Bool.not_true, Bool.not_false, if_true, if_false, Bool.false_eq_true, reduceCtorEq, hlt', r_ld hcell, r_mul]
  refine ⟨⟨i + 1, by omega, by go_num, ?_, trivial⟩, by simp only [intOf]; omega⟩
  rw [take_succ' _ _ hlt, code_push, getD_lt _ _ _ hlt]

end Go.Proofs.Ytgalbokmgffhkaa

/- Lifted texts, printed by program (gen.py): what each function's code asks. The ties are by the kernel. -/
namespace Go.Proofs.Ytgalbokmgffhkaa
open Go.Lf Go.RowKit

def S59 (t0 t1 : Value) (w : World) (R : Ending → World → Prop) : Prop :=
  boxW 22 t0 w fun t2 w =>
  boxW 3 t1 w fun t3 w =>
  boxW 73 (.slice none 0 0) w fun t5 w =>
  boxW 108 .nilFunc w fun t6 w =>
  stW Try.prog 108 t6 (.func (.func 104) #[] #[t3, t2, t5, t6]) w fun w =>
  ld1 w t6 fun t8 =>
  bdQ Try.prog 78 [] fun t9 =>
  callW Try.prog t8 [t9, (.int .i64 0)] w fun t10 w =>
  ld1 w t5 fun t11 =>
  R (.returned t11) w

def A59 : Ann where
  live := fun _ => []
  wr := fun _ _ => false
  sched := fun _ => .done

set_option maxRecDepth 100000 in
theorem ok59 : (codeOk Try.f59.ntmps A59 (Try.f59.body.getD .skip) 0 && Nat.ble 2 Try.f59.ntmps) = true := by kernel_rfl
set_option maxRecDepth 100000 in
theorem lift59 {t0 t1 : Value} {w : World} {R : Ending → World → Prop} (h : S59 t0 t1 w R) : Calls Try.prog 59 #[t0, t1] w R :=
  calls_of_cw (fn := Try.f59) (c := Try.f59.body.getD .skip) A59 mixes Try.func59 (by kernel_rfl) ok59
    ((by kernel_rfl : (S59 t0 t1 w R) = cw Try.prog A59 (Try.f59.body.getD .skip) 0 (bodyQ Try.prog Try.f59 R) (frOf #[t0, t1]) w).mp h)

def S104 (t0 t1 t2 t3 t4 t5 : Value) (w : World) (R : Ending → World → Prop) : Prop :=
  boxW 78 t0 w fun t6 w =>
  ld1 w t2 fun t12 =>
  binQ Try.prog w .eql 3 false t1 t12 fun t13 =>
  condW t13 (
    Drew w fun w =>
    ld1 w t3 fun t14 =>
    fa1 t6 0 fun t15 =>
    iaA 4 1 t15 (.int .i64 0) fun t16 =>
    ld1 w t16 fun t17 =>
    iaS 4 t14 t17 fun t18 =>
    fa1 t18 3 fun t19 =>
    ld1 w t19 fun t20 =>
    ld1 w t3 fun t21 =>
    binQ Try.prog w .sub 3 true t1 (.int .i64 1) fun t23 =>
    fa1 t6 0 fun t24 =>
    iaA 4 1 t24 t23 fun t25 =>
    ld1 w t25 fun t26 =>
    iaS 4 t21 t26 fun t27 =>
    fa1 t27 1 fun t28 =>
    ld1 w t28 fun t29 =>
    binQ Try.prog w .eql 3 false t20 t29 fun t30 =>
    fa1 t6 6 fun t31 =>
    stW Try.prog 4 t31 t30 w fun w =>
    ld1 w t4 fun t32 =>
    ldN 7 w t6 fun t33 =>
    bsW Try.prog 73 1 [(0, t33)] w fun t34 w =>
    semW Try.prog (apS [73, 73] 73 [t32, t34]) w fun t35 w =>
    stW Try.prog 73 t4 t35 w fun w =>
    R (.returned (.tuple #[])) w
  ) (
    ld1 w t3 fun t36 =>
    ln1 t36 fun t37 =>
    Loop1 (.int .i64 0) w fun _ t38 w next =>
      binQ Try.prog w .lss 3 false t38 t37 fun t39 =>
      condW t39 (
        Join (fun (k_2 : World → Prop) =>
          iaS 4 t36 t38 fun t41 =>
          ldN 4 w t41 fun t42 =>
          boxW 32 (.agg #[(.int .i64 0), (.int .i64 0), (.int .i64 0), (.int .i64 0)]) w fun t9 w =>
          stW Try.prog 32 t9 t42 w fun w =>
          Drew w fun w =>
          binQ Try.prog w .gtr 3 true t1 (.int .i64 0) fun t44 =>
          gdQ t44 true (fun k => ld1 w t3 k) fun t46 =>
          gdQ t44 true (fun k => k t1) fun t47 =>
          gdQ t44 true (fun k => binQ Try.prog w .sub 3 true t47 (.int .i64 1) k) fun t48 =>
          gdQ t44 true (fun k => fa1 t6 0 k) fun t49 =>
          gdQ t44 true (fun k => iaA 4 1 t49 t48 k) fun t50 =>
          gdQ t44 true (fun k => ld1 w t50 k) fun t51 =>
          gdQ t44 true (fun k => iaS 4 t46 t51 k) fun t52 =>
          gdQ t44 true (fun k => fa1 t52 1 k) fun t53 =>
          gdQ t44 true (fun k => ld1 w t53 k) fun t54 =>
          gdQ t44 true (fun k => fa1 t9 3 k) fun t55 =>
          gdQ t44 true (fun k => ld1 w t55 k) fun t56 =>
          gdQ t44 true (fun k => binQ Try.prog w .neq 3 false t54 t56 k) fun t57 =>
          pickQ t44 t57 (.bool false) fun t58 =>
          condW t58 (
            k_2 w
          ) (
            ldN 7 w t6 fun t59 =>
            boxW 78 (.agg #[(.int .i64 0), (.int .i64 0), (.int .i64 0), (.int .i64 0), (.int .i64 0), (.int .i64 0), (.bool false)]) w fun t10 w =>
            stW Try.prog 78 t10 t59 w fun w =>
            Drew w fun w =>
            ∃ X : Nat → Prop,
            takeX X w (fun w k => k t1) fun t60 =>
            takeX X w (fun w k => k t38) fun t61 =>
            takeX X w (fun w k => fa1 t6 4 k) fun t62 =>
            takeX X w (fun w k => ld1 w t62 k) fun t63 =>
            takeX X w (fun w k => binQ Try.prog w .mul 3 true t63 (.int .i64 8) k) fun t64 =>
            takeX X w (fun w k => fa1 t9 0 k) fun t65 =>
            takeX X w (fun w k => ld1 w t65 k) fun t66 =>
            takeX X w (fun w k => binQ Try.prog w .add 3 false t64 t66 k) fun t67 =>
            takeX X w (fun w k => fa1 t6 5 k) fun t68 =>
            takeX X w (fun w k => ld1 w t68 k) fun t69 =>
            takeX X w (fun w k => binQ Try.prog w .mul 3 true t69 (.int .i64 8) k) fun t70 =>
            takeX X w (fun w k => fa1 t9 2 k) fun t71 =>
            takeX X w (fun w k => ld1 w t71 k) fun t72 =>
            takeX X w (fun w k => binQ Try.prog w .add 3 false t70 t72 k) fun t73 =>
            takeX X w (fun w k => fa1 t10 0 k) fun t74 =>
            takeX X w (fun w k => iaA 4 1 t74 t60 k) fun t75 =>
            stW Try.prog 3 t75 t61 w <| keepW X w fun w =>
            takeX X w (fun w k => fa1 t10 4 k) fun t76 =>
            stW Try.prog 3 t76 t67 w <| keepW X w fun w =>
            takeX X w (fun w k => fa1 t10 5 k) fun t77 =>
            stW Try.prog 3 t77 t73 w fun w =>
            ld1 w t5 fun t78 =>
            ldN 7 w t10 fun t79 =>
            binQ Try.prog w .add 3 true t1 (.int .i64 1) fun t81 =>
            callW Try.prog t78 [t79, t81] w fun t82 w =>
            k_2 w
          )
        ) fun w =>
        binQ Try.prog w .add 3 true t38 (.int .i64 1) fun t83_2 =>
        next t83_2 w
      ) (
        R (.returned (.tuple #[])) w
      )
  )

def A104 : Ann where
  live := fun
    | 0 => [38]
    | _ => []
  wr := fun
    | 0 => fun i => (Nat.ble 8 i && Nat.ble i 10) || (Nat.ble 38 i && Nat.ble i 83)
    | _ => fun _ => false
  sched := fun
    | 2 => (.take 0 (.take 1 (.take 2 (.take 3 (.take 4 (.take 5 (.take 6 (.take 7 (.take 8 (.take 9 (.take 10 (.take 11 (.take 12 (.take 13 (.take 14 (.take 15 (.take 16 (.take 17 (.bar 18 .done)))))))))))))))))))
    | 7 => (.take 0 (.take 1 (.take 2 (.take 3 (.take 4 (.take 5 (.take 6 (.take 7 (.take 8 (.take 9 (.take 10 (.take 11 (.take 12 (.take 13 (.take 14 (.take 15 .done))))))))))))))))
    | 9 => (.cls (.take 0 (.take 1 (.take 2 (.take 3 (.take 4 (.take 5 (.take 6 (.take 7 (.take 8 (.take 9 (.take 10 (.take 11 (.take 12 (.take 13 (.take 14 (.take 15 (.eff 16 (.take 17 (.eff 18 (.take 19 (.bar 20 .done))))))))))))))))))))))
    | _ => .done

set_option maxRecDepth 100000 in
theorem ok104 : (codeOk Try.f104.ntmps A104 (Try.f104.body.getD .skip) 0 && Nat.ble 6 Try.f104.ntmps) = true := by kernel_rfl
set_option maxRecDepth 100000 in
theorem lift104 {t0 t1 t2 t3 t4 t5 : Value} {w : World} {R : Ending → World → Prop} (h : S104 t0 t1 t2 t3 t4 t5 w R) : Calls Try.prog 104 #[t0, t1, t2, t3, t4, t5] w R :=
  calls_of_cw (fn := Try.f104) (c := Try.f104.body.getD .skip) A104 mixes Try.func104 (by kernel_rfl) ok104
    ((by kernel_rfl : (S104 t0 t1 t2 t3 t4 t5 w R) = cw Try.prog A104 (Try.f104.body.getD .skip) 0 (bodyQ Try.prog Try.f104 R) (frOf #[t0, t1, t2, t3, t4, t5]) w).mp h)

def S71 (t0 t1 t2 : Value) (w : World) (R : Ending → World → Prop) : Prop :=
  Loop2 t1 (.int .i64 0) w fun _ t1_2 t11 w next =>
    binQ Try.prog w .lss 3 false t11 t2 fun t12 =>
    condW t12 (
      ln1 t1_2 fun t14 =>
      mkW Try.prog 30 t14 t14 w fun t15 w =>
      ln1 t0 fun t17 =>
      Loop1 (.int .i64 0) w fun _ t18 w next_2 =>
        binQ Try.prog w .lss 3 false t18 t17 fun t19 =>
        condW t19 (
          iaS 7 t0 t18 fun t20 =>
          ldN 7 w t20 fun t21 =>
          boxW 78 (.agg #[(.int .i64 0), (.int .i64 0), (.int .i64 0), (.int .i64 0), (.int .i64 0), (.int .i64 0), (.bool false)]) w fun t9 w =>
          stW Try.prog 78 t9 t21 w fun w =>
          Drew w fun w =>
          fa1 t9 5 fun t23 =>
          ld1 w t23 fun t24 =>
          fa1 t9 5 fun t26 =>
          ld1 w t26 fun t27 =>
          iaS 1 t15 t27 fun t28 =>
          ld1 w t28 fun t29 =>
          fa1 t9 4 fun t31 =>
          ld1 w t31 fun t32 =>
          iaS 1 t1_2 t32 fun t33 =>
          ld1 w t33 fun t34 =>
          binQ Try.prog w .add 3 false t29 t34 fun t35 =>
          mnQ false [t35, (.int .i64 1099511627777)] fun t36 =>
          iaS 1 t15 t24 fun t37 =>
          stW Try.prog 3 t37 t36 w fun w =>
          binQ Try.prog w .add 3 true t18 (.int .i64 1) fun t38 =>
          next_2 t38 w
        ) (
          binQ Try.prog w .add 3 true t11 (.int .i64 1) fun t40 =>
          next t15 t40 w
        )
    ) (
      R (.returned t1_2) w
    )

def A71 : Ann where
  live := fun
    | 0 => [1, 11]
    | 2 => [18]
    | _ => []
  wr := fun
    | 0 => fun i => Nat.beq i 1 || Nat.beq i 7 || Nat.beq i 9 || (Nat.ble 11 i && Nat.ble i 40)
    | 2 => fun i => Nat.beq i 9 || (Nat.ble 18 i && Nat.ble i 38)
    | _ => fun _ => false
  sched := fun
    | 7 => (.take 0 (.take 1 (.take 2 (.take 3 (.take 4 (.take 5 (.take 6 (.take 7 (.take 8 (.take 9 (.take 10 (.take 11 (.take 12 (.take 13 (.take 14 (.take 15 (.bar 16 .done)))))))))))))))))
    | _ => .done

set_option maxRecDepth 100000 in
theorem ok71 : (codeOk Try.f71.ntmps A71 (Try.f71.body.getD .skip) 0 && Nat.ble 3 Try.f71.ntmps) = true := by kernel_rfl
set_option maxRecDepth 100000 in
theorem lift71 {t0 t1 t2 : Value} {w : World} {R : Ending → World → Prop} (h : S71 t0 t1 t2 w R) : Calls Try.prog 71 #[t0, t1, t2] w R :=
  calls_of_cw (fn := Try.f71) (c := Try.f71.body.getD .skip) A71 mixes Try.func71 (by kernel_rfl) ok71
    ((by kernel_rfl : (S71 t0 t1 t2 w R) = cw Try.prog A71 (Try.f71.body.getD .skip) 0 (bodyQ Try.prog Try.f71 R) (frOf #[t0, t1, t2]) w).mp h)

def S74 (t0 : Value) (w : World) (R : Ending → World → Prop) : Prop :=
  binQ Try.prog w .gtr 3 true t0 (.int .i64 1099511627776) fun t5 =>
  condW t5 (
    R (.returned (.tuple #[(.int .i64 0), (.int .i64 8)])) w
  ) (
    R (.returned (.tuple #[t0, (.int .i64 0)])) w
  )

def A74 : Ann where
  live := fun _ => []
  wr := fun _ _ => false
  sched := fun _ => .done

set_option maxRecDepth 100000 in
theorem ok74 : (codeOk Try.f74.ntmps A74 (Try.f74.body.getD .skip) 0 && Nat.ble 1 Try.f74.ntmps) = true := by kernel_rfl
set_option maxRecDepth 100000 in
theorem lift74 {t0 : Value} {w : World} {R : Ending → World → Prop} (h : S74 t0 w R) : Calls Try.prog 74 #[t0] w R :=
  calls_of_cw (fn := Try.f74) (c := Try.f74.body.getD .skip) A74 mixes Try.func74 (by kernel_rfl) ok74
    ((by kernel_rfl : (S74 t0 w R) = cw Try.prog A74 (Try.f74.body.getD .skip) 0 (bodyQ Try.prog Try.f74 R) (frOf #[t0]) w).mp h)

def S76 (t0 t1 t2 : Value) (w : World) (R : Ending → World → Prop) : Prop :=
  bsW Try.prog 91 1 [(0, (.bool true))] w fun t12 w =>
  callW Try.prog (.func (.func 73) #[] #[]) [t1] w fun t14 w =>
  callW Try.prog (.func (.func 106) #[] #[]) [t12, t14] w fun t15 w =>
  bsW Try.prog 88 1 [(0, t15)] w fun t16 w =>
  Loop2 t16 (.int .i64 1) w fun _ t7 t8 w next =>
    binQ Try.prog w .leq 3 false t8 t2 fun t19 =>
    condW t19 (
      callW Try.prog (.func (.func 73) #[] #[]) [t1] w fun t23 w =>
      mkW Try.prog 91 t23 t23 w fun t24 w =>
      ln1 t0 fun t26 =>
      Loop1 (.int .i64 0) w fun _ t27 w next_2 =>
        binQ Try.prog w .lss 3 false t27 t26 fun t28 =>
        condW t28 (
          iaS 7 t0 t27 fun t29 =>
          ldN 7 w t29 fun t30 =>
          boxW 78 (.agg #[(.int .i64 0), (.int .i64 0), (.int .i64 0), (.int .i64 0), (.int .i64 0), (.int .i64 0), (.bool false)]) w fun t11 w =>
          stW Try.prog 78 t11 t30 w fun w =>
          Drew w fun w =>
          fa1 t11 4 fun t32 =>
          ld1 w t32 fun t33 =>
          fa1 t11 4 fun t35 =>
          ld1 w t35 fun t36 =>
          iaS 1 t24 t36 fun t37 =>
          ld1 w t37 fun t38 =>
          gdQ t38 false (fun k => k t7) fun t40 =>
          gdQ t38 false (fun k => k t8) fun t41 =>
          gdQ t38 false (fun k => binQ Try.prog w .sub 3 true t41 (.int .i64 1) k) fun t42 =>
          gdQ t38 false (fun k => iaS 1 t40 t42 k) fun t43 =>
          gdQ t38 false (fun k => ld1 w t43 k) fun t44 =>
          gdQ t38 false (fun k => fa1 t11 5 k) fun t45 =>
          gdQ t38 false (fun k => ld1 w t45 k) fun t46 =>
          gdQ t38 false (fun k => iaS 1 t44 t46 k) fun t47 =>
          gdQ t38 false (fun k => ld1 w t47 k) fun t48 =>
          pickQ t38 (.bool true) t48 fun t49 =>
          iaS 1 t24 t33 fun t50 =>
          stW Try.prog 4 t50 t49 w fun w =>
          binQ Try.prog w .add 3 true t27 (.int .i64 1) fun t51 =>
          next_2 t51 w
        ) (
          bsW Try.prog 88 1 [(0, t24)] w fun t54 w =>
          semW Try.prog (apS [88, 88] 88 [t7, t54]) w fun t55 w =>
          binQ Try.prog w .add 3 true t8 (.int .i64 1) fun t21 =>
          next t55 t21 w
        )
    ) (
      R (.returned t7) w
    )

def A76 : Ann where
  live := fun
    | 0 => [7, 8]
    | 2 => [27]
    | _ => []
  wr := fun
    | 0 => fun i => (Nat.ble 7 i && Nat.ble i 9) || Nat.beq i 11 || (Nat.ble 17 i && Nat.ble i 55)
    | 2 => fun i => Nat.beq i 11 || (Nat.ble 27 i && Nat.ble i 51)
    | _ => fun _ => false
  sched := fun
    | 9 => (.take 0 (.take 1 (.take 2 (.take 3 (.take 4 (.take 5 (.take 6 (.take 7 (.take 8 (.take 9 (.take 10 (.take 11 (.take 12 (.take 13 (.take 14 (.take 15 (.take 16 (.take 17 (.take 18 (.take 19 (.bar 20 .done)))))))))))))))))))))
    | _ => .done

set_option maxRecDepth 100000 in
theorem ok76 : (codeOk Try.f76.ntmps A76 (Try.f76.body.getD .skip) 0 && Nat.ble 3 Try.f76.ntmps) = true := by kernel_rfl
set_option maxRecDepth 100000 in
theorem lift76 {t0 t1 t2 : Value} {w : World} {R : Ending → World → Prop} (h : S76 t0 t1 t2 w R) : Calls Try.prog 76 #[t0, t1, t2] w R :=
  calls_of_cw (fn := Try.f76) (c := Try.f76.body.getD .skip) A76 mixes Try.func76 (by kernel_rfl) ok76
    ((by kernel_rfl : (S76 t0 t1 t2 w R) = cw Try.prog A76 (Try.f76.body.getD .skip) 0 (bodyQ Try.prog Try.f76 R) (frOf #[t0, t1, t2]) w).mp h)

def S105 (t0 t1 : Value) (w : World) (R : Ending → World → Prop) : Prop :=
  condW (.bool false) (
    cv1 .u32 t0 fun t12 =>
    cv1 .u32 t1 fun t14 =>
    callW Try.prog (.func (.func 119) #[] #[]) [t12, t14] w fun t15 w =>
    exQ t15 0 fun t16 =>
    exQ t15 1 fun t17 =>
    cv1 .u64 t16 fun t19 =>
    cv1 .u64 t17 fun t21 =>
    R (.returned (.tuple #[t19, t21])) w
  ) (
    callW Try.prog (.func (.func 120) #[] #[]) [t0, t1] w fun t25 w =>
    exQ t25 0 fun t26 =>
    exQ t25 1 fun t27 =>
    R (.returned (.tuple #[t26, t27])) w
  )

def A105 : Ann where
  live := fun _ => []
  wr := fun _ _ => false
  sched := fun _ => .done

set_option maxRecDepth 100000 in
theorem ok105 : (codeOk Try.f105.ntmps A105 (Try.f105.body.getD .skip) 0 && Nat.ble 2 Try.f105.ntmps) = true := by kernel_rfl
set_option maxRecDepth 100000 in
theorem lift105 {t0 t1 : Value} {w : World} {R : Ending → World → Prop} (h : S105 t0 t1 w R) : Calls Try.prog 105 #[t0, t1] w R :=
  calls_of_cw (fn := Try.f105) (c := Try.f105.body.getD .skip) A105 mixes Try.func105 (by kernel_rfl) ok105
    ((by kernel_rfl : (S105 t0 t1 w R) = cw Try.prog A105 (Try.f105.body.getD .skip) 0 (bodyQ Try.prog Try.f105 R) (frOf #[t0, t1]) w).mp h)

def S120 (t0 t1 : Value) (w : World) (R : Ending → World → Prop) : Prop :=
  binQ Try.prog w .and 125 true t0 (.int .u64 4294967295) fun t15 =>
  binQ Try.prog w .shr 125 true t0 (.int .u64 32) fun t17 =>
  binQ Try.prog w .and 125 true t1 (.int .u64 4294967295) fun t19 =>
  binQ Try.prog w .shr 125 true t1 (.int .u64 32) fun t21 =>
  binQ Try.prog w .mul 125 false t15 t19 fun t24 =>
  binQ Try.prog w .mul 125 false t17 t19 fun t27 =>
  binQ Try.prog w .shr 125 true t24 (.int .u64 32) fun t29 =>
  binQ Try.prog w .add 125 false t27 t29 fun t30 =>
  binQ Try.prog w .and 125 true t30 (.int .u64 4294967295) fun t32 =>
  binQ Try.prog w .shr 125 true t30 (.int .u64 32) fun t34 =>
  binQ Try.prog w .mul 125 false t15 t21 fun t38 =>
  binQ Try.prog w .add 125 false t32 t38 fun t39 =>
  binQ Try.prog w .mul 125 false t17 t21 fun t42 =>
  binQ Try.prog w .add 125 false t42 t34 fun t44 =>
  binQ Try.prog w .shr 125 true t39 (.int .u64 32) fun t46 =>
  binQ Try.prog w .add 125 false t44 t46 fun t47 =>
  binQ Try.prog w .mul 125 false t0 t1 fun t50 =>
  R (.returned (.tuple #[t47, t50])) w

def A120 : Ann where
  live := fun _ => []
  wr := fun _ _ => false
  sched := fun _ => .done

set_option maxRecDepth 100000 in
theorem ok120 : (codeOk Try.f120.ntmps A120 (Try.f120.body.getD .skip) 0 && Nat.ble 2 Try.f120.ntmps) = true := by kernel_rfl
set_option maxRecDepth 100000 in
theorem lift120 {t0 t1 : Value} {w : World} {R : Ending → World → Prop} (h : S120 t0 t1 w R) : Calls Try.prog 120 #[t0, t1] w R :=
  calls_of_cw (fn := Try.f120) (c := Try.f120.body.getD .skip) A120 mixes Try.func120 (by kernel_rfl) ok120
    ((by kernel_rfl : (S120 t0 t1 w R) = cw Try.prog A120 (Try.f120.body.getD .skip) 0 (bodyQ Try.prog Try.f120 R) (frOf #[t0, t1]) w).mp h)

def S72 (t0 t1 : Value) (w : World) (R : Ending → World → Prop) : Prop :=
  binQ Try.prog w .lss 3 true t1 (.int .i64 0) fun t10 =>
  Join (fun (k_3 : World → Prop) =>
    condW t10 (
      False
    ) (
      k_3 w
    )
  ) fun w =>
  ln1 t0 fun t14_2 =>
  cv1 .u64 t14_2 fun t15_2 =>
  cv1 .u64 t1 fun t17_2 =>
  callW Try.prog (.func (.func 105) #[] #[]) [t15_2, t17_2] w fun t18_2 w =>
  exQ t18_2 0 fun t19_2 =>
  exQ t18_2 1 fun t20_2 =>
  binQ Try.prog w .gtr 109 true t19_2 (.int .u64 0) fun t22_2 =>
  gd t22_2 false (fun k => k t20_2 w) w fun t24_2 w =>
  gd t22_2 false (fun k => binQ Try.prog w .gtr 109 true t24_2 (.int .u64 9223372036854775807) fun v => k v w) w fun t25_2 w =>
  pickQ t22_2 (.bool true) t25_2 fun t26_2 =>
  Join (fun (k_4 : World → Prop) =>
    condW t26_2 (
      False
    ) (
      k_4 w
    )
  ) fun w =>
  cv1 .i64 t20_2 fun t29_4 =>
  mkW Try.prog 30 t29_4 t29_4 w fun t30_4 w =>
  semW Try.prog (cpS [30, 30] 3 [t30_4, t0]) w fun t33_4 w =>
  Loop1 t33_4 w fun _ t8_7 w next_4 =>
    ln1 t30_4 fun t36_4 =>
    binQ Try.prog w .lss 3 false t8_7 t36_4 fun t37_4 =>
    condW t37_4 (
      Drew w fun w =>
      ∃ X_4 : Nat → Prop,
      takeX X_4 w (fun w k => k t8_7) fun t38_4 =>
      takeX X_4 w (fun w k => k t30_4) fun t39_4 =>
      takeX X_4 w (fun w k => k t8_7) fun t40_4 =>
      takeX X_4 w (fun w k => slS 1 t39_4 (some t40_4) none k) fun t41_4 =>
      takeX X_4 w (fun w k => k t30_4) fun t42_4 =>
      takeX X_4 w (fun w k => k t8_7) fun t43_4 =>
      takeX X_4 w (fun w k => slS 1 t42_4 none (some t43_4) k) fun t44_4 =>
      semW Try.prog (cpS [30, 30] 3 [t41_4, t44_4]) w <| keepX X_4 w fun t45_4 w =>
      takeX X_4 w (fun w k => binQ Try.prog w .add 3 false t38_4 t45_4 k) fun t46_4 =>
      takeX X_4 w (fun w k => k t46_4) fun t8_8 =>
      next_4 t8_8 w
    ) (
      R (.returned t30_4) w
    )

def A72 : Ann where
  live := fun
    | 0 => [8]
    | _ => []
  wr := fun
    | 0 => fun i => Nat.beq i 8 || (Nat.ble 34 i && Nat.ble i 46)
    | _ => fun _ => false
  sched := fun
    | 9 => (.cls (.take 0 (.take 1 (.take 2 (.take 3 (.take 4 (.take 5 (.take 6 (.eff 7 (.take 8 (.take 9 .done)))))))))))
    | _ => .done

set_option maxRecDepth 100000 in
theorem ok72 : (codeOk Try.f72.ntmps A72 (Try.f72.body.getD .skip) 0 && Nat.ble 2 Try.f72.ntmps) = true := by kernel_rfl
set_option maxRecDepth 100000 in
theorem lift72 {t0 t1 : Value} {w : World} {R : Ending → World → Prop} (h : S72 t0 t1 w R) : Calls Try.prog 72 #[t0, t1] w R :=
  calls_of_cw (fn := Try.f72) (c := Try.f72.body.getD .skip) A72 mixes Try.func72 (by kernel_rfl) ok72
    ((by kernel_rfl : (S72 t0 t1 w R) = cw Try.prog A72 (Try.f72.body.getD .skip) 0 (bodyQ Try.prog Try.f72 R) (frOf #[t0, t1]) w).mp h)

def S106 (t0 t1 : Value) (w : World) (R : Ending → World → Prop) : Prop :=
  binQ Try.prog w .lss 3 true t1 (.int .i64 0) fun t10 =>
  Join (fun (k_3 : World → Prop) =>
    condW t10 (
      False
    ) (
      k_3 w
    )
  ) fun w =>
  ln1 t0 fun t14_2 =>
  cv1 .u64 t14_2 fun t15_2 =>
  cv1 .u64 t1 fun t17_2 =>
  callW Try.prog (.func (.func 105) #[] #[]) [t15_2, t17_2] w fun t18_2 w =>
  exQ t18_2 0 fun t19_2 =>
  exQ t18_2 1 fun t20_2 =>
  binQ Try.prog w .gtr 109 true t19_2 (.int .u64 0) fun t22_2 =>
  gd t22_2 false (fun k => k t20_2 w) w fun t24_2 w =>
  gd t22_2 false (fun k => binQ Try.prog w .gtr 109 true t24_2 (.int .u64 9223372036854775807) fun v => k v w) w fun t25_2 w =>
  pickQ t22_2 (.bool true) t25_2 fun t26_2 =>
  Join (fun (k_4 : World → Prop) =>
    condW t26_2 (
      False
    ) (
      k_4 w
    )
  ) fun w =>
  cv1 .i64 t20_2 fun t29_4 =>
  mkW Try.prog 91 t29_4 t29_4 w fun t30_4 w =>
  semW Try.prog (cpS [91, 91] 3 [t30_4, t0]) w fun t33_4 w =>
  Loop1 t33_4 w fun _ t8_7 w next_4 =>
    ln1 t30_4 fun t36_4 =>
    binQ Try.prog w .lss 3 false t8_7 t36_4 fun t37_4 =>
    condW t37_4 (
      Drew w fun w =>
      ∃ X_4 : Nat → Prop,
      takeX X_4 w (fun w k => k t8_7) fun t38_4 =>
      takeX X_4 w (fun w k => k t30_4) fun t39_4 =>
      takeX X_4 w (fun w k => k t8_7) fun t40_4 =>
      takeX X_4 w (fun w k => slS 1 t39_4 (some t40_4) none k) fun t41_4 =>
      takeX X_4 w (fun w k => k t30_4) fun t42_4 =>
      takeX X_4 w (fun w k => k t8_7) fun t43_4 =>
      takeX X_4 w (fun w k => slS 1 t42_4 none (some t43_4) k) fun t44_4 =>
      semW Try.prog (cpS [91, 91] 3 [t41_4, t44_4]) w <| keepX X_4 w fun t45_4 w =>
      takeX X_4 w (fun w k => binQ Try.prog w .add 3 false t38_4 t45_4 k) fun t46_4 =>
      takeX X_4 w (fun w k => k t46_4) fun t8_8 =>
      next_4 t8_8 w
    ) (
      R (.returned t30_4) w
    )

def A106 : Ann where
  live := fun
    | 0 => [8]
    | _ => []
  wr := fun
    | 0 => fun i => Nat.beq i 8 || (Nat.ble 34 i && Nat.ble i 46)
    | _ => fun _ => false
  sched := fun
    | 9 => (.cls (.take 0 (.take 1 (.take 2 (.take 3 (.take 4 (.take 5 (.take 6 (.eff 7 (.take 8 (.take 9 .done)))))))))))
    | _ => .done

set_option maxRecDepth 100000 in
theorem ok106 : (codeOk Try.f106.ntmps A106 (Try.f106.body.getD .skip) 0 && Nat.ble 2 Try.f106.ntmps) = true := by kernel_rfl
set_option maxRecDepth 100000 in
theorem lift106 {t0 t1 : Value} {w : World} {R : Ending → World → Prop} (h : S106 t0 t1 w R) : Calls Try.prog 106 #[t0, t1] w R :=
  calls_of_cw (fn := Try.f106) (c := Try.f106.body.getD .skip) A106 mixes Try.func106 (by kernel_rfl) ok106
    ((by kernel_rfl : (S106 t0 t1 w R) = cw Try.prog A106 (Try.f106.body.getD .skip) 0 (bodyQ Try.prog Try.f106 R) (frOf #[t0, t1]) w).mp h)

def S25 (t0 t1 t2 : Value) (w : World) (R : Ending → World → Prop) : Prop :=
  callW Try.prog (.func (.func 53) #[] #[]) [t0, t1, t2] w fun t15 w =>
  binQ Try.prog w .neq 26 true t15 (.int .i64 0) fun t17 =>
  condW t17 (
    R (.returned (.tuple #[(.int .i64 0), t15])) w
  ) (
    callW Try.prog (.func (.func 59) #[] #[]) [t0, t1] w fun t21 w =>
    bsW Try.prog 30 1 [(0, (.int .i64 1))] w fun t22 w =>
    callW Try.prog (.func (.func 73) #[] #[]) [t1] w fun t24 w =>
    callW Try.prog (.func (.func 72) #[] #[]) [t22, t24] w fun t25 w =>
    callW Try.prog (.func (.func 71) #[] #[]) [t21, t25, t2] w fun t27 w =>
    ln1 t27 fun t28 =>
    Loop2 (.int .i64 0) (.int .i64 0) w fun _ t9 t29 w next =>
      binQ Try.prog w .lss 3 false t29 t28 fun t30 =>
      condW t30 (
        iaS 1 t27 t29 fun t31 =>
        ld1 w t31 fun t32 =>
        binQ Try.prog w .add 3 false t9 t32 fun t35 =>
        mnQ false [t35, (.int .i64 1099511627777)] fun t36 =>
        binQ Try.prog w .add 3 true t29 (.int .i64 1) fun t37 =>
        next t36 t37 w
      ) (
        callW Try.prog (.func (.func 74) #[] #[]) [t9] w fun t39 w =>
        exQ t39 0 fun t40 =>
        exQ t39 1 fun t41 =>
        R (.returned (.tuple #[t40, t41])) w
      )
  )

def A25 : Ann where
  live := fun
    | 0 => [9, 29]
    | _ => []
  wr := fun
    | 0 => fun i => Nat.beq i 9 || Nat.beq i 11 || (Nat.ble 29 i && Nat.ble i 37)
    | _ => fun _ => false
  sched := fun _ => .done

set_option maxRecDepth 100000 in
theorem ok25 : (codeOk Try.f25.ntmps A25 (Try.f25.body.getD .skip) 0 && Nat.ble 3 Try.f25.ntmps) = true := by kernel_rfl
set_option maxRecDepth 100000 in
theorem lift25 {t0 t1 t2 : Value} {w : World} {R : Ending → World → Prop} (h : S25 t0 t1 t2 w R) : Calls Try.prog 25 #[t0, t1, t2] w R :=
  calls_of_cw (fn := Try.f25) (c := Try.f25.body.getD .skip) A25 mixes Try.func25 (by kernel_rfl) ok25
    ((by kernel_rfl : (S25 t0 t1 t2 w R) = cw Try.prog A25 (Try.f25.body.getD .skip) 0 (bodyQ Try.prog Try.f25 R) (frOf #[t0, t1, t2]) w).mp h)

theorem fok59 : fnOk Try.prog 59 = true := by kernel_rfl
theorem fok104 : fnOk Try.prog 104 = true := by kernel_rfl
theorem fok71 : fnOk Try.prog 71 = true := by kernel_rfl
theorem fok74 : fnOk Try.prog 74 = true := by kernel_rfl
theorem fok76 : fnOk Try.prog 76 = true := by kernel_rfl
theorem fok105 : fnOk Try.prog 105 = true := by kernel_rfl
theorem fok120 : fnOk Try.prog 120 = true := by kernel_rfl
theorem fok72 : fnOk Try.prog 72 = true := by kernel_rfl
theorem fok106 : fnOk Try.prog 106 = true := by kernel_rfl
theorem fok25 : fnOk Try.prog 25 = true := by kernel_rfl
end Go.Proofs.Ytgalbokmgffhkaa
