/- Texts of my own, merged by program: E3 Ru E4. -/
import Derived.Test.YtgalbokmgffhkaaN10
import Derived.Test.YtgalbokmgffhkaaN11
import Derived.Test.YtgalbokmgffhkaaN12
import Derived.Test.YtgalbokmgffhkaaN03
set_option linter.all false
/- Shifts, sets of bits; lists of lists that are put behind lists of lists. -/
namespace Go.Proofs.Ytgalbokmgffhkaa
open Go.Lf Go.RowKit Go.Wg

theorem b_genE {op : BinOp} {t : TypeId} {lit : Bool} {k k' : IntKind} {x y : Int} {v : Value} {w : World} {K : Value → Prop} (h : ∀ w', (semBin op t lit (.int k x) (.int k' y)).run Try.prog w' = .ok (.value v) w') (hn : intBin op k x y = none) : binQ Try.prog w op t lit (.int k x) (.int k' y) K = K v := by
  have e : binQ Try.prog w op t lit (.int k x) (.int k' y) K = genQ Try.prog w (semBin op t lit (.int k x) (.int k' y)) K := by
    simp [binQ, hn]
  rw [e]
  refine propext ⟨?_, fun hk => ⟨v, fun w' _ => h w', hk⟩⟩
  rintro ⟨u, hu, hk⟩
  have h1 := hu w (Below.refl _ _)
  rw [h] at h1
  injection h1 with h1 _
  injection h1 with h1
  rw [h1]; exact hk

set_option maxRecDepth 100000 in
theorem shl_run : ∀ (E : Nat), E ≤ 7 → ∀ (t : TypeId) (lit : Bool) (w' : World), (semBin .shl t lit (.int .i64 1) (.int .i64 E)).run Try.prog w' = .ok (.value (.int .i64 ((2 ^ E : Nat) : Int))) w'
  | 0, _, _, _, _ => by kernel_rfl
  | 1, _, _, _, _ => by kernel_rfl
  | 2, _, _, _, _ => by kernel_rfl
  | 3, _, _, _, _ => by kernel_rfl
  | 4, _, _, _, _ => by kernel_rfl
  | 5, _, _, _, _ => by kernel_rfl
  | 6, _, _, _, _ => by kernel_rfl
  | 7, _, _, _, _ => by kernel_rfl
  | _ + 8, h, _, _, _ => absurd h (by omega)
theorem r_shl1 {w : World} {K : Value → Prop} {t : TypeId} {lit : Bool} (E : Nat) (hE : E ≤ 7) : binQ Try.prog w .shl t lit (.int .i64 1) (.int .i64 E) K = K (.int .i64 ((2 ^ E : Nat) : Int)) :=
  b_genE (fun w' => shl_run E hE t lit w') rfl

set_option maxRecDepth 100000 in
theorem shr_run (e : Int) : ∀ (E : Nat), E ≤ 7 → ∀ (t : TypeId) (lit : Bool) (w' : World), (semBin .shr t lit (.int .i64 e) (.int .i64 E)).run Try.prog w' = .ok (.value (.int .i64 (e.fdiv (2 ^ E)))) w'
  | 0, _, _, _, _ => by kernel_rfl
  | 1, _, _, _, _ => by kernel_rfl
  | 2, _, _, _, _ => by kernel_rfl
  | 3, _, _, _, _ => by kernel_rfl
  | 4, _, _, _, _ => by kernel_rfl
  | 5, _, _, _, _ => by kernel_rfl
  | 6, _, _, _, _ => by kernel_rfl
  | 7, _, _, _, _ => by kernel_rfl
  | _ + 8, h, _, _, _ => absurd h (by omega)
theorem r_shrN {w : World} {K : Value → Prop} {t : TypeId} {lit : Bool} (e E : Nat) (hE : E ≤ 7) : binQ Try.prog w .shr t lit (.int .i64 e) (.int .i64 E) K = K (.int .i64 ((e / 2 ^ E : Nat) : Int)) := by
  refine b_genE (fun w' => ?_) rfl
  rw [shr_run e E hE]
  have : (e : Int).fdiv (2 ^ E) = ((e / 2 ^ E : Nat) : Int) := by
    rw [Int.fdiv_eq_ediv_of_nonneg _ (Int.pow_nonneg (by omega))]
    simp
  rw [this]

set_option maxRecDepth 100000 in
theorem or_run (a b : Int) (t : TypeId) (lit : Bool) (w' : World) : (semBin .or t lit (.int .i64 a) (.int .i64 b)).run Try.prog w' = .ok (.value (.int .i64 (IntKind.i64.wrap ((BitVec.ofInt 64 a ||| BitVec.ofInt 64 b).toNat)))) w' := by kernel_rfl
theorem r_orN {w : World} {K : Value → Prop} {t : TypeId} {lit : Bool} (a b : Nat) (ha : a < 256) (hb : b < 256) : binQ Try.prog w .or t lit (.int .i64 a) (.int .i64 b) K = K (.int .i64 ((a ||| b : Nat) : Int)) := by
  refine b_genE (fun w' => ?_) rfl
  rw [or_run]
  have hab : a ||| b < 2 ^ 8 := Nat.or_lt_two_pow ha hb
  have e : (BitVec.ofInt 64 (a : Int) ||| BitVec.ofInt 64 (b : Int)).toNat = a ||| b := by
    have h1 : (BitVec.ofInt 64 (a : Int)).toNat = a := by simp [BitVec.toNat_ofInt]; omega
    have h2 : (BitVec.ofInt 64 (b : Int)).toNat = b := by simp [BitVec.toNat_ofInt]; omega
    rw [BitVec.toNat_or, h1, h2]
  rw [e, IntWalk.i64_in _ (by omega)]

theorem testBit_div (e n : Nat) : e.testBit n = decide (((e / 2 ^ n % 2 : Nat) : Int) = 1) := by
  rw [Nat.testBit_eq_decide_div_mod_eq]
  by_cases h : e / 2 ^ n % 2 = 1
  · rw [decide_eq_true h, decide_eq_true (by omega)]
  · rw [decide_eq_false h, decide_eq_false (by omega)]

theorem ints_slice {base : Nat} {w : World} {v : Value} {l : List Int} (h : IntsAt base w v l) : v.oneCell' = true := by
  obtain ⟨a, cap, rfl, _⟩ := h.len
  rfl

set_option maxRecDepth 100000 in
/-- append(nil, l...) at integers. -/
theorem r_copyN {w : World} {v : Value} {l : List Int} {K : Value → World → Prop} (hr : RdInts w v l) (hl : l.length ≤ 1000000)
    (hk : ∀ v' w', IntsAt w.heap.size w' v' l → Kp w w' → K v' w') : semW Try.prog (apS [30, 30] 30 [nilS, v]) w K := by
  have hown : w.ownsRow w.heap.size 3 1 nilS 0 [] := World.ownsRow_nil _ _ _ _
  obtain ⟨a, cap, rfl, _, hh⟩ := hr
  cases l with
  | nil => exact r_ap0 slt30 hown (hk _ _ hown (Kp.refl _))
  | cons x l =>
    obtain ⟨b, off, rfl, hc⟩ := hh (by simp)
    refine r_ap (xs := []) (news := intCells (x :: l)) slt30 hown (by simp [intCells]) (fun j u hj => ?_) intCells_one (by simp at hl ⊢; omega) (by omega) (Nat.le_refl _) fun v' w' ho hg hn => ?_
    · have hlt : j < (x :: l).length := by
        have := (List.getElem?_eq_some_iff.1 hj).1
        simpa [intCells] using this
      rw [r_addr, hc j hlt]
      rw [← hj, intCells, List.getElem?_map, List.getElem?_eq_getElem hlt]
      rw [getD_lt _ _ _ hlt]; rfl
    · refine hk _ _ ?_ (Kp.of_chg (Kp.refl _) (Chg.of_grown (S := fun _ => False) hg fun k e => by cases e) fun i e => e.elim)
      have e2 : recCells iC (x :: l) = intCells (x :: l) := by rw [rec_ints]; rfl
      unfold IntsAt RecAt
      rw [e2]
      simpa using ho

set_option maxRecDepth 100000 in
/-- append(out, rows...) -/
theorem r_apRows {base base' : Nat} {w : World} {v v' : Value} {R R' : List (List Int)} {K : Value → World → Prop} (h : IRows base w v R) (h' : IRows base' w v' R') (hb' : base ≤ base') (hn : R.length + R'.length ≤ 1000000) (hb : base ≤ w.heap.size)
    (hk : ∀ v2 w2, IRows base w2 v2 (R ++ R') → Chg (fun k => v.ownBlock = some k) w w2 → K v2 w2) : semW Try.prog (apS [23, 23] 23 [v, v']) w K := by
  have h0 := h
  obtain ⟨vs, h1, h2, h3⟩ := h
  obtain ⟨vs', g1, g2, g3⟩ := h'
  obtain ⟨a', cap', ev', _⟩ := g1.len
  by_cases h00 : vs'.length = 0
  · have e : R' = [] := List.length_eq_zero_iff.1 (by omega)
    rw [h00] at ev'
    subst ev'
    subst e
    exact r_ap0 slt23 h1 (hk _ _ (by rw [List.append_nil]; exact h0) (Chg.refl _ _))
  obtain ⟨g, cap, cur, ev, hgb, hg, hle, hm, hs, ht⟩ := g1.blk (by omega)
  rw [ev]
  have ecell : recCells vE vs' = vs' := by simp [recCells]
  rw [ecell] at ht
  refine r_ap (xs := recCells vE vs) (news := vs') (m := vs'.length) slt23 h1 (by simp) (fun j u hj => ?_) (fun u hu => ?_) (by omega) (by omega) hb fun v2 w2 ho hgr _ => ?_
  · have hlt := (List.getElem?_eq_some_iff.1 hj).1
    rw [r_addr, Nat.zero_add, cell_row hg]
    rw [← ht, List.getElem?_take, if_pos (by omega)] at hj
    simpa using hj
  · obtain ⟨i, hi, rfl⟩ := List.getElem_of_mem hu
    exact ints_slice (g3 i _ _ (List.getElem?_eq_getElem hi) (List.getElem?_eq_getElem (by omega)))
  · have hc : Chg (fun k => v.ownBlock = some k) w w2 := Chg.of_grown hgr fun k hk => hk
    have key : ∀ b u r, IntsAt b w u r → IntsAt b w2 u r := fun b u r hb => hb.chg hc fun q hq => rec_ne hb h1 (by decide) q hq
    refine hk v2 w2 ⟨vs ++ vs', ?_, by simp; omega, fun j u r hu hr => ?_⟩ hc
    · unfold RecAt
      rw [recCells_append, List.length_append, ecell]
      exact ho
    · by_cases hj : j < vs.length
      · rw [List.getElem?_append_left hj] at hu
        rw [List.getElem?_append_left (by omega)] at hr
        exact key _ _ _ (h3 j u r hu hr)
      · rw [List.getElem?_append_right (by omega)] at hu
        rw [List.getElem?_append_right (by omega), ← h2] at hr
        exact (key _ _ _ (g3 _ u r hu hr)).down hb'


end Go.Proofs.Ytgalbokmgffhkaa

/- Rules for what is not asked. -/
namespace Go.Proofs.Ytgalbokmgffhkaa
open Go.Lf Go.RowKit

theorem r_gqU {want : Bool} {run : (Value → Prop) → Prop} {K : Value → Prop} : gdQ undef want run K = K undef := rfl
theorem r_gdU {want : Bool} {run : (Value → World → Prop) → Prop} {w : World} {K : Value → World → Prop} : gd undef want run w K = K undef w := rfl

end Go.Proofs.Ytgalbokmgffhkaa

/- Contract: rowsFrom of the specification: the inner loop. -/
namespace Go.Proofs.Ytgalbokmgffhkaa
open Go.Lf Go.RowKit Go.Wg

theorem r_nilTE {w : World} {K : Value → Prop} : binQ Try.prog w .eql 30 true nilS nilS K = K (.bool true) := by
  refine propext ⟨?_, r_nilT⟩
  rintro ⟨v, hv, hk⟩
  have h1 := hv w (Below.refl _ _)
  have h2 : (semBin .eql 30 true nilS nilS).run Try.prog w = .ok (.value (.bool true)) w := by kernel_rfl
  rw [h2] at h1
  injection h1 with h1 _
  injection h1 with h1
  rw [h1]; exact hk
theorem r_nilFE {w : World} {a : Addr} {n c : Nat} {K : Value → Prop} : binQ Try.prog w .eql 30 true (.slice (some a) n c) nilS K = K (.bool false) := by
  refine propext ⟨?_, r_nilF⟩
  rintro ⟨v, hv, hk⟩
  have h1 := hv w (Below.refl _ _)
  have h2 : (semBin .eql 30 true (.slice (some a) n c) nilS).run Try.prog w = .ok (.value (.bool false)) w := by kernel_rfl
  rw [h2] at h1
  injection h1 with h1 _
  injection h1 with h1
  rw [h1]; exact hk

theorem r_rem2 {w : World} {K : Value → Prop} {t : TypeId} {lit : Bool} (m : Nat) : binQ Try.prog w .rem t lit (.int .i64 m) (.int .i64 2) K = K (.int .i64 ((m % 2 : Nat) : Int)) := r_remN m 2 (by omega)

/-- The Norths that are asked for, if any. -/
def NIs (w : World) (v : Value) (nn : Option (List Int)) : Prop := match nn with
  | none => v = nilS
  | some n => RdInts w v n ∧ 0 < n.length
theorem NIs.kp {w w' : World} {v : Value} {nn : Option (List Int)} (h : NIs w v nn) (hk : Kp w w') : NIs w' v nn := by
  cases nn with
  | none => exact h
  | some n => exact ⟨h.1.below hk, h.2⟩

abbrev C95 (t0 t1 t4 t13 t15 t18 : Value) (w : World) (K : Value → Prop) : Prop :=
      iaS 4 t0 t15 fun t38 =>
      fa1 t38 2 fun t39 =>
      ld1 w t39 fun t40 =>
      binQ Try.prog w .eql 3 false t40 t13 fun t42 =>
      gdQ t42 true (fun k => k t4) fun t44 =>
      gdQ t42 true (fun k => k t0) fun t45 =>
      gdQ t42 true (fun k => k t15) fun t46 =>
      gdQ t42 true (fun k => iaS 4 t45 t46 k) fun t47 =>
      gdQ t42 true (fun k => fa1 t47 3 k) fun t48 =>
      gdQ t42 true (fun k => ld1 w t48 k) fun t49 =>
      gdQ t42 true (fun k => binQ Try.prog w .shr 3 false t44 t49 k) fun t50 =>
      gdQ t42 true (fun k => binQ Try.prog w .rem 3 true t50 (.int .i64 2) k) fun t51 =>
      gdQ t42 true (fun k => binQ Try.prog w .eql 3 true t51 (.int .i64 1) k) fun t52 =>
      pickQ t42 t52 (.bool false) fun t53 =>
      gdQ t53 true (fun k => k t1) fun t55 =>
      gdQ t53 true (fun k => binQ Try.prog w .eql 30 true t55 (.slice none 0 0) k) fun t56 =>
      gdQ t53 true (fun k => k t56) fun t57 =>
      gdQ t57 false (fun k => k t0) fun t58 =>
      gdQ t57 false (fun k => k t15) fun t59 =>
      gdQ t57 false (fun k => iaS 4 t58 t59 k) fun t60 =>
      gdQ t57 false (fun k => fa1 t60 0 k) fun t61 =>
      gdQ t57 false (fun k => ld1 w t61 k) fun t62 =>
      gdQ t57 false (fun k => k t1) fun t63 =>
      gdQ t57 false (fun k => k t18) fun t64 =>
      gdQ t57 false (fun k => iaS 1 t63 t64 k) fun t65 =>
      gdQ t57 false (fun k => ld1 w t65 k) fun t66 =>
      gdQ t57 false (fun k => binQ Try.prog w .eql 3 false t62 t66 k) fun t67 =>
      gdQ t53 true (fun k => pickQ t57 (.bool true) t67 k) fun t68 =>
      pickQ t53 t68 (.bool false) fun t69 =>
      K t69

set_option maxRecDepth 100000 in
theorem cond95 {w : World} {t0 t1 : Value} {l : List Tile} {nn : Option (List Int)} {x e c i : Nat} {t : Tile} {K : Value → Prop} (hr : RdT w t0 l) (ht : l[i]? = some t) (hcol : colsB t = true) (hn : NIs w t1 nn) (hnx : ∀ n, nn = some n → x < n.length) (hK : K (.bool (condE nn x e c t))) :
    C95 t0 t1 (.int .i64 e) (.int .i64 c) (.int .i64 i) (.int .i64 x) w K := by
  obtain ⟨b, off, cap, rfl, hlt, hc⟩ := hr.at ht
  have hcr := cols_range hcol
  have c0 : w.cell? ⟨b, off + i * 4, none⟩ = some (.int .i64 (tN t)) := hc 0 _ rfl
  have c2 : w.cell? ⟨b, off + i * 4 + 2, none⟩ = some (.int .i64 (tS t)) := hc 2 _ rfl
  have c3 : w.cell? ⟨b, off + i * 4 + 3, none⟩ = some (.int .i64 ((tW t).toNat : Nat)) := by
    rw [show (((tW t).toNat : Nat) : Int) = tW t by omega]
    exact hc 3 _ rfl
  unfold C95
  have hW7 : (tW t).toNat ≤ 7 := by omega
  by_cases g1 : tS t = (c : Int)
  case neg =>
    simp (disch := omega) only [r_ln, r_pick, r_pickT, r_pickF, r_condT, r_condF, r_gdTT, r_gdFF, r_gdTF, r_gdFT, r_gqTT, r_gqFF, r_gqTF, r_gqFT, r_not, r_lss, r_leq, r_gtr, r_geq, r_eql, r_neq, r_add, r_sub, r_min2, r_max2, r_min3, r_max3, r_fa, r_iaS, r_iaA, r_ex2a, r_ex2b, r_ex3a, r_ex3b, r_ex3c, r_nc, r_keepE, Nat.zero_add, Nat.add_zero, Nat.mul_one, Int.toNat_natCast, toNat_sub1, toNat_add1, decide_true, decide_false, Bool.not_true, Bool.not_false, if_true, if_false, Bool.false_eq_true, reduceCtorEq, r_ld c2, g1, r_gqU]
    have : condE nn x e c t = false := by simp only [condE]; rw [decide_eq_false g1]; rfl
    rw [this] at hK
    exact hK
  by_cases g2 : ((e / 2 ^ (tW t).toNat % 2 : Nat) : Int) = 1
  case neg =>
    simp (disch := omega) only [r_ln, r_pick, r_pickT, r_pickF, r_condT, r_condF, r_gdTT, r_gdFF, r_gdTF, r_gdFT, r_gqTT, r_gqFF, r_gqTF, r_gqFT, r_not, r_lss, r_leq, r_gtr, r_geq, r_eql, r_neq, r_add, r_sub, r_min2, r_max2, r_min3, r_max3, r_fa, r_iaS, r_iaA, r_ex2a, r_ex2b, r_ex3a, r_ex3b, r_ex3c, r_nc, r_keepE, Nat.zero_add, Nat.add_zero, Nat.mul_one, Int.toNat_natCast, toNat_sub1, toNat_add1, decide_true, decide_false, Bool.not_true, Bool.not_false, if_true, if_false, Bool.false_eq_true, reduceCtorEq, r_ld c2, decide_eq_true g1, r_ld c3, r_shrN]
    rw [r_rem2]
    simp (disch := omega) only [r_ln, r_pick, r_pickT, r_pickF, r_condT, r_condF, r_gdTT, r_gdFF, r_gdTF, r_gdFT, r_gqTT, r_gqFF, r_gqTF, r_gqFT, r_not, r_lss, r_leq, r_gtr, r_geq, r_eql, r_neq, r_add, r_sub, r_min2, r_max2, r_min3, r_max3, r_fa, r_iaS, r_iaA, r_ex2a, r_ex2b, r_ex3a, r_ex3b, r_ex3c, r_nc, r_keepE, Nat.zero_add, Nat.add_zero, Nat.mul_one, Int.toNat_natCast, toNat_sub1, toNat_add1, decide_true, decide_false, Bool.not_true, Bool.not_false, if_true, if_false, Bool.false_eq_true, reduceCtorEq, g2, r_gqU]
    have : condE nn x e c t = false := by simp only [condE]; rw [testBit_div, decide_eq_false g2, Bool.and_false]; rfl
    rw [this] at hK
    exact hK
  simp (disch := omega) only [r_ln, r_pick, r_pickT, r_pickF, r_condT, r_condF, r_gdTT, r_gdFF, r_gdTF, r_gdFT, r_gqTT, r_gqFF, r_gqTF, r_gqFT, r_not, r_lss, r_leq, r_gtr, r_geq, r_eql, r_neq, r_add, r_sub, r_min2, r_max2, r_min3, r_max3, r_fa, r_iaS, r_iaA, r_ex2a, r_ex2b, r_ex3a, r_ex3b, r_ex3c, r_nc, r_keepE, Nat.zero_add, Nat.add_zero, Nat.mul_one, Int.toNat_natCast, toNat_sub1, toNat_add1, decide_true, decide_false, Bool.not_true, Bool.not_false, if_true, if_false, Bool.false_eq_true, reduceCtorEq, r_ld c2, decide_eq_true g1, r_ld c3, r_shrN]
  rw [r_rem2]
  have hcond : condE nn x e c t = fitsN nn x t := by simp only [condE]; rw [testBit_div, decide_eq_true g1, decide_eq_true g2]; rfl
  rw [hcond] at hK
  cases nn with
  | none =>
    have ht1 : t1 = nilS := hn
    subst ht1
    simp (disch := omega) only [r_ln, r_pick, r_pickT, r_pickF, r_condT, r_condF, r_gdTT, r_gdFF, r_gdTF, r_gdFT, r_gqTT, r_gqFF, r_gqTF, r_gqFT, r_not, r_lss, r_leq, r_gtr, r_geq, r_eql, r_neq, r_add, r_sub, r_min2, r_max2, r_min3, r_max3, r_fa, r_iaS, r_iaA, r_ex2a, r_ex2b, r_ex3a, r_ex3b, r_ex3c, r_nc, r_keepE, Nat.zero_add, Nat.add_zero, Nat.mul_one, Int.toNat_natCast, toNat_sub1, toNat_add1, decide_true, decide_false, Bool.not_true, Bool.not_false, if_true, if_false, Bool.false_eq_true, reduceCtorEq, decide_eq_true g2, r_nilTE, r_gqU]
    exact hK
  | some n =>
    obtain ⟨hn1, hn2⟩ := hn
    have hx := hnx n rfl
    obtain ⟨b2, o2, c2', rfl, hcn⟩ := hn1.at hx
    simp (disch := omega) only [r_ln, r_pick, r_pickT, r_pickF, r_condT, r_condF, r_gdTT, r_gdFF, r_gdTF, r_gdFT, r_gqTT, r_gqFF, r_gqTF, r_gqFT, r_not, r_lss, r_leq, r_gtr, r_geq, r_eql, r_neq, r_add, r_sub, r_min2, r_max2, r_min3, r_max3, r_fa, r_iaS, r_iaA, r_ex2a, r_ex2b, r_ex3a, r_ex3b, r_ex3c, r_nc, r_keepE, Nat.zero_add, Nat.add_zero, Nat.mul_one, Int.toNat_natCast, toNat_sub1, toNat_add1, decide_true, decide_false, Bool.not_true, Bool.not_false, if_true, if_false, Bool.false_eq_true, reduceCtorEq, decide_eq_true g2, r_nilFE, r_gqU, r_ld c0, r_ld hcn]
    exact hK

set_option maxRecDepth 100000 in
theorem r95_1 {w0 w : World} {t0 t1 t3 ov : Value} {l : List Tile} {nn : Option (List Int)} {W c e : Nat} {s : List Int} {P : List (List Int)} {next : Value → Value → World → Prop}
    (hs : RdT w0 t0 l) (hcols : ∀ t ∈ l, colsB t = true) (hl : l.length ≤ 1000) (hn : NIs w0 t1 nn) (hnl : ∀ n, nn = some n → n.length = W) (hsv : RdInts w0 t3 s) (hx : s.length < W) (hW : W ≤ 4) (hc : c < 8)
    (hout : IRows w0.heap.size w ov P) (hPl : P.length + 8 ^ (W - s.length - 1) ≤ 100000) (hk : Kp w0 w)
    (ih : ∀ (w' : World) (sv : Value) (e' : Nat), RdInts w' sv (s ++ [(c : Int)]) → Kp w0 w' → e' < 256 → Calls Try.prog 95 #[t0, t1, .int .i64 W, sv, .int .i64 e'] w' fun r w'' => ∃ v, r = .returned v ∧ Kp w' w'' ∧ IRows w'.heap.size w'' v (rfrom l nn (W - s.length - 1) (s ++ [(c : Int)]) e'))
    (hnext : ∀ v' w', IRows w0.heap.size w' v' (P ++ if nextE nn s.length e c l = 0 then [] else rfrom l nn (W - s.length - 1) (s ++ [(c : Int)]) (nextE nn s.length e c l)) → Kp w0 w' → next v' (.int .i64 ((c : Int) + 1)) w') :
    S95L1 t0 t1 (.int .i64 W) t3 (.int .i64 e) ov (.int .i64 c) (.int .i64 s.length) next w := by
  obtain ⟨sa, scap, rfl, _⟩ := hs.len
  unfold S95L1
  refine ⟨fun t14 t15 wr => ∃ i : Nat, i ≤ l.length ∧ t15 = .int .i64 i ∧ t14 = .int .i64 (((l.take i).foldl (stepE nn s.length e c) 0 : Nat) : Int) ∧ Kp w wr, fun _ t15 _ => l.length - (intOf t15).toNat, ⟨0, by omega, rfl, rfl, Kp.refl _⟩, ?_⟩
  rintro _ _ _ wr ⟨i, hi, rfl, rfl, kr⟩
  by_cases hlt : i < l.length
  case pos =>
    have hlt' : (i : Int) < (l.length : Int) := by omega
    simp (disch := omega) only [r_ln, r_lss, decide_eq_true hlt', r_condT]
    refine r_drew fun wd kd _ => ?_
    have k0d := Kp.trans hk (Kp.trans kr kd)
    have ht : l[i]? = some (l[i]) := List.getElem?_eq_getElem hlt
    have hcol := hcols _ (List.getElem_mem hlt)
    refine cond95 (hs.kp k0d) ht hcol (hn.kp k0d) (fun n e => by rw [hnl n e]; exact hx) ?_
    have hfold : (l.take (i + 1)).foldl (stepE nn s.length e c) 0 = stepE nn s.length e c ((l.take i).foldl (stepE nn s.length e c) 0) l[i] := by
      rw [take_succ' _ _ hlt, List.foldl_append]; rfl
    have hlt256 : (l.take i).foldl (stepE nn s.length e c) 0 < 256 := fold_lt _ 0 (fun t ht => hcols t (List.mem_of_mem_take ht)) (by omega)
    generalize (l.take i).foldl (stepE nn s.length e c) 0 = a at *
    show Join _ _
    refine r_join1 (fun v' w' => v' = .int .i64 ((stepE nn s.length e c a l[i] : Nat) : Int) ∧ w' = wd) ?_ fun k' hk' => ?_
    · rintro v' w' ⟨ev, ew⟩
      subst ev
      subst ew
      try simp (disch := omega) only [r_ln, r_pick, r_pickT, r_pickF, r_condT, r_condF, r_gdTT, r_gdFF, r_gdTF, r_gdFT, r_gqTT, r_gqFF, r_gqTF, r_gqFT, r_not, r_lss, r_leq, r_gtr, r_geq, r_eql, r_neq, r_add, r_sub, r_min2, r_max2, r_min3, r_max3, r_fa, r_iaS, r_iaA, r_ex2a, r_ex2b, r_ex3a, r_ex3b, r_ex3c, r_nc, r_keepE, Nat.zero_add, Nat.add_zero, Nat.mul_one, Int.toNat_natCast, toNat_sub1, toNat_add1, decide_true, decide_false, Bool.not_true, Bool.not_false, if_true, if_false, Bool.false_eq_true, reduceCtorEq]
      refine ⟨⟨i + 1, by omega, by go_num, by rw [hfold], Kp.trans kr kd⟩, by simp only [intOf]; omega⟩
    · cases hcd : condE nn s.length e c l[i] with
      | false =>
        simp only [r_condF]
        exact hk' _ _ ⟨by rw [stepE, hcd]; rfl, rfl⟩
      | true =>
        have hcr := cols_range hcol
        obtain ⟨b, off, cap, ev, _, hcell⟩ := (hs.kp k0d).at ht
        cases ev
        have c1 : wd.cell? ⟨b, off + i * 4 + 1, none⟩ = some (.int .i64 ((tE l[i]).toNat : Nat)) := by
          rw [show (((tE l[i]).toNat : Nat) : Int) = tE l[i] by omega]
          exact hcell 1 _ rfl
        have h2 : 2 ^ (tE l[i]).toNat < 2 ^ 8 := Nat.pow_lt_pow_right (by omega) (by omega)
        simp (disch := omega) only [r_ln, r_pick, r_pickT, r_pickF, r_condT, r_condF, r_gdTT, r_gdFF, r_gdTF, r_gdFT, r_gqTT, r_gqFF, r_gqTF, r_gqFT, r_not, r_lss, r_leq, r_gtr, r_geq, r_eql, r_neq, r_add, r_sub, r_min2, r_max2, r_min3, r_max3, r_fa, r_iaS, r_iaA, r_ex2a, r_ex2b, r_ex3a, r_ex3b, r_ex3c, r_nc, r_keepE, Nat.zero_add, Nat.add_zero, Nat.mul_one, Int.toNat_natCast, toNat_sub1, toNat_add1, decide_true, decide_false, Bool.not_true, Bool.not_false, if_true, if_false, Bool.false_eq_true, reduceCtorEq, r_ld c1, r_shl1, r_orN]
        exact hk' _ _ ⟨by rw [stepE, if_pos hcd], rfl⟩
  have hlt' : ¬ (i : Int) < (l.length : Int) := by omega
  have hnx : (l.take i).foldl (stepE nn s.length e c) 0 = nextE nn s.length e c l := by rw [List.take_of_length_le (by omega)]; rfl
  rw [hnx]
  have hN := next_lt (nn := nn) (x := s.length) (e := e) (c := c) hcols
  generalize nextE nn s.length e c l = N at *
  have k0r := Kp.trans hk kr
  have hout' := hout.kp kr
  simp (disch := omega) only [r_ln, r_lss, hlt', decide_false, r_condF, r_neq]
  have hJ : ∀ v' w', IRows w0.heap.size w' v' (P ++ if N = 0 then [] else rfrom l nn (W - s.length - 1) (s ++ [(c : Int)]) N) → Kp w0 w' → (IRows w0.heap.size w' v' (P ++ if N = 0 then [] else rfrom l nn (W - s.length - 1) (s ++ [(c : Int)]) N) ∧ Kp w0 w') := fun _ _ a b => ⟨a, b⟩
  refine r_join1 (fun v' w' => IRows w0.heap.size w' v' (P ++ if N = 0 then [] else rfrom l nn (W - s.length - 1) (s ++ [(c : Int)]) N) ∧ Kp w0 w') (fun v' w' ⟨ho, kk⟩ => ?_) fun k' hk' => ?_
  · rw [r_add _ _ (by omega) (by omega)]
    exact hnext v' w' ho kk
  by_cases h0 : N = 0
  · subst h0
    simp (disch := omega) only [r_ln, r_pick, r_pickT, r_pickF, r_condT, r_condF, r_gdTT, r_gdFF, r_gdTF, r_gdFT, r_gqTT, r_gqFF, r_gqTF, r_gqFT, r_not, r_lss, r_leq, r_gtr, r_geq, r_eql, r_neq, r_add, r_sub, r_min2, r_max2, r_min3, r_max3, r_fa, r_iaS, r_iaA, r_ex2a, r_ex2b, r_ex3a, r_ex3b, r_ex3c, r_nc, r_keepE, Nat.zero_add, Nat.add_zero, Nat.mul_one, Int.toNat_natCast, toNat_sub1, toNat_add1, decide_true, decide_false, Bool.not_true, Bool.not_false, if_true, if_false, Bool.false_eq_true, reduceCtorEq, decide_eq_true (show ((0 : Nat) : Int) = 0 by rfl)]
    refine hk' _ _ ⟨?_, k0r⟩
    rw [if_pos rfl, List.append_nil]
    exact hout'
  · have h0' : ¬ ((N : Int) = 0) := by omega
    rw [if_neg h0] at hk'
    simp (disch := omega) only [h0', decide_false, Bool.not_false, r_condT]
    refine r_copyN (hsv.below k0r) (by omega) fun v2 w2 o2 k2 => ?_
    have k02 := Kp.trans k0r k2
    refine r_pushRec (x := (c : Int)) slt30 iC_len rfl (bs30 _ _ _) (by intro u hu; simp [iC] at hu; rw [hu]; rfl) (by omega) o2 (by omega) k2.size fun v3 w3 o3 c3 _ => ?_
    have k3 : Kp wr w3 := Kp.of_chg k2 c3 fun k e => (o2.lt e).1
    have k03 := Kp.trans k0r k3
    have i3 : RdInts w3 v3 (s ++ [(c : Int)]) := Rd.ints (o3.rd iC_len) (by simp; omega)
    refine r_use fok95 (ih w3 v3 N i3 k03 hN) rfl ?_
    rintro _ w4 ⟨v4, rfl, k4, o4⟩
    refine ⟨_, rfl, ?_⟩
    have k04 := Kp.trans k03 k4
    have hlen := rfrom_len (l := l) (nn := nn) (W - s.length - 1) (s ++ [(c : Int)]) N
    refine r_apRows (hout'.kp (Kp.trans k3 k4)) o4 k03.size (by omega) k04.size fun v5 w5 o5 c5 => ?_
    obtain ⟨vs, p1, _, _⟩ := hout'.kp (Kp.trans k3 k4)
    exact hk' _ _ ⟨o5, Kp.of_chg k04 c5 fun k e => (p1.lt e).1⟩

end Go.Proofs.Ytgalbokmgffhkaa
