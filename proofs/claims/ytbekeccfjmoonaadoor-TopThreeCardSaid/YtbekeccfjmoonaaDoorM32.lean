/- Texts of my own, merged by program: Nj Nk. -/
import Derived.Test.YtbekeccfjmoonaaDoorM22
import Derived.Test.YtbekeccfjmoonaaDoorM30
import Derived.Test.YtbekeccfjmoonaaDoorM17
import Derived.Test.YtbekeccfjmoonaaDoorM13
import Derived.Test.YtbekeccfjmoonaaDoorM31
import Derived.Test.YtbekeccfjmoonaaDoorM24
set_option linter.all false
/- Contracts: Clone, a row's step of a pivot, the first number below 0. -/
namespace Go.Proofs.YtbekeccfjmoonaaDoor
open Go.Lf Go.RowKit

theorem r_quoX {w : World} {K : Value → Prop} {t : TypeId} {lit : Bool} (x y z : Int) (hy : y ≠ 0) (e : x = y * z) (h0 : -9223372036854775808 ≤ z) (h1 : z ≤ 9223372036854775807) : binQ Tryd.prog w .quo t lit (.int .i64 x) (.int .i64 y) K = K (.int .i64 z) := by
  rw [r_bin (v := .int .i64 (IntKind.i64.wrap (x.tdiv y))) (by simp [intBin, hy]), e, Int.mul_tdiv_cancel_left _ hy, IntWalk.i64_in _ (by omega)]
theorem prodK {x y : Int} (h0 : -1000 ≤ x) (h1 : x ≤ 1000) (g0 : -1000 ≤ y) (g1 : y ≤ 1000) : -1000000 ≤ x * y ∧ x * y ≤ 1000000 := by
  have h : (x * y).natAbs ≤ 1000 * 1000 := by rw [Int.natAbs_mul]; exact Nat.mul_le_mul (by omega) (by omega)
  omega
theorem ints_rd {base : Nat} {w : World} {u : Value} {L : List Int} (h : IntsAt base w u L) (hl : L.length ≤ 1000000) : RdInts w u L := (RecAt.rd iC_len h).ints hl

set_option maxRecDepth 100000 in
theorem clone_calls {base : Nat} {u : Value} {L : List Int} (w : World) (hu : IntsAt base w u L) (h0 : 0 < L.length) (hl : L.length ≤ 1000000) : Calls Tryd.prog 81 #[u] w fun e w' => Kp w w' ∧ ∃ v', e = .returned v' ∧ IntsAt w.heap.size w' v' L := by
  obtain ⟨g, cap, cur, e, _⟩ := hu.blk h0
  refine lift81 ?_
  unfold S81
  rw [e]
  refine r_nilF ?_
  rw [r_condF, ← e]
  exact r_copyI (ints_rd hu hl) hl fun v' w' h1 h2 _ => ⟨h2, v', rfl, h1⟩

set_option maxRecDepth 100000 in
set_option maxHeartbeats 1000000 in
/-- A row less so many times the pivot's own. -/
theorem step_calls {base base2 : Nat} {u uo : Value} {L O : List Int} {b3 b5 b6 b7 bt j : Nat} (w : World) (hu : IntsAt base w u L) (ho : IntsAt base2 w uo O) (hOl : O.length = L.length) (hj : j < L.length) (hLl : L.length ≤ 1000)
    (h5 : w.cell? ⟨b5, 0, none⟩ = some (.int .i64 j)) (h7 : w.cell? ⟨b7, 0, none⟩ = some (.int .i64 1)) (h6 : w.cell? ⟨b6, 0, none⟩ = some uo) (h3 : w.cell? ⟨b3, 0, none⟩ = some (ptrV bt)) (hby : w.cell? ⟨bt, 5, none⟩ = some (.int .i64 1))
    (hne : ∀ k, u.ownBlock = some k → k ≠ b3 ∧ k ≠ b5 ∧ k ≠ b6 ∧ k ≠ b7 ∧ k ≠ bt ∧ uo.ownBlock ≠ some k) (hB : ∀ q, q < L.length → -1000 ≤ L.getD q 0 ∧ L.getD q 0 ≤ 1000 ∧ -1000 ≤ O.getD q 0 ∧ O.getD q 0 ≤ 1000) :
    Calls Tryd.prog 82 #[u, ptrV b5, ptrV b7, ptrV b6, ptrV b3] w fun e w' => e = .returned (.tuple #[]) ∧ Chg (fun k => u.ownBlock = some k) w w' ∧ ∃ L', IntsAt base w' u L' ∧ L'.length = L.length ∧ ∀ q, q < L.length → L'.getD q 0 = L.getD q 0 - L.getD j 0 * O.getD q 0 := by
  obtain ⟨g, cap, cur, eu, _⟩ := hu.blk (by omega)
  have hown : u.ownBlock = some g := by rw [eu]; rfl
  obtain ⟨n3, n5, n6, n7, nt, no⟩ := hne g hown
  have hS : ∀ {k}, u.ownBlock = some k → k = g := fun h => by rw [hown] at h; injection h with h; exact h.symm
  have hne' : ∀ {b}, g ≠ b → ¬ u.ownBlock = some b := fun h h' => h (hS h').symm
  have lnu : ∀ K : Value → Prop, ln1 u K = K (.int .i64 L.length) := fun K => by rw [eu]; rfl
  refine lift82 ?_
  unfold S82
  rw [r_ld h5, own_ldK hu hj, lnu]
  unfold S82L0
  refine ⟨fun t wr => ∃ (k : Nat) (L' : List Int), k ≤ L.length ∧ t = .int .i64 k ∧ Chg (fun k => u.ownBlock = some k) w wr ∧ IntsAt base wr u L' ∧ L'.length = L.length ∧ ∀ q, q < L.length → L'.getD q 0 = if q < k then L.getD q 0 - L.getD j 0 * O.getD q 0 else L.getD q 0, fun t _ => L.length - (intOf t).toNat,
    ⟨0, L, by omega, rfl, Chg.refl _ _, hu, rfl, fun q _ => by rw [if_neg (by omega)]⟩, ?_⟩
  rintro _ _ wr ⟨k, L', hk, rfl, hc, hI, hl', hq⟩
  by_cases hlt : k < L.length
  case neg =>
    have hlt' : ¬ (k : Int) < (L.length : Int) := by omega
    rw [r_lss, decide_eq_false hlt', r_condF]
    exact ⟨rfl, hc, L', hI, hl', fun q hq' => by rw [hq q hq', if_pos (by omega)]⟩
  have hlt' : (k : Int) < (L.length : Int) := by omega
  rw [r_lss, decide_eq_true hlt', r_condT]
  refine r_drew fun w1 k1 _ => ?_
  have hI1 := RecAt.kp hI k1
  have hc1 : Chg (fun k => u.ownBlock = some k) w w1 := hc.trans (Chg.of_kp k1)
  have ho1 := RecAt.chg ho hc1 fun q hq hs => no (by rw [← hS hs]; exact hq)
  have c7 := hc1.cell h7 (hne' n7)
  have c6 := hc1.cell h6 (hne' n6)
  have c3 := hc1.cell h3 (hne' n3)
  have ct := hc1.cell hby (hne' nt)
  have hqk := hq k hlt
  rw [if_neg (by omega)] at hqk
  obtain ⟨b1, b2, b3', b4⟩ := hB k hlt
  obtain ⟨b5', b6', _⟩ := hB j hj
  have P1 := prodK (x := L.getD j 0) (y := O.getD k 0) (by omega) (by omega) (by omega) (by omega)
  obtain ⟨g', cap', ev, hbg, hcell, hfr, hput⟩ := IntsAt.put hI1 (q := k) (by omega) (L.getD k 0 - L.getD j 0 * O.getD k 0)
  have hgg : g' = g := hS (by rw [ev]; rfl)
  subst hgg
  have hkk : (k : Int).toNat = k := by omega
  have hL1 := own_ldK hI1 (j := k) (by omega)
  rw [hL1, hqk, r_ld c7, r_mul _ _ (by omega) (by omega), r_ld c6, own_ldK ho1 (by omega), r_mul _ _ (by omega) (by omega), Int.mul_one, r_sub _ _ (by omega) (by omega), r_ld c3, r_nc, r_fa, Nat.zero_add, r_ld ct,
    r_quoX _ 1 (L.getD k 0 - L.getD j 0 * O.getD k 0) (by omega) (by omega) (by omega) (by omega)]
  have hst : ∀ K : World → Prop, (iaS 1 u (.int .i64 k) fun p => stW Tryd.prog 3 p (.int .i64 (L.getD k 0 - L.getD j 0 * O.getD k 0)) w1 K) = K (w1.setCell ⟨g', k, none⟩ (.int .i64 (L.getD k 0 - L.getD j 0 * O.getD k 0))) := fun K => by
    rw [ev, r_iaS _ _ _ _ _ _ _ (by omega) (by omega), hkk, Nat.mul_one, Nat.zero_add, st3 hcell hfr]
  rw [hst, r_add _ _ (by omega) (by omega)]
  have hch : Chg (fun k => u.ownBlock = some k) w1 (w1.setCell ⟨g', k, none⟩ (.int .i64 (L.getD k 0 - L.getD j 0 * O.getD k 0))) := Chg.setCell _ _ hown
  refine ⟨⟨k + 1, _, by omega, by go_num, hc1.trans hch, hput, by rw [List.length_set]; exact hl', fun q hq' => ?_⟩, by simp only [intOf]; omega⟩
  rw [List.getD_eq_getElem?_getD]
  by_cases e : k = q
  · subst e
    rw [List.getElem?_set_self (by omega), if_pos (by omega)]; rfl
  · rw [List.getElem?_set_ne e, ← List.getD_eq_getElem?_getD, hq q hq']
    by_cases e2 : q < k
    · rw [if_pos e2, if_pos (by omega)]
    · rw [if_neg e2, if_neg (by omega)]

theorem below_calls {x : Int} (w : World) : Calls Tryd.prog 62 #[.int .i64 x] w fun e w' => e = .returned (.bool (decide (x < 0))) ∧ w = w' := by
  refine lift62 ?_
  unfold S62
  rw [r_lss]
  exact ⟨rfl, rfl⟩
set_option maxRecDepth 100000 in
/-- slices.IndexFunc: the first number below 0. -/
theorem first_calls {v : Value} {L : List Int} (w : World) (hr : RdInts w v L) (hl : L.length ≤ 1000) :
    Calls Tryd.prog 61 #[v, .func (.func 62) #[] #[]] w fun e w' => w = w' ∧ ∃ p : Int, e = .returned (.int .i64 p) ∧ ((p = -1 ∧ ∀ j, j < L.length → 0 ≤ L.getD j 0) ∨ (0 ≤ p ∧ p < L.length ∧ L.getD p.toNat 0 < 0 ∧ ∀ j : Nat, j < p → 0 ≤ L.getD j 0)) := by
  obtain ⟨a, cap, ev, _⟩ := hr.len
  have lnv : ∀ K : Value → Prop, ln1 v K = K (.int .i64 L.length) := fun K => by rw [ev]; rfl
  refine lift61 ?_
  unfold S61 S61L0
  rw [lnv]
  refine ⟨fun t8 wr => ∃ j : Nat, j ≤ L.length ∧ t8 = .int .i64 j ∧ (∀ q, q < j → 0 ≤ L.getD q 0) ∧ w = wr, fun t8 _ => L.length - (intOf t8).toNat, ⟨0, by omega, rfl, fun q hq => by omega, rfl⟩, ?_⟩
  rintro _ _ _ ⟨j, hj, rfl, hz, rfl⟩
  by_cases hlt : j < L.length
  case neg =>
    have hlt' : ¬ (j : Int) < (L.length : Int) := by omega
    rw [r_lss, decide_eq_false hlt', r_condF]
    exact ⟨rfl, _, rfl, .inl ⟨rfl, fun q hq => hz q (by omega)⟩⟩
  have hlt' : (j : Int) < (L.length : Int) := by omega
  rw [r_lss, decide_eq_true hlt', r_condT, ints_ldK hr hlt]
  refine r_use fok62 (below_calls w) rfl ?_
  rintro _ _ ⟨rfl, rfl⟩
  refine ⟨_, rfl, ?_⟩
  by_cases h0 : L.getD j 0 < 0
  · rw [decide_eq_true h0, r_condT]
    exact ⟨rfl, _, rfl, .inr ⟨by omega, by omega, by rw [show (j : Int).toNat = j by omega]; exact h0, fun q hq => hz q (by omega)⟩⟩
  · rw [decide_eq_false h0, r_condF, r_add _ _ (by omega) (by omega)]
    refine ⟨⟨j + 1, by omega, by go_num, fun q hq => ?_, rfl⟩, by simp only [intOf]; omega⟩
    by_cases e : q = j
    · rw [e]; omega
    · exact hz q (by omega)

end Go.Proofs.YtbekeccfjmoonaaDoor

/- Contract: pivot. -/
namespace Go.Proofs.YtbekeccfjmoonaaDoor
open Go.Lf Go.RowKit Go.Dt

/-- A row of a matrix in memory is written anew. -/
theorem IMatV.rowSet {base : Nat} {w w' : World} {v : Value} {vs : List Value} {R : List (List Int)} (h : IMatV base w v vs R) {i : Nat} {u : Value} {L : List Int} (hu : vs[i]? = some u) (hc : Chg (fun k => u.ownBlock = some k) w w') (hL : IntsAt base w' u L) : IMatV base w' v vs (R.set i L) := by
  obtain ⟨h1, h2, h3, h4⟩ := h
  have hlt : i < vs.length := (List.getElem?_eq_some_iff.1 hu).1
  have hI := h3 i u _ hu (List.getElem?_eq_getElem (by omega))
  refine ⟨h1.chg hc fun k hk e => rec_ne hI h1 (by decide) k e hk, by rw [List.length_set]; exact h2, fun a u' r hu' hr => ?_, h4⟩
  by_cases ea : a = i
  · subst ea
    rw [List.getElem?_set_self (by omega)] at hr
    rw [hu] at hu'
    cases hr
    cases hu'
    exact hL
  · rw [List.getElem?_set_ne (Ne.symm ea)] at hr
    exact (h3 a u' r hu' hr).chg hc fun k hk e => ea (h4 a i u' u k hu' hu hk e)
theorem set_hat (R : List (List Int)) {i : Nat} (hi : i < R.length) (L : List Int) (a b : Nat) : hat (R.set i L) a b = if a = i then L.getD b 0 else hat R a b := by
  unfold hat
  by_cases h : a = i
  · subst h
    rw [if_pos rfl, List.getD_eq_getElem?_getD (l := R.set a L), List.getElem?_set_self hi]; rfl
  · rw [if_neg h, List.getD_eq_getElem?_getD (l := R.set i L), List.getElem?_set_ne (Ne.symm h), ← List.getD_eq_getElem?_getD]
theorem set_sized {A B : Nat} {R : List (List Int)} (hs : Sized A B R) {i : Nat} (hi : i < A) {L : List Int} (hL : L.length = B) : Sized A B (R.set i L) := by
  refine ⟨by rw [List.length_set]; exact hs.1, fun a ha => ?_⟩
  have := hs.1
  by_cases h : a = i
  · subst h
    rw [List.getD_eq_getElem?_getD, List.getElem?_set_self (by omega)]; exact hL
  · rw [List.getD_eq_getElem?_getD, List.getElem?_set_ne (Ne.symm h), ← List.getD_eq_getElem?_getD]
    exact hs.2 a ha

/-- A tableau in memory. -/
structure TbAt (base : Nat) (w : World) (bt N C : Nat) (rv gv bv : Value) (vs : List Value) (R : List (List Int)) (G B : List Int) : Prop where
  box : w.heap[bt]? = some (.cells #[.int .i64 N, .int .i64 C, rv, gv, bv, .int .i64 1] 84 (0, 0))
  bb : base ≤ bt
  mat : IMatV base w rv vs R
  siz : Sized C (N + C + 1) R
  go : IntsAt base w gv G
  gl : G.length = N + C + 1
  ba : IntsAt base w bv B
  bl : B.length = C
  gb : ∀ k, gv.ownBlock = some k → bv.ownBlock ≠ some k
  gr : ∀ (i : Nat) u k, vs[i]? = some u → u.ownBlock = some k → gv.ownBlock ≠ some k ∧ bv.ownBlock ≠ some k
/-- It is the tableau S. -/
structure IsTb (N C : Nat) (R : List (List Int)) (G B : List Int) (S : Sx.Tb) : Prop where
  T : ∀ i k, i < C → k ≤ N + C → hat R i k = S.T i k
  g : ∀ k, k ≤ N + C → G.getD k 0 = S.g k
  b : ∀ i, i < C → B.getD i 0 = ((S.b i : Nat) : Int)

section
variable {base bt N C : Nat} {rv gv bv : Value} {vs : List Value} {R : List (List Int)} {G B : List Int}
theorem TbAt.kp {w w' : World} (h : TbAt base w bt N C rv gv bv vs R G B) (k : Kp w w') : TbAt base w' bt N C rv gv bv vs R G B :=
  ⟨block_below h.box k, h.bb, h.mat.kp k, h.siz, RecAt.kp h.go k, h.gl, RecAt.kp h.ba k, h.bl, h.gb, h.gr⟩
theorem TbAt.cells {w : World} (h : TbAt base w bt N C rv gv bv vs R G B) : w.cell? ⟨bt, 0, none⟩ = some (.int .i64 N) ∧ w.cell? ⟨bt, 0 + 1, none⟩ = some (.int .i64 C) ∧ w.cell? ⟨bt, 0 + 2, none⟩ = some rv ∧ w.cell? ⟨bt, 0 + 3, none⟩ = some gv ∧ w.cell? ⟨bt, 0 + 4, none⟩ = some bv ∧ w.cell? ⟨bt, 0 + 5, none⟩ = some (.int .i64 1) := by
  refine ⟨?_, ?_, ?_, ?_, ?_, ?_⟩ <;> rw [cell_row h.box] <;> rfl
theorem TbAt.lt {w : World} (h : TbAt base w bt N C rv gv bv vs R G B) : bt < w.heap.size := block_lt h.box
theorem TbAt.rowI {w : World} (h : TbAt base w bt N C rv gv bv vs R G B) {i : Nat} (hi : i < C) : ∃ u, vs[i]? = some u ∧ IntsAt base w u (R.getD i []) ∧ (∀ K : Value → Prop, (iaS 1 rv (.int .i64 i) fun p => ld1 w p K) = K u) ∧ ∃ g c, u = .slice (some ⟨g, 0, none⟩) (N + C + 1) c := by
  obtain ⟨u, h1, h2, h3⟩ := h.mat.ldK (i := i) (by rw [h.siz.1]; exact hi)
  obtain ⟨g, c, _, e, _⟩ := h2.blk (by rw [h.siz.2 i hi]; omega)
  exact ⟨u, h1, h2, h3, g, c, by rw [e, h.siz.2 i hi]⟩
theorem TbAt.own_ne {w : World} (h : TbAt base w bt N C rv gv bv vs R G B) {u : Value} {L : List Int} {base2 : Nat} (hu : IntsAt base2 w u L) : ∀ k, u.ownBlock = some k → k ≠ bt ∧ rv.ownBlock ≠ some k := fun k hk => by
  obtain ⟨cur, h3⟩ := own_type hu hk
  refine ⟨fun e => ?_, rec_ne hu h.mat.1 (by decide) k hk⟩
  rw [e, h.box] at h3
  injection h3 with h3
  injection h3 with _ h3 _
  exact absurd h3 (by decide)

/-- A tableau's numbers are small. -/
theorem tb_small {M : Nat → Nat → Int} {s : Nat → Int} {S : Sx.Tb} (hc : Sx.Cols N C M s) (hi : Sx.Inv N C M S) (hT : IsTb N C R G B S) (hC : C ≤ 16) : (∀ i k, i < C → k < N + C + 1 → -1000 ≤ hat R i k ∧ hat R i k ≤ 1000) ∧ ∀ k, k < N + C + 1 → -1000 ≤ G.getD k 0 ∧ G.getD k 0 ≤ 1000 := by
  constructor
  · intro i k h1 h2
    rw [hT.T i k h1 (by omega)]
    by_cases e : k = N + C
    · subst e
      have := hi.rhs i h1
      have := Sx.rhs_le hc hi h1
      omega
    · have := Sx.entry hc hi h1 (k := k) (by omega)
      omega
  · intro k h2
    rw [hT.g k (by omega)]
    by_cases e : k = N + C
    · subst e
      have h3 := Sx.goal_last hc hi
      have h4 : (C : Int) * C ≤ 16 * 16 := by
        have : C * C ≤ 16 * 16 := Nat.mul_le_mul hC hC
        have e : ((C * C : Nat) : Int) = (C : Int) * C := Int.natCast_mul _ _
        omega
      omega
    · have := Sx.goal_rng hc hi (k := k) (by omega)
      omega

set_option maxRecDepth 100000 in
set_option maxHeartbeats 4000000 in
/-- A pivot by the rule. -/
theorem pivot63_calls {M : Nat → Nat → Int} {s : Nat → Int} {S : Sx.Tb} {r j : Nat} (w : World) (hc : Sx.Cols N C M s) (hi : Sx.Inv N C M S) (hT : IsTb N C R G B S) (hC : C ≤ 16) (hN : N ≤ 100) (hr : Sx.Rule N C S r j) (h : TbAt base w bt N C rv gv bv vs R G B) (hb : base ≤ w.heap.size) :
    Calls Tryd.prog 63 #[ptrV bt, .int .i64 r, .int .i64 j] w fun e w' => e = .returned (.tuple #[]) ∧ Below base w w' ∧ ∃ R' G' B', TbAt base w' bt N C rv gv bv vs R' G' B' ∧ IsTb N C R' G' B' (Sx.pv S r j) := by
  have hrl := hr.rl
  have hjl := hr.jl
  obtain ⟨hsm, hsg⟩ := tb_small hc hi hT hC
  have hone : hat R r j = 1 := by rw [hT.T r j hrl (by omega)]; exact hr.one hc hi
  refine lift63 ?_
  unfold S63
  refine r_box fun b3 w1 e3 s3 h3 k1 => ?_
  have h3' : w1.heap[b3]? = some (.cells #[ptrV bt] 81 (0, 0)) := h3
  refine r_box fun b5 w2 e5 s5 h5 k2 => ?_
  have h5' : w2.heap[b5]? = some (.cells #[.int .i64 j] 3 (0, 0)) := h5
  have k02 := Kp.trans k1 k2
  have t2 := h.kp k02
  have c3 : w2.cell? ⟨b3, 0, none⟩ = some (ptrV bt) := by rw [cell_row (block_below h3' k2)]; rfl
  obtain ⟨_, _, d2, _⟩ := t2.cells
  obtain ⟨ur, hur, Ir, ldr, gr, cr, er⟩ := t2.rowI hrl
  have hrlen : (R.getD r []).length = N + C + 1 := h.siz.2 r hrl
  rw [r_ld c3, r_nc, r_fa, r_ld d2, ldr]
  refine r_use fok81 (clone_calls w2 Ir (by omega) (by omega)) rfl ?_
  rintro _ w3 ⟨k3, uo, rfl, Io⟩
  refine ⟨_, rfl, ?_⟩
  have k03 := Kp.trans k02 k3
  obtain ⟨go, co, _, eo, hgo, _⟩ := Io.blk (by omega)
  have hoo : uo.ownBlock = some go := by rw [eo]; rfl
  refine r_box fun b6 w4 e6 s6 h6 k4 => ?_
  have h6' : w4.heap[b6]? = some (.cells #[.slice none 0 0] 31 (0, 0)) := h6
  have c6 : w4.cell? ⟨b6, 0, none⟩ = some (.slice none 0 0) := by rw [cell_row h6']; rfl
  rw [eo, st31 c6 (frozen_row h6'), ← eo]
  have hch6 : Chg (fun k => k = b6) w4 (w4.setCell ⟨b6, 0, none⟩ uo) := Chg.setCell _ _ rfl
  have h61 : (w4.setCell ⟨b6, 0, none⟩ uo).heap[b6]? = some (.cells #[uo] 31 (0, 0)) := by rw [setCell_block h6' rfl]; rfl
  have k35 : Kp w3 (w4.setCell ⟨b6, 0, none⟩ uo) := Kp.of_chg k4 hch6 fun k e => by omega
  generalize w4.setCell ⟨b6, 0, none⟩ uo = w5 at *
  have c6' : w5.cell? ⟨b6, 0, none⟩ = some uo := by rw [cell_row h61]; rfl
  have h55 := block_below h5' (Kp.trans k3 k35)
  have c5 : w5.cell? ⟨b5, 0, none⟩ = some (.int .i64 j) := by rw [cell_row h55]; rfl
  have Io5 := RecAt.kp Io k35
  have hd : (R.getD r []).getD j 0 = 1 := hone
  rw [r_ld c6', r_ld c5, own_ldK Io5 (by omega), hd]
  refine r_box fun b7 w6 e7 s7 h7 k6 => ?_
  have h7' : w6.heap[b7]? = some (.cells #[.int .i64 0] 3 (0, 0)) := h7
  have c70 : w6.cell? ⟨b7, 0, none⟩ = some (.int .i64 0) := by rw [cell_row h7']; rfl
  rw [st3 c70 (frozen_row h7')]
  have hch7 : Chg (fun k => k = b7) w6 (w6.setCell ⟨b7, 0, none⟩ (.int .i64 1)) := Chg.setCell _ _ rfl
  have h71 : (w6.setCell ⟨b7, 0, none⟩ (.int .i64 1)).heap[b7]? = some (.cells #[.int .i64 1] 3 (0, 0)) := by rw [setCell_block h7' rfl]; rfl
  have k57 : Kp w5 (w6.setCell ⟨b7, 0, none⟩ (.int .i64 1)) := Kp.of_chg k6 hch7 fun k e => by omega
  generalize w6.setCell ⟨b7, 0, none⟩ (.int .i64 1) = w7 at *
  have k07 := Kp.trans k03 (Kp.trans k35 k57)
  have t7 := h.kp k07
  have s03 := k03.size
  have s02 := k02.size
  have s35 := k35.size
  have s57 := k57.size
  have s1 := k1.size
  have q3 : w7.heap[b3]? = some (.cells #[ptrV bt] 81 (0, 0)) := block_below (block_below h3' k2) (Kp.trans k3 (Kp.trans k35 k57))
  have q5 := block_below h55 k57
  have q6 := block_below h61 k57
  have q7 := h71
  have Io7 := RecAt.kp Io5 k57
  -- the places of the boxes and of the own row
  have hbig : w.heap.size ≤ b3 ∧ w.heap.size ≤ b5 ∧ w.heap.size ≤ b6 ∧ w.heap.size ≤ b7 ∧ w.heap.size ≤ go := ⟨by omega, by omega, by omega, by omega, by omega⟩
  have c37 : w7.cell? ⟨b3, 0, none⟩ = some (ptrV bt) := by rw [cell_row q3]; rfl
  obtain ⟨_, _, d27, _⟩ := t7.cells
  have lnr : ∀ K : Value → Prop, ln1 rv K = K (.int .i64 C) := fun K => by
    obtain ⟨a, c, e⟩ := IMat.len ⟨vs, h.mat⟩
    rw [e.1, h.siz.1]; rfl
  rw [r_ld c37, r_nc, r_fa, r_ld d27, lnr]
  -- blocks of the tableau lie below
  have hrowlt : ∀ (i : Nat) u k, vs[i]? = some u → u.ownBlock = some k → k < w.heap.size := fun i u k hu hk => h.mat.top.2 i u hu k hk
  have hglt : ∀ k, gv.ownBlock = some k → k < w.heap.size := fun k hk => (RecAt.lt h.go hk).2
  unfold S63L0
  refine ⟨fun t wr => ∃ (k : Nat) (R' : List (List Int)), k ≤ C ∧ t = .int .i64 k ∧ Chg (fun q => ∃ (i : Nat) (u : Value), vs[i]? = some u ∧ u.ownBlock = some q) w7 wr ∧ TbAt base wr bt N C rv gv bv vs R' G B ∧ (∀ a b, a < C → b < N + C + 1 → hat R' a b = if a < k ∧ a ≠ r then hat R a b - hat R a j * hat R r b else hat R a b), fun t _ => C - (intOf t).toNat,
    ⟨0, R, by omega, rfl, Chg.refl _ _, t7, fun a b _ _ => by rw [if_neg (by omega)]⟩, ?_⟩
  rintro _ _ wr ⟨k, R', hk, rfl, hcr, tr, hat'⟩
  have hSr : ∀ {b}, w.heap.size ≤ b → ¬ ∃ (i : Nat) (u : Value), vs[i]? = some u ∧ u.ownBlock = some b := fun hb' ⟨i, u, h1, h2⟩ => by have := hrowlt i u _ h1 h2; omega
  have p3 := hcr.at q3 (hSr hbig.1)
  have p5 := hcr.at q5 (hSr hbig.2.1)
  have p6 := hcr.at q6 (hSr hbig.2.2.1)
  have p7 := hcr.at q7 (hSr hbig.2.2.2.1)
  have Ior := RecAt.chg Io7 hcr fun k hk hs => hSr (by rw [hoo] at hk; cases hk; exact hbig.2.2.2.2) hs
  have m3 : wr.cell? ⟨b3, 0, none⟩ = some (ptrV bt) := by rw [cell_row p3]; rfl
  have m5 : wr.cell? ⟨b5, 0, none⟩ = some (.int .i64 j) := by rw [cell_row p5]; rfl
  have m6 : wr.cell? ⟨b6, 0, none⟩ = some uo := by rw [cell_row p6]; rfl
  have m7 : wr.cell? ⟨b7, 0, none⟩ = some (.int .i64 1) := by rw [cell_row p7]; rfl
  obtain ⟨_, _, dr2, dr3, dr4, dr5⟩ := tr.cells
  by_cases hlt : k < C
  · have hlt' : (k : Int) < (C : Int) := by omega
    obtain ⟨u, hu, Iu, ldu, gu, cu, eu⟩ := tr.rowI hlt
    have hul : (R'.getD k []).length = N + C + 1 := tr.siz.2 k hlt
    rw [r_lss, decide_eq_true hlt', r_condT, ldu, r_neq]
    by_cases hkr : k = r
    · subst hkr
      simp only [decide_true, Bool.not_true, Join, r_condF]
      rw [r_add _ _ (by omega) (by omega)]
      refine ⟨⟨k + 1, R', by omega, by go_num, hcr, tr, fun a b h1 h2 => ?_⟩, by simp only [intOf]; omega⟩
      rw [hat' a b h1 h2]
      by_cases e : a < k ∧ a ≠ k
      · rw [if_pos e, if_pos (by omega)]
      · rw [if_neg e, if_neg (by omega)]
    · rw [decide_eq_false (show ¬ (k : Int) = (r : Int) by omega)]
      simp only [Bool.not_false, Join, r_condT]
      have hrk : ∀ q, q < N + C + 1 → (R'.getD k []).getD q 0 = hat R k q := fun q hq => by
        have := hat' k q hlt hq
        rw [if_neg (by omega)] at this
        exact this
      refine r_use fok82 (step_calls (L := R'.getD k []) (O := R.getD r []) (bt := bt) wr Iu Ior (by omega) (by omega) (by omega) m5 m7 m6 m3 dr5 (fun q hq => ?_) fun q hq => ?_) rfl ?_
      · have := hrowlt k u q hu hq
        exact ⟨by omega, by omega, by omega, by omega, (tr.own_ne Iu q hq).1, fun e => by rw [hoo] at e; cases e; omega⟩
      · rw [hrk q (by omega)]
        have b1 := hsm k q hlt (by omega)
        have b2 : -1000 ≤ (R.getD r []).getD q 0 ∧ (R.getD r []).getD q 0 ≤ 1000 := hsm r q hrl (by omega)
        omega
      rintro _ w8 ⟨rfl, c8, L', hL', hLl, hLq⟩
      refine ⟨_, rfl, ?_⟩
      rw [r_add _ _ (by omega) (by omega)]
      have hSu : ∀ q, u.ownBlock = some q → ∃ (i : Nat) (u : Value), vs[i]? = some u ∧ u.ownBlock = some q := fun q hq => ⟨k, u, hu, hq⟩
      refine ⟨⟨k + 1, R'.set k L', by omega, by go_num, hcr.trans (c8.mono fun q _ hq => hSu q hq), ⟨c8.at tr.box fun e => (tr.own_ne Iu _ e).1 rfl, tr.bb, tr.mat.rowSet hu c8 hL', set_sized tr.siz hlt (by omega), RecAt.chg tr.go c8 fun q hq e => (tr.gr k u q hu e).1 hq, tr.gl, RecAt.chg tr.ba c8 fun q hq e => (tr.gr k u q hu e).2 hq, tr.bl, tr.gb, tr.gr⟩, fun a b h1 h2 => ?_⟩, by simp only [intOf]; omega⟩
      rw [set_hat _ (by rw [tr.siz.1]; exact hlt)]
      by_cases e : a = k
      · subst e
        rw [if_pos rfl, if_pos (by omega), hLq b (by omega), hrk b h2, hrk j (by omega)]
        rfl
      · rw [if_neg e, hat' a b h1 h2]
        by_cases e2 : a < k ∧ a ≠ r
        · rw [if_pos e2, if_pos (by omega)]
        · rw [if_neg e2, if_neg (by omega)]
  have hlt' : ¬ (k : Int) < (C : Int) := by omega
  obtain rfl : k = C := by omega
  rw [r_lss, decide_eq_false hlt', r_condF, r_ld m3, r_nc, r_fa, r_ld dr3]
  refine r_use fok82 (step_calls (L := G) (O := R.getD r []) (bt := bt) wr tr.go Ior (by have := tr.gl; omega) (by have := tr.gl; omega) (by have := tr.gl; omega) m5 m7 m6 m3 dr5 (fun q hq => ?_) fun q hq => ?_) rfl ?_
  · have := hglt q hq
    exact ⟨by omega, by omega, by omega, by omega, (tr.own_ne tr.go q hq).1, fun e => by rw [hoo] at e; cases e; omega⟩
  · have hgl := tr.gl
    have b1 := hsg q (by omega)
    have b2 : -1000 ≤ (R.getD r []).getD q 0 ∧ (R.getD r []).getD q 0 ≤ 1000 := hsm r q hrl (by omega)
    omega
  rintro _ w8 ⟨rfl, c8, G', hG', hGl, hGq⟩
  refine ⟨_, rfl, ?_⟩
  have hgl := tr.gl
  have t8 : TbAt base w8 bt N k rv gv bv vs R' G' B := ⟨c8.at tr.box fun e => (tr.own_ne tr.go _ e).1 rfl, tr.bb,
    ⟨RecAt.chg tr.mat.1 c8 fun q hq e => (tr.own_ne tr.go _ e).2 hq, tr.mat.2.1, fun i u r hu hr' => RecAt.chg (tr.mat.2.2.1 i u r hu hr') c8 fun q hq e => (tr.gr i u q hu hq).1 e, tr.mat.2.2.2⟩,
    tr.siz, hG', by omega, RecAt.chg tr.ba c8 fun q hq e => tr.gb q e hq, tr.bl, tr.gb, tr.gr⟩
  have hS8 : ∀ {b}, w.heap.size ≤ b → ¬ gv.ownBlock = some b := fun hb' e => by have := hglt _ e; omega
  refine r_drew fun w9 k9 _ => ?_
  have t9 := t8.kp k9
  obtain ⟨_, _, _, _, d94, d95⟩ := t9.cells
  have n3 : w9.cell? ⟨b3, 0, none⟩ = some (ptrV bt) := cell_later k9 (c8.cell m3 (hS8 hbig.1))
  have n5 : w9.cell? ⟨b5, 0, none⟩ = some (.int .i64 j) := cell_later k9 (c8.cell m5 (hS8 hbig.2.1))
  have n7 : w9.cell? ⟨b7, 0, none⟩ = some (.int .i64 1) := cell_later k9 (c8.cell m7 (hS8 hbig.2.2.2.1))
  obtain ⟨gbl, cb, eb, hgb, hbc, hbf, hput⟩ := IntsAt.put t9.ba (q := r) (by have := t9.bl; omega) ((j : Nat) : Int)
  have hbo : bv.ownBlock = some gbl := by rw [eb]; rfl
  have hblt : gbl < w.heap.size := (RecAt.lt h.ba hbo).2
  refine ⟨fun q => q = gbl, ?_⟩
  have hrr : (r : Int).toNat = r := by omega
  rw [r_ld n3, r_nc, r_fa, r_ld d94, r_txl n3 (show ¬ b3 = gbl by omega), r_ld n5, r_txl n7 (show ¬ b7 = gbl by omega)]
  have hst : ∀ K : World → Prop, (iaS 1 bv (.int .i64 r) fun p => stW Tryd.prog 3 p (.int .i64 j) w9 K) = K (w9.setCell ⟨gbl, r, none⟩ (.int .i64 j)) := fun K => by
    rw [eb, r_iaS _ _ _ _ _ _ _ (by have := t9.bl; omega) (by have := t9.bl; omega), hrr, Nat.mul_one, Nat.zero_add, st3 hbc hbf]
  rw [hst]
  have hchb : Chg (fun q => q = gbl) w9 (w9.setCell ⟨gbl, r, none⟩ (.int .i64 j)) := Chg.setCell _ _ rfl
  refine ⟨⟨hchb.os, hchb.tape, hchb.output, hchb.size, fun k hk hx => hchb.block k hk hx⟩, ?_⟩
  refine r_txe (v := ptrV bt) (fun w' k => by rw [r_nc]) ?_
  refine r_txe (v := .pointer (some ⟨bt, 0 + 5, none⟩)) (fun w' k => by rw [r_fa]) ?_
  have hbt : bt ≠ gbl := fun e => (t9.own_ne t9.ba gbl hbo).1 e.symm
  have d95' := hchb.cell d95 (show ¬ bt = gbl from hbt)
  have hbx := hchb.at t9.box (show ¬ bt = gbl from hbt)
  rw [st3 d95' (frozen_row hbx)]
  have hcht : Chg (fun q => q = bt) (w9.setCell ⟨gbl, r, none⟩ (.int .i64 j)) ((w9.setCell ⟨gbl, r, none⟩ (.int .i64 j)).setCell ⟨bt, 0 + 5, none⟩ (.int .i64 1)) := Chg.setCell _ _ rfl
  have hbx2 := setCell_block (o := 0 + 5) (v := .int .i64 1) hbx rfl
  generalize (w9.setCell ⟨gbl, r, none⟩ (.int .i64 j)).setCell ⟨bt, 0 + 5, none⟩ (.int .i64 1) = w11 at *
  generalize w9.setCell ⟨gbl, r, none⟩ (.int .i64 j) = w10 at *
  have hbase : Below base w w11 := by
    have e1 : Below base w w7 := Below.mono k07 hb
    have e2 : Below base w7 wr := hcr.below (by omega) fun q ⟨i, u, h1, h2⟩ => by
      have hlt := (List.getElem?_eq_some_iff.1 h1).1
      have h3 := h.mat.2.2.1 i u _ h1 (List.getElem?_eq_getElem (by rw [← h.mat.2.1]; exact hlt))
      exact (RecAt.lt h3 h2).1
    have sr := hcr.size
    have e3 : Below base wr w8 := c8.below (by omega) fun q hq => (RecAt.lt h.go hq).1
    have s8 := c8.size
    have e4 : Below base w8 w9 := Below.mono k9 (by omega)
    have s9 := k9.size
    have e5 : Below base w9 w10 := hchb.below (by omega) fun q e => by rw [e]; exact hgb
    have s10 := hchb.size
    have e6 : Below base w10 w11 := hcht.below (by omega) fun q e => by rw [e]; exact h.bb
    exact ((((e1.trans e2).trans e3).trans e4).trans e5).trans e6
  have hbt2 : ∀ {u : Value} {L : List Int}, IntsAt base w9 u L → ∀ q, u.ownBlock = some q → ¬ q = bt := fun hu q hq => (t9.own_ne hu q hq).1
  have hrvb : ∀ q, rv.ownBlock = some q → ¬ q = bt := fun q hq e => by
    obtain ⟨cur, h3⟩ := own_type t9.mat.1 hq
    rw [e, t9.box] at h3
    injection h3 with h3
    injection h3 with _ h3 _
    exact absurd h3 (by decide)
  refine ⟨rfl, hbase, R', G', B.set r ((j : Nat) : Int), ⟨hbx2, t9.bb, ⟨?_, t9.mat.2.1, fun i u r' hu hr' => ?_, t9.mat.2.2.2⟩, t9.siz, ?_, t9.gl, ?_, by rw [List.length_set]; exact t9.bl, t9.gb, t9.gr⟩, ⟨fun i q h1 h2 => ?_, fun q h2 => ?_, fun i h1 => ?_⟩⟩
  · exact RecAt.chg (RecAt.chg t9.mat.1 hchb fun q hq e => (t9.own_ne t9.ba gbl hbo).2 (e ▸ hq)) hcht hrvb
  · have h3 := t9.mat.2.2.1 i u r' hu hr'
    exact RecAt.chg (RecAt.chg h3 hchb fun q hq e => (t9.gr i u q hu hq).2 (e ▸ hbo)) hcht (hbt2 h3)
  · exact RecAt.chg (RecAt.chg t9.go hchb fun q hq e => t9.gb q hq (e ▸ hbo)) hcht (hbt2 t9.go)
  · exact RecAt.chg hput hcht (hbt2 t9.ba)
  · rw [hat' i q h1 (by omega)]
    show _ = if i = r then S.T r q else S.T i q - S.T i j * S.T r q
    by_cases e : i = r
    · rw [if_pos e, if_neg (by omega), e, hT.T r q hrl h2]
    · rw [if_neg e, if_pos (by omega), hT.T i q h1 h2, hT.T i j h1 (by omega), hT.T r q hrl h2]
  · have e1 : (R.getD r []).getD q 0 = S.T r q := hT.T r q hrl h2
    rw [hGq q (by omega), hT.g q h2, hT.g j (by omega), e1]
    rfl
  · show _ = (((if i = r then j else S.b i) : Nat) : Int)
    have hbl := h.bl
    rw [List.getD_eq_getElem?_getD]
    by_cases e : i = r
    · subst e
      rw [if_pos rfl, List.getElem?_set_self (by omega)]; rfl
    · rw [if_neg e, List.getElem?_set_ne (Ne.symm e), ← List.getD_eq_getElem?_getD]
      exact hT.b i h1
end
end Go.Proofs.YtbekeccfjmoonaaDoor
