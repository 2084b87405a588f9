/- Texts of my own, merged by program: Nq Nr. -/
import Derived.Test.YtbekeccfjmoonaaDoorM35
import Derived.Test.YtbekeccfjmoonaaDoorM36
set_option linter.all false
/- Contract: tabled. -/
namespace Go.Proofs.YtbekeccfjmoonaaDoor
open Go.Lf Go.RowKit Go.Dt Go.Ht

/-- The first tableau's rows. -/
def mx (RR : List (List Int)) (N C c k : Nat) : Int := if k < N then (if ((c : Nat) : Int) ∈ RR.getD k [] then 1 else 0) else if k = N + c ∨ k = N + C then 1 else 0

/-- A list in memory is written at a place. -/
theorem r_stI {base : Nat} {u : Value} {L : List Int} {w : World} {q : Nat} {x : Int} {K : World → Prop} (h : IntsAt base w u L) (hq : q < L.length)
    (hk : ∀ w', IntsAt base w' u (L.set q x) → Chg (fun k => u.ownBlock = some k) w w' → K w') : (iaS 1 u (.int .i64 q) fun p => stW Tryd.prog 3 p (.int .i64 x) w K) := by
  obtain ⟨g, cap, e, _, hc, hf, hput⟩ := IntsAt.put h hq x
  have hqq : (q : Int).toNat = q := by omega
  have hown : u.ownBlock = some g := by rw [e]; rfl
  have := hk _ hput (Chg.setCell _ _ hown)
  rw [e, r_iaS _ _ _ _ _ _ _ (by omega) (by omega), hqq, Nat.mul_one, Nat.zero_add, st3 hc hf]
  exact this
theorem set_getD (L : List Int) {q : Nat} (hq : q < L.length) (x : Int) (k : Nat) : (L.set q x).getD k 0 = if k = q then x else L.getD k 0 := by
  rw [List.getD_eq_getElem?_getD]
  by_cases e : k = q
  · subst e; rw [if_pos rfl, List.getElem?_set_self hq]; rfl
  · rw [if_neg e, List.getElem?_set_ne (Ne.symm e), ← List.getD_eq_getElem?_getD]

section
variable {base bt N C c : Nat} {rv gv bv : Value} {vs : List Value} {R : List (List Int)} {G B : List Int}

set_option maxRecDepth 100000 in
set_option maxHeartbeats 2000000 in
theorem r32_2 {w1 : World} {u : Value} {L : List Int} {next : Value → World → Prop} (hP : TbP base w1 bt N C c rv gv bv vs R G B) (hu : IntsAt base w1 u L) (hL : L.length = N + C + 1) (hug : ∀ k, u.ownBlock = some k → gv.ownBlock ≠ some k) (hN : N ≤ 100) (hC : C ≤ 100) (hb : base ≤ w1.heap.size) (hc : c ≤ 100)
    (hGs : ∀ q, q < N + C + 1 → -1000 ≤ G.getD q 0 ∧ G.getD q 0 ≤ 1000) (hLs : ∀ q, q < N + C + 1 → 0 ≤ L.getD q 0 ∧ L.getD q 0 ≤ 1)
    (hnext : ∀ w' G', TbP base w' bt N C c rv gv bv vs R G' B → (∀ q, q < N + C + 1 → G'.getD q 0 = if q < N ∨ q = N + C then G.getD q 0 - L.getD q 0 else G.getD q 0) → Below base w1 w' → next (.int .i64 (((c - 1 : Nat) : Int) + 1)) w') (hc1 : 1 ≤ c) :
    S32L2 (ptrV bt) (.int .i64 ((N : Int) + C + 1)) (.int .i64 ((c - 1 : Nat) : Int)) u next w1 := by
  unfold S32L2
  refine ⟨fun t wr => ∃ (j : Nat) (G' : List Int), j ≤ N + C + 1 ∧ t = .int .i64 j ∧ TbP base wr bt N C c rv gv bv vs R G' B ∧ IntsAt base wr u L ∧ Below base w1 wr ∧ (∀ q, q < N + C + 1 → G'.getD q 0 = if q < j ∧ (q < N ∨ q = N + C) then G.getD q 0 - L.getD q 0 else G.getD q 0), fun t _ => N + C + 1 - (intOf t).toNat,
    ⟨0, G, by omega, rfl, hP, hu, Below.refl _ _, fun q _ => by rw [if_neg (by omega)]⟩, ?_⟩
  rintro _ _ wr ⟨j, G', hj, rfl, tr, hur, br, hq⟩
  have sr := br.size
  by_cases hlt : j < N + C + 1
  case neg =>
    have hlt' : ¬ (j : Int) < (N : Int) + C + 1 := by omega
    rw [r_lss, decide_eq_false hlt', r_condF, r_add _ _ (by omega) (by omega)]
    exact hnext wr G' tr (fun q hq' => by
      rw [hq q hq']
      by_cases e : q < N ∨ q = N + C
      · rw [if_pos ⟨by omega, e⟩, if_pos e]
      · rw [if_neg (fun h => e h.2), if_neg e]) br
  have hlt' : (j : Int) < (N : Int) + C + 1 := by omega
  obtain ⟨d0, d1, d2, d3, d4⟩ := tr.cells
  rw [r_lss, decide_eq_true hlt', r_condT, r_nc, r_fa, Nat.zero_add, r_ld d0, r_lss]
  have hno : ¬ (j < N ∨ j = N + C) → ∀ q, q < N + C + 1 → G'.getD q 0 = if q < j + 1 ∧ (q < N ∨ q = N + C) then G.getD q 0 - L.getD q 0 else G.getD q 0 := fun hn q hq' => by
    rw [hq q hq']
    by_cases e : q < j ∧ (q < N ∨ q = N + C)
    · rw [if_pos e, if_pos ⟨by omega, e.2⟩]
    · rw [if_neg e, if_neg (by
        intro h
        have : q = j := by omega
        subst this
        exact hn h.2)]
  have hyes : (j < N ∨ j = N + C) → (Drew wr fun w =>
          ncQ (ptrV bt) fun t124 =>
          fa1 t124 3 fun t125 =>
          ld1 w t125 fun t126 =>
          iaS 1 t126 (.int .i64 j) fun t128 =>
          ld1 w t128 fun t129 =>
          iaS 1 u (.int .i64 j) fun t132 =>
          ld1 w t132 fun t133 =>
          binQ Tryd.prog w .sub 3 false t129 t133 fun t134 =>
          iaS 1 t126 (.int .i64 j) fun t135 =>
          stW Tryd.prog 3 t135 t134 w fun w =>
          binQ Tryd.prog w .add 3 true (.int .i64 j) (.int .i64 1) fun t136_2 =>
          (∃ (j : Nat) (G' : List Int), j ≤ N + C + 1 ∧ t136_2 = .int .i64 j ∧ TbP base w bt N C c rv gv bv vs R G' B ∧ IntsAt base w u L ∧ Below base w1 w ∧ (∀ q, q < N + C + 1 → G'.getD q 0 = if q < j ∧ (q < N ∨ q = N + C) then G.getD q 0 - L.getD q 0 else G.getD q 0)) ∧ N + C + 1 - (intOf t136_2).toNat < N + C + 1 - (intOf (.int .i64 (j : Int))).toNat) := fun hy => by
    refine r_drew fun w2 k2 _ => ?_
    have t2 := tr.kp k2
    have hu2 := RecAt.kp hur k2
    have s2 := k2.size
    obtain ⟨_, _, _, e3, _⟩ := t2.cells
    have hgl := t2.gl
    have hqj := hq j hlt
    rw [if_neg (by omega)] at hqj
    have b1 := hGs j hlt
    have b2 := hLs j hlt
    rw [r_nc, r_fa, Nat.zero_add, r_ld e3, own_ldK t2.go (by omega), own_ldK hu2 (by omega), hqj, r_sub _ _ (by omega) (by omega)]
    refine r_stI t2.go (by omega) fun w3 hg3 c3 => ?_
    rw [r_add _ _ (by omega) (by omega)]
    refine ⟨⟨j + 1, _, by omega, by go_num, ⟨c3.at t2.box fun e => box_ne t2.box t2.go (by decide) e, t2.bb, ⟨RecAt.chg t2.mat.1 c3 fun k hk e => rec_ne t2.mat.1 t2.go (by decide) k hk e, t2.mat.2.1, fun i x r h1 h2 => RecAt.chg (t2.mat.2.2.1 i x r h1 h2) c3 fun k hk e => (t2.gr i x k h1 hk).1 e, t2.mat.2.2.2⟩, t2.siz, hg3, by rw [List.length_set]; exact hgl, RecAt.chg t2.ba c3 fun k hk e => t2.gb k e hk, t2.bl, t2.gb, t2.gr⟩,
      RecAt.chg hu2 c3 fun k hk e => hug k hk e, br.trans ((Below.mono k2 (by omega)).trans (c3.below (by omega) fun k hk => (RecAt.lt t2.go hk).1)), fun q hq' => ?_⟩, by simp only [intOf]; omega⟩
    rw [set_getD _ (by omega)]
    by_cases e : q = j
    · subst e
      rw [if_pos rfl, if_pos ⟨by omega, hy⟩]
    · rw [if_neg e, hq q hq']
      by_cases e2 : q < j ∧ (q < N ∨ q = N + C)
      · rw [if_pos e2, if_pos ⟨by omega, e2.2⟩]
      · rw [if_neg e2, if_neg fun h => e2 ⟨by omega, h.2⟩]
  by_cases hjN : (j : Int) < (N : Int)
  · simp only [decide_eq_true hjN, r_gdTF, r_pickT, Join, r_condT]
    exact hyes (.inl (by omega))
  · simp only [decide_eq_false hjN, r_gdFF, r_pickF]
    rw [r_sub _ _ (by omega) (by omega), r_eql]
    by_cases hjl : (j : Int) = (N : Int) + C + 1 - 1
    · simp only [decide_eq_true hjl, Join, r_condT]
      exact hyes (.inr (by omega))
    · simp only [decide_eq_false hjl, Join, r_condF]
      rw [r_add _ _ (by omega) (by omega)]
      exact ⟨⟨j + 1, G', by omega, by go_num, tr, hur, br, hno (by omega)⟩, by simp only [intOf]; omega⟩

end
end Go.Proofs.YtbekeccfjmoonaaDoor

/- Contract: tabled, whole. -/
namespace Go.Proofs.YtbekeccfjmoonaaDoor
open Go.Lf Go.RowKit Go.Dt Go.Ht

theorem mx_rng (RR : List (List Int)) (N C c k : Nat) : 0 ≤ mx RR N C c k ∧ mx RR N C c k ≤ 1 := by
  unfold mx
  split <;> split <;> omega
theorem co_ldK {b0 : Nat} {w : World} {cv : Value} {vs : List Value} (h : RecAt 31 1 vE b0 w cv vs) {k : Nat} (hk : k < vs.length) : ∀ K : Value → Prop, (iaS 1 cv (.int .i64 k) fun p => ld1 w p K) = K vs[k] := fun K => by
  obtain ⟨g, cap, e, _, hc⟩ := own_at vE_len h (List.getElem?_eq_getElem hk)
  have hc := hc 0 _ rfl
  simp only [Nat.mul_one, Nat.add_zero] at hc
  have hkk : (k : Int).toNat = k := by omega
  rw [e, r_iaS _ _ _ _ _ _ _ (by omega) (by omega), hkk, Nat.mul_one, Nat.zero_add, r_ld hc]

section
variable {base bt N C c : Nat} {rv gv bv : Value} {vs : List Value} {R : List (List Int)} {G B : List Int}

set_option maxRecDepth 100000 in
set_option maxHeartbeats 4000000 in
theorem r32_1 {b0 : Nat} {w0 w1 : World} {u cv : Value} {vsc : List Value} {RR : List (List Int)} {next : Value → World → Prop} (hP : TbP base w0 bt N C c rv gv bv vs R G B) (hcC : c < C) (hN : N ≤ 100) (hC : C ≤ 16) (hb : base ≤ w0.heap.size)
    (hco : RecAt 31 1 vE b0 w0 cv vsc) (hvl : vsc.length = N) (hRl : RR.length = N) (hrows : ∀ (i : Nat) x r, vsc[i]? = some x → RR[i]? = some r → IntsAt b0 w0 x r ∧ r.length ≤ 1000)
    (k01 : Kp w0 w1) (hu : IntsAt w0.heap.size w1 u (List.replicate (N + C + 1) 0)) (hGs : ∀ q, q < N + C + 1 → -1000 ≤ G.getD q 0 ∧ G.getD q 0 ≤ 1000)
    (hnext : ∀ w' rv' bv' L G', TbP base w' bt N C (c + 1) rv' gv bv' (vs ++ [u]) (R ++ [L]) G' (B ++ [((N + c : Nat) : Int)]) → (∀ q, q < N + C + 1 → L.getD q 0 = mx RR N C c q) → (∀ q, q < N + C + 1 → G'.getD q 0 = if q < N ∨ q = N + C then G.getD q 0 - mx RR N C c q else G.getD q 0) → Below base w0 w' → next (.int .i64 ((c : Int) + 1)) w') :
    S32L1 (ptrV bt) (.int .i64 ((N : Int) + C + 1)) (.int .i64 c) u cv (.int .i64 N) next w1 := by
  unfold S32L1
  refine ⟨fun t wr => ∃ (k : Nat) (L : List Int), k ≤ N ∧ t = .int .i64 k ∧ IntsAt w0.heap.size wr u L ∧ L.length = N + C + 1 ∧ Kp w0 wr ∧ ∀ q, q < N + C + 1 → L.getD q 0 = if q < k then mx RR N C c q else 0, fun t _ => N - (intOf t).toNat,
    ⟨0, _, by omega, rfl, hu, by simp, k01, fun q hq => by rw [if_neg (by omega), getD_lt _ _ _ (by simpa using hq)]; simp⟩, ?_⟩
  rintro _ _ wr ⟨k, L, hk, rfl, hI, hLl, kr, hq⟩
  have sr := kr.size
  by_cases hlt : k < N
  · have hlt' : (k : Int) < (N : Int) := by omega
    have hkv : k < vsc.length := by omega
    rw [r_lss, decide_eq_true hlt', r_condT, co_ldK (hco.kp kr) hkv]
    obtain ⟨hrow, hrl⟩ := hrows k vsc[k] RR[k] (List.getElem?_eq_getElem hkv) (List.getElem?_eq_getElem (by omega))
    refine r_use fok19 (has19_calls (c := (c : Int)) wr (RecAt.rd iC_len (RecAt.kp hrow kr)) hrl) rfl ?_
    rintro _ w2 ⟨rfl, k2⟩
    refine ⟨_, rfl, ?_⟩
    have hI2 := RecAt.kp hI k2
    have kr2 := Kp.trans kr k2
    have hmx : mx RR N C c k = if ((c : Nat) : Int) ∈ RR[k] then 1 else 0 := by
      unfold mx
      rw [if_pos hlt, getD_lt _ _ _ (by omega)]
    by_cases hm : ((c : Nat) : Int) ∈ RR[k]
    · rw [if_pos hm] at hmx
      rw [decide_eq_true hm]
      simp only [Join, r_condT]
      refine r_stI hI2 (by omega) fun w3 hI3 c3 => ?_
      rw [r_add _ _ (by omega) (by omega)]
      refine ⟨⟨k + 1, _, by omega, by go_num, hI3, by rw [List.length_set]; exact hLl, Kp.of_chg kr2 c3 fun q hq' => (RecAt.lt hI2 hq').1, fun q hq' => ?_⟩, by simp only [intOf]; omega⟩
      rw [set_getD _ (by omega)]
      by_cases e : q = k
      · rw [if_pos e, if_pos (by omega), e, hmx]
      · rw [if_neg e, hq q hq']
        by_cases e2 : q < k
        · rw [if_pos e2, if_pos (by omega)]
        · rw [if_neg e2, if_neg (by omega)]
    · rw [if_neg hm] at hmx
      rw [decide_eq_false hm]
      simp only [Join, r_condF]
      rw [r_add _ _ (by omega) (by omega)]
      refine ⟨⟨k + 1, L, by omega, by go_num, hI2, hLl, kr2, fun q hq' => ?_⟩, by simp only [intOf]; omega⟩
      rw [hq q hq']
      by_cases e : q = k
      · rw [if_neg (by omega), if_pos (by omega), e, hmx]
      · by_cases e2 : q < k
        · rw [if_pos e2, if_pos (by omega)]
        · rw [if_neg e2, if_neg (by omega)]
  have hlt' : ¬ (k : Int) < (N : Int) := by omega
  obtain rfl : k = N := by omega
  have tr := hP.kp kr
  obtain ⟨d0, _⟩ := tr.cells
  rw [r_lss, decide_eq_false hlt', r_condF, r_nc, r_fa, Nat.zero_add, r_ld d0, r_add _ _ (by omega) (by omega), r_sub _ _ (by omega) (by omega), show (k : Int) + (c : Int) = ((k + c : Nat) : Int) by omega, show (k : Int) + (C : Int) + 1 - 1 = ((k + C : Nat) : Int) by omega]
  refine r_stI hI (by omega) fun w3 hI3 c3 => r_stI hI3 (by rw [List.length_set]; omega) fun w4 hI4 c4 => ?_
  have hlo : ∀ q, u.ownBlock = some q → w0.heap.size ≤ q := fun q hq' => (RecAt.lt hI hq').1
  have k4 := Kp.of_chg (Kp.of_chg kr c3 hlo) c4 hlo
  have s4 := k4.size
  have hLv : ∀ q, q < k + C + 1 → (((L.set (k + c) 1).set (k + C) 1).getD q 0) = mx RR k C c q := fun q hq' => by
    rw [set_getD _ (by rw [List.length_set]; omega), set_getD _ (by omega), hq q hq']
    unfold mx
    by_cases e1 : q = k + C
    · rw [if_pos e1, if_neg (by omega), if_pos (.inr e1)]
    · rw [if_neg e1]
      by_cases e2 : q = k + c
      · rw [if_pos e2, if_neg (by omega), if_pos (.inl e2)]
      · rw [if_neg e2]
        by_cases e3 : q < k
        · rw [if_pos e3, if_pos e3]
        · rw [if_neg e3, if_neg e3, if_neg (by omega)]
  have hL4 : ((L.set (k + c) 1).set (k + C) 1).length = k + C + 1 := by rw [List.length_set, List.length_set]; exact hLl
  generalize (L.set (k + c) 1).set (k + C) 1 = L4 at *
  have t4 := hP.kp k4
  have hold : ∀ {v : Value} {X : List Int}, IntsAt base w0 v X → ∀ q, u.ownBlock = some q → v.ownBlock ≠ some q := fun h q h1 h2 => by
    have := (RecAt.lt h h2).2; have := hlo q h1; omega
  refine r32_put t4 (RecAt.down hI4 hb) hL4 (by omega) hN (by omega) (fun q hq' => ⟨hold hP.go q hq', hold hP.ba q hq', fun i x hx => ?_⟩) fun rv' bv' w5 t5 b5 => ?_
  · have hlt := (List.getElem?_eq_some_iff.1 hx).1
    exact hold (hP.mat.2.2.1 i x _ hx (List.getElem?_eq_getElem (by rw [← hP.mat.2.1]; exact hlt))) q hq'
  have hvsl : vs.length = R.length := hP.mat.2.1
  have hu5 : IntsAt base w5 u L4 := t5.mat.2.2.1 vs.length u L4 (by simp) (by rw [hvsl]; simp)
  have s5 := b5.size
  refine r32_2 (c := c + 1) t5 hu5 hL4 (fun q hq' => hold hP.go q hq') hN (by omega) (by omega) (by omega) hGs (fun q hq' => ?_) (fun w6 G' t6 hg6 b6 => ?_) (by omega)
  · rw [hLv q hq']; exact mx_rng RR k C c q
  · refine hnext w6 rv' bv' L4 G' t6 hLv (fun q hq' => ?_) (((Below.mono k4 hb).trans b5).trans b6)
    rw [hg6 q hq', hLv q hq']

end

/-- The first tableau. -/
def tb0 (RR : List (List Int)) (N C : Nat) : Sx.Tb := ⟨mx RR N C, fun q => if q < N ∨ q = N + C then - sumN (fun i => mx RR N C i q) C else 0, fun i => N + i⟩

set_option maxRecDepth 100000 in
theorem bd84 {a b : Int} {K : Value → Prop} : bdQ Tryd.prog 84 [(0, .int .i64 a), (1, .int .i64 b), (5, .int .i64 1)] K = K (.agg #[.int .i64 a, .int .i64 b, nilS, nilS, nilS, .int .i64 1]) := by kernel_rfl

set_option maxRecDepth 100000 in
set_option maxHeartbeats 4000000 in
theorem tabled_calls {b0 bp bf bm : Nat} {fv tv pv cv : Value} {vsc : List Value} {P : List C2} {PU : List Pu} (w : World) (hP : PrAt b0 w bp bf bm fv tv pv cv vsc P PU) (hC : P.length ≤ 16) (hN : PU.length ≤ 100) :
    Calls Tryd.prog 32 #[ptrV bp] w fun e w' => Kp w w' ∧ ∃ bt rv gv bv vs R G B, e = .returned (ptrV bt) ∧ TbAt w.heap.size w' bt PU.length P.length rv gv bv vs R G B ∧ IsTb PU.length P.length R G B (tb0 (PU.map (covOf P)) PU.length P.length) := by
  obtain ⟨p0, p1, p2, p3⟩ := hP.cells
  obtain ⟨f0, f1⟩ := hP.fl.cells
  obtain ⟨pa, pc, ep, _⟩ := hP.pu.len
  obtain ⟨fa, fc, ef, _⟩ := hP.fl.cl.len
  have lnp : ∀ K : Value → Prop, ln1 pv K = K (.int .i64 PU.length) := fun K => by rw [ep]; rfl
  have lnf : ∀ K : Value → Prop, ln1 fv K = K (.int .i64 P.length) := fun K => by rw [ef]; rfl
  have lnc : ∀ K : Value → Prop, ln1 cv K = K (.int .i64 PU.length) := fun K => by
    obtain ⟨ca, cc, ec, _⟩ := hP.co.len
    rw [ec, hP.len]; rfl
  refine lift32 ?_
  unfold S32
  refine r_drew fun w1 k1 _ => ?_
  rw [r_nc, r_fa, Nat.zero_add, r_ld (cell_later k1 p2), lnp, r_nc, r_fa, Nat.zero_add, r_ld (cell_later k1 p0), r_nc, r_fa, Nat.zero_add, r_ld (cell_later k1 f0), lnf, bd84]
  refine r_box fun bt w2 e2 s2 h2 k2 => r_keep k2 ?_
  have h2' : w2.heap[bt]? = some (.cells #[.int .i64 PU.length, .int .i64 P.length, nilS, nilS, nilS, .int .i64 1] 84 (0, 0)) := h2
  refine r_drew fun w3 k3 _ => ?_
  have h3 := block_below h2' k3
  have d0 : w3.cell? ⟨bt, 0, none⟩ = some (.int .i64 PU.length) := by rw [cell_row h3]; rfl
  have d1 : w3.cell? ⟨bt, 1, none⟩ = some (.int .i64 P.length) := by rw [cell_row h3]; rfl
  rw [r_nc, r_fa, Nat.zero_add, r_ld d0, r_nc, r_fa, Nat.zero_add, r_ld d1, r_add _ _ (by omega) (by omega), r_add _ _ (by omega) (by omega), show (PU.length : Int) + (P.length : Int) + 1 = ((PU.length + P.length + 1 : Nat) : Int) by omega]
  refine mk31' (by omega) fun gv w4 hg k4 hown => ?_
  have h4 := block_below h3 k4
  have d3 : w4.cell? ⟨bt, 3, none⟩ = some nilS := by rw [cell_row h4]; rfl
  rw [r_nc, r_fa, Nat.zero_add, st31' hg d3 (frozen_row h4)]
  have c5 : Chg (fun q => q = bt) w4 (w4.setCell ⟨bt, 3, none⟩ gv) := Chg.setCell _ _ rfl
  have h5 := setCell_block (w' := w4.setCell ⟨bt, 3, none⟩ gv) h4 rfl
  have hg5 := RecAt.chg hg c5 fun k hk e => box_ne h4 hg (by decide) (e ▸ hk)
  generalize w4.setCell ⟨bt, 3, none⟩ gv = w5 at *
  have s1 := k1.size
  have s3 := k3.size
  have s4 := k4.size
  have k05 : Kp w w5 := Kp.of_chg (Kp.trans k1 (Kp.trans k2 (Kp.trans k3 k4))) c5 fun q e => by omega
  have P5 := hP.kp k05
  obtain ⟨q0, q1, q2, q3⟩ := P5.cells
  obtain ⟨r0, _⟩ := P5.fl.cells
  rw [r_nc, r_fa, Nat.zero_add, r_ld q0, r_nc, r_fa, Nat.zero_add, r_ld r0, lnf]
  have hsum : ∀ c q, c ≤ P.length → -100 ≤ sumN (fun i => mx (PU.map (covOf P)) PU.length P.length i q) c ∧ sumN (fun i => mx (PU.map (covOf P)) PU.length P.length i q) c ≤ 100 := fun c q hc => by
    have := Sx.sum_bound (B := 1) (f := fun i => mx (PU.map (covOf P)) PU.length P.length i q) (n := c) fun i _ => by
      have := mx_rng (PU.map (covOf P)) PU.length P.length i q
      omega
    omega
  unfold S32L0
  refine ⟨fun t wr => ∃ (c : Nat) (rv bv : Value) (vs : List Value) (R : List (List Int)) (G B : List Int), c ≤ P.length ∧ t = .int .i64 c ∧ TbP w.heap.size wr bt PU.length P.length c rv gv bv vs R G B ∧ Kp w wr ∧ (∀ i k, i < c → k ≤ PU.length + P.length → hat R i k = mx (PU.map (covOf P)) PU.length P.length i k) ∧
      (∀ q, q < PU.length + P.length + 1 → G.getD q 0 = if q < PU.length ∨ q = PU.length + P.length then - sumN (fun i => mx (PU.map (covOf P)) PU.length P.length i q) c else 0) ∧ ∀ i, i < c → B.getD i 0 = ((PU.length + i : Nat) : Int), fun t _ => P.length - (intOf t).toNat,
    ⟨0, nilS, nilS, [], [], _, [], by omega, rfl, ⟨h5, by omega, ⟨RecAt.nil, rfl, by simp, by simp⟩, ⟨rfl, fun i hi => by omega⟩, RecAt.down hg5 (by omega), by simp, RecAt.nil, rfl, fun k _ hk => (by cases hk), fun i u k hu => (by simp at hu)⟩, k05, fun i k hi => by omega, fun q hq => ?_, fun i hi => by omega⟩, ?_⟩
  · rw [getD_lt _ _ _ (by simpa using hq)]
    simp [sumN]
  rintro _ _ wr ⟨c, rv, bv, vs, R, G, B, hc, rfl, tr, kr, hR, hG, hB⟩
  have sr := kr.size
  by_cases hlt : c < P.length
  case neg =>
    have hlt' : ¬ (c : Int) < (P.length : Int) := by omega
    obtain rfl : c = P.length := by omega
    rw [r_lss, decide_eq_false hlt', r_condF]
    exact ⟨kr, bt, rv, gv, bv, vs, R, G, B, rfl, ⟨tr.box, tr.bb, tr.mat, tr.siz, tr.go, tr.gl, tr.ba, tr.bl, tr.gb, tr.gr⟩, ⟨fun i k h1 h2 => hR i k h1 h2, fun k h2 => hG k (by omega), fun i h1 => hB i h1⟩⟩
  have hlt' : (c : Int) < (P.length : Int) := by omega
  rw [r_lss, decide_eq_true hlt', r_condT]
  refine mk31' (by omega) fun u w6 hu k6 hown6 => ?_
  have P6 := hP.kp (Kp.trans kr k6)
  obtain ⟨_, _, _, q36⟩ := P6.cells
  have Pr := hP.kp kr
  rw [r_nc, r_fa, Nat.zero_add, r_ld q36, lnc, show ((PU.length + P.length + 1 : Nat) : Int) = (PU.length : Int) + (P.length : Int) + 1 by omega]
  have hmap : ∀ i : Nat, (PU.map (covOf P))[i]? = (PU[i]?).map (covOf P) := fun i => List.getElem?_map ..
  refine r32_1 (RR := PU.map (covOf P)) tr hlt hN hC (by omega) Pr.co Pr.len (by simp) (fun i x r hx hr => ?_) k6 hu (fun q hq => ?_) fun w' rv' bv' L G' t' hL hG' b' => ?_
  · rw [hmap, Option.map_eq_some_iff] at hr
    obtain ⟨p, hp, rfl⟩ := hr
    exact ⟨Pr.rows i x p hx hp, by simp [covOf]⟩
  · rw [hG q hq]
    have := hsum c q (by omega)
    split <;> omega
  · have hRl : R.length = c := tr.siz.1
    have hBl : B.length = c := tr.bl
    refine ⟨⟨c + 1, rv', bv', _, _, G', _, by omega, by go_num, t', Below.trans kr (Below.mono b' (Nat.le_refl _)), fun i k hi hk => ?_, fun q hq => ?_, fun i hi => ?_⟩, by simp only [intOf]; omega⟩
    · unfold hat
      by_cases e : i < c
      · rw [List.getD_eq_getElem?_getD (l := R ++ [L]), List.getElem?_append_left (by omega), ← List.getD_eq_getElem?_getD]
        exact hR i k e hk
      · have e2 : i = R.length := by omega
        rw [e2, List.getD_eq_getElem?_getD (l := R ++ [L]), List.getElem?_append_right (Nat.le_refl _), Nat.sub_self, hRl]
        exact hL k (by omega)
    · rw [hG' q hq, hG q hq]
      by_cases e : q < PU.length ∨ q = PU.length + P.length
      · rw [if_pos e, if_pos e, if_pos e]
        show _ = -(sumN (fun i => mx (PU.map (covOf P)) PU.length P.length i q) c + mx (PU.map (covOf P)) PU.length P.length c q)
        omega
      · rw [if_neg e, if_neg e, if_neg e]
    · by_cases e : i < c
      · rw [List.getD_eq_getElem?_getD, List.getElem?_append_left (by omega), ← List.getD_eq_getElem?_getD]
        exact hB i e
      · have e2 : i = B.length := by omega
        rw [e2, List.getD_eq_getElem?_getD, List.getElem?_append_right (Nat.le_refl _), Nat.sub_self, hBl]
        rfl

end Go.Proofs.YtbekeccfjmoonaaDoor
