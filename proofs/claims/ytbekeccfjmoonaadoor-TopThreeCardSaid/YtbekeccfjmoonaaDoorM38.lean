/- Texts of my own, merged by program: Ns Ki. -/
import Derived.Test.YtbekeccfjmoonaaDoorM37
import Derived.Test.YtbekeccfjmoonaaDoorM22
import Derived.Test.YtbekeccfjmoonaaDoorM36
set_option linter.all false
/- Contract: Shares. -/
namespace Go.Proofs.YtbekeccfjmoonaaDoor
open Go.Lf Go.RowKit Go.Dt Go.Ht

set_option maxRecDepth 100000 in
theorem bd33_0 {K : Value → Prop} : bdQ Tryd.prog 33 [] K = K (.agg #[nilS, .int .i64 0]) := by kernel_rfl
set_option maxRecDepth 100000 in
theorem bd33 {a : Option Addr} {n c : Nat} {x : Int} {K : Value → Prop} : bdQ Tryd.prog 33 [(0, .slice a n c), (1, .int .i64 x)] K = K (.agg #[.slice a n c, .int .i64 x]) := by kernel_rfl
set_option maxRecDepth 100000 in
theorem st33 {w : World} {b : Nat} {x y : Value} {a : Option Addr} {n c : Nat} {d : Int} {K : World → Prop} (h : w.heap[b]? = some (.cells #[x, y] 33 (0, 0))) (hk : ∀ w', Chg (fun k => k = b) w w' → w'.heap.size = w.heap.size → w'.heap[b]? = some (.cells #[.slice a n c, .int .i64 d] 33 (0, 0)) → K w') : stW Tryd.prog 33 (ptrV b) (.agg #[.slice a n c, .int .i64 d]) w K :=
  r_stAll (n := 2) (by kernel_rfl) rfl (by intro u hu; simp [Value.cells] at hu; rcases hu with rfl | rfl <;> rfl) h rfl fun w' h1 h2 h3 => hk w' h1 h2 h3
theorem w_box {w : World} {b : Nat} {x y : Value} (h : w.heap[b]? = some (.cells #[x, y] 33 (0, 0))) (K : Value → Prop) : ldN 2 w (ptrV b) K = K (.agg #[x, y]) := r_ldRow h rfl

set_option maxRecDepth 100000 in
set_option maxHeartbeats 4000000 in
/-- Shares: the simplex run's last number says whether it is OK. -/
theorem shares_calls {v tv : Value} {l : List ByteArray} {M : Nat → Nat → Int} {s : Nat → Int} (w : World) (hr : RdB w v l) (hs : ∀ s ∈ l, s.size ≤ 9223372036854775807) (hT : TilesAt w tv) (hfl : flB l = true) (hC : (cellsB l).length ≤ 16) (hN : (putsU (cellsB l)).length ≤ 100)
    (hc : Sx.Cols (putsU (cellsB l)).length (cellsB l).length M s) (hi : Sx.Inv (putsU (cellsB l)).length (cellsB l).length M (tb0 ((putsU (cellsB l)).map (covOf (cellsB l))) (putsU (cellsB l)).length (cellsB l).length)) :
    Calls Tryd.prog 12 #[v, tv] w fun e w' => Kp w w' ∧ ∃ (S : Sx.Tb) (a : Option Addr) (n c : Nat) (d : Int), Sx.Inv (putsU (cellsB l)).length (cellsB l).length M S ∧ (∀ k, k < (putsU (cellsB l)).length + (cellsB l).length → 0 ≤ S.g k) ∧
      e = .returned (.tuple #[.agg #[.slice a n c, .int .i64 d], .int .i64 (if S.g ((putsU (cellsB l)).length + (cellsB l).length) = 0 then 0 else 10)]) := by
  refine lift12 ?_
  unfold S12
  refine r_box fun b4 w1 e1 s1 h1 k1 => ?_
  have h1' : w1.heap[b4]? = some (.cells #[nilS, .int .i64 0] 33 (0, 0)) := h1
  refine r_use fok17 (of_calls w1 (hr.kp k1) hs (hT.kp k1)) rfl ?_
  rintro _ w2 ⟨k2, ⟨_, bp, bf, bm, fv, pv, cv, vsc, rfl, hP⟩ | ⟨hx, _⟩⟩
  case inr => rw [hfl] at hx; cases hx
  refine ⟨_, rfl, ?_⟩
  rw [r_ex2a, r_ex2b, r_neq, decide_eq_true rfl, Bool.not_true, r_condF]
  generalize cellsB l = P at *
  generalize putsU P = PU at *
  refine r_use fok32 (tabled_calls w2 hP hC hN) rfl ?_
  rintro _ w3 ⟨k3, bt, rv, gv, bv, vs, R, G, B, rfl, hTb, hIs⟩
  refine ⟨_, rfl, ?_⟩
  have sz1 := k1.size
  have sz2 := k2.size
  have sz3 := k3.size
  refine r_use fok33 (run_calls w3 hc hi hIs hC hN hTb k3.size) rfl ?_
  rintro _ w4 ⟨rfl, b4', R', G', B', S, hTb4, hIs4, hi4, hend⟩
  refine ⟨_, rfl, ?_⟩
  have k23 : Kp w2 w4 := Below.trans k3 b4'
  have k14 := Kp.trans k2 k23
  refine r_drew fun w5 k5 _ => ?_
  have t5 := hTb4.kp k5
  obtain ⟨d0, d1, d2, d3, d4, d5⟩ := t5.cells
  obtain ⟨hsm, hsg⟩ := tb_small hc hi4 hIs4 hC
  have hgl := t5.gl
  rw [r_nc, r_fa, r_ld d3, r_nc, r_fa, Nat.zero_add, r_ld d0, r_nc, r_fa, r_ld d1, r_add _ _ (by omega) (by omega), show (PU.length : Int) + (P.length : Int) = ((PU.length + P.length : Nat) : Int) by omega, own_ldK t5.go (by omega), hIs4.g _ (Nat.le_refl _), r_neq]
  have k15 := Kp.trans k14 k5
  have h45 := block_below h1' k15
  by_cases h0 : S.g (PU.length + P.length) = 0
  case neg =>
    rw [decide_eq_false h0, Bool.not_false, r_condT, bd33_0]
    refine st33 h45 fun w6 c6 s6 h6 => ?_
    rw [w_box h6]
    exact ⟨Kp.of_chg (Kp.trans k1 k15) c6 fun q e => by omega, S, none, 0, 0, 0, hi4, hend, by rw [if_neg h0]⟩
  rw [decide_eq_true h0, Bool.not_true, r_condF]
  refine r_drew fun w6 k6 _ => ?_
  have t6 := t5.kp k6
  obtain ⟨d0, d1, d2, d3, d4, d5⟩ := t6.cells
  have k16 := Kp.trans k15 k6
  have s6 := k16.size
  refine r_join1 (fun t wj => ∃ b9 nv, t = ptrV b9 ∧ wj.heap[b9]? = some (.cells #[nv, .int .i64 1] 33 (0, 0)) ∧ w6.heap.size ≤ b9 ∧ IntsAt w6.heap.size wj nv (List.replicate PU.length 0) ∧ Kp w6 wj) ?_ fun kk hkk => ?_
  case refine_2 =>
    rw [r_nc, r_fa, Nat.zero_add, r_ld d0, r_nc, r_fa, r_ld d5]
    refine ⟨?_, ?_, trivial⟩
    · refine mk31' (by omega) fun nv w7 hn k7 _ => r_keep k7 ?_
      obtain ⟨na, nc, en, _⟩ := hn.len
      have s7 := k7.size
      rw [en, bd33]
      refine r_box fun b9 w8 e8 s8 h8 k8 => r_keep k8 ?_
      refine st33 h8 fun w9 c9 s9 h9 => ?_
      have k79 : Kp w7 w9 := Kp.of_chg k8 c9 fun q e => by omega
      refine hkk _ _ ⟨b9, nv, rfl, by rw [en]; exact h9, by omega, RecAt.kp hn k79, Kp.trans k7 k79⟩
    · refine r_box fun b9 w7 e7 s7 h7 k7 => r_keep k7 ?_
      refine mk31' (by omega) fun nv w8 hn k8 _ => r_keep k8 ?_
      obtain ⟨na, nc, en, _⟩ := hn.len
      have s7 := k7.size
      rw [en, bd33]
      refine st33 (block_below h7 k8) fun w9 c9 s9 h9 => ?_
      refine hkk _ _ ⟨b9, nv, rfl, by rw [en]; exact h9, by omega, RecAt.down (RecAt.chg hn c9 fun k hk e => ?_) (by omega), Kp.of_chg (Kp.trans k7 k8) c9 fun q e => by omega⟩
      have := (RecAt.lt hn hk).1
      omega
  rintro _ w7 ⟨b9, nv, rfl, h9, hb9, hn, k67⟩
  have t7 := t6.kp k67
  obtain ⟨d0, d1, d2, d3, d4, d5⟩ := t7.cells
  have hbl := t7.bl
  have lnb : ∀ K : Value → Prop, ln1 bv K = K (.int .i64 P.length) := fun K => by
    obtain ⟨ba, bc, eb, _⟩ := t7.ba.len
    rw [eb, hbl]; rfl
  rw [r_nc, r_fa, r_ld d4, lnb]
  unfold S12L0
  refine ⟨fun t wr => ∃ (i : Nat) (X : List Int), i ≤ P.length ∧ t = .int .i64 i ∧ IntsAt w6.heap.size wr nv X ∧ X.length = PU.length ∧ (∀ q, q < PU.length → 0 ≤ X.getD q 0 ∧ X.getD q 0 ≤ 1000) ∧ Kp w6 wr ∧ wr.heap[b9]? = some (.cells #[nv, .int .i64 1] 33 (0, 0)), fun t _ => P.length - (intOf t).toNat,
    ⟨0, _, by omega, rfl, hn, by simp, fun q hq => by rw [getD_lt _ _ _ (by simpa using hq)]; simp, k67, h9⟩, ?_⟩
  rintro _ _ wr ⟨i, X, hil, rfl, hX, hXl, hXs, kr, h9r⟩
  have tr := t6.kp kr
  obtain ⟨d0, d1, d2, d3, d4, d5⟩ := tr.cells
  have sr := kr.size
  have n0 : wr.cell? ⟨b9, 0, none⟩ = some nv := by rw [cell_row h9r]; rfl
  have n1 : wr.cell? ⟨b9, 1, none⟩ = some (.int .i64 1) := by rw [cell_row h9r]; rfl
  by_cases hlt : i < P.length
  · have hlt' : (i : Int) < (P.length : Int) := by omega
    rw [r_lss, decide_eq_true hlt', r_condT, own_ldK tr.ba (by omega), hIs4.b i hlt, r_nc, r_fa, Nat.zero_add, r_ld d0, r_lss]
    by_cases hb : ((S.b i : Nat) : Int) < (PU.length : Int)
    · rw [decide_eq_true hb]
      simp only [Join, r_condT]
      refine r_drew fun w8 k8 _ => ?_
      have t8 := tr.kp k8
      obtain ⟨d0, d1, d2, d3, d4, d5⟩ := t8.cells
      have n08 := cell_later k8 n0
      obtain ⟨u, hu, Iu, ldu, _⟩ := t8.rowI hlt
      have hul : (R'.getD i []).length = PU.length + P.length + 1 := t8.siz.2 i hlt
      have e4 : (R'.getD i []).getD (PU.length + P.length) 0 = S.T i (PU.length + P.length) := hIs4.T i _ hlt (Nat.le_refl _)
      have hX8 := RecAt.kp hX k8
      rw [r_fa, Nat.zero_add, r_ld n08, r_nc, r_fa, r_ld d2, ldu, r_nc, r_fa, Nat.zero_add, r_ld d0, r_nc, r_fa, r_ld d1, r_add _ _ (by omega) (by omega), show (PU.length : Int) + (P.length : Int) = ((PU.length + P.length : Nat) : Int) by omega, own_ldK Iu (by omega), e4]
      refine r_stI hX8 (by omega) fun w9 hX9 c9 => ?_
      rw [r_add _ _ (by omega) (by omega)]
      have hrhs := hi4.rhs i hlt
      have hrl := Sx.rhs_le hc hi4 hlt
      have hnb : nv.ownBlock ≠ some b9 := box_ne h9r hX (by decide)
      refine ⟨⟨i + 1, _, by omega, by go_num, hX9, by rw [List.length_set]; exact hXl, fun q hq => ?_, Kp.of_chg (Kp.trans kr k8) c9 fun k hk => (RecAt.lt hX8 hk).1, c9.at (block_below h9r k8) hnb⟩, by simp only [intOf]; omega⟩
      rw [set_getD _ (by omega)]
      split
      · omega
      · exact hXs q hq
    · rw [decide_eq_false hb]
      simp only [Join, r_condF]
      rw [r_add _ _ (by omega) (by omega)]
      exact ⟨⟨i + 1, X, by omega, by go_num, hX, hXl, hXs, kr, h9r⟩, by simp only [intOf]; omega⟩
  have hlt' : ¬ (i : Int) < (P.length : Int) := by omega
  rw [r_lss, decide_eq_false hlt', r_condF, r_fa, Nat.zero_add, r_ld n0, r_fa, Nat.zero_add, r_ld n1]
  refine r_use fok34 (lowest_calls wr hX (by omega) (fun q hq => hXs q (by omega))) rfl ?_
  rintro _ w8 ⟨rfl, c8, hX8⟩
  refine ⟨_, rfl, ?_⟩
  have hnb : nv.ownBlock ≠ some b9 := box_ne h9r hX (by decide)
  have h98 := c8.at h9r hnb
  have k68 : Kp w6 w8 := Kp.of_chg kr c8 fun k hk => (RecAt.lt hX hk).1
  have n08 : w8.cell? ⟨b9, 0, none⟩ = some nv := by rw [cell_row h98]; rfl
  rw [r_ex2a, r_ex2b, r_fa, Nat.zero_add, st31' hX8 n08 (frozen_row h98)]
  have c9 : Chg (fun q => q = b9) w8 (w8.setCell ⟨b9, 0, none⟩ nv) := Chg.setCell _ _ rfl
  have h99 := setCell_block (w' := w8.setCell ⟨b9, 0, none⟩ nv) h98 rfl
  generalize w8.setCell ⟨b9, 0, none⟩ nv = w9 at *
  have n19 : w9.cell? ⟨b9, 0 + 1, none⟩ = some (.int .i64 1) := by rw [cell_row h99]; rfl
  rw [r_fa, st3 n19 (frozen_row h99)]
  have c10 : Chg (fun q => q = b9) w9 (w9.setCell ⟨b9, 0 + 1, none⟩ (.int .i64 1)) := Chg.setCell _ _ rfl
  have h910 := setCell_block (w' := w9.setCell ⟨b9, 0 + 1, none⟩ (.int .i64 1)) h99 rfl
  generalize w9.setCell ⟨b9, 0 + 1, none⟩ (.int .i64 1) = w10 at *
  have h910' : w10.heap[b9]? = some (.cells #[nv, .int .i64 1] 33 (0, 0)) := h910
  have k610 : Kp w6 w10 := Kp.of_chg (Kp.of_chg k68 c9 fun q e => by omega) c10 fun q e => by omega
  have k110 := Kp.trans k16 k610
  obtain ⟨xa, xc, ex, _⟩ := hX.len
  rw [w_box h910', ex]
  refine st33 (block_below h1' k110) fun w11 c11 s11 h11 => ?_
  rw [w_box h11]
  exact ⟨Kp.of_chg (Kp.trans k1 k110) c11 fun q e => by omega, S, xa, X.length, xc, 1, hi4, hend, by rw [if_pos h0]⟩

end Go.Proofs.YtbekeccfjmoonaaDoor

/- Tilings counts the same. -/
namespace Go.Proofs.YtbekeccfjmoonaaDoor
open Go.Lf Go.RowKit Go.Ht Go.Km

theorem fz_spec {L m : Nat} (hL : L ≤ 16) (hm : m < 2 ^ L) (hne : m ≠ 2 ^ L - 1) : fz m < L ∧ m.testBit (fz m) = false ∧ ∀ i, i < fz m → m.testBit i = true := by
  have h16 : m < 2 ^ 16 := Nat.lt_of_lt_of_le hm (Nat.pow_le_pow_right (by omega) hL)
  have hlow : ∀ (n i : Nat), ∀ j, i ≤ j → j < firstZ m n i → m.testBit j = true := by
    intro n
    induction n with
    | zero => intro i j h1 h2; simp only [firstZ] at h2; omega
    | succ n ih =>
      intro i j h1 h2
      unfold firstZ at h2
      by_cases e : m &&& 2 ^ i = 0
      · rw [if_pos e] at h2; omega
      · rw [if_neg e] at h2
        by_cases e2 : j = i
        · subst e2
          have := and_pow0 m j
          rw [decide_eq_false e] at this
          cases h : m.testBit j with
          | true => rfl
          | false => rw [h] at this; cases this
        · exact ih (i + 1) j (by omega) h2
  have hz := firstZ_zero h16 16 0 rfl
  have hb : m.testBit (fz m) = false := by
    have := and_pow0 m (fz m)
    rw [decide_eq_true (show m &&& 2 ^ fz m = 0 from hz)] at this
    cases h : m.testBit (fz m) with
    | false => rfl
    | true => rw [h] at this; cases this
  refine ⟨?_, hb, fun i hi => hlow 16 0 i (Nat.zero_le _) hi⟩
  refine Classical.byContradiction fun hn => hne ?_
  refine Nat.eq_of_testBit_eq fun i => ?_
  rw [Nat.testBit_two_pow_sub_one]
  by_cases h : i < L
  · rw [decide_eq_true h]; exact hlow 16 0 i (Nat.zero_le _) (Nat.lt_of_lt_of_le h (Nat.le_of_not_lt hn))
  · rw [decide_eq_false h]; exact big_bit hm (by omega)
theorem sum_flat {α β : Type} (f : β → Nat) (h : α → List β) : ∀ L : List α, ((L.flatMap h).map f).sum = (L.map fun a => ((h a).map f).sum).sum
  | [] => rfl
  | a :: L => by rw [List.flatMap_cons, List.map_append, List.sum_append, sum_flat f h L]; rfl
theorem sum_oneL {f : Nat → Nat} {a : Nat} : ∀ {L : List Nat}, L.Pairwise (· < ·) → a ∈ L → (∀ q ∈ L, q ≠ a → f q = 0) → (L.map f).sum = f a
  | b :: L, hs, ha, hz => by
    rw [List.pairwise_cons] at hs
    rw [List.map_cons, List.sum_cons]
    by_cases e : b = a
    · subst e
      have : (L.map f).sum = 0 := by
        have h0 : ∀ q ∈ L, f q = 0 := fun q hq => hz q (List.mem_cons_of_mem _ hq) (by have := hs.1 q hq; omega)
        clear hz ha
        have hs2 := hs.2
        clear hs
        induction L with
        | nil => rfl
        | cons c L ih =>
          rw [List.map_cons, List.sum_cons, h0 c (List.mem_cons_self ..), ih (fun q hq => h0 q (List.mem_cons_of_mem _ hq)) (List.pairwise_cons.1 hs2).2]
      omega
    · rw [hz b (List.mem_cons_self ..) e, Nat.zero_add]
      exact sum_oneL hs.2 (by rcases List.mem_cons.1 ha with h | h; exact absurd h.symm e; exact h) fun q hq hne => hz q (List.mem_cons_of_mem _ hq) hne
theorem or_bits (m a b : Nat) : decide (m &&& (2 ^ a ||| 2 ^ b) = 0) = (!m.testBit a && !m.testBit b) := by
  rw [Nat.and_or_distrib_left]
  have e : decide (m &&& 2 ^ a ||| m &&& 2 ^ b = 0) = (decide (m &&& 2 ^ a = 0) && decide (m &&& 2 ^ b = 0)) := by
    by_cases h : m &&& 2 ^ a ||| m &&& 2 ^ b = 0
    · rw [decide_eq_true h]
      obtain ⟨h1, h2⟩ := Nat.or_eq_zero_iff.1 h
      rw [decide_eq_true h1, decide_eq_true h2]; rfl
    · rw [decide_eq_false h]
      by_cases h1 : m &&& 2 ^ a = 0
      · by_cases h2 : m &&& 2 ^ b = 0
        · exact absurd (Nat.or_eq_zero_iff.2 ⟨h1, h2⟩) h
        · rw [decide_eq_false h2, Bool.and_false]
      · rw [decide_eq_false h1, Bool.false_and]
  rw [e, and_pow0, and_pow0]

section
variable {l : List ByteArray}
/-- The places that are left when the cells of m are covered. -/
def lefU (l : List ByteArray) (m q : Nat) : Bool := hq l q && !(m.testBit ((plL l).idxOf q))
/-- What a cover of two cells gives. -/
def gv2 (T : Nat → Nat) (m a b : Nat) : Nat := if (fz m = a ∨ fz m = b) ∧ m.testBit a = false ∧ m.testBit b = false then T (m ||| (2 ^ a ||| 2 ^ b)) else 0

set_option maxHeartbeats 1000000 in
/-- One step of Tilings. -/
theorem til_pl (hR : RegOk l 4) (T : Nat → Nat) (m : Nat) :
    (((putsU (cellsB l)).map (covOf (cellsB l))).map fun r => if decide (((fz m : Nat) : Int) ∈ r) && decide (m &&& bitsN r = 0) then T (m ||| bitsN r) else 0).sum =
      ((plL l).map fun q => (if q % 4 ≠ 3 ∧ q + 1 ∈ plL l then gv2 T m ((plL l).idxOf q) ((plL l).idxOf (q + 1)) else 0) + (if q + 4 ∈ plL l then gv2 T m ((plL l).idxOf q) ((plL l).idxOf (q + 4)) else 0)).sum := by
  have hg : ∀ a b : Nat, (if decide (((fz m : Nat) : Int) ∈ [((a : Nat) : Int), ((b : Nat) : Int)]) && decide (m &&& bitsN [((a : Nat) : Int), ((b : Nat) : Int)] = 0) then T (m ||| bitsN [((a : Nat) : Int), ((b : Nat) : Int)]) else 0) = gv2 T m a b := fun a b => by
    rw [bits_two, or_bits]
    unfold gv2
    by_cases h1 : fz m = a ∨ fz m = b
    · have : ((fz m : Nat) : Int) ∈ [((a : Nat) : Int), ((b : Nat) : Int)] := by
        rcases h1 with h | h <;> simp [h]
      rw [decide_eq_true this, Bool.true_and]
      cases h2 : m.testBit a <;> cases h3 : m.testBit b <;> simp [h1]
    · have : ¬ ((fz m : Nat) : Int) ∈ [((a : Nat) : Int), ((b : Nat) : Int)] := fun h => h1 (by
        simp only [List.mem_cons, List.not_mem_nil, or_false] at h
        omega)
      rw [decide_eq_false this, Bool.false_and, if_neg (by decide), if_neg fun h => h1 h.1]
  unfold putsU putsP
  rw [List.take_length, List.map_map, sum_flat, cells_pl hR, List.map_map]
  congr 1
  refine List.map_congr_left fun q hq' => ?_
  show ((putJ ((plL l).map unC) (unC q) 2).map _).sum = _
  rw [show (2 : Nat) = 0 + 1 + 1 from rfl, putJ_succ, putJ_succ, show putJ ((plL l).map unC) (unC q) 0 = [] from rfl, List.nil_append, List.map_append, List.sum_append]
  have h0 := step_pl hR (q := q) 0
  have h1 := step_pl hR (q := q) 1
  rw [cells_pl hR] at h0 h1
  congr 1
  · by_cases e : q % 4 ≠ 3 ∧ q + 1 ∈ plL l
    · rw [if_pos (h0.2 (.inl ⟨rfl, e⟩)), if_pos e, List.map_cons, List.map_nil, List.sum_cons, List.sum_nil, Nat.add_zero, ← hg]
      simp only [Function.comp, covOf, numI, step_un e.1, idx_map]
    · rw [if_neg (fun h => e (by rcases h0.1 h with h | h; exact h.2; exact absurd rfl h.1)), if_neg e]; rfl
  · by_cases e : q + 4 ∈ plL l
    · rw [if_pos (h1.2 (.inr ⟨by decide, e⟩)), if_pos e, List.map_cons, List.map_nil, List.sum_cons, List.sum_nil, Nat.add_zero, ← hg]
      simp only [Function.comp, covOf, numI, step_un1 (show (1 : Nat) ≠ 0 by decide), idx_map]
    · rw [if_neg (fun h => e (by rcases h1.1 h with h | h; exact absurd h.1 (by decide); exact h.2)), if_neg e]; rfl

set_option maxHeartbeats 1000000 in
theorem til_eq (hR : RegOk l 4) : ∀ (n m : Nat), m < 2 ^ (plL l).length → 2 ^ (plL l).length - 1 ≤ n + m → til (2 ^ (cellsB l).length - 1) ((putsU (cellsB l)).map (covOf (cellsB l))) m = cntU 16 (lefU l m) := by
  have hlen : (cellsB l).length = (plL l).length := by rw [cells_pl hR, List.length_map]
  have hPB := pairs_ok (cellsB l)
  have hst := fun {m} (hm : m < 2 ^ (plL l).length) (hne : m ≠ 2 ^ (plL l).length - 1) => til_step hPB (m := m) (by rw [hlen]; exact hm) (by rw [hlen]; exact hne)
  have hfull : ∀ m, m = 2 ^ (plL l).length - 1 → til (2 ^ (cellsB l).length - 1) ((putsU (cellsB l)).map (covOf (cellsB l))) m = cntU 16 (lefU l m) := fun m e => by
    rw [e, hlen, til_full, cntU_to (a := 16) (b := 0) (by omega) (by omega) fun q _ _ => ?_]
    · rfl
    · unfold lefU
      cases h : hq l q with
      | false => rfl
      | true =>
        have := List.idxOf_lt_length_iff.2 ((pl_mem hR).2 h)
        rw [Nat.testBit_two_pow_sub_one, decide_eq_true this]; rfl
  intro n
  induction n with
  | zero => intro m hm h; exact hfull m (by omega)
  | succ n ih =>
    intro m hm h
    by_cases hne : m = 2 ^ (plL l).length - 1
    · exact hfull m hne
    have hp16 := pl_len l
    obtain ⟨f1, f2, f3⟩ := fz_spec hp16 hm hne
    obtain ⟨q0, hq0e⟩ : ∃ q0, q0 = (plL l)[fz m] := ⟨_, rfl⟩
    have hq0 : q0 ∈ plL l := by rw [hq0e]; exact List.getElem_mem _
    have hi0 : (plL l).idxOf q0 = fz m := by rw [hq0e]; exact idx_at (pl_sorted l) f1
    have hq0h := (pl_mem hR).1 hq0
    have hq16 : q0 < 16 := List.mem_range.1 (List.mem_filter.1 hq0).1
    have hlow : ∀ q, q < q0 → lefU l m q = false := fun q hlt => by
      unfold lefU
      cases e : hq l q with
      | false => rfl
      | true =>
        have := idx_lt (pl_sorted l) ((pl_mem hR).2 e) hq0 hlt
        rw [f3 _ (by omega)]; rfl
    have hat : lefU l m q0 = true := by unfold lefU; rw [hq0h, hi0, f2]; rfl
    rw [hst hm hne, til_pl hR]
    rw [sum_oneL (pl_sorted l) hq0 fun q hq' hqne => ?_]
    · -- the place q0
      rw [cntU_to (a := 16) (b := 16 - q0) (by omega) (by omega) fun q h1 h2 => hlow q (by omega), show 16 - q0 = (15 - q0) + 1 by omega]
      unfold cntU
      rw [show 15 - (15 - q0) = q0 by omega, show 16 - (15 - q0) = q0 + 1 by omega, show 19 - (15 - q0) = q0 + 4 by omega, if_pos hat]
      have one : ∀ q1, q0 < q1 → (if q1 ∈ plL l then gv2 (til (2 ^ (cellsB l).length - 1) ((putsU (cellsB l)).map (covOf (cellsB l)))) m ((plL l).idxOf q0) ((plL l).idxOf q1) else 0) = if lefU l m q1 = true then cntU (15 - q0) (cut (lefU l m) q1) else 0 := fun q1 hlt => by
        by_cases hq1 : q1 ∈ plL l
        · rw [if_pos hq1]
          have hq1h := (pl_mem hR).1 hq1
          have hq116 : q1 < 16 := List.mem_range.1 (List.mem_filter.1 hq1).1
          have hil := List.idxOf_lt_length_iff.2 hq1
          have hlu : lefU l m q1 = !m.testBit ((plL l).idxOf q1) := by unfold lefU; rw [hq1h]; rfl
          unfold gv2
          rw [hlu, hi0, f2]
          cases hb : m.testBit ((plL l).idxOf q1) with
          | true => rw [if_neg (by simp), if_neg (by simp)]
          | false =>
            rw [if_pos ⟨.inl rfl, rfl, rfl⟩, if_pos (by rfl)]
            have hgr := or_grow (L := (plL l).length) (i := fz m) (j := (plL l).idxOf q1) hm f1 hil (by
              have := or_bits m (fz m) ((plL l).idxOf q1)
              rw [f2, hb] at this
              exact of_decide_eq_true this)
            rw [ih _ hgr.2 (by omega)]
            have hbit : ∀ q, hq l q = true → (m ||| (2 ^ fz m ||| 2 ^ (plL l).idxOf q1)).testBit ((plL l).idxOf q) = (m.testBit ((plL l).idxOf q) || (decide (q = q0) || decide (q = q1))) := fun q hqh => by
              have hqm := (pl_mem hR).2 hqh
              rw [Nat.testBit_or, Nat.testBit_or, Nat.testBit_two_pow, Nat.testBit_two_pow]
              have d0 : decide (fz m = (plL l).idxOf q) = decide (q = q0) := by
                by_cases e : q = q0
                · rw [decide_eq_true e, e, decide_eq_true hi0.symm]
                · rw [decide_eq_false e, decide_eq_false fun h => e (idx_inj hqm hq0 (by rw [hi0]; exact h.symm))]
              have d1 : decide ((plL l).idxOf q1 = (plL l).idxOf q) = decide (q = q1) := by
                by_cases e : q = q1
                · rw [decide_eq_true e, e, decide_eq_true rfl]
                · rw [decide_eq_false e, decide_eq_false fun h => e (idx_inj hqm hq1 h.symm)]
              rw [d0, d1]
            rw [cntU_to (a := 16) (b := 15 - q0) (by omega) (by omega) fun q h1 h2 => ?_]
            · refine cntU_congr (by omega) fun q h1 => ?_
              show (hq l q && !((m ||| (2 ^ fz m ||| 2 ^ (plL l).idxOf q1)).testBit ((plL l).idxOf q))) = (hq l q && !(m.testBit ((plL l).idxOf q)) && !(Nat.beq q q1))
              cases hh : hq l q with
              | false => rfl
              | true =>
                rw [hbit q hh, decide_eq_false (show ¬ q = q0 by omega), Bool.false_or, beq_dec]
                cases m.testBit ((plL l).idxOf q) <;> cases decide (q = q1) <;> rfl
            · by_cases e : q = q0
              · subst e
                unfold lefU
                rw [hq0h, hbit q hq0h, decide_eq_true rfl]; simp
              · have := hlow q (by omega)
                unfold lefU at this ⊢
                cases hh : hq l q with
                | false => rfl
                | true =>
                  rw [hh] at this
                  rw [hbit q hh]
                  have hb' : m.testBit ((plL l).idxOf q) = true := by
                    cases hx : m.testBit ((plL l).idxOf q) with
                    | true => rfl
                    | false => rw [hx] at this; cases this
                  rw [hb']; rfl
        · rw [if_neg hq1]
          have : lefU l m q1 = false := by
            unfold lefU
            cases hh : hq l q1 with
            | false => rfl
            | true => exact absurd ((pl_mem hR).2 hh) hq1
          rw [this, if_neg (by decide)]
      have r1 := one (q0 + 1) (by omega)
      have r4 := one (q0 + 4) (by omega)
      rw [r4]
      congr 1
      by_cases e : q0 % 4 ≠ 3
      · by_cases e2 : q0 + 1 ∈ plL l
        · rw [if_pos ⟨e, e2⟩]
          rw [if_pos e2] at r1
          rw [r1]
          by_cases e3 : lefU l m (q0 + 1) = true
          · rw [if_pos e3, if_pos ⟨e, e3⟩]
          · rw [if_neg e3, if_neg fun h => e3 h.2]
        · rw [if_neg fun h => e2 h.2]
          have : lefU l m (q0 + 1) = false := by
            unfold lefU
            cases hh : hq l (q0 + 1) with
            | false => rfl
            | true => exact absurd ((pl_mem hR).2 hh) e2
          rw [this, if_neg (by simp)]
      · rw [if_neg fun h => e h.1, if_neg fun h => e h.1]
    · -- the others
      have none2 : ∀ q1, q < q1 → q1 ∈ plL l → gv2 (til (2 ^ (cellsB l).length - 1) ((putsU (cellsB l)).map (covOf (cellsB l)))) m ((plL l).idxOf q) ((plL l).idxOf q1) = 0 := fun q1 hlt hq1 => by
        unfold gv2
        refine if_neg ?_
        rintro ⟨h1, h2, h3⟩
        rcases h1 with h1 | h1
        · exact hqne (idx_inj hq' hq0 (by rw [hi0]; exact h1.symm))
        · have e1 : q1 = q0 := idx_inj hq1 hq0 (by rw [hi0]; exact h1.symm)
          have := idx_lt (pl_sorted l) hq' hq1 hlt
          rw [f3 _ (by omega)] at h2
          cases h2
      have a1 : (if q % 4 ≠ 3 ∧ q + 1 ∈ plL l then gv2 (til (2 ^ (cellsB l).length - 1) ((putsU (cellsB l)).map (covOf (cellsB l)))) m ((plL l).idxOf q) ((plL l).idxOf (q + 1)) else 0) = 0 := by
        split
        · rename_i e; exact none2 _ (by omega) e.2
        · rfl
      have a2 : (if q + 4 ∈ plL l then gv2 (til (2 ^ (cellsB l).length - 1) ((putsU (cellsB l)).map (covOf (cellsB l)))) m ((plL l).idxOf q) ((plL l).idxOf (q + 4)) else 0) = 0 := by
        split
        · rename_i e; exact none2 _ (by omega) e
        · rfl
      rw [a1, a2]
/-- Tilings counts what Count counts. -/
theorem tilB_eq (hR : RegOk l 4) : tilB l = cntU 16 (hq l) := by
  unfold tilB
  rw [til_eq hR (2 ^ (plL l).length) 0 (Nat.two_pow_pos _) (Nat.sub_le _ _)]
  refine cntU_congr (Nat.le_refl _) fun q _ => ?_
  unfold lefU
  rw [Nat.zero_testBit]; simp
theorem count_eq (hR : RegOk l 4) : cntF l (wd l * l.length) (0, 0) = cntU 16 (hq l) := by
  have hw : 1 ≤ wd l := hR.wid.1
  rw [cntF_eq hR _ _ (by simp) (Nat.two_pow_pos _)]
  have e : 16 - (4 * (((0, 0) : St).1 / wd l) + ((0, 0) : St).1 % wd l) = 16 := by
    show 16 - (4 * (0 / wd l) + 0 % wd l) = 16
    rw [Nat.zero_div, Nat.zero_mod]
  rw [e]
  refine cntU_congr (Nat.le_refl _) fun q _ => ?_
  unfold stU
  rw [Nat.zero_testBit]; simp
end

end Go.Proofs.YtbekeccfjmoonaaDoor
