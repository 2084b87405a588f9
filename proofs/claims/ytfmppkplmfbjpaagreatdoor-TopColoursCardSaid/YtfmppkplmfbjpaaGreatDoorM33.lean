/- Texts of my own, merged by program: Wp Wq. -/
import Derived.Test.YtfmppkplmfbjpaaGreatDoorM32
import Derived.Test.YtfmppkplmfbjpaaGreatDoorM27
set_option linter.all false
/- Contract: the search for a closed board (closed of the statements). -/
namespace Go.Proofs.YtfmppkplmfbjpaaGreatDoor
open Go.Lf Go.RowKit Go.Wg

/-- The tiles of a board, row by row, as tiles at places. -/
def TM (M : List Nat) (W : Nat) : Nat → Nat → Nat := fun y x => M.getD (y * W + x) 0
def intsN (M : List Nat) : List Int := M.map fun i : Nat => (i : Int)
theorem intsN_len (M : List Nat) : (intsN M).length = M.length := by simp [intsN]
theorem intsN_at (M : List Nat) {i : Nat} (h : i < M.length) : (intsN M).getD i 0 = (M.getD i 0 : Nat) := by
  rw [getD_lt _ _ _ (by rw [intsN_len]; exact h), getD_lt _ _ _ h]; simp [intsN]
def rowsOf (W H : Nat) (M : List Nat) : List (List Int) := (List.range H).map fun y => (intsN M).drop (y * W) |>.take W
theorem rowsOf_len (W H : Nat) (M : List Nat) : (rowsOf W H M).length = H := by simp [rowsOf]
theorem rowsOf_at {W H : Nat} {M : List Nat} {y : Nat} (hy : y < H) : (rowsOf W H M).getD y [] = ((intsN M).drop (y * W)).take W := by
  rw [getD_lt _ _ _ (by rw [rowsOf_len]; exact hy)]; simp [rowsOf]
theorem row_in {W H y : Nat} (hy : y < H) : y * W + W ≤ W * H := by
  have : (y + 1) * W ≤ H * W := Nat.mul_le_mul_right W hy
  rw [Nat.add_mul, Nat.one_mul, Nat.mul_comm H] at this
  exact this
theorem rowsOf_row {W H : Nat} {M : List Nat} (hM : M.length = W * H) {y : Nat} (hy : y < H) : ((rowsOf W H M).getD y []).length = W := by
  have := row_in (W := W) hy
  rw [rowsOf_at hy, List.length_take, List.length_drop, intsN_len]
  omega
theorem rowsOf_cell {W H : Nat} {M : List Nat} (hM : M.length = W * H) {y x : Nat} (hy : y < H) (hx : x < W) : ((rowsOf W H M).getD y []).getD x 0 = (TM M W y x : Nat) := by
  have := row_in (W := W) hy
  rw [rowsOf_at hy]
  unfold TM
  rw [← intsN_at M (by omega), List.getD_eq_getElem?_getD, List.getElem?_take, if_pos hx, List.getElem?_drop, ← List.getD_eq_getElem?_getD]

theorem stE_2 {l : List Tile} {B : List (List Int)} {w y x : Nat} {s : Bool × Bool} : (stE l B w y x s).2 = true ↔ s.2 = true ∧ tE (at2 l B y x) = tW (at2 l B y ((x + 1) % w)) := by
  unfold stE; split <;> simp_all
theorem stS_2 {l : List Tile} {B : List (List Int)} {h y x : Nat} {s : Bool × Bool} : (stS l B h y x s).2 = true ↔ s.2 = true ∧ tS (at2 l B y x) = tN (at2 l B ((y + 1) % h) x) := by
  unfold stS; split <;> simp_all
theorem fold_2 {α : Type} {f : Bool × Bool → α → Bool × Bool} {P : α → Prop} (hf : ∀ s a, (f s a).2 = true ↔ s.2 = true ∧ P a) : ∀ (L : List α) (s : Bool × Bool), (L.foldl f s).2 = true ↔ s.2 = true ∧ ∀ a ∈ L, P a
  | [], s => by simp
  | a :: L, s => by
    rw [List.foldl_cons, fold_2 hf L, hf]
    simp [and_assoc]
theorem judge_2 {l : List Tile} {B : List (List Int)} {w h : Nat} : (judge l B w h).2 = true ↔ ∀ y, y < h → ∀ x, x < w → tE (at2 l B y x) = tW (at2 l B y ((x + 1) % w)) ∧ tS (at2 l B y x) = tN (at2 l B ((y + 1) % h) x) := by
  have h1 : ∀ (y : Nat) (s : Bool × Bool) (x : Nat), (cellF l B w h y s x).2 = true ↔ s.2 = true ∧ (tE (at2 l B y x) = tW (at2 l B y ((x + 1) % w)) ∧ tS (at2 l B y x) = tN (at2 l B ((y + 1) % h) x)) := fun y s x => by
    unfold cellF
    rw [stS_2, stE_2, and_assoc]
  have h2 : ∀ (s : Bool × Bool) (y : Nat), (rowF l B w h s y).2 = true ↔ s.2 = true ∧ ∀ x ∈ List.range w, tE (at2 l B y x) = tW (at2 l B y ((x + 1) % w)) ∧ tS (at2 l B y x) = tN (at2 l B ((y + 1) % h) x) := fun s y => fold_2 (h1 y) _ _
  unfold judge
  rw [fold_2 h2]
  simp

theorem board_rows {l : List Tile} (hset : setB l = true) {W H : Nat} (hW : 1 ≤ W ∧ W ≤ 4) (hH : 1 ≤ H ∧ H ≤ 4) {M : List Nat} (hM : M.length = W * H) (hl : ∀ i ∈ M, i < l.length) : boardB l (rowsOf W H M) = true := by
  have h0 : ((rowsOf W H M).getD 0 []).length = W := rowsOf_row hM (by omega)
  unfold boardB
  rw [hset, h0, rowsOf_len]
  have s1 : sideB (H : Int) = true := by unfold sideB; exact decide_eq_true (by omega)
  have s2 : sideB (W : Int) = true := by unfold sideB; exact decide_eq_true (by omega)
  rw [s1, s2]
  simp only [Bool.true_and, List.all_eq_true]
  intro r hr
  obtain ⟨y, hy, rfl⟩ := List.getElem_of_mem hr
  have hyH : y < H := by rw [rowsOf_len] at hy; exact hy
  have hrl := rowsOf_row hM hyH
  rw [getD_lt _ _ _ hy] at hrl
  simp only [boardRow, Bool.and_eq_true, decide_eq_true_eq, List.all_eq_true]
  refine ⟨hrl, fun n hn => ?_⟩
  have : n ∈ intsN M := by
    simp only [rowsOf, List.getElem_map] at hn
    exact List.mem_of_mem_drop (List.mem_of_mem_take hn)
  obtain ⟨i, hi, rfl⟩ := List.mem_map.1 this
  have := hl i hi
  simp only [cellOk, Bool.and_eq_true, decide_eq_true_eq]
  omega
theorem good_rows {l : List Tile} (hset : setB l = true) {W H : Nat} (hW : 1 ≤ W ∧ W ≤ 4) (hH : 1 ≤ H ∧ H ≤ 4) {M : List Nat} (hM : M.length = W * H) (hl : ∀ i ∈ M, i < l.length) :
    ∃ a c : Bool, goodV l (rowsOf W H M) = .tuple #[.bool a, .bool c, .int .i64 0] ∧ (c = true ↔ ClT l (TM M W) W H) := by
  have h0 : ((rowsOf W H M).getD 0 []).length = W := rowsOf_row hM (by omega)
  refine ⟨_, _, by rw [goodV, if_pos (board_rows hset hW hH hM hl)], ?_⟩
  rw [h0, rowsOf_len, judge_2]
  have hat : ∀ y x, y < H → x < W → at2 l (rowsOf W H M) y x = tl l (TM M W y x) := fun y x hy hx => by
    unfold at2
    rw [rowsOf_cell hM hy hx, Int.toNat_natCast]
  constructor
  · intro h
    refine ⟨fun y x hy hx => ?_, fun y x hy hx => ?_, fun y x hy hx => ?_⟩
    · have := row_in (W := W) hy
      unfold TM
      exact hl _ (getD_mem (by omega))
    · have := (h y hy x hx).1
      rwa [hat y x hy hx, hat y _ hy (Nat.mod_lt _ (by omega))] at this
    · have := (h y hy x hx).2
      rwa [hat y x hy hx, hat _ x (Nat.mod_lt _ (by omega)) hx] at this
  · intro c y hy x hx
    rw [hat y x hy hx, hat y _ hy (Nat.mod_lt _ (by omega)), hat _ x (Nat.mod_lt _ (by omega)) hx]
    exact ⟨c.ew y x hy hx, c.sn y x hy hx⟩

/-! ### what cannot go on -/
def bad1 (l : List Tile) (W : Nat) (L : List Nat) (i : Nat) : Bool := decide (0 < L.length % W) && !decide (tE (tl l (L.getD (L.length - 1) 0)) = tW (tl l i))
def bad2 (l : List Tile) (W : Nat) (L : List Nat) (i : Nat) : Bool := decide (W ≤ L.length) && !decide (tS (tl l (L.getD (L.length - W) 0)) = tN (tl l i))
theorem at_old {L S : List Nat} {i q : Nat} (h : q < L.length) : (L ++ i :: S).getD q 0 = L.getD q 0 := by
  rw [List.getD_eq_getElem?_getD, List.getElem?_append_left h, ← List.getD_eq_getElem?_getD]
theorem at_new {L S : List Nat} {i : Nat} : (L ++ i :: S).getD L.length 0 = i := by
  rw [List.getD_eq_getElem?_getD, List.getElem?_append_right (Nat.le_refl _), Nat.sub_self]; rfl
theorem bad_no {l : List Tile} {W H : Nat} (hW : 1 ≤ W) {L S : List Nat} {i : Nat} (hM : (L ++ i :: S).length = W * H) (hb : (bad1 l W L i || bad2 l W L i) = true) : ¬ ClT l (TM (L ++ i :: S) W) W H := by
  intro c
  have hn : L.length < W * H := by simp at hM; omega
  have hdm := Nat.div_add_mod L.length W
  have hx : L.length % W < W := Nat.mod_lt _ (by omega)
  have hy : L.length / W < H := Nat.div_lt_of_lt_mul hn
  have hc : L.length / W * W = W * (L.length / W) := Nat.mul_comm _ _
  have hT : TM (L ++ i :: S) W (L.length / W) (L.length % W) = i := by
    unfold TM
    rw [hc, hdm, at_new]
  rcases Bool.or_eq_true _ _ ▸ hb with h | h
  · simp only [bad1, Bool.and_eq_true, decide_eq_true_eq, Bool.not_eq_true', decide_eq_false_iff_not] at h
    obtain ⟨h1, h2⟩ := h
    have e := c.ew (L.length / W) (L.length % W - 1) hy (by omega)
    rw [show L.length % W - 1 + 1 = L.length % W by omega, Nat.mod_mod, hT] at e
    apply h2
    rw [← e]
    unfold TM
    rw [show L.length / W * W + (L.length % W - 1) = L.length - 1 by omega, at_old (by omega)]
  · simp only [bad2, Bool.and_eq_true, decide_eq_true_eq, Bool.not_eq_true', decide_eq_false_iff_not] at h
    obtain ⟨h1, h2⟩ := h
    obtain ⟨y, hy1⟩ : ∃ y, L.length / W = y + 1 := ⟨L.length / W - 1, by have := Nat.div_pos h1 hW; omega⟩
    have e := c.sn y (L.length % W) (by omega) hx
    rw [Nat.mod_eq_of_lt (by omega : y + 1 < H), ← hy1, hT] at e
    apply h2
    rw [← e]
    have hc2 : L.length / W * W = y * W + W := by rw [hy1, Nat.add_mul, Nat.one_mul]
    unfold TM
    rw [show y * W + L.length % W = L.length - W by omega, at_old (by omega)]

theorem tile_fld {w : World} {sv : Value} {l : List Tile} (hr : RdT w sv l) {i : Nat} (hi : i < l.length) {j : Nat} {x : Int} (hj : (tlC (tl l i))[j]? = some (.int .i64 x)) (K : Value → Prop) : (iaS 4 sv (.int .i64 i) fun p => fa1 p j fun q => ld1 w q K) = K (.int .i64 x) := by
  obtain ⟨b, off, cap, e, hlt, hc⟩ := hr.at (tl_get hi)
  have hii : (i : Int).toNat = i := by omega
  rw [e, r_iaS _ _ _ _ _ _ _ (by omega) (by omega), hii, r_fa, r_ld (hc j _ hj)]

theorem rd_at {w : World} {v : Value} {L : List Nat} (h : RdInts w v (intsN L)) {q : Nat} (hq : q < L.length) (K : Value → Prop) : (iaS 1 v (.int .i64 q) fun p => ld1 w p K) = K (.int .i64 (L.getD q 0 : Nat)) := by
  obtain ⟨b, off, cap, e, hc⟩ := h.at (j := q) (by rw [intsN_len]; exact hq)
  have hii : (q : Int).toNat = q := by omega
  rw [intsN_at L hq] at hc
  rw [e, r_iaS _ _ _ _ _ _ _ (by omega) (by rw [intsN_len]; omega), hii, Nat.mul_one, r_ld hc]

set_option maxRecDepth 100000 in
set_option maxHeartbeats 1000000 in
theorem r6_chk {l : List Tile} {sv lv : Value} {L : List Nat} {W i : Nat} {w : World} {K : Value → Prop} (hr : RdT w sv l) (hL : RdInts w lv (intsN L)) (hl : ∀ i ∈ L, i < l.length) (hLl : L.length ≤ 1000) (hW : 1 ≤ W ∧ W ≤ 4) (hi : i < l.length) (hK : K (.bool (bad1 l W L i || bad2 l W L i))) :
        binQ Tryz.prog w .rem 3 false (.int .i64 L.length) (.int .i64 W) fun t65 =>
        binQ Tryz.prog w .gtr 3 true t65 (.int .i64 0) fun t66 =>
        gdQ t66 true (fun k => k sv) fun t68 =>
        gdQ t66 true (fun k => k lv) fun t69 =>
        gdQ t66 true (fun k => k (.int .i64 L.length)) fun t70 =>
        gdQ t66 true (fun k => binQ Tryz.prog w .sub 3 true t70 (.int .i64 1) k) fun t71 =>
        gdQ t66 true (fun k => iaS 1 t69 t71 k) fun t72 =>
        gdQ t66 true (fun k => ld1 w t72 k) fun t73 =>
        gdQ t66 true (fun k => iaS 4 t68 t73 k) fun t74 =>
        gdQ t66 true (fun k => fa1 t74 1 k) fun t75 =>
        gdQ t66 true (fun k => ld1 w t75 k) fun t76 =>
        gdQ t66 true (fun k => k sv) fun t77 =>
        gdQ t66 true (fun k => k (.int .i64 i)) fun t78 =>
        gdQ t66 true (fun k => iaS 4 t77 t78 k) fun t79 =>
        gdQ t66 true (fun k => fa1 t79 3 k) fun t80 =>
        gdQ t66 true (fun k => ld1 w t80 k) fun t81 =>
        gdQ t66 true (fun k => binQ Tryz.prog w .neq 3 false t76 t81 k) fun t82 =>
        pickQ t66 t82 (.bool false) fun t83 =>
        gdQ t83 false (fun k => k (.int .i64 L.length)) fun t85 =>
        gdQ t83 false (fun k => k (.int .i64 W)) fun t86 =>
        gdQ t83 false (fun k => binQ Tryz.prog w .geq 3 false t85 t86 k) fun t87 =>
        gdQ t83 false (fun k => k t87) fun t88 =>
        gdQ t88 true (fun k => k sv) fun t89 =>
        gdQ t88 true (fun k => k lv) fun t90 =>
        gdQ t88 true (fun k => k (.int .i64 L.length)) fun t91 =>
        gdQ t88 true (fun k => k (.int .i64 W)) fun t92 =>
        gdQ t88 true (fun k => binQ Tryz.prog w .sub 3 false t91 t92 k) fun t93 =>
        gdQ t88 true (fun k => iaS 1 t90 t93 k) fun t94 =>
        gdQ t88 true (fun k => ld1 w t94 k) fun t95 =>
        gdQ t88 true (fun k => iaS 4 t89 t95 k) fun t96 =>
        gdQ t88 true (fun k => fa1 t96 2 k) fun t97 =>
        gdQ t88 true (fun k => ld1 w t97 k) fun t98 =>
        gdQ t88 true (fun k => k sv) fun t99 =>
        gdQ t88 true (fun k => k (.int .i64 i)) fun t100 =>
        gdQ t88 true (fun k => iaS 4 t99 t100 k) fun t101 =>
        gdQ t88 true (fun k => fa1 t101 0 k) fun t102 =>
        gdQ t88 true (fun k => ld1 w t102 k) fun t103 =>
        gdQ t88 true (fun k => binQ Tryz.prog w .neq 3 false t98 t103 k) fun t104 =>
        gdQ t83 false (fun k => pickQ t88 t104 (.bool false) k) fun t105 =>
        pickQ t83 (.bool true) t105 fun t106 => K t106 := by
  have hx : L.length % W < W := Nat.mod_lt _ (by omega)
  have hle : L.length % W ≤ L.length := Nat.mod_le _ _
  have fE : ∀ q, q < L.length → ∀ K : Value → Prop, (iaS 4 sv (.int .i64 (L.getD q 0 : Nat)) fun p => fa1 p 1 fun z => ld1 w z K) = K (.int .i64 (tE (tl l (L.getD q 0)))) := fun q hq K => tile_fld hr (hl _ (getD_mem hq)) rfl K
  have fS : ∀ q, q < L.length → ∀ K : Value → Prop, (iaS 4 sv (.int .i64 (L.getD q 0 : Nat)) fun p => fa1 p 2 fun z => ld1 w z K) = K (.int .i64 (tS (tl l (L.getD q 0)))) := fun q hq K => tile_fld hr (hl _ (getD_mem hq)) rfl K
  have fW : ∀ K : Value → Prop, (iaS 4 sv (.int .i64 i) fun p => fa1 p 3 fun z => ld1 w z K) = K (.int .i64 (tW (tl l i))) := fun K => tile_fld hr hi rfl K
  have fN : ∀ K : Value → Prop, (iaS 4 sv (.int .i64 i) fun p => fa1 p 0 fun z => ld1 w z K) = K (.int .i64 (tN (tl l i))) := fun K => tile_fld hr hi rfl K
  have second : ∀ K : Value → Prop, K (.bool (bad2 l W L i)) → binQ Tryz.prog w .geq 3 false (.int .i64 L.length) (.int .i64 W) fun t88 =>
        gdQ t88 true (fun k => k sv) fun t89 =>
        gdQ t88 true (fun k => k lv) fun t90 =>
        gdQ t88 true (fun k => k (.int .i64 L.length)) fun t91 =>
        gdQ t88 true (fun k => k (.int .i64 W)) fun t92 =>
        gdQ t88 true (fun k => binQ Tryz.prog w .sub 3 false t91 t92 k) fun t93 =>
        gdQ t88 true (fun k => iaS 1 t90 t93 k) fun t94 =>
        gdQ t88 true (fun k => ld1 w t94 k) fun t95 =>
        gdQ t88 true (fun k => iaS 4 t89 t95 k) fun t96 =>
        gdQ t88 true (fun k => fa1 t96 2 k) fun t97 =>
        gdQ t88 true (fun k => ld1 w t97 k) fun t98 =>
        gdQ t88 true (fun k => k sv) fun t99 =>
        gdQ t88 true (fun k => k (.int .i64 i)) fun t100 =>
        gdQ t88 true (fun k => iaS 4 t99 t100 k) fun t101 =>
        gdQ t88 true (fun k => fa1 t101 0 k) fun t102 =>
        gdQ t88 true (fun k => ld1 w t102 k) fun t103 =>
        gdQ t88 true (fun k => binQ Tryz.prog w .neq 3 false t98 t103 k) fun t104 =>
        pickQ t88 t104 (.bool false) K := fun K hK => by
    rw [r_geq]
    unfold bad2 at hK
    by_cases h2 : W ≤ L.length
    · have h2' : (W : Int) ≤ (L.length : Int) := by omega
      have es : (L.length : Int) - (W : Int) = ((L.length - W : Nat) : Int) := by omega
      simp (disch := omega) only [decide_eq_true h2', r_gqTT, r_sub, es, rd_at hL (q := L.length - W) (by omega), fS (L.length - W) (by omega), fN, r_neq, r_pickT]
      rwa [decide_eq_true h2, Bool.true_and] at hK
    · have h2' : ¬ (W : Int) ≤ (L.length : Int) := by omega
      simp only [decide_eq_false h2', r_gqFT, r_pickF]
      rwa [decide_eq_false h2, Bool.false_and] at hK
  have cont : ∀ b : Bool, (b = false → K (.bool (bad2 l W L i))) → (b = true → K (.bool true)) →
        gdQ (.bool b) false (fun k => k (.int .i64 L.length)) fun t85 =>
        gdQ (.bool b) false (fun k => k (.int .i64 W)) fun t86 =>
        gdQ (.bool b) false (fun k => binQ Tryz.prog w .geq 3 false t85 t86 k) fun t87 =>
        gdQ (.bool b) false (fun k => k t87) fun t88 =>
        gdQ t88 true (fun k => k sv) fun t89 =>
        gdQ t88 true (fun k => k lv) fun t90 =>
        gdQ t88 true (fun k => k (.int .i64 L.length)) fun t91 =>
        gdQ t88 true (fun k => k (.int .i64 W)) fun t92 =>
        gdQ t88 true (fun k => binQ Tryz.prog w .sub 3 false t91 t92 k) fun t93 =>
        gdQ t88 true (fun k => iaS 1 t90 t93 k) fun t94 =>
        gdQ t88 true (fun k => ld1 w t94 k) fun t95 =>
        gdQ t88 true (fun k => iaS 4 t89 t95 k) fun t96 =>
        gdQ t88 true (fun k => fa1 t96 2 k) fun t97 =>
        gdQ t88 true (fun k => ld1 w t97 k) fun t98 =>
        gdQ t88 true (fun k => k sv) fun t99 =>
        gdQ t88 true (fun k => k (.int .i64 i)) fun t100 =>
        gdQ t88 true (fun k => iaS 4 t99 t100 k) fun t101 =>
        gdQ t88 true (fun k => fa1 t101 0 k) fun t102 =>
        gdQ t88 true (fun k => ld1 w t102 k) fun t103 =>
        gdQ t88 true (fun k => binQ Tryz.prog w .neq 3 false t98 t103 k) fun t104 =>
        gdQ (.bool b) false (fun k => pickQ t88 t104 (.bool false) k) fun t105 =>
        pickQ (.bool b) (.bool true) t105 fun t106 => K t106 := fun b h1 h2 => by
    cases b with
    | true =>
      simp only [r_gqTF, r_gqU, r_pickT]
      exact h2 rfl
    | false =>
      simp only [r_gqFF, r_pickF]
      exact second _ (h1 rfl)
  rw [r_remN _ _ (by omega), r_gtr]
  by_cases h1 : 0 < L.length % W
  · have h1' : (0 : Int) < ((L.length % W : Nat) : Int) := by omega
    have es : (L.length : Int) - 1 = ((L.length - 1 : Nat) : Int) := by omega
    simp (disch := omega) only [decide_eq_true h1', r_gqTT, r_sub, es, rd_at hL (q := L.length - 1) (by omega), fE (L.length - 1) (by omega), fW, r_neq, r_pickT]
    unfold bad1 at hK
    rw [decide_eq_true h1, Bool.true_and] at hK
    refine cont _ (fun e => ?_) fun e => ?_
    · rwa [e, Bool.false_or] at hK
    · rwa [e, Bool.true_or] at hK
  · have h1' : ¬ (0 : Int) < ((L.length % W : Nat) : Int) := by omega
    simp only [decide_eq_false h1', r_gqFT, r_pickF]
    unfold bad1 at hK
    rw [decide_eq_false h1, Bool.false_and, Bool.false_or] at hK
    exact cont false (fun _ => hK) fun e => by cases e

end Go.Proofs.YtfmppkplmfbjpaaGreatDoor

/- Contract: closed of the statements finds a closed board, or there is none. -/
namespace Go.Proofs.YtfmppkplmfbjpaaGreatDoor
open Go.Lf Go.RowKit Go.Wg

/-- A slice of slices that read as rows. -/
theorem rows_of_rec {base : Nat} {w : World} {v : Value} {vs : List Value} {B : List (List Int)} (h : RecAt 34 1 vE base w v vs) (hl : vs.length = B.length) (hB : B.length ≤ 1000000) (hr : ∀ i, i < B.length → RdInts w (vs.getD i undef) (B.getD i [])) : RdRows w v B := by
  obtain ⟨a, cap, rfl, hle⟩ := h.len
  refine ⟨a, cap, fun i => vs.getD i undef, by rw [hl], by omega, fun h0 => ?_, hr⟩
  obtain ⟨b, off, _, e, _, _⟩ := (h.rd vE_len).at (i := 0) (x := vs[0]'(by omega)) (List.getElem?_eq_getElem (by omega))
  cases e
  refine ⟨b, off, rfl, fun i hi => ?_⟩
  obtain ⟨b', off', _, e', _, hc⟩ := (h.rd vE_len).at (i := i) (x := vs[i]'(by omega)) (List.getElem?_eq_getElem (by omega))
  cases e'
  have := hc 0 _ rfl
  simp only [Nat.mul_one, Nat.add_zero] at this
  dsimp only
  rw [this, getD_lt _ _ _ (by omega)]

/-- s[lo:hi] -/
theorem r_slBoth {a : Option Addr} {n c lo hi : Nat} {K : Value → Prop} (h1 : lo ≤ hi) (h2 : hi ≤ c) : slS 1 (.slice a n c) (some (.int .i64 (lo : Nat))) (some (.int .i64 (hi : Nat))) K = K (.slice (if c = lo then a else a.map fun x => x.add (lo * 1)) (hi - lo) (c - lo)) := by
  have e1 : (0 : Int) ≤ (hi : Int) ∧ (hi : Int) ≤ (c : Int) := by omega
  have e2 : (0 : Int) ≤ (lo : Int) ∧ (lo : Int) ≤ (hi : Int) := by omega
  simp only [slS, cutQ, bnd, e1, e2, and_self, if_true, Int.toNat_natCast]

theorem rd_sub {w : World} {a : Option Addr} {c lo m : Nat} {L : List Int} (h : RdInts w (.slice a L.length c) L) (hlo : lo + m ≤ L.length) (hm : 0 < m) : RdInts w (.slice (if c = lo then a else a.map fun x => x.add (lo * 1)) m (c - lo)) ((L.drop lo).take m) := by
  obtain ⟨_, _, e, hl, hh⟩ := h
  cases e
  have hlen : ((L.drop lo).take m).length = m := by rw [List.length_take, List.length_drop]; omega
  obtain ⟨b, off, rfl, hc⟩ := hh (by omega)
  have hne : ¬ c = lo := by omega
  refine ⟨_, c - lo, by rw [hlen], by omega, fun _ => ⟨b, off + lo, by rw [if_neg hne, Option.map_some, r_addr, Nat.mul_one], fun i hi => ?_⟩⟩
  rw [hlen] at hi
  have := hc (lo + i) (by omega)
  rw [Nat.add_assoc, this, List.getD_eq_getElem?_getD, List.getD_eq_getElem?_getD, List.getElem?_take, if_pos hi, List.getElem?_drop]

set_option maxRecDepth 100000 in
set_option maxHeartbeats 1000000 in
theorem r6_0 {l : List Tile} {sv lv : Value} {M : List Nat} {W H : Nat} {w : World} {R : Ending → World → Prop} (hset : setB l = true) (hr : RdT w sv l) (hL : RdInts w lv (intsN M)) (hl : ∀ i ∈ M, i < l.length) (hM : M.length = W * H) (hW : 1 ≤ W ∧ W ≤ 4) (hH : 1 ≤ H ∧ H ≤ 4)
    (hR : ∀ bv (ok : Bool) w', Kp w w' → RdRows w' bv (rowsOf W H M) → (ok = true ↔ ClT l (TM M W) W H) → R (.returned (.tuple #[bv, .bool ok])) w') :
    S6L0 sv (.int .i64 W) (.int .i64 H) lv R w := by
  have hlm : l.length ≤ 16 := (isSet_of hset).most
  obtain ⟨la, lc, el, hll, hcap⟩ := hL.len
  rw [intsN_len] at el hll hcap
  unfold S6L0
  refine ⟨fun t11 t12 wr => ∃ (y : Nat) (vs : List Value), y ≤ H ∧ t12 = .int .i64 y ∧ vs.length = y ∧ RecAt 34 1 vE w.heap.size wr t11 vs ∧ (∀ i, i < y → RdInts w (vs.getD i undef) ((rowsOf W H M).getD i [])) ∧ Kp w wr, fun _ t12 _ => H - (intOf t12).toNat, ⟨0, [], by omega, rfl, rfl, RecAt.nil, fun i hi => by omega, Kp.refl _⟩, ?_⟩
  rintro _ t11 _ wr ⟨y, vs, hy, rfl, hvs, hrec, hrows, kr⟩
  by_cases hlt : y < H
  case neg =>
    have hlt' : ¬ (y : Int) < (H : Int) := by omega
    rw [r_lss, decide_eq_false hlt', r_condF]
    obtain rfl : y = H := by omega
    have hB : RdRows wr t11 (rowsOf W y M) := rows_of_rec hrec (by rw [rowsOf_len]; exact hvs) (by rw [rowsOf_len]; omega) fun i hi => (hrows i (by rw [rowsOf_len] at hi; exact hi)).below kr
    refine r_use fok15 (good_calls wr (hr.kp kr) hB (by omega)) rfl ?_
    rintro _ w1 ⟨rfl, k1⟩
    refine ⟨_, rfl, ?_⟩
    obtain ⟨a, c, eg, hc⟩ := good_rows hset hW hH hM hl
    rw [eg]
    simp only [r_ex3a, r_ex3b, r_ex3c, r_eql, decide_true, r_gdTT, r_pickT]
    exact hR t11 c w1 (Kp.trans kr k1) (hB.below k1) hc
  have hlt' : (y : Int) < (H : Int) := by omega
  have hin := row_in (W := W) hlt
  have hyW : y * W ≤ 4 * 4 := Nat.mul_le_mul (by omega) hW.2
  rw [r_lss, decide_eq_true hlt', r_condT, r_mulN _ _ (by omega), r_mulN _ _ (by omega), r_add _ _ (by omega) (by omega)]
  have ea : ((y * W : Nat) : Int) + (W : Int) = ((y * W + W : Nat) : Int) := by omega
  rw [ea, el, r_slBoth (by omega) (by omega), show y * W + W - y * W = W by omega]
  have hsub := rd_sub (lo := y * W) (m := W) (L := intsN M) (by rw [intsN_len, ← el]; exact hL) (by rw [intsN_len]; omega) (by omega)
  generalize (if lc = y * W then la else la.map fun x => x.add (y * W * 1)) = sa at *
  refine r_pushRec (x := .slice sa W (lc - y * W)) slt50 vE_len rfl (bs50 _ _ _ _) (by intro u hu; simp at hu; subst hu; rfl) (by omega) hrec (by omega) kr.size fun v' w' p1 p2 _ => ?_
  rw [r_add _ _ (by omega) (by omega)]
  refine ⟨⟨y + 1, _, by omega, by go_num, by simp; omega, p1, fun i hi => ?_, Kp.of_chg kr p2 fun k hk => (hrec.lt hk).1⟩, by simp only [intOf]; omega⟩
  by_cases e : i = y
  · subst e
    rw [List.getD_eq_getElem?_getD, List.getElem?_append_right (by omega), hvs, Nat.sub_self, rowsOf_at hlt]
    exact hsub
  · rw [List.getD_eq_getElem?_getD, List.getElem?_append_left (by omega), ← List.getD_eq_getElem?_getD]
    exact hrows i (by omega)

/-- What the search answers. -/
def FindPost (l : List Tile) (W H : Nat) (L : List Nat) (w w' : World) (e : Ending) : Prop :=
  Kp w w' ∧ ∃ bv ok, e = .returned (.tuple #[bv, .bool ok]) ∧ (ok = true → ∃ M, M.length = W * H ∧ (∀ i ∈ M, i < l.length) ∧ ClT l (TM M W) W H ∧ RdRows w' bv (rowsOf W H M)) ∧ (ok = false → ∀ S, (L ++ S).length = W * H → (∀ i ∈ S, i < l.length) → ¬ ClT l (TM (L ++ S) W) W H)

set_option maxRecDepth 100000 in
set_option maxHeartbeats 1000000 in
theorem find_calls {l : List Tile} {sv : Value} {W H : Nat} (hset : setB l = true) (hW : 1 ≤ W ∧ W ≤ 4) (hH : 1 ≤ H ∧ H ≤ 4) : ∀ (k : Nat) (L : List Nat) (lv : Value) (w : World), L.length + k = W * H → (∀ i ∈ L, i < l.length) → RdT w sv l → RdInts w lv (intsN L) → (L = [] → lv = nilS) →
    Calls Tryz.prog 6 #[sv, .int .i64 W, .int .i64 H, lv] w fun e w' => FindPost l W H L w w' e := by
  have hlm : l.length ≤ 16 := (isSet_of hset).most
  have hWH : W * H ≤ 4 * 4 := Nat.mul_le_mul hW.2 hH.2
  intro k
  induction k with
  | zero =>
    intro L lv w hk hl hr hL hnil
    obtain ⟨la, lc, el, _⟩ := hL.len
    rw [intsN_len] at el
    refine lift6 ?_
    unfold S6
    have lnv : ∀ K : Value → Prop, ln1 lv K = K (.int .i64 L.length) := fun K => by rw [el]; rfl
    rw [lnv, r_mulN _ _ (by omega), r_eql, decide_eq_true (by omega), r_condT]
    refine r6_0 hset hr hL hl (by omega) hW hH fun bv ok w' kw hB hok => ⟨kw, bv, ok, rfl, fun h => ⟨L, by omega, hl, hok.1 h, hB⟩, fun h S hS hSl => ?_⟩
    have : S = [] := List.length_eq_zero_iff.1 (by rw [List.length_append] at hS; omega)
    subst this
    rw [List.append_nil]
    intro c
    rw [hok.2 c] at h; cases h
  | succ k ih =>
    intro L lv w hk hl hr hL hnil
    obtain ⟨la, lc, el, hll, hcap⟩ := hL.len
    rw [intsN_len] at el hll hcap
    obtain ⟨sa, sc, es, _⟩ := hr.len
    refine lift6 ?_
    unfold S6
    have lnv : ∀ K : Value → Prop, ln1 lv K = K (.int .i64 L.length) := fun K => by rw [el]; rfl
    have lns : ∀ K : Value → Prop, ln1 sv K = K (.int .i64 l.length) := fun K => by rw [es]; rfl
    rw [lnv, r_mulN _ _ (by omega), r_eql, decide_eq_false (by omega), r_condF]
    unfold S6L1
    refine ⟨fun t16 wr => ∃ i : Nat, i ≤ l.length ∧ t16 = .int .i64 i ∧ (∀ j, j < i → ∀ S, (L ++ j :: S).length = W * H → (∀ q ∈ S, q < l.length) → ¬ ClT l (TM (L ++ j :: S) W) W H) ∧ Kp w wr, fun t16 _ => l.length - (intOf t16).toNat, ⟨0, by omega, rfl, fun j hj => by omega, Kp.refl _⟩, ?_⟩
    rintro _ _ wr ⟨i, hi, rfl, hno, kr⟩
    rw [lns]
    by_cases hlt : i < l.length
    case neg =>
      have hlt' : ¬ (i : Int) < (l.length : Int) := by omega
      rw [r_lss, decide_eq_false hlt', r_condF]
      refine ⟨kr, nilS, false, rfl, (fun h => by cases h), fun _ S hS hSl => ?_⟩
      cases S with
      | nil => simp at hS; omega
      | cons j S => exact hno j (by have := hSl j (by simp); omega) S hS fun q hq => hSl q (by simp [hq])
    have hlt' : (i : Int) < (l.length : Int) := by omega
    rw [r_lss, decide_eq_true hlt', r_condT]
    refine r_join0 (fun w' => Kp w w' ∧ ∀ S, (L ++ i :: S).length = W * H → (∀ q ∈ S, q < l.length) → ¬ ClT l (TM (L ++ i :: S) W) W H) ?_ fun k' hk' => ?_
    · rintro w' ⟨g1, g2⟩
      rw [r_add _ _ (by omega) (by omega)]
      refine ⟨⟨i + 1, by omega, by go_num, fun j hj => ?_, g1⟩, by simp only [intOf]; omega⟩
      by_cases e : j = i
      · subst e; exact g2
      · exact hno j (by omega)
    refine r_drew fun w1 k1 _ => ?_
    have k01 := Kp.trans kr k1
    refine r6_chk (hr.kp k01) (hL.below k01) hl (by omega) hW hlt ?_
    cases hb : (bad1 l W L i || bad2 l W L i) with
    | true =>
      rw [r_condT]
      exact hk' _ ⟨k01, fun S hS _ => bad_no hW.1 hS hb⟩
    | false =>
      rw [r_condF, el]
      refine r_cut (by omega) ?_
      have hLi : (intsN L).length = L.length := intsN_len L
      have hL1 : RdInts w1 (.slice la (intsN L).length lc) (intsN L) := by rw [hLi, ← el]; exact hL.below k01
      have h0 : intsN L = [] → la = none := fun e => by
        have : L = [] := List.length_eq_zero_iff.1 (by rw [← hLi, e]; rfl)
        have hn := hnil this
        rw [el] at hn
        injection hn
      have hpush := @r_pushView la lc w1 (intsN L) (i : Int)
      rw [hLi] at hpush
      refine hpush (by rw [← hLi]; exact hL1) h0 (by omega) fun v' w2 hv k2 => ?_
      have k02 := Kp.trans k01 k2
      have hL2 : RdInts w2 v' (intsN (L ++ [i])) := by
        have e : intsN (L ++ [i]) = intsN L ++ [(i : Int)] := by simp [intsN]
        rw [e]; exact hv
      refine r_use (by kernel_rfl) (ih (L ++ [i]) v' w2 (by simp; omega) (fun q hq => ?_) (hr.kp k02) hL2 (fun e => by simp at e)) rfl ?_
      · rcases List.mem_append.1 hq with h | h
        · exact hl q h
        · rw [List.mem_singleton] at h; omega
      rintro _ w3 ⟨k3, bv, ok, rfl, hT, hF⟩
      refine ⟨_, rfl, ?_⟩
      rw [r_ex2a, r_ex2b]
      have k03 := Kp.trans k02 k3
      cases ok with
      | true =>
        rw [r_condT]
        exact ⟨k03, bv, true, rfl, hT, fun h => by cases h⟩
      | false =>
        rw [r_condF]
        refine hk' _ ⟨k03, fun S hS hSl => ?_⟩
        have := hF rfl S (by rw [List.append_assoc]; exact hS) hSl
        rwa [List.append_assoc] at this

end Go.Proofs.YtfmppkplmfbjpaaGreatDoor
