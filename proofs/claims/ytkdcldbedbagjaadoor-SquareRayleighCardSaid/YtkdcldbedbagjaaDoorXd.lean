/- Appending records; less; SquareRayleigh. -/
import Derived.Test.YtkdcldbedbagjaaDoorXc
import Derived.Test.YtkdcldbedbagjaaDoorGd
set_option linter.all false
namespace Go.Proofs.YtkdcldbedbagjaaDoor
open Go.Lf Go.RowKit Go.Dt

section
variable {α : Type} {m : Nat} {enc : α → List Value}
theorem recCells_get (he : ∀ x, (enc x).length = m) : ∀ (P : List α) (q : Nat) (u : Value), (recCells enc P)[q]? = some u → ∃ i x j, P[i]? = some x ∧ (enc x)[j]? = some u ∧ q = i * m + j
  | [], q, u, h => by simp [recCells] at h
  | p :: P, q, u, h => by
    by_cases hq : q < m
    · refine ⟨0, p, q, rfl, ?_, by omega⟩
      simp only [recCells, List.flatMap_cons] at h
      rwa [List.getElem?_append_left (by rw [he]; exact hq)] at h
    · simp only [recCells, List.flatMap_cons] at h
      rw [List.getElem?_append_right (by rw [he]; omega), he] at h
      obtain ⟨i, x, j, h1, h2, h3⟩ := recCells_get he P (q - m) u h
      exact ⟨i + 1, x, j, h1, h2, by rw [Nat.add_mul]; omega⟩

theorem RecAt.row {e : TypeId} {base : Nat} {w : World} {v : Value} {P : List α} (h : RecAt e m enc base w v P) {k : Nat} (hk : v.ownBlock = some k) : ∃ cur, w.heap[k]? = some (.cells cur e (0, 0)) := by
  rcases h.2 with ⟨rfl, _⟩ | ⟨g, cap, cur, rfl, _, hg, _⟩
  · cases hk
  · cases hk
    exact ⟨cur, hg⟩

set_option maxRecDepth 100000 in
/-- append(v, src...) at records, src any slice that reads as L. -/
theorem r_apRec {bytes base : Nat} {t e ty : TypeId} {w : World} {v src : Value} {P L : List α} {K : Value → World → Prop} (T : SlT t e m bytes) (he : ∀ x, (enc x).length = m)
    (h1 : ∀ x, ∀ u ∈ enc x, u.oneCell' = true) (hby : bytes ≤ 128) (h : RecAt e m enc base w v P) (hs : Rd m enc w src L) (hn : P.length + L.length ≤ 1000000) (hb : base ≤ w.heap.size)
    (hk : ∀ v' w', RecAt e m enc base w' v' (P ++ L) → Chg (fun k => v.ownBlock = some k) w w' → (∀ k, v'.ownBlock = some k → v.ownBlock = some k ∨ w.heap.size ≤ k) → K v' w') :
    semW Tryd.prog (apS [t, t] ty [v, src]) w K := by
  obtain ⟨a, cap, rfl, hl, hc⟩ := hs
  by_cases h0 : 0 < L.length
  · obtain ⟨b, off, rfl, hcell⟩ := hc h0
    refine r_apAt (news := recCells enc L) T h (recCells_length he L) (fun j u hj => ?_) (fun u hu => ?_) (by omega) hby hb fun v' w' ho c hat => hk v' w' ?_ c hat
    · obtain ⟨i, x, j', e1, e2, rfl⟩ := recCells_get he L j u hj
      rw [r_addr, ← Nat.add_assoc]
      exact hcell i x e1 j' u e2
    · obtain ⟨x, _, hx⟩ := List.mem_flatMap.1 hu
      exact h1 x u hx
    · unfold RecAt
      rw [recCells_append, List.length_append]
      exact ho
  · have e0 : L = [] := List.length_eq_zero_iff.1 (by omega)
    subst e0
    refine r_ap0 T h (hk v w (by simpa using h) (Chg.refl _ _) fun k hk => .inl hk)
end

set_option maxRecDepth 100000 in
theorem bs27_0 (w : World) (K : Value → World → Prop) : bsW Tryd.prog 27 0 [] w K = K (.slice (some ⟨w.heap.size, 0, none⟩) 0 0) (w.alloc (.cells #[] 40)) := by kernel_rfl

theorem own_empty (w : World) : RecAt 40 2 wC w.heap.size (w.alloc (.cells #[] 40)) (.slice (some ⟨w.heap.size, 0, none⟩) 0 0) [] :=
  ⟨rfl, .inr ⟨w.heap.size, 0, #[], rfl, Nat.le_refl _, heap_alloc_new w _, Nat.le_refl _, by decide, by simp, rfl⟩⟩

set_option maxRecDepth 100000 in
theorem less_calls {a b c d : Nat} (w : World) (h1 : a * d ≤ 9223372036854775807) (h2 : c * b ≤ 9223372036854775807) : Calls Tryd.prog 37 #[wV a b, wV c d] w fun e w' => e = .returned (.bool (decide (a * d ≤ c * b))) ∧ Kp w w' := by
  refine lift37 ?_
  unfold S37
  refine r_box fun b2 w1 e2 s2 g2 k1 => ?_
  refine r_box fun b3 w2 e3 s3 g3 k2 => ?_
  have g2' := block_below (show w1.heap[b2]? = some (.cells #[.int .i64 a, .int .i64 b] 58 (0, 0)) from g2) k2
  have g3' : w2.heap[b3]? = some (.cells #[.int .i64 c, .int .i64 d] 58 (0, 0)) := g3
  have p0 : w2.cell? ⟨b2, 0, none⟩ = some (.int .i64 a) := by rw [cell_row g2']; rfl
  have p1 : w2.cell? ⟨b2, 1, none⟩ = some (.int .i64 b) := by rw [cell_row g2']; rfl
  have q0 : w2.cell? ⟨b3, 0, none⟩ = some (.int .i64 c) := by rw [cell_row g3']; rfl
  have q1 : w2.cell? ⟨b3, 1, none⟩ = some (.int .i64 d) := by rw [cell_row g3']; rfl
  simp only [r_ln, r_pick, r_pickT, r_pickF, r_condT, r_condF, r_gdTT, r_gdFF, r_gdTF, r_gdFT, r_gqTT, r_gqFF, r_gqTF, r_gqFT, r_not, r_lss, r_leq, r_gtr, r_geq, r_eql, r_neq, r_add, r_sub, r_min2, r_max2, r_min3, r_max3, r_fa, r_iaS, r_iaA, r_ex2a, r_ex2b, r_ex3a, r_ex3b, r_ex3c, r_nc, r_keepE, Nat.zero_add, Nat.add_zero, Nat.mul_one, Int.toNat_natCast, toNat_sub1, toNat_add1, decide_true, decide_false, Bool.not_true, Bool.not_false, if_true, if_false, Bool.false_eq_true, reduceCtorEq, r_ld p0, r_ld p1, r_ld q0, r_ld q1, r_mulN _ _ h1, r_mulN _ _ h2]
  refine ⟨ret_bool ?_, Kp.trans k1 k2⟩
  by_cases h : a * d ≤ c * b
  · rw [decide_eq_true h, decide_eq_true (by omega)]
  · rw [decide_eq_false h, decide_eq_false (by omega)]

/-! ### the region -/
structure St (w2 w : World) (p : Int × Int) (x : Option (Value × List (Int × Int))) (y : Option Value) (b : Option Nat) : Prop where
  kp : Kp w2 w
  own : ∀ v P, x = some (v, P) → RecAt 40 2 wC w2.heap.size w v P
  wire : ∀ v, y = some v → ∃ k, v = .slice (some ⟨k, 0, none⟩) 1 1 ∧ w.heap[k]? = some (.cells #[.int .i64 p.1, .int .i64 p.2] 40 (0, 0)) ∧ w2.heap.size ≤ k ∧ ∀ v P, x = some (v, P) → v.ownBlock ≠ some k
  box : ∀ k, b = some k → w.heap[k]? = some (.cells #[.int .i64 0, .int .i64 0] 58 (0, 0)) ∧ w2.heap.size ≤ k

variable {w2 w : World} {p : Int × Int} {x : Option (Value × List (Int × Int))} {y : Option Value} {b : Option Nat} {K : Value → World → Prop}

theorem St.later (h : St w2 w p x y b) {w' : World} (k : Kp w w') : St w2 w' p x y b :=
  ⟨Kp.trans h.kp k, fun v P e => (h.own v P e).kp k, fun v e => let ⟨q, h1, h2, h3, h4⟩ := h.wire v e; ⟨q, h1, block_below h2 k, h3, h4⟩, fun q e => let ⟨h1, h2⟩ := h.box q e; ⟨block_below h1 k, h2⟩⟩

set_option maxRecDepth 100000 in
theorem sA (h : St w2 w p none y b) (hk : ∀ v w', St w2 w' p (some (v, [])) y b → K v w') : bsW Tryd.prog 27 0 [] w (keepX (fun k => w2.heap.size ≤ k) w K) := by
  rw [bs27_0, r_keepXE]
  have k1 : Kp w (w.alloc (.cells #[] 40)) := below_alloc _
  have ho := own_empty w
  refine ⟨BX.of_below k1, hk _ _ ⟨Kp.trans h.kp k1, fun v P e => ?_, fun v e => ?_, fun q e => let ⟨h1, h2⟩ := h.box q e; ⟨block_below h1 k1, h2⟩⟩⟩
  · cases e; exact ho.down h.kp.size
  · obtain ⟨q, h1, h2, h3, _⟩ := h.wire v e
    refine ⟨q, h1, block_below h2 k1, h3, fun v P e => ?_⟩
    cases e
    have := block_lt h2
    intro e
    have e : some w.heap.size = some q := e
    injection e with e
    omega

set_option maxRecDepth 100000 in
theorem sB (h : St w2 w p x none b) (hk : ∀ v w', St w2 w' p x (some v) b → K v w') : bsW Tryd.prog 27 1 [(0, paV2 p)] w (keepX (fun k => w2.heap.size ≤ k) w K) := by
  have e0 := bs27 p.1 p.2 w (keepX (fun k => w2.heap.size ≤ k) w K)
  have e1 : paV2 p = wV p.1 p.2 := rfl
  rw [e1, e0, r_keepXE]
  have k1 : Kp w (w.alloc (.cells (wV p.1 p.2).cells 40)) := below_alloc _
  have hn := heap_alloc_new w (.cells (wV p.1 p.2).cells 40)
  refine ⟨BX.of_below k1, hk _ _ ⟨Kp.trans h.kp k1, fun v P e => (h.own v P e).kp k1, fun v e => ?_, fun q e => let ⟨h1, h2⟩ := h.box q e; ⟨block_below h1 k1, h2⟩⟩⟩
  cases e
  refine ⟨w.heap.size, rfl, hn, h.kp.size, fun v P e hq => ?_⟩
  have := (h.own v P e).lt hq
  omega

set_option maxRecDepth 100000 in
theorem sC (h : St w2 w p x y none) (hk : ∀ q w', St w2 w' p x y (some q) → K (ptrV q) w') : boxW 58 (.agg #[.int .i64 0, .int .i64 0]) w (keepX (fun k => w2.heap.size ≤ k) w K) := by
  refine r_box fun q w' e s g k1 => ?_
  rw [r_keepXE]
  refine ⟨BX.of_below k1, hk _ _ ⟨Kp.trans h.kp k1, fun v P e => (h.own v P e).kp k1, fun v e => let ⟨q, h1, h2, h3, h4⟩ := h.wire v e; ⟨q, h1, block_below h2 k1, h3, h4⟩, fun q' e' => ?_⟩⟩
  cases e'
  exact ⟨g, by have := h.kp.size; omega⟩

set_option maxRecDepth 100000 in
theorem sP {v src : Value} {P L : List (Int × Int)} (h : St w2 w p (some (v, P)) y b) (hs : RdW w src L) (hn : P.length + L.length ≤ 1000000) (hk : ∀ v' w', St w2 w' p (some (v', P ++ L)) y b → K v' w') :
    semW Tryd.prog (apS [27, 27] 27 [v, src]) w (keepX (fun k => w2.heap.size ≤ k) w K) := by
  have ho := h.own v P rfl
  refine r_apRec slt27 wC_len wC_one (by omega) ho hs hn h.kp.size fun v' w' o1 c1 hat => ?_
  rw [r_keepXE]
  refine ⟨BX.of_chg (c1.mono fun k _ hk => (ho.lt hk).1), hk _ _ ⟨Kp.of_chg h.kp c1 fun k hk => (ho.lt hk).1, fun v2 P2 e => by cases e; exact o1, fun u e => ?_, fun q e => ?_⟩⟩
  · obtain ⟨q, h1, h2, h3, h4⟩ := h.wire u e
    refine ⟨q, h1, c1.at h2 (h4 v P rfl), h3, fun v2 P2 e => ?_⟩
    cases e
    intro e2
    rcases hat q e2 with h5 | h5
    · exact h4 v P rfl h5
    · have := block_lt h2
      omega
  · obtain ⟨h1, h2⟩ := h.box q e
    refine ⟨c1.at h1 fun hq => ?_, h2⟩
    obtain ⟨cur, hcur⟩ := ho.row hq
    rw [hcur] at h1
    injection h1 with h1
    injection h1 with _ h1 _
    exact absurd h1 (by decide)

theorem St.rdw {u : Value} (h : St w2 w p x (some u) b) : RdW w u [p] := by
  obtain ⟨k, rfl, h1, _, _⟩ := h.wire u rfl
  refine ⟨_, _, rfl, Nat.le_refl _, fun _ => ⟨k, 0, rfl, fun i q hi j z hz => ?_⟩⟩
  have hi0 : i = 0 := by
    have := (List.getElem?_eq_some_iff.1 hi).1
    simpa using this
  subst hi0
  cases hi
  rw [cell_row h1]
  simpa [wC] using hz

set_option maxRecDepth 100000 in
theorem sQ {v u : Value} {L : List (Int × Int)} (h : St w2 w p (some (v, [] ++ L)) (some u) b) (hn : L.length ≤ 1000) (hk : ∀ v' w', St w2 w' p (some (v', L ++ [p])) (some u) b → K v' w') :
    semW Tryd.prog (apS [27, 27] 27 [v, u]) w (keepX (fun k => w2.heap.size ≤ k) w K) :=
  sP h h.rdw (by simp; omega) fun v' w' h' => hk v' w' (by rw [List.nil_append] at h'; exact h')

set_option maxRecDepth 100000 in
theorem sR {v : Value} {L : List (Int × Int)} {n s t : Int} (h : St w2 w p (some (v, L)) y b) (hw : Wh w2) (hk : ∀ w', St w2 w' p (some (v, L)) y b → K (.tuple #[paV (rsP n L s t), .int .i64 (thE n L s t)]) w') :
    callW Tryd.prog (.func (.func 36) #[] #[]) [.int .i64 n, v, .int .i64 s, .int .i64 t] w (keepX (fun k => w2.heap.size ≤ k) w K) := by
  refine r_use fok36 (Resist_calls (n := n) w (hw.kp h.kp) ((h.own v L rfl).rd wC_len)) rfl ?_
  rintro _ w' ⟨k1, rfl⟩
  refine ⟨_, rfl, ?_⟩
  rw [r_keepXE]
  exact ⟨BX.of_below k1, hk w' (h.later k1)⟩

set_option maxRecDepth 100000 in
theorem sS {q : Nat} {r : Int × Int} {K : World → Prop} (h : St w2 w p x y (some q)) (hk : ∀ w', Kp w2 w' → w'.heap[q]? = some (.cells #[.int .i64 r.1, .int .i64 r.2] 58 (0, 0)) → K w') :
    stW Tryd.prog 58 (ptrV q) (paV r) w (keepW (fun k => w2.heap.size ≤ k) w K) := by
  obtain ⟨h1, h2⟩ := h.box q rfl
  refine st58 h1 fun w5 c5 s5 h5 => ?_
  rw [r_keepWE]
  exact ⟨BX.of_chg (c5.mono fun k _ e => by omega), hk w5 (Kp.of_chg h.kp c5 fun k e => by omega) h5⟩

/-! ### plain -/
theorem pace_gcd {a b : Nat} (hb : 0 < b) : ∃ p q k : Nat, paceOf a b = ((p : Int), (q : Int)) ∧ 0 < k ∧ p * k = a ∧ q * k = b :=
  ⟨a / Nat.gcd a b, b / Nat.gcd a b, Nat.gcd a b, rfl, Nat.gcd_pos_of_pos_right _ hb, Nat.div_mul_cancel (Nat.gcd_dvd_left a b), Nat.div_mul_cancel (Nat.gcd_dvd_right a b)⟩

theorem less_cross {p q k p' q' k' V T V' T' : Nat} (hk : 0 < k) (hk' : 0 < k') (h1 : p * k = V) (h2 : q * k = T) (h1' : p' * k' = V') (h2' : q' * k' = T') (h : V' * T ≤ V * T') : p' * q ≤ p * q' := by
  subst h1; subst h2; subst h1'; subst h2'
  have e1 : p' * k' * (q * k) = (k' * k) * (p' * q) := by grind
  have e2 : p * k * (q' * k') = (k' * k) * (p * q') := by grind
  rw [e1, e2] at h
  exact Nat.le_of_mul_le_mul_left h (Nat.mul_pos hk' hk)

theorem less_sum {p q k p1 q1 k1 p2 q2 k2 V V1 V2 T : Nat} (hk : 0 < k) (hk1 : 0 < k1) (hk2 : 0 < k2) (h1 : p * k = V) (h2 : q * k = T) (h3 : p1 * k1 = V1) (h4 : q1 * k1 = T) (h5 : p2 * k2 = V2) (h6 : q2 * k2 = T) (h : V ≤ V1 + V2) :
    p * (q1 * q2) ≤ (p1 * q2 + p2 * q1) * q := by
  have e1 : (k * k1 * k2) * (p * (q1 * q2)) = V * (T * T) := by
    have : (k * k1 * k2) * (p * (q1 * q2)) = (p * k) * ((q1 * k1) * (q2 * k2)) := by grind
    rw [this, h1, h4, h6]
  have e2 : (k * k1 * k2) * ((p1 * q2 + p2 * q1) * q) = (V1 + V2) * (T * T) := by
    have : (k * k1 * k2) * ((p1 * q2 + p2 * q1) * q) = ((p1 * k1) * (q2 * k2) + (p2 * k2) * (q1 * k1)) * (q * k) := by grind
    rw [this, h3, h6, h5, h4, h2]
    grind
  refine Nat.le_of_mul_le_mul_left (c := k * k1 * k2) ?_ (Nat.mul_pos (Nat.mul_pos hk hk1) hk2)
  rw [e1, e2]
  exact Nat.mul_le_mul_right _ h

theorem end_turn (n : Int) (L : List (Int × Int)) (s t : Int) : endErr n L s t = endErr n L t s := by
  unfold endErr
  by_cases h : s < 0 ∨ n ≤ s ∨ t < 0 ∨ n ≤ t ∨ s = t
  · rw [if_pos h, if_pos (show t < 0 ∨ n ≤ t ∨ s < 0 ∨ n ≤ s ∨ t = s by omega)]
  · rw [if_neg h, if_neg (show ¬ (t < 0 ∨ n ≤ t ∨ s < 0 ∨ n ≤ s ∨ t = s) by omega)]
theorem thE_turn (n : Int) (L : List (Int × Int)) (s t : Int) : thE n L s t = thE n L t s := by
  unfold thE; rw [end_turn]
theorem rsP_turn (n : Int) (L : List (Int × Int)) (s t : Int) : rsP n L s t = rsP n L t s := by
  unfold rsP shP; rw [end_turn, volt_comm]

/-- What a resistance without an error is. -/
theorem rs_ok {n s t : Int} {L : List (Int × Int)} (h : thE n L s t = 0) : ∃ (N S T : Nat), n = N ∧ s = S ∧ t = T ∧ NetOk N (L.map natW) ∧ S < N ∧ T < N ∧ S ≠ T ∧ 0 < trees N (L.map natW) ∧ rsP n L s t = paceOf (volt N (L.map natW) S T) (trees N (L.map natW)) := by
  unfold thE at h
  by_cases h1 : endErr n L s t = 0
  case neg => rw [if_neg h1] at h; exact absurd h h1
  rw [if_pos h1] at h
  by_cases h2 : trees n.toNat (L.map natW) = 0
  · rw [if_pos h2] at h; cases h
  obtain ⟨g1, S, T, rfl, rfl, hS, hT, hST⟩ := end_ok h1
  obtain ⟨N, rfl, hN, _⟩ := net_ok g1
  have e : ((N : Nat) : Int).toNat = N := rfl
  rw [e] at h2
  refine ⟨N, S, T, rfl, rfl, rfl, hN, by omega, by omega, hST, by omega, ?_⟩
  unfold rsP shP
  rw [if_pos h1]
  show (if trees N (L.map natW) = 0 then _ else _) = _
  rw [if_neg h2]
  rfl

/-- What SquareRayleigh asks behind the wire more. -/
def T10 (t0 t1 t2 t3 t4 t13 : Value) (w : World) (R : Ending → World → Prop) : Prop :=
  callW Tryd.prog (.func (.func 36) #[] #[]) [t0, t1, t2, t4] w fun t78 w =>
  exQ t78 0 fun t79 =>
  exQ t78 1 fun t80 =>
  boxW 58 (.agg #[(.int .i64 0), (.int .i64 0)]) w fun t18 w =>
  stW Tryd.prog 58 t18 t79 w fun w =>
  callW Tryd.prog (.func (.func 36) #[] #[]) [t0, t1, t4, t3] w fun t86 w =>
  exQ t86 0 fun t87 =>
  exQ t86 1 fun t88 =>
  boxW 58 (.agg #[(.int .i64 0), (.int .i64 0)]) w fun t19 w =>
  stW Tryd.prog 58 t19 t87 w fun w =>
  binQ Tryd.prog w .neq 24 true t80 (.int .i64 0) fun t90 =>
  gd t90 false (fun k => k t88 w) w fun t92 w =>
  gd t90 false (fun k => binQ Tryd.prog w .neq 24 true t92 (.int .i64 0) fun v => k v w) w fun t93 w =>
  pickQ t90 (.bool true) t93 fun t94 =>
  condW t94 (
    callW Tryd.prog (.func (.func 14) #[] #[]) [] w fun t95 w =>
    R (.returned t95) w
  ) (
    ldN 2 w t13 fun t96 =>
    fa1 t18 0 fun t97 =>
    ld1 w t97 fun t98 =>
    fa1 t19 1 fun t99 =>
    ld1 w t99 fun t100 =>
    binQ Tryd.prog w .mul 3 false t98 t100 fun t101 =>
    fa1 t19 0 fun t102 =>
    ld1 w t102 fun t103 =>
    fa1 t18 1 fun t104 =>
    ld1 w t104 fun t105 =>
    binQ Tryd.prog w .mul 3 false t103 t105 fun t106 =>
    binQ Tryd.prog w .add 3 false t101 t106 fun t107 =>
    fa1 t18 1 fun t108 =>
    ld1 w t108 fun t109 =>
    fa1 t19 1 fun t110 =>
    ld1 w t110 fun t111 =>
    binQ Tryd.prog w .mul 3 false t109 t111 fun t112 =>
    bdQ Tryd.prog 58 [(0, t107), (1, t112)] fun t113 =>
    callW Tryd.prog (.func (.func 37) #[] #[]) [t96, t113] w fun t114 w =>
    gd t114 true (fun k => callW Tryd.prog (.func (.func 14) #[] #[]) [] w k) w fun t116 w =>
    pickQ t114 t116 (.bool false) fun t117 =>
    R (.returned t117) w
  )

set_option maxRecDepth 100000 in
set_option maxHeartbeats 2000000 in
theorem tail10 {v : Value} {L : List (Int × Int)} {N S T : Nat} {u : Int} {b13 a q k : Nat} {w w9 : World} (hw : Wh w) (hr : RdW w v L) (k09 : Kp w w9) (hN : NetOk N (L.map natW)) (hS : S < N) (hT : T < N) (hST : S ≠ T) (hpos : 0 < trees N (L.map natW))
    (hk : 0 < k) (hak : a * k = volt N (L.map natW) S T) (hqk : q * k = trees N (L.map natW)) (h139 : w9.heap[b13]? = some (.cells #[.int .i64 a, .int .i64 q] 58 (0, 0))) :
    T10 (.int .i64 N) v (.int .i64 S) (.int .i64 T) (.int .i64 u) (ptrV b13) w9 fun e w' => e = .returned (.bool true) ∧ Kp w w' := by
  have sV := volt_small (n := N) (s := S) (t := T) hN.few
  have sT := trees_small (n := N) hN.few
  have ha : a ≤ 65536 := Nat.le_trans (by rw [← hak]; exact Nat.le_mul_of_pos_right _ hk) sV
  have hq : q ≤ 65536 := Nat.le_trans (by rw [← hqk]; exact Nat.le_mul_of_pos_right _ hk) sT
  unfold T10
  refine r_use fok36 (Resist_calls (n := N) w9 (hw.kp k09) (hr.kp k09)) rfl ?_
  rintro _ w10 ⟨k10, rfl⟩
  refine ⟨_, rfl, ?_⟩
  rw [r_ex2a, r_ex2b]
  refine r_box fun b18 w11 e18 s18 h18 k11 => ?_
  have h18' : w11.heap[b18]? = some (.cells #[.int .i64 0, .int .i64 0] 58 (0, 0)) := h18
  have sz9 := k09.size
  have sz10 := k10.size
  refine st58 h18' fun w12 c12 s12 h12 => ?_
  have k912 : Kp w9 w12 := Kp.of_chg (Kp.trans k10 k11) c12 fun q e => by omega
  have k012 := Kp.trans k09 k912
  refine r_use fok36 (Resist_calls (n := N) w12 (hw.kp k012) (hr.kp k012)) rfl ?_
  rintro _ w13 ⟨k13, rfl⟩
  refine ⟨_, rfl, ?_⟩
  rw [r_ex2a, r_ex2b]
  refine r_box fun b19 w14 e19 s19 h19 k14 => ?_
  have h19' : w14.heap[b19]? = some (.cells #[.int .i64 0, .int .i64 0] 58 (0, 0)) := h19
  have sz13 := k13.size
  refine st58 h19' fun w15 c15 s15 h15 => ?_
  have k1215 : Kp w12 w15 := Kp.of_chg (Kp.trans k13 k14) c15 fun q e => by omega
  have k015 := Kp.trans k012 k1215
  have hb12 := block_below h12 k1215
  have hb13 := block_below h139 (Kp.trans k912 k1215)
  have fin : ∀ w' : World, Kp w w' → callW Tryd.prog (.func (.func 14) #[] #[]) [] w' fun t w1 => Ending.returned t = .returned (.bool true) ∧ Kp w w1 := fun w' k => by
    refine r_use fok14 (alive_calls w' (hw.kp k)) rfl ?_
    rintro _ w4 ⟨rfl, k4⟩
    exact ⟨_, rfl, rfl, Kp.trans k k4⟩
  have n00 : decide ((0 : Int) = 0) = true := rfl
  by_cases g1 : thE N L S u = 0
  case neg =>
    rw [r_neq, decide_eq_false g1]
    simp only [r_ln, r_pick, r_pickT, r_pickF, r_condT, r_condF, r_gdTT, r_gdFF, r_gdTF, r_gdFT, r_gqTT, r_gqFF, r_gqTF, r_gqFT, r_not, r_lss, r_leq, r_gtr, r_geq, r_eql, r_neq, r_add, r_sub, r_min2, r_max2, r_min3, r_max3, r_fa, r_iaS, r_iaA, r_ex2a, r_ex2b, r_ex3a, r_ex3b, r_ex3c, r_nc, r_keepE, Nat.zero_add, Nat.add_zero, Nat.mul_one, Int.toNat_natCast, toNat_sub1, toNat_add1, decide_true, decide_false, Bool.not_true, Bool.not_false, if_true, if_false, Bool.false_eq_true, reduceCtorEq, r_gdU]
    exact fin w15 k015
  rw [r_neq, decide_eq_true g1]
  by_cases g2 : thE N L u T = 0
  case neg =>
    simp only [r_ln, r_pick, r_pickT, r_pickF, r_condT, r_condF, r_gdTT, r_gdFF, r_gdTF, r_gdFT, r_gqTT, r_gqFF, r_gqTF, r_gqFT, r_not, r_lss, r_leq, r_gtr, r_geq, r_eql, r_neq, r_add, r_sub, r_min2, r_max2, r_min3, r_max3, r_fa, r_iaS, r_iaA, r_ex2a, r_ex2b, r_ex3a, r_ex3b, r_ex3c, r_nc, r_keepE, Nat.zero_add, Nat.add_zero, Nat.mul_one, Int.toNat_natCast, toNat_sub1, toNat_add1, decide_true, decide_false, Bool.not_true, Bool.not_false, if_true, if_false, Bool.false_eq_true, reduceCtorEq, r_gdU, decide_eq_false g2]
    exact fin w15 k015
  simp only [r_ln, r_pick, r_pickT, r_pickF, r_condT, r_condF, r_gdTT, r_gdFF, r_gdTF, r_gdFT, r_gqTT, r_gqFF, r_gqTF, r_gqFT, r_not, r_lss, r_leq, r_gtr, r_geq, r_eql, r_neq, r_add, r_sub, r_min2, r_max2, r_min3, r_max3, r_fa, r_iaS, r_iaA, r_ex2a, r_ex2b, r_ex3a, r_ex3b, r_ex3c, r_nc, r_keepE, Nat.zero_add, Nat.add_zero, Nat.mul_one, Int.toNat_natCast, toNat_sub1, toNat_add1, decide_true, decide_false, Bool.not_true, Bool.not_false, if_true, if_false, Bool.false_eq_true, reduceCtorEq, r_gdU, decide_eq_true g2]
  obtain ⟨N1, S1, U, x1, x2, rfl, _, _, hU, hSU, _, hP1⟩ := rs_ok g1
  obtain rfl : N = N1 := by omega
  obtain rfl : S = S1 := by omega
  obtain ⟨N2, U2, T2, y1, y2, y3, _, _, _, hUT, _, hP2⟩ := rs_ok g2
  obtain rfl : N = N2 := by omega
  obtain rfl : U = U2 := by omega
  obtain rfl : T = T2 := by omega
  obtain ⟨a1, q1, k1, hpe1, hk1, hak1, hqk1⟩ := pace_gcd (a := volt N (L.map natW) S U) hpos
  obtain ⟨a2, q2, k2, hpe2, hk2, hak2, hqk2⟩ := pace_gcd (a := volt N (L.map natW) U T) hpos
  have hle := less_sum hk hk1 hk2 hak hqk hak1 hqk1 hak2 hqk2 (triangle hN.wf hS hT hU hST hSU hUT (by omega))
  have sV1 := volt_small (n := N) (s := S) (t := U) hN.few
  have sV2 := volt_small (n := N) (s := U) (t := T) hN.few
  have ha1 : a1 ≤ 65536 := Nat.le_trans (by rw [← hak1]; exact Nat.le_mul_of_pos_right _ hk1) sV1
  have hq1 : q1 ≤ 65536 := Nat.le_trans (by rw [← hqk1]; exact Nat.le_mul_of_pos_right _ hk1) sT
  have ha2 : a2 ≤ 65536 := Nat.le_trans (by rw [← hak2]; exact Nat.le_mul_of_pos_right _ hk2) sV2
  have hq2 : q2 ≤ 65536 := Nat.le_trans (by rw [← hqk2]; exact Nat.le_mul_of_pos_right _ hk2) sT
  have m1 : a1 * q2 ≤ 65536 * 65536 := Nat.mul_le_mul ha1 hq2
  have m2 : a2 * q1 ≤ 65536 * 65536 := Nat.mul_le_mul ha2 hq1
  have m3 : q1 * q2 ≤ 65536 * 65536 := Nat.mul_le_mul hq1 hq2
  have m4 : a * (q1 * q2) ≤ 65536 * (65536 * 65536) := Nat.mul_le_mul ha m3
  have m5 : (a1 * q2 + a2 * q1) * q ≤ (65536 * 65536 + 65536 * 65536) * 65536 := Nat.mul_le_mul (by omega) hq
  rw [hP1, hpe1] at hb12
  rw [hP2, hpe2] at h15
  have p0 : w15.cell? ⟨b18, 0, none⟩ = some (.int .i64 a1) := by rw [cell_row hb12]; rfl
  have p1 : w15.cell? ⟨b18, 1, none⟩ = some (.int .i64 q1) := by rw [cell_row hb12]; rfl
  have p2 : w15.cell? ⟨b19, 0, none⟩ = some (.int .i64 a2) := by rw [cell_row h15]; rfl
  have p3 : w15.cell? ⟨b19, 1, none⟩ = some (.int .i64 q2) := by rw [cell_row h15]; rfl
  simp only [pace_box hb13, r_ld p0, r_ld p1, r_ld p2, r_ld p3]
  rw [r_mulN _ _ (by omega), r_mulN _ _ (by omega), r_add _ _ (by omega) (by omega), r_mulN _ _ (by omega), bd58, ← Int.natCast_add]
  refine r_use fok37 (less_calls w15 (by omega) (by omega)) rfl ?_
  rintro _ w16 ⟨rfl, k16⟩
  refine ⟨_, rfl, ?_⟩
  rw [decide_eq_true hle]
  simp only [r_ln, r_pick, r_pickT, r_pickF, r_condT, r_condF, r_gdTT, r_gdFF, r_gdTF, r_gdFT, r_gqTT, r_gqFF, r_gqTF, r_gqFT, r_not, r_lss, r_leq, r_gtr, r_geq, r_eql, r_neq, r_add, r_sub, r_min2, r_max2, r_min3, r_max3, r_fa, r_iaS, r_iaA, r_ex2a, r_ex2b, r_ex3a, r_ex3b, r_ex3c, r_nc, r_keepE, Nat.zero_add, Nat.add_zero, Nat.mul_one, Int.toNat_natCast, toNat_sub1, toNat_add1, decide_true, decide_false, Bool.not_true, Bool.not_false, if_true, if_false, Bool.false_eq_true, reduceCtorEq]
  refine r_use fok14 (alive_calls w16 (hw.kp (Kp.trans k015 k16))) rfl ?_
  rintro _ w17 ⟨rfl, k17⟩
  exact ⟨_, rfl, rfl, Kp.trans (Kp.trans k015 k16) k17⟩

set_option maxRecDepth 100000 in
set_option maxHeartbeats 2000000 in
theorem law_rayleigh {v : Value} {L : List (Int × Int)} (n s t u : Int) (p : Int × Int) (w : World) (hw : Wh w) (hr : RdW w v L) :
    Calls Tryd.prog 10 #[.int .i64 n, v, .int .i64 s, .int .i64 t, .int .i64 u, paV2 p] w fun e w' => e = .returned (.bool true) ∧ Kp w w' := by
  refine lift10 ?_
  unfold S10
  refine r_box fun b11 w1 e11 s11 h11 k1 => ?_
  have h11' : w1.heap[b11]? = some (.cells #[.int .i64 p.1, .int .i64 p.2] 40 (0, 0)) := h11
  refine r_use fok21 (few_calls w1 (hr.kp k1)) rfl ?_
  rintro _ _ ⟨rfl, rfl⟩
  refine ⟨_, rfl, ?_⟩
  have fin : ∀ w' : World, Kp w w' → callW Tryd.prog (.func (.func 14) #[] #[]) [] w' fun t w1 => Ending.returned t = .returned (.bool true) ∧ Kp w w1 := fun w' k => by
    refine r_use fok14 (alive_calls w' (hw.kp k)) rfl ?_
    rintro _ w4 ⟨rfl, k4⟩
    exact ⟨_, rfl, rfl, Kp.trans k k4⟩
  by_cases h40 : L.length ≤ 40
  case neg =>
    simp (disch := omega) only [r_ln, r_pick, r_pickT, r_pickF, r_condT, r_condF, r_gdTT, r_gdFF, r_gdTF, r_gdFT, r_gqTT, r_gqFF, r_gqTF, r_gqFT, r_not, r_lss, r_leq, r_gtr, r_geq, r_eql, r_neq, r_add, r_sub, r_min2, r_max2, r_min3, r_max3, r_fa, r_iaS, r_iaA, r_ex2a, r_ex2b, r_ex3a, r_ex3b, r_ex3c, r_nc, r_keepE, Nat.zero_add, Nat.add_zero, Nat.mul_one, Int.toNat_natCast, toNat_sub1, toNat_add1, decide_true, decide_false, Bool.not_true, Bool.not_false, if_true, if_false, Bool.false_eq_true, reduceCtorEq, h40]
    exact fin w1 k1
  simp (disch := omega) only [r_ln, r_pick, r_pickT, r_pickF, r_condT, r_condF, r_gdTT, r_gdFF, r_gdTF, r_gdFT, r_gqTT, r_gqFF, r_gqTF, r_gqFT, r_not, r_lss, r_leq, r_gtr, r_geq, r_eql, r_neq, r_add, r_sub, r_min2, r_max2, r_min3, r_max3, r_fa, r_iaS, r_iaA, r_ex2a, r_ex2b, r_ex3a, r_ex3b, r_ex3c, r_nc, r_keepE, Nat.zero_add, Nat.add_zero, Nat.mul_one, Int.toNat_natCast, toNat_sub1, toNat_add1, decide_true, decide_false, Bool.not_true, Bool.not_false, if_true, if_false, Bool.false_eq_true, reduceCtorEq, h40]
  refine r_use fok36 (Resist_calls (n := n) w1 (hw.kp k1) (hr.kp k1)) rfl ?_
  rintro _ w2 ⟨k2, rfl⟩
  refine ⟨_, rfl, ?_⟩
  rw [r_ex2a, r_ex2b]
  have k02 := Kp.trans k1 k2
  refine r_box fun b13 w3 e13 s13 h13 k3 => ?_
  have h13' : w3.heap[b13]? = some (.cells #[.int .i64 0, .int .i64 0] 58 (0, 0)) := h13
  refine st58 h13' fun w4 c4 s4 h4 => ?_
  have sz2 := k02.size
  have k04 : Kp w w4 := Kp.of_chg (Kp.trans k02 k3) c4 fun q e => by omega
  have h114 : w4.heap[b11]? = some (.cells #[.int .i64 p.1, .int .i64 p.2] 40 (0, 0)) := c4.at (block_below h11' (Kp.trans k2 k3)) (by have := k2.size; omega)
  refine r_use fok36 (Resist_calls (n := n) w4 (hw.kp k04) (hr.kp k04)) rfl ?_
  rintro _ w5 ⟨k5, rfl⟩
  refine ⟨_, rfl, ?_⟩
  rw [r_ex2a, r_ex2b, ← thE_turn n L s t, ← rsP_turn n L s t]
  refine r_box fun b15 w6 e15 s15 h15 k6 => ?_
  have h15' : w6.heap[b15]? = some (.cells #[.int .i64 0, .int .i64 0] 58 (0, 0)) := h15
  refine st58 h15' fun w7 c7 s7 h7 => ?_
  have sz5 := k5.size
  have k47 : Kp w4 w7 := Kp.of_chg (Kp.trans k5 k6) c7 fun q e => by omega
  have k07 : Kp w w7 := Kp.trans k04 k47
  have h137 : w7.heap[b13]? = some (.cells #[.int .i64 (rsP n L s t).1, .int .i64 (rsP n L s t).2] 58 (0, 0)) := block_below h4 k47
  have h117 := block_below h114 k47
  have hne : ∀ (w : World) (q : Int × Int) (K : Value → Prop), binQ Tryd.prog w .neq 58 false (wV q.1 q.2) (wV q.1 q.2) K = K (.bool (!decide (q = q))) := fun w q K => r_ne58 q q K
  have hself : ∀ (q : Int × Int), decide (q = q) = true := fun q => decide_eq_true rfl
  have hself2 : ∀ (q : Int), decide (q = q) = true := fun q => decide_eq_true rfl
  simp only [r_ln, r_pick, r_pickT, r_pickF, r_condT, r_condF, r_gdTT, r_gdFF, r_gdTF, r_gdFT, r_gqTT, r_gqFF, r_gqTF, r_gqFT, r_not, r_lss, r_leq, r_gtr, r_geq, r_eql, r_neq, r_add, r_sub, r_min2, r_max2, r_min3, r_max3, r_fa, r_iaS, r_iaA, r_ex2a, r_ex2b, r_ex3a, r_ex3b, r_ex3c, r_nc, r_keepE, Nat.zero_add, Nat.add_zero, Nat.mul_one, Int.toNat_natCast, toNat_sub1, toNat_add1, decide_true, decide_false, Bool.not_true, Bool.not_false, if_true, if_false, Bool.false_eq_true, reduceCtorEq, r_gdU, hself2, pace_box h137, pace_box h7, hne, hself]
  by_cases hE : thE n L s t = 0
  case neg =>
    rw [decide_eq_false hE]
    simp only [r_ln, r_pick, r_pickT, r_pickF, r_condT, r_condF, r_gdTT, r_gdFF, r_gdTF, r_gdFT, r_gqTT, r_gqFF, r_gqTF, r_gqFT, r_not, r_lss, r_leq, r_gtr, r_geq, r_eql, r_neq, r_add, r_sub, r_min2, r_max2, r_min3, r_max3, r_fa, r_iaS, r_iaA, r_ex2a, r_ex2b, r_ex3a, r_ex3b, r_ex3c, r_nc, r_keepE, Nat.zero_add, Nat.add_zero, Nat.mul_one, Int.toNat_natCast, toNat_sub1, toNat_add1, decide_true, decide_false, Bool.not_true, Bool.not_false, if_true, if_false, Bool.false_eq_true, reduceCtorEq]
    exact fin w7 k07
  rw [decide_eq_true hE]
  simp only [r_ln, r_pick, r_pickT, r_pickF, r_condT, r_condF, r_gdTT, r_gdFF, r_gdTF, r_gdFT, r_gqTT, r_gqFF, r_gqTF, r_gqFT, r_not, r_lss, r_leq, r_gtr, r_geq, r_eql, r_neq, r_add, r_sub, r_min2, r_max2, r_min3, r_max3, r_fa, r_iaS, r_iaA, r_ex2a, r_ex2b, r_ex3a, r_ex3b, r_ex3c, r_nc, r_keepE, Nat.zero_add, Nat.add_zero, Nat.mul_one, Int.toNat_natCast, toNat_sub1, toNat_add1, decide_true, decide_false, Bool.not_true, Bool.not_false, if_true, if_false, Bool.false_eq_true, reduceCtorEq]
  obtain ⟨N, S, T, rfl, rfl, rfl, hN, hS, hT, hST, hpos, hP⟩ := rs_ok hE
  have hfew := hN.few
  rw [List.length_map] at hfew
  obtain ⟨a, q, k, hpe, hk, hak, hqk⟩ := pace_gcd (a := volt N (L.map natW) S T) hpos
  rw [hP, hpe] at h137
  have sV := volt_small (n := N) (s := S) (t := T) hN.few
  have sT := trees_small (n := N) hN.few
  have ha : a ≤ 65536 := Nat.le_trans (by rw [← hak]; exact Nat.le_mul_of_pos_right _ hk) sV
  have hq : q ≤ 65536 := Nat.le_trans (by rw [← hqk]; exact Nat.le_mul_of_pos_right _ hk) sT
  refine r_drew fun w8 k8 _ => ?_
  have k08 := Kp.trans k07 k8
  have h138 := block_below h137 k8
  have h118 := block_below h117 k8
  have hr8 := hr.kp k08
  refine r_join2 (fun t16 t17 w' => ∃ b17, t16 = .int .i64 (thE N (L ++ [p]) S T) ∧ t17 = ptrV b17 ∧ w'.heap[b17]? = some (.cells #[.int .i64 (rsP N (L ++ [p]) S T).1, .int .i64 (rsP N (L ++ [p]) S T).2] 58 (0, 0)) ∧ Kp w8 w') ?_ ?_
  case refine_2 =>
    intro kk hkk
    refine ⟨fun k => w8.heap.size ≤ k, ?_⟩
    simp only [r_tx]
    rw [r_txn (n := 2) h118 rfl (by show ¬ w8.heap.size ≤ b11; have := block_lt h118; omega)]
    have hpp : Value.agg #[.int .i64 p.1, .int .i64 p.2] = paV2 p := rfl
    rw [hpp]
    have st0 : St w8 w8 p none none none := ⟨Kp.refl _, fun _ _ e => (by cases e), fun _ e => (by cases e), fun _ e => (by cases e)⟩
    have hw8 := hw.kp k08
    repeat' first
      | exact trivial
      | (simp only [r_ex2a, r_ex2b, r_tx]; done)
      | (refine sS (by assumption) fun w9 k9 h9 => ?_; exact hkk _ _ _ ⟨_, rfl, rfl, h9, k9⟩)
      | refine sA (by assumption) fun _ _ _ => ?_
      | refine sB (by assumption) fun _ _ _ => ?_
      | refine sC (by assumption) fun _ _ _ => ?_
      | (refine sR (by assumption) hw8 fun _ _ => ?_; simp only [r_ex2a, r_ex2b, r_tx])
      | refine sQ (by assumption) (by omega) fun _ _ _ => ?_
      | refine sP (by assumption) (hr8.kp (St.kp (by assumption))) (by simp; omega) fun _ _ _ => ?_
      | refine And.intro ?_ ?_
  rintro _ _ w9 ⟨b17, rfl, rfl, h17, k9⟩
  have k09 := Kp.trans k08 k9
  have h139 := block_below h138 k9
  have n00 : decide ((0 : Int) = 0) = true := rfl
  by_cases hE' : thE N (L ++ [p]) S T = 0
  case neg =>
    rw [r_eql, decide_eq_false hE']
    simp only [r_ln, r_pick, r_pickT, r_pickF, r_condT, r_condF, r_gdTT, r_gdFF, r_gdTF, r_gdFT, r_gqTT, r_gqFF, r_gqTF, r_gqFT, r_not, r_lss, r_leq, r_gtr, r_geq, r_eql, r_neq, r_add, r_sub, r_min2, r_max2, r_min3, r_max3, r_fa, r_iaS, r_iaA, r_ex2a, r_ex2b, r_ex3a, r_ex3b, r_ex3c, r_nc, r_keepE, Nat.zero_add, Nat.add_zero, Nat.mul_one, Int.toNat_natCast, toNat_sub1, toNat_add1, decide_true, decide_false, Bool.not_true, Bool.not_false, if_true, if_false, Bool.false_eq_true, reduceCtorEq, r_gdU]
    exact tail10 hw hr k09 hN hS hT hST hpos hk hak hqk h139
  rw [r_eql, decide_eq_true hE']
  obtain ⟨N1, S1, T1, z1, z2, z3, hN', _, _, _, hpos', hP'⟩ := rs_ok hE'
  obtain rfl : N = N1 := by omega
  obtain rfl : S = S1 := by omega
  obtain rfl : T = T1 := by omega
  obtain ⟨a', q', k', hpe', hk', hak', hqk'⟩ := pace_gcd (a := volt N ((L ++ [p]).map natW) S T) hpos'
  have perm : ((L ++ [p]).map natW).Perm (natW p :: L.map natW) := by rw [List.map_append]; exact List.perm_append_comm
  have hray := rayleigh (e := natW p) (l := L.map natW) (s := S) (t := T) (hN'.wf.perm perm.symm) hS hT hST (by omega)
  rw [← volt_perm perm, ← trees_perm perm] at hray
  have hle := less_cross hk hk' hak hqk hak' hqk' hray
  have sV' := volt_small (n := N) (s := S) (t := T) hN'.few
  have sT' := trees_small (n := N) hN'.few
  have ha' : a' ≤ 65536 := Nat.le_trans (by rw [← hak']; exact Nat.le_mul_of_pos_right _ hk') sV'
  have hq' : q' ≤ 65536 := Nat.le_trans (by rw [← hqk']; exact Nat.le_mul_of_pos_right _ hk') sT'
  have m1 : a' * q ≤ 65536 * 65536 := Nat.mul_le_mul ha' hq
  have m2 : a * q' ≤ 65536 * 65536 := Nat.mul_le_mul ha hq'
  rw [hP', hpe'] at h17
  simp only [r_ln, r_pick, r_pickT, r_pickF, r_condT, r_condF, r_gdTT, r_gdFF, r_gdTF, r_gdFT, r_gqTT, r_gqFF, r_gqTF, r_gqFT, r_not, r_lss, r_leq, r_gtr, r_geq, r_eql, r_neq, r_add, r_sub, r_min2, r_max2, r_min3, r_max3, r_fa, r_iaS, r_iaA, r_ex2a, r_ex2b, r_ex3a, r_ex3b, r_ex3c, r_nc, r_keepE, Nat.zero_add, Nat.add_zero, Nat.mul_one, Int.toNat_natCast, toNat_sub1, toNat_add1, decide_true, decide_false, Bool.not_true, Bool.not_false, if_true, if_false, Bool.false_eq_true, reduceCtorEq, r_gdU, pace_box h139, pace_box h17]
  refine r_use fok37 (less_calls w9 (by omega) (by omega)) rfl ?_
  rintro _ w10 ⟨rfl, k10⟩
  refine ⟨_, rfl, ?_⟩
  rw [decide_eq_true hle]
  simp only [r_ln, r_pick, r_pickT, r_pickF, r_condT, r_condF, r_gdTT, r_gdFF, r_gdTF, r_gdFT, r_gqTT, r_gqFF, r_gqTF, r_gqFT, r_not, r_lss, r_leq, r_gtr, r_geq, r_eql, r_neq, r_add, r_sub, r_min2, r_max2, r_min3, r_max3, r_fa, r_iaS, r_iaA, r_ex2a, r_ex2b, r_ex3a, r_ex3b, r_ex3c, r_nc, r_keepE, Nat.zero_add, Nat.add_zero, Nat.mul_one, Int.toNat_natCast, toNat_sub1, toNat_add1, decide_true, decide_false, Bool.not_true, Bool.not_false, if_true, if_false, Bool.false_eq_true, reduceCtorEq]
  exact tail10 hw hr (Kp.trans k09 k10) hN hS hT hST hpos hk hak hqk (block_below h139 k10)


end Go.Proofs.YtkdcldbedbagjaaDoor
