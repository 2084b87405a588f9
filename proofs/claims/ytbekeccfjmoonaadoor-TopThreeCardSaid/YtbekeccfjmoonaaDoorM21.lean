/- Texts of my own, merged by program: To Kg. -/
import Derived.Test.YtbekeccfjmoonaaDoorM20
import Derived.Test.YtbekeccfjmoonaaDoorM03
set_option linter.all false
/- Contracts of domino: from, Count. -/
namespace Go.Proofs.YtbekeccfjmoonaaDoor
open Go.Lf Go.RowKit Go.Ht

def nxS (f : St → Nat) (t : St) : Nat := if 0 < t.1 then f t else 0
def nexts (l : List ByteArray) (s : St) : List St := [rightS l s, downS l s, overS l s]
/-- How many ways there are to go on. -/
def cntF (l : List ByteArray) : Nat → St → Nat
  | 0, _ => 1
  | n + 1, s => ((nexts l s).map (nxS (cntF l n))).sum
theorem cntF_le (l : List ByteArray) : ∀ (n : Nat) (s : St), cntF l n s ≤ 3 ^ n
  | 0, _ => by simp [cntF]
  | n + 1, s => by
    have h : ∀ t, nxS (cntF l n) t ≤ 3 ^ n := fun t => by
      unfold nxS
      split
      · exact cntF_le l n t
      · exact Nat.zero_le _
    have h1 := h (rightS l s)
    have h2 := h (downS l s)
    have h3 := h (overS l s)
    simp only [cntF, nexts, List.map_cons, List.map_nil, List.sum_cons, List.sum_nil]
    rw [Nat.pow_succ]; omega
theorem next_ok {l : List ByteArray} {s t : St} (hw : wd l ≤ 8) (h2 : s.2 < 65536) (ht : t ∈ nexts l s) : 0 < t.1 → t.1 = s.1 + 1 ∧ t.2 < 65536 := by
  have hp : 2 ^ (wd l - 1) < 2 ^ 16 := Nat.pow_lt_pow_right (by omega) (by omega)
  have hor : ∀ {a b : Nat}, a < 2 ^ 16 → b < 2 ^ 16 → a ||| b < 65536 := fun ha hb => Nat.or_lt_two_pow ha hb
  simp only [nexts, List.mem_cons, List.not_mem_nil, or_false] at ht
  rcases ht with rfl | rfl | rfl
  · unfold rightS
    split
    · intro h; exact absurd h (by decide)
    · intro _; exact ⟨rfl, hor (by show s.2 / 2 < 65536; omega) (by decide)⟩
  · unfold downS
    split
    · intro h; exact absurd h (by decide)
    · intro _; exact ⟨rfl, hor (by show s.2 / 2 < 65536; omega) hp⟩
  · unfold overS
    split
    · intro h; exact absurd h (by decide)
    · intro _; exact ⟨rfl, by show s.2 / 2 < 65536; omega⟩

def GoodF (l : List ByteArray) (f : C2 → Option Value) : Prop := ∀ c v, f c = some v → ∃ s : St, c = sI s ∧ s.1 ≤ wd l * l.length ∧ v = .int .i64 ((cntF l (wd l * l.length - s.1) s : Nat) : Int)
theorem sI_inj {s t : St} (h : sI s = sI t) : s = t := by
  unfold sI at h
  injection h with h1 h2
  exact Prod.ext (by omega) (by omega)
theorem GoodF.put {l : List ByteArray} {f : C2 → Option Value} (h : GoodF l f) {s : St} {n : Nat} (hs : s.1 + n = wd l * l.length) : GoodF l (updO f (sI s) (.int .i64 ((cntF l n s : Nat) : Int))) := by
  intro c v hc
  by_cases e : c = sI s
  · subst e
    rw [updO_same] at hc
    cases hc
    exact ⟨s, rfl, by omega, by rw [show wd l * l.length - s.1 = n by omega]⟩
  · rw [updO_ne e] at hc
    exact h c v hc
abbrev MapC (w : World) (b : Nat) (f : C2 → Option Value) : Prop := MapO cV okC w b f
set_option maxRecDepth 100000 in
theorem bs112 (x y z : C2) (w : World) (K : Value → World → Prop) : bsW Tryd.prog 112 3 [(0, cV x), (1, cV y), (2, cV z)] w K = K (.slice (some ⟨w.heap.size, 0, none⟩) 3 3) (w.alloc (.cells #[.int .i64 x.1, .int .i64 x.2, .int .i64 y.1, .int .i64 y.2, .int .i64 z.1, .int .i64 z.2] 72)) := by kernel_rfl
theorem zero66 (w : World) : (zeroValue 3).run Tryd.prog w = .ok (.int .i64 0) w := zero3 w

theorem sum_take_le {L : List Nat} : ∀ (i : Nat), (L.take i).sum ≤ L.sum := fun i => by
  have h := congrArg List.sum (List.take_append_drop i L)
  rw [List.sum_append] at h
  omega

set_option maxRecDepth 100000 in
set_option maxHeartbeats 4000000 in
theorem from_calls {w0 : World} {mb : Nat} {l : List ByteArray} {v : Value} (hr : RdB w0 v l) (hR : RegOk l 8) (hN : wd l * l.length ≤ 16) (hmb : w0.heap.size ≤ mb) :
    ∀ (n : Nat) {w : World} {f : C2 → Option Value} {s : St}, s.1 + n = wd l * l.length → s.2 < 65536 → Kp w0 w → MapC w mb f → GoodF l f →
      Calls Tryd.prog 23 #[cntV l v mb, sV s] w fun e w' => e = .returned (.int .i64 ((cntF l n s : Nat) : Int)) ∧ Chg (fun k => k = mb) w w' ∧ ∃ f', MapC w' mb f' ∧ GoodF l f' := by
  obtain ⟨a, cap, ev, _⟩ := hr.len
  have hw8 : wd l ≤ 8 := hR.wid.2
  intro n
  induction n with
  | zero =>
    intro w f s hs h2 k0 hM hG
    refine lift23 ?_
    unfold S23
    refine r_box fun b2 w1 e2 s2 hb2 k1 => ?_
    have hb2' : w1.heap[b2]? = some (.cells #[.int .i64 (wd l : Nat), .int .i64 l.length, v, .map (some mb)] 68 (0, 0)) := by rw [ev] at hb2 ⊢; exact hb2
    refine r_box fun b3 w2 e3 s3 hb3 k2 => ?_
    have hb3' : w2.heap[b3]? = some (.cells #[.int .i64 (sI s).1, .int .i64 (sI s).2] 72 (0, 0)) := hb3
    obtain ⟨c0, c1, c2, c3⟩ := cnt_cells (block_below hb2' k2)
    obtain ⟨d0, d1⟩ := s_cells hb3'
    have d0' : w2.cell? ⟨b3, 0, none⟩ = some (.int .i64 ((s.1 : Nat) : Int)) := d0
    simp only [r_fa, Nat.zero_add, r_ld d0', r_ld c0, r_ld c1]
    rw [r_mulN _ _ (by omega), r_eql, decide_eq_true (by omega), r_condT]
    exact ⟨rfl, Chg.of_kp (Kp.trans k1 k2), f, hM.kp (Kp.trans k1 k2), hG⟩
  | succ n ih =>
    intro w f s hs h2 k0 hM hG
    have okS : okC (sI s) := ⟨⟨by unfold sI; dsimp only; omega, by unfold sI; dsimp only; omega⟩, ⟨by unfold sI; dsimp only; omega, by unfold sI; dsimp only; omega⟩⟩
    refine lift23 ?_
    unfold S23
    refine r_box fun b2 w1 e2 s2 hb2 k1 => ?_
    have hb2' : w1.heap[b2]? = some (.cells #[.int .i64 (wd l : Nat), .int .i64 l.length, v, .map (some mb)] 68 (0, 0)) := by rw [ev] at hb2 ⊢; exact hb2
    refine r_box fun b3 w2 e3 s3 hb3 k2 => ?_
    have hb3' : w2.heap[b3]? = some (.cells #[.int .i64 (sI s).1, .int .i64 (sI s).2] 72 (0, 0)) := hb3
    have g2 := block_below hb2' k2
    obtain ⟨c0, c1, c2, c3⟩ := cnt_cells g2
    obtain ⟨d0, d1⟩ := s_cells hb3'
    have d0' : w2.cell? ⟨b3, 0, none⟩ = some (.int .i64 ((s.1 : Nat) : Int)) := d0
    have k02 := Kp.trans k1 k2
    have hM2 := hM.kp k02
    simp only [r_fa, Nat.zero_add, r_ld d0', r_ld c0, r_ld c1, r_ld c3]
    rw [r_mulN _ _ (by omega), r_eql, decide_eq_false (by omega), r_condF]
    rw [s_box hb3', r_lkO2 keyS und66 zero3 hM2 okS, r_ex2a, r_ex2b]
    cases hf : f (sI s) with
    | some u =>
      obtain ⟨s', e1, e2', e3'⟩ := hG _ _ hf
      obtain rfl := sI_inj e1
      show condW (.bool true) _ _
      rw [r_condT]
      refine ⟨?_, Chg.of_kp k02, f, hM2, hG⟩
      rw [e3', show wd l * l.length - s.1 = n + 1 by omega]; rfl
    | none =>
    show condW (.bool false) _ _
    rw [r_condF]
    refine r_drew fun w3 k3 _ => ?_
    have k03 := Kp.trans k02 k3
    have kA := Kp.trans k0 k03
    have g23 := block_below g2 k3
    have g33 := block_below hb3' k3
    have ldc : ∀ K : Value → Prop, ldN 4 w3 (ptrV b2) K = K (cntV l v mb) := fun K => r_ldRow g23 rfl
    have lds : ∀ K : Value → Prop, ldN 2 w3 (ptrV b3) K = K (sV s) := fun K => s_box g33 K
    rw [ldc, lds, ldc, lds, ldc, lds]
    refine r_use fok55 (right_calls w3 (hr.kp kA) hR (by omega) h2) rfl ?_
    rintro _ w4 ⟨rfl, k4⟩
    refine ⟨_, rfl, k4, ?_⟩
    refine r_use fok56 (down_calls w4 (hr.kp (Kp.trans kA k4)) hR (by omega) h2) rfl ?_
    rintro _ w5 ⟨rfl, k5⟩
    refine ⟨_, rfl, k5, ?_⟩
    refine r_use fok57 (over_calls w5 (hr.kp (Kp.trans kA (Kp.trans k4 k5))) hR (by omega) h2) rfl ?_
    rintro _ w6 ⟨rfl, k6⟩
    refine ⟨_, rfl, k6, ?_⟩
    show bsW Tryd.prog 112 3 [(0, cV (sI (rightS l s))), (1, cV (sI (downS l s))), (2, cV (sI (overS l s)))] w6 _
    rw [bs112, r_keepE]
    have k7 : Kp w6 (w6.alloc (.cells #[.int .i64 (sI (rightS l s)).1, .int .i64 (sI (rightS l s)).2, .int .i64 (sI (downS l s)).1, .int .i64 (sI (downS l s)).2, .int .i64 (sI (overS l s)).1, .int .i64 (sI (overS l s)).2] 72)) := below_alloc _
    refine ⟨k7, ?_⟩
    have hL : RdC (w6.alloc (.cells #[.int .i64 (sI (rightS l s)).1, .int .i64 (sI (rightS l s)).2, .int .i64 (sI (downS l s)).1, .int .i64 (sI (downS l s)).2, .int .i64 (sI (overS l s)).1, .int .i64 (sI (overS l s)).2] 72)) (.slice (some ⟨w6.heap.size, 0, none⟩) 3 3) ((nexts l s).map sI) := by
      have h := rec_alloc (e := 72) cC_len ((nexts l s).map sI) (by simp [nexts]) w6
      have := h.rd cC_len
      simp [recCells, cC, nexts] at this
      exact this
    have hlb := heap_alloc_new w6 (.cells #[.int .i64 (sI (rightS l s)).1, .int .i64 (sI (rightS l s)).2, .int .i64 (sI (downS l s)).1, .int .i64 (sI (downS l s)).2, .int .i64 (sI (overS l s)).1, .int .i64 (sI (overS l s)).2] 72)
    generalize (w6.alloc (.cells #[.int .i64 (sI (rightS l s)).1, .int .i64 (sI (rightS l s)).2, .int .i64 (sI (downS l s)).1, .int .i64 (sI (downS l s)).2, .int .i64 (sI (overS l s)).1, .int .i64 (sI (overS l s)).2] 72)) = w7 at *
    have k37 := Kp.trans k4 (Kp.trans k5 (Kp.trans k6 k7))
    have k07 := Kp.trans k03 k37
    have hM7 := hM.kp k07
    have mbl : mb < w.heap.size := hM.lt
    have ln3 : ∀ K : Value → Prop, ln1 (.slice (some ⟨w6.heap.size, 0, none⟩) 3 3) K = K (.int .i64 ((3 : Nat) : Int)) := fun K => rfl
    rw [ln3]
    have sz1 := k1.size
    have sz2 := k2.size
    have sz6 := Nat.le_trans (Nat.le_trans (Nat.le_trans k03.size k4.size) k5.size) k6.size
    unfold S23L0
    refine ⟨fun t7 t40 w' => ∃ (j : Nat) (f' : C2 → Option Value), j ≤ 3 ∧ t40 = .int .i64 j ∧ t7 = .int .i64 (((((nexts l s).map (nxS (cntF l n))).take j).sum : Nat) : Int) ∧ Chg (fun k => k = mb) w7 w' ∧ MapC w' mb f' ∧ GoodF l f', fun _ t40 _ => 3 - (intOf t40).toNat, ⟨0, f, by omega, rfl, rfl, Chg.refl _ _, hM7, hG⟩, ?_⟩
    rintro _ _ _ wr ⟨j, f1, hj, rfl, rfl, C, hM1, hG1⟩
    have hsb := cntF_le l (n + 1) s
    have hpw : 3 ^ (n + 1) ≤ 3 ^ 16 := Nat.pow_le_pow_right (by omega) (by omega)
    have hp16 : (3 : Nat) ^ 16 = 43046721 := by decide
    have hst := sum_take_le (L := (nexts l s).map (nxS (cntF l n))) j
    have hsum : cntF l (n + 1) s = ((nexts l s).map (nxS (cntF l n))).sum := rfl
    have g2r : wr.heap[b2]? = _ := C.at (block_below g23 k37) (by omega)
    have g3r : wr.heap[b3]? = _ := C.at (block_below g33 k37) (by omega)
    obtain ⟨c0r, c1r, c2r, c3r⟩ := cnt_cells g2r
    by_cases hlt : j < 3
    case neg =>
      have hlt' : ¬ (j : Int) < ((3 : Nat) : Int) := by omega
      obtain rfl : j = 3 := by omega
      rw [r_lss, decide_eq_false hlt', r_condF, r_fa, Nat.zero_add, r_ld c3r, s_box g3r]
      refine r_muO keyS und66 zero3 hM1 okS fun w8 hM8 c8 s8 => ?_
      have e3 : ((nexts l s).map (nxS (cntF l n))).take 3 = (nexts l s).map (nxS (cntF l n)) := List.take_of_length_le (by simp [nexts])
      rw [e3, ← hsum] at hM8
      refine ⟨by rw [e3]; rfl, (Chg.of_kp k07).trans (C.trans c8), _, hM8, hG1.put hs⟩
    have hlt' : (j : Int) < ((3 : Nat) : Int) := by omega
    have hLr : RdC wr (.slice (some ⟨w6.heap.size, 0, none⟩) 3 3) ((nexts l s).map sI) := by
      obtain ⟨a', cap', e, hl', hc⟩ := hL
      refine ⟨a', cap', e, hl', fun h0 => ?_⟩
      obtain ⟨b', off', rfl, hcc⟩ := hc h0
      cases e
      exact ⟨_, _, rfl, fun i x hi j' u hu => C.cell (hcc i x hi j' u hu) (by show ¬ w6.heap.size = mb; omega)⟩
    have hjl : j < ((nexts l s).map sI).length := by simp [nexts]; omega
    have hjl' : j < (nexts l s).length := by simpa using hjl
    have hgt : ((nexts l s).map sI).getD j (0, 0) = sI ((nexts l s).getD j (0, 0)) := by rw [getD_lt _ _ _ hjl, List.getElem_map, ← getD_lt (nexts l s) j (0, 0) hjl']
    have htm : (nexts l s).getD j (0, 0) ∈ nexts l s := getD_mem hjl'
    have hts : (((nexts l s).map (nxS (cntF l n))).take (j + 1)).sum = (((nexts l s).map (nxS (cntF l n))).take j).sum + nxS (cntF l n) ((nexts l s).getD j (0, 0)) := by
      have hjl'' : j < ((nexts l s).map (nxS (cntF l n))).length := by simpa using hjl'
      rw [take_succ' _ _ hjl'', List.sum_append, List.getElem_map, ← getD_lt (nexts l s) j (0, 0) hjl']; simp
    have hst1 := sum_take_le (L := (nexts l s).map (nxS (cntF l n))) (j + 1)
    rw [r_lss, decide_eq_true hlt', r_condT, cell_at hLr hjl, hgt]
    generalize (nexts l s).getD j (0, 0) = t at *
    refine r_box fun b9 w8 e9 s9 h9 k8 => ?_
    have h9' : w8.heap[b9]? = some (.cells #[.int .i64 0, .int .i64 0] 72 (0, 0)) := h9
    refine st72 (p := sI t) h9' fun w9 c9 s9' h99 => ?_
    have k9 : Kp wr w9 := Kp.of_chg k8 c9 fun q e => by omega
    have C9 := C.trans (Chg.of_kp k9)
    obtain ⟨q0, q1⟩ := s_cells h99
    have q0' : w9.cell? ⟨b9, 0, none⟩ = some (.int .i64 ((t.1 : Nat) : Int)) := q0
    rw [r_fa, Nat.zero_add, r_ld q0', r_gtr]
    refine r_join1 (fun t7 w' => ∃ f2, t7 = .int .i64 (((((nexts l s).map (nxS (cntF l n))).take (j + 1)).sum : Nat) : Int) ∧ Chg (fun k => k = mb) w7 w' ∧ MapC w' mb f2 ∧ GoodF l f2) ?_ fun kk hkk => ?_
    · rintro _ w' ⟨f2, rfl, p1, p2, p3⟩
      rw [r_add _ _ (by omega) (by omega)]
      exact ⟨⟨j + 1, f2, by omega, by go_num, rfl, p1, p2, p3⟩, by simp only [intOf]; omega⟩
    by_cases hp : 0 < t.1
    · obtain ⟨ht1, ht2⟩ := next_ok hw8 h2 htm hp
      have hnx : nxS (cntF l n) t = cntF l n t := by unfold nxS; rw [if_pos hp]
      have hbnd := cntF_le l n t
      have hpn : 3 ^ n ≤ 3 ^ 16 := Nat.pow_le_pow_right (by omega) (by omega)
      rw [decide_eq_true (by omega), r_condT, r_ldRow (n := 4) (block_below g2r k9) rfl, s_box h99]
      have kw9 : Kp w0 w9 := Kp.of_chg (Kp.trans k0 k07) C9 fun q e => by omega
      refine r_use fok23 (ih (s := t) (by omega) ht2 kw9 (hM1.kp k9) hG1) rfl ?_
      rintro _ w10 ⟨rfl, C10, f2, hM10, hG10⟩
      refine ⟨_, rfl, ?_⟩
      rw [r_add _ _ (by omega) (by omega)]
      refine hkk _ _ ⟨f2, ?_, C9.trans C10, hM10, hG10⟩
      rw [hts, hnx]; go_num
    · have hnx : nxS (cntF l n) t = 0 := by unfold nxS; rw [if_neg hp]
      rw [decide_eq_false (by omega), r_condF]
      refine hkk _ _ ⟨f1, ?_, C9, hM1.kp k9, hG1⟩
      rw [hts, hnx, Nat.add_zero]

set_option maxRecDepth 100000 in
theorem bd68 {x y : Int} {a : Option Addr} {n c mb : Nat} {K : Value → Prop} : bdQ Tryd.prog 68 [(0, .agg #[.int .i64 x, .int .i64 y, .slice a n c]), (1, .map (some mb))] K = K (.agg #[.int .i64 x, .int .i64 y, .slice a n c, .map (some mb)]) := by kernel_rfl
set_option maxRecDepth 100000 in
theorem st68 {w : World} {b mb : Nat} {x y z u : Value} {p q : Int} {a : Option Addr} {m c : Nat} {K : World → Prop} (h : w.heap[b]? = some (.cells #[x, y, z, u] 68 (0, 0))) (hk : ∀ w', Chg (fun k => k = b) w w' → w'.heap.size = w.heap.size → w'.heap[b]? = some (.cells #[.int .i64 p, .int .i64 q, .slice a m c, .map (some mb)] 68 (0, 0)) → K w') : stW Tryd.prog 68 (ptrV b) (.agg #[.int .i64 p, .int .i64 q, .slice a m c, .map (some mb)]) w K :=
  r_stAll (n := 4) (by kernel_rfl) rfl (by intro u hu; simp [Value.cells] at hu; rcases hu with rfl | rfl | rfl | rfl <;> rfl) h rfl fun w' h1 h2 h3 => hk w' h1 h2 h3

set_option maxRecDepth 100000 in
theorem counter_calls {l : List ByteArray} {a : Option Addr} {n c : Nat} (w : World) : Calls Tryd.prog 22 #[rgV (wd l : Nat) l.length (.slice a n c)] w fun e w' => Kp w w' ∧ ∃ mb, e = .returned (cntV l (.slice a n c) mb) ∧ w.heap.size ≤ mb ∧ MapC w' mb (fun _ => none) := by
  refine lift22 ?_
  unfold S22
  refine r_box fun b1 w1 e1 s1 h1 k1 => ?_
  have h1' : w1.heap[b1]? = some (.cells #[.int .i64 (wd l : Nat), .int .i64 l.length, .slice a n c] 63 (0, 0)) := h1
  refine r_box fun b2 w2 e2 s2 h2 k2 => ?_
  have h2' : w2.heap[b2]? = some (.cells #[.int .i64 0, .int .i64 0, .slice none 0 0, .map none] 68 (0, 0)) := h2
  rw [rg_box (block_below h1' k2)]
  refine r_mm ?_
  have k3 : Kp w2 (w2.alloc (.map #[] 0)) := below_alloc _
  have hm3 := mapO_new cV okC w2
  have sz1 := k1.size
  have sz2 := k2.size
  have mbl := hm3.lt
  generalize hmb : w2.heap.size = mb at *
  generalize w2.alloc (.map #[] 0) = w3 at *
  rw [bd68]
  refine st68 (block_below h2' k3) fun w4 c4 s4 h4 => ?_
  rw [r_ldRow (n := 4) h4 rfl]
  exact ⟨Kp.of_chg (Kp.trans k1 (Kp.trans k2 k3)) c4 fun q e => by omega, mb, rfl, by omega, hm3.chg c4 fun e => by omega⟩

set_option maxRecDepth 100000 in
set_option maxHeartbeats 1000000 in
theorem Count_calls {v : Value} {l : List ByteArray} (w : World) (hr : RdB w v l) (hs : ∀ s ∈ l, s.size ≤ 9223372036854775807) (hN : wd l * l.length ≤ 16) :
    Calls Tryd.prog 9 #[v] w fun e w' => Kp w w' ∧ e = .returned (.tuple #[.int .i64 ((if ofB 8 l = true then cntF l (wd l * l.length) (0, 0) else 0 : Nat) : Int), .int .i64 (if ofB 8 l = true then 0 else 2)]) := by
  obtain ⟨a, cap, ev, _⟩ := hr.len
  refine lift9 ?_
  unfold S9
  refine r_use fok21 (Of_calls w hr hs) rfl ?_
  rintro _ w1 ⟨rfl, k1⟩
  refine ⟨_, rfl, ?_⟩
  rw [r_ex2a, r_ex2b]
  refine r_box fun b4 w2 e2 s2 h2 k2 => ?_
  have h2' : w2.heap[b4]? = some (.cells #[.int .i64 0, .int .i64 0, .slice none 0 0] 63 (0, 0)) := h2
  have sz1 := k1.size
  cases ho : ofB 8 l with
  | false =>
    have : regV v l = rgV 0 0 (.slice none 0 0) := by unfold regV; rw [ho]; rfl
    rw [this]
    refine st63 h2' fun w3 c3 s3 h3 => ?_
    rw [r_not, Bool.not_false, r_condT]
    exact ⟨Kp.of_chg (Kp.trans k1 k2) c3 fun q e => by omega, rfl⟩
  | true =>
  have : regV v l = rgV (wd l : Nat) l.length (.slice a l.length cap) := by unfold regV; rw [ho, ev]; rfl
  have hR := reg_ok ho
  rw [this]
  refine st63 h2' fun w3 c3 s3 h3 => ?_
  have k03 : Kp w w3 := Kp.of_chg (Kp.trans k1 k2) c3 fun q e => by omega
  rw [r_not, Bool.not_true, r_condF, rg_box h3]
  refine r_use fok22 (counter_calls w3) rfl ?_
  rintro _ w4 ⟨k4, mb, rfl, hmb, hM⟩
  refine ⟨_, rfl, ?_⟩
  rw [bd72_0]
  have sz3 := k03.size
  have hr3 := hr.kp k03
  rw [ev] at hr3
  refine r_use fok23 (from_calls (s := (0, 0)) hr3 hR hN hmb (wd l * l.length) (by simp) (by simp) k4 hM fun c v h => by cases h) rfl ?_
  rintro _ w5 ⟨rfl, C5, _⟩
  refine ⟨_, rfl, Kp.of_chg (Kp.trans k03 k4) C5 fun q e => by omega, ?_⟩
  simp

end Go.Proofs.YtbekeccfjmoonaaDoor

/- The floor as places of 4 by 4; Count counts its tilings. -/
namespace Go.Proofs.YtbekeccfjmoonaaDoor
open Go.Lf Go.RowKit Go.Ht Go.Km

def hq (l : List ByteArray) (q : Nat) : Bool := hasN l (q % 4) (q / 4)
def maskOf (f : Nat → Bool) : Nat → Nat
  | 0 => 0
  | n + 1 => maskOf f n ||| (if f n = true then 2 ^ n else 0)
theorem maskOf_lt (f : Nat → Bool) : ∀ n, maskOf f n < 2 ^ n
  | 0 => by simp [maskOf]
  | n + 1 => by
    have ih := maskOf_lt f n
    have hp : 2 ^ n < 2 ^ (n + 1) := Nat.pow_lt_pow_right (by omega) (by omega)
    unfold maskOf
    refine Nat.or_lt_two_pow (by omega) ?_
    split
    · exact hp
    · exact Nat.two_pow_pos _
theorem maskOf_bit (f : Nat → Bool) : ∀ (n q : Nat), (maskOf f n).testBit q = (decide (q < n) && f q)
  | 0, q => by simp [maskOf]
  | n + 1, q => by
    unfold maskOf
    rw [Nat.testBit_or, maskOf_bit f n q]
    by_cases e : q = n
    · subst e
      cases h : f q <;> simp
    · have h1 : (if f n = true then 2 ^ n else 0 : Nat).testBit q = false := by
        split
        · rw [Nat.testBit_two_pow]; exact decide_eq_false (fun h => e h.symm)
        · exact Nat.zero_testBit q
      rw [h1, Bool.or_false]
      by_cases h2 : q < n
      · rw [decide_eq_true h2, decide_eq_true (by omega)]
      · rw [decide_eq_false h2, decide_eq_false (by omega)]
theorem bit_eq (m q : Nat) : bit m q = m.testBit q := by
  unfold bit
  rw [beq_dec, Nat.testBit_eq_decide_div_mod_eq]
def mk4 (l : List ByteArray) : Nat := maskOf (hq l) 16

theorem hasN_lt {l : List ByteArray} {x y : Nat} (h : hasN l x y = true) : x < wd l ∧ y < l.length := by
  unfold hasN hasB at h
  rw [Bool.and_eq_true] at h
  have := of_decide_eq_true h.1
  unfold wd
  omega
theorem hq_lt {l : List ByteArray} {q : Nat} (h : hq l q = true) : q % 4 < wd l ∧ q / 4 < l.length := hasN_lt h
theorem hq_off {l : List ByteArray} {q : Nat} (h : ¬ (q % 4 < wd l ∧ q / 4 < l.length)) : hq l q = false := by
  cases e : hq l q with
  | false => rfl
  | true => exact absurd (hq_lt e) h
theorem cntM_mk {l : List ByteArray} (hR : RegOk l 4) : cntM 16 (mk4 l) = cntU 16 (hq l) := by
  refine cntM_eq 16 _ _ (Nat.le_refl _) (maskOf_lt _ _) (fun j hj => ?_) fun q hq' => hq_off (by have := hR.len; omega)
  rw [← Nat.testBit_eq_decide_div_mod_eq]
  unfold mk4
  rw [maskOf_bit, decide_eq_true hj, Bool.true_and, Nat.sub_self, Nat.zero_add]

/-- What is left in a state of Count. -/
def stU (l : List ByteArray) (s : St) (q : Nat) : Bool := hq l q && !(s.2.testBit ((q / 4) * wd l + q % 4 - s.1))
theorem and_pow0 (x i : Nat) : decide (x &&& 2 ^ i = 0) = !x.testBit i := by
  cases h : x.testBit i with
  | false =>
    refine decide_eq_true (Nat.eq_of_testBit_eq fun j => ?_)
    rw [Nat.testBit_and, Nat.testBit_two_pow, Nat.zero_testBit]
    by_cases e : i = j
    · rw [← e, h]; rfl
    · rw [decide_eq_false e, Bool.and_false]
  | true =>
    refine decide_eq_false fun e => ?_
    have := congrArg (fun z => z.testBit i) e
    simp only [Nat.testBit_and, Nat.testBit_two_pow, Nat.zero_testBit, h, decide_true, Bool.and_true] at this
    exact absurd this (by decide)
theorem big_bit {x n j : Nat} (h : x < 2 ^ n) (hj : n ≤ j) : x.testBit j = false := Nat.testBit_lt_two_pow (Nat.lt_of_lt_of_le h (Nat.pow_le_pow_right (by omega) hj))

set_option maxHeartbeats 1000000 in
/-- Count's way is the functions'. -/
theorem cntF_eq {l : List ByteArray} (hR : RegOk l 4) : ∀ (n : Nat) (s : St), s.1 + n = wd l * l.length → s.2 < 2 ^ wd l → cntF l n s = cntU (16 - (4 * (s.1 / wd l) + s.1 % wd l)) (stU l s)
  | 0, s, h, _ => by
    have hw := hR.wid
    have hl := hR.len
    have hs : s.1 = wd l * l.length := by omega
    have e1 : s.1 / wd l = l.length := by rw [hs]; exact Nat.mul_div_cancel_left _ (show 0 < wd l from hw.1)
    have e2 : s.1 % wd l = 0 := by rw [hs]; exact Nat.mul_mod_right _ _
    rw [e1, e2, cntU_to (b := 0) (by omega) (by omega) fun q h1 h2 => by
      unfold stU
      rw [hq_off (by omega)]; rfl]
    rfl
  | n + 1, s, h, h2 => by
    have hw : 1 ≤ wd l ∧ wd l ≤ 4 := hR.wid
    have hl := hR.len
    obtain ⟨x, hx⟩ : ∃ x, x = s.1 % wd l := ⟨_, rfl⟩
    obtain ⟨y, hy⟩ : ∃ y, y = s.1 / wd l := ⟨_, rfl⟩
    have hxw : x < wd l := by rw [hx]; exact Nat.mod_lt _ (by omega)
    have hat : s.1 = y * wd l + x := by rw [hx, hy, Nat.mul_comm]; exact (Nat.div_add_mod _ _).symm
    have hyl : y < l.length := by
      rw [hy]
      exact Nat.div_lt_of_lt_mul (by omega)
    -- the place that comes next
    have hnext : ∃ p, p = 4 * ((s.1 + 1) / wd l) + (s.1 + 1) % wd l ∧ 4 * y + x + 1 ≤ p ∧ p ≤ 16 ∧ ∀ q, 4 * y + x + 1 ≤ q → q < p → hq l q = false := by
      by_cases hlast : x + 1 = wd l
      · have e0 : s.1 + 1 = (y + 1) * wd l := by rw [Nat.add_mul, Nat.one_mul]; omega
        refine ⟨4 * (y + 1), ?_, by omega, by omega, fun q h3 h4 => hq_off (by omega)⟩
        rw [e0, Nat.mul_div_cancel _ (by omega), Nat.mul_mod_left]; rfl
      · have e0 : s.1 + 1 = wd l * y + (x + 1) := by rw [Nat.mul_comm]; omega
        refine ⟨4 * y + (x + 1), ?_, by omega, by omega, fun q h3 h4 => by omega⟩
        rw [e0, Nat.mul_add_div (by omega), Nat.div_eq_of_lt (by omega), Nat.mul_add_mod, Nat.mod_eq_of_lt (by omega)]; rfl
    obtain ⟨p, hp, hp1, hp2, hpf⟩ := hnext
    -- what comes behind one step
    have step : ∀ (b : Nat) (g : Nat → Bool), b < 2 ^ wd l → (∀ q, 4 * y + x + 1 ≤ q → hq l q = false → g q = false) → (∀ q, 4 * y + x + 1 ≤ q → q % 4 < wd l → stU l (s.1 + 1, b) q = g q) → nxS (cntF l n) (s.1 + 1, b) = cntU (15 - (4 * y + x)) g := fun b g hb hg0 hg => by
      unfold nxS
      rw [if_pos (by show 0 < s.1 + 1; omega), cntF_eq hR n (s.1 + 1, b) (by dsimp only; omega) hb, ← hp]
      rw [cntU_to (a := 15 - (4 * y + x)) (b := 16 - p) (by omega) (by omega) fun q h3 h4 => hg0 q (by omega) (hpf q (by omega) (by omega))]
      refine cntU_congr (by omega) fun q h3 => ?_
      by_cases h4 : q % 4 < wd l
      · exact hg q (by omega) h4
      · have := hq_off (l := l) (q := q) (fun h => h4 h.1)
        rw [hg0 q (by omega) this]
        unfold stU
        rw [this]; rfl
    have inj : ∀ q, q % 4 < wd l → 4 * y + x + 1 ≤ q → s.1 + 1 ≤ (q / 4) * wd l + q % 4 := fun q h3 h4 => by
      by_cases e : q / 4 = y
      · rw [e]; omega
      · have : (y + 1) * wd l ≤ q / 4 * wd l := Nat.mul_le_mul_right _ (by omega)
        rw [Nat.add_mul, Nat.one_mul] at this
        omega
    have half : ∀ q, q % 4 < wd l → 4 * y + x + 1 ≤ q → (s.2 / 2).testBit ((q / 4) * wd l + q % 4 - (s.1 + 1)) = s.2.testBit ((q / 4) * wd l + q % 4 - s.1) := fun q h3 h4 => by
      have := inj q h3 h4
      rw [← Nat.testBit_succ]
      congr 1; omega
    have hhalf : s.2 / 2 < 2 ^ wd l := Nat.lt_of_le_of_lt (Nat.div_le_self _ _) h2
    have hfq : stU l s (4 * y + x) = (hasN l x y && !(s.2.testBit 0)) := by
      unfold stU hq
      rw [show (4 * y + x) % 4 = x by omega, show (4 * y + x) / 4 = y by omega, show y * wd l + x - s.1 = 0 by omega]
    have hz : ∀ q, hq l q = false → stU l s q = false := fun q h => by unfold stU; rw [h]; rfl
    have a1 : decide (s.2 &&& 1 = 0) = !s.2.testBit 0 := and_pow0 s.2 0
    have a2 : decide (s.2 &&& 2 = 0) = !s.2.testBit 1 := and_pow0 s.2 1
    -- the sum
    have hsum : cntF l (n + 1) s = nxS (cntF l n) (rightS l s) + (nxS (cntF l n) (downS l s) + (nxS (cntF l n) (overS l s) + 0)) := rfl
    rw [hsum, ← hx, ← hy, show 16 - (4 * y + x) = (15 - (4 * y + x)) + 1 by omega]
    unfold cntU
    rw [show 15 - (15 - (4 * y + x)) = 4 * y + x by omega, show 16 - (15 - (4 * y + x)) = 4 * y + x + 1 by omega, show 19 - (15 - (4 * y + x)) = 4 * y + x + 4 by omega]
    have none0 : nxS (cntF l n) (0, 0) = 0 := rfl
    unfold rightS downS overS
    rw [a1, a2, ← hx, ← hy, hfq]
    cases hc : hasN l x y && !(s.2.testBit 0) with
    | false =>
      have e1 : (!hasN l x y || !(!s.2.testBit 0)) = true := by
        revert hc
        cases hasN l x y <;> cases s.2.testBit 0 <;> simp
      rw [if_pos (by rw [e1]; simp), if_pos (by rw [e1]; simp), if_neg (by simp), if_neg (by simp), none0, Nat.zero_add, Nat.zero_add, Nat.add_zero]
      exact step (s.2 / 2) (stU l s) hhalf (fun q _ h => hz q h) fun q h3 h4 => by
        unfold stU
        dsimp only
        rw [half q h4 h3]
    | true =>
      rw [Bool.and_eq_true] at hc
      have b0 : s.2.testBit 0 = false := by simpa using hc.2
      rw [if_pos (c := true = true) rfl, if_pos (c := true = true) rfl, none0, hc.1, b0]
      simp only [Bool.not_true, Bool.not_false, Bool.false_or, Nat.add_zero]
      congr 1
      · -- to the right
        have hr : stU l s (4 * y + x + 1) = (hasN l (x + 1) y && !(s.2.testBit 1)) ∨ x + 1 = wd l := by
          by_cases e : x + 1 = wd l
          · exact .inr e
          · refine .inl ?_
            unfold stU hq
            rw [show (4 * y + x + 1) % 4 = x + 1 by omega, show (4 * y + x + 1) / 4 = y by omega, show y * wd l + (x + 1) - s.1 = 1 by omega]
        by_cases hcond : (decide (x + 1 = wd l) || !hasN l (x + 1) y || !!s.2.testBit 1) = true
        · rw [if_pos hcond, none0, if_neg]
          rintro ⟨g1, g2⟩
          rcases hr with hr | hr
          · rw [hr, Bool.and_eq_true] at g2
            by_cases e : x + 1 = wd l
            · have := hasN_lt g2.1; omega
            · rw [g2.1, decide_eq_false e] at hcond
              have := g2.2
              cases h : s.2.testBit 1 <;> rw [h] at hcond this <;> simp at hcond this
          · have := hz (4 * y + x + 1) (hq_off (by omega))
            rw [this] at g2; cases g2
        · have hcond' : (decide (x + 1 = wd l) || !hasN l (x + 1) y || !!s.2.testBit 1) = false := by simpa using hcond
          simp only [Bool.or_eq_false_iff, decide_eq_false_iff_not, Bool.not_eq_false', Bool.not_not] at hcond'
          obtain ⟨⟨g1, g2⟩, g3⟩ := hcond'
          rw [if_neg hcond]
          have hr' : stU l s (4 * y + x + 1) = true := by
            rcases hr with hr | hr
            · rw [hr, g2, g3]; rfl
            · exact absurd hr g1
          have h1w : (1 : Nat) < 2 ^ wd l := by
            have : 2 ^ 1 ≤ 2 ^ wd l := Nat.pow_le_pow_right (by omega) hw.1
            omega
          rw [if_pos ⟨by omega, hr'⟩]
          exact step (s.2 / 2 ||| 1) _ (Nat.or_lt_two_pow hhalf h1w) (fun q _ h => by unfold cut; rw [hz q h]; rfl) fun q h3 h4 => by
            have hi := inj q h4 h3
            unfold stU
            dsimp only
            rw [Nat.testBit_or, half q h4 h3]
            by_cases e : q = 4 * y + x + 1
            · rw [e, cut_same, show (4 * y + x + 1) / 4 = y by omega, show (4 * y + x + 1) % 4 = x + 1 by omega, show y * wd l + (x + 1) - (s.1 + 1) = 0 by omega]
              simp
            · rw [cut_ne e]
              have hne : (q / 4) * wd l + q % 4 - (s.1 + 1) ≠ 0 := fun e0 => e (by
                by_cases e5 : q / 4 = y
                · rw [e5] at e0 hi; omega
                · have : (y + 1) * wd l ≤ q / 4 * wd l := Nat.mul_le_mul_right _ (by omega)
                  rw [Nat.add_mul, Nat.one_mul] at this
                  omega)
              have : Nat.testBit 1 ((q / 4) * wd l + q % 4 - (s.1 + 1)) = false := by
                have := Nat.testBit_two_pow (n := 0) (m := (q / 4) * wd l + q % 4 - (s.1 + 1))
                rw [Nat.pow_zero] at this
                rw [this]; exact decide_eq_false (fun h => hne h.symm)
              rw [this, Bool.or_false]
      · -- down
        have hd : stU l s (4 * y + x + 4) = hasN l x (y + 1) := by
          unfold stU hq
          rw [show (4 * y + x + 4) % 4 = x by omega, show (4 * y + x + 4) / 4 = y + 1 by omega, big_bit h2 (by rw [Nat.add_mul, Nat.one_mul]; omega)]
          simp
        rw [hd]
        cases hh : hasN l x (y + 1) with
        | false => rw [if_pos (by simp), none0, if_neg (by simp)]
        | true =>
          rw [if_neg (by simp), if_pos rfl]
          have hpw : 2 ^ (wd l - 1) < 2 ^ wd l := Nat.pow_lt_pow_right (by omega) (by omega)
          exact step (s.2 / 2 ||| 2 ^ (wd l - 1)) _ (Nat.or_lt_two_pow hhalf hpw) (fun q _ h => by unfold cut; rw [hz q h]; rfl) fun q h3 h4 => by
            have hi := inj q h4 h3
            unfold stU
            dsimp only
            rw [Nat.testBit_or, half q h4 h3, Nat.testBit_two_pow]
            by_cases e : q = 4 * y + x + 4
            · rw [e, cut_same, show (4 * y + x + 4) / 4 = y + 1 by omega, show (4 * y + x + 4) % 4 = x by omega, decide_eq_true (by rw [Nat.add_mul, Nat.one_mul]; omega)]
              simp
            · rw [cut_ne e, decide_eq_false (fun e0 => e (by
                by_cases e5 : q / 4 = y
                · rw [e5] at e0 hi; omega
                · by_cases e6 : q / 4 = y + 1
                  · rw [e6, Nat.add_mul, Nat.one_mul] at e0; omega
                  · have : (y + 2) * wd l ≤ q / 4 * wd l := Nat.mul_le_mul_right _ (by omega)
                    rw [Nat.add_mul] at this
                    omega)), Bool.or_false]

end Go.Proofs.YtbekeccfjmoonaaDoor
