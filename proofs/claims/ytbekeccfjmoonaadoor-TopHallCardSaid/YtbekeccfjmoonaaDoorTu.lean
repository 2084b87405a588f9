/- The law TopHall, the walk's end. -/
import Derived.Test.YtbekeccfjmoonaaDoorTt
set_option linter.all false
namespace Go.Proofs.YtbekeccfjmoonaaDoor
open Go.Lf Go.RowKit Go.Ht

theorem sgn_small {L : List C2} : ∀ n ∈ L.map sgnC, -1 ≤ n ∧ n ≤ 1 := fun n hn => by
  obtain ⟨c, _, rfl⟩ := List.mem_map.1 hn
  have := sgn_or c; omega
theorem atW_small {out L : List C2} : ∀ n ∈ L.map (atW out), -1 ≤ n ∧ n ≤ 1 := fun n hn => by
  obtain ⟨c, _, rfl⟩ := List.mem_map.1 hn
  have := atW_vals out c; omega

theorem map_snoc (f : C2 → Int) (A : List C2) (c : C2) : (A ++ [c]).map f = A.map f ++ [f c] := by simp
theorem sum_snoc (A : List C2) (c : C2) : ((A ++ [c]).map sgnC).sum = (A.map sgnC).sum + sgnC c := by rw [map_snoc, List.sum_append]; simp

set_option maxRecDepth 100000 in
set_option maxHeartbeats 2000000 in
theorem r4_1 {w0 wr : World} {b7 b8 y : Nat} {v nv0 vv0 ov : Value} {l : List ByteArray} {out : List C2} {next : Value → Value → World → Prop} (hr : RdB w0 v l) (hR : RegOk l 4) (hy : y < l.length) (ho : RdC w0 ov out) (hl : out.length ≤ 64) (hH : HallOut l out)
    (hT : TwoAt w0 wr b7 b8 nv0 vv0 ((cellsP l y).map (atW out)) ((cellsP l y).map sgnC))
    (hnext : ∀ nv vv w', TwoAt w0 w' b7 b8 nv vv ((cellsP l (y + 1)).map (atW out)) ((cellsP l (y + 1)).map sgnC) → next (.int .i64 ((cellsP l (y + 1)).map sgnC).sum) (.int .i64 ((y : Int) + 1)) w') :
    S4L1 v (ptrV b7) (ptrV b8) (.int .i64 ((cellsP l y).map sgnC).sum) (.int .i64 y) ov next wr := by
  have hlen := hR.len
  have hwid := hR.wid
  have hcl := cellsP_le l y
  have hm : y * (l.getD 0 dB).size ≤ 4 * 4 := Nat.mul_le_mul (by omega) (by omega)
  have hR8 : RegOk l 8 := ⟨by omega, by omega, hR.row⟩
  have hsz := (hR.row _ (getD_mem (d := dB) hy)).1
  unfold S4L1
  refine ⟨fun t9 t11 w' => ∃ (x : Nat) (nv vv : Value), x ≤ (l.getD 0 dB).size ∧ t11 = .int .i64 x ∧ t9 = .int .i64 ((cellsP l y ++ rowP l y x).map sgnC).sum ∧ TwoAt w0 w' b7 b8 nv vv ((cellsP l y ++ rowP l y x).map (atW out)) ((cellsP l y ++ rowP l y x).map sgnC), fun _ t11 _ => (l.getD 0 dB).size - (intOf t11).toNat, ⟨0, nv0, vv0, by omega, rfl, by simp [rowP], by simpa [rowP] using hT⟩, ?_⟩
  rintro _ _ _ wq ⟨x, nv, vv, hx, rfl, rfl, hT⟩
  have hrl := rowP_le l y x
  have hrs := rowP_succ l y x
  rw [str_at (hr.kp hT.kp) hy, r_lnS, hsz]
  by_cases hlt : x < (l.getD 0 dB).size
  case neg =>
    have hlt' : ¬ (x : Int) < ((l.getD 0 dB).size : Int) := by omega
    obtain rfl : x = (l.getD 0 dB).size := by omega
    rw [r_lss, decide_eq_false hlt', r_condF, r_add _ _ (by omega) (by omega)]
    exact hnext nv vv wq hT
  have hlt' : (x : Int) < ((l.getD 0 dB).size : Int) := by omega
  rw [r_lss, decide_eq_true hlt', r_condT]
  refine r_join1 (fun t9 w' => ∃ (nv vv : Value), t9 = .int .i64 ((cellsP l y ++ rowP l y (x + 1)).map sgnC).sum ∧ TwoAt w0 w' b7 b8 nv vv ((cellsP l y ++ rowP l y (x + 1)).map (atW out)) ((cellsP l y ++ rowP l y (x + 1)).map sgnC)) ?_ fun kk hkk => ?_
  · rintro _ w' ⟨nv', vv', rfl, g1⟩
    rw [r_add _ _ (by omega) (by omega)]
    exact ⟨⟨x + 1, nv', vv', by omega, by go_num, rfl, g1⟩, by simp only [intOf]; omega⟩
  rw [str_at (hr.kp hT.kp) hy]
  have hX : x < (l.getD y dB).size := by omega
  refine r_ixS hX ?_
  have hb : (((l.getD y dB)[x]'hX).toNat : Nat) = byteAt l x y := by
    unfold byteAt
    have : (l.getD y dB).data.getD x 0 = (l.getD y dB)[x]'hX := by
      rw [Array.getD_eq_getD_getElem?, Array.getElem?_eq_getElem (by exact hX)]; rfl
    rw [this]
  have hE : hasB l (x : Nat) (y : Nat) = decide (byteAt l x y = 35) := by
    unfold hasB
    rw [decide_eq_true (by omega), Bool.true_and]; rfl
  have hI : decide (((byteAt l x y : Nat) : Int) = 35) = hasB l (x : Nat) (y : Nat) := by
    rw [hE]
    by_cases q : byteAt l x y = 35
    · rw [decide_eq_true q, decide_eq_true (by omega)]
    · rw [decide_eq_false q, decide_eq_false (by omega)]
  rw [hb, r_neq, hI]
  cases q : hasB l (x : Int) (y : Int) with
  | false =>
    rw [q] at hrs
    rw [Bool.not_false, r_condT]
    refine hkk _ _ ⟨nv, vv, ?_, ?_⟩
    · rw [hrs]; simp
    · rw [hrs]; simpa using hT
  | true =>
  rw [q, if_pos rfl] at hrs
  rw [Bool.not_true, r_condF]
  have hlc : (cellsP l y ++ rowP l y x).length ≤ 20 := by rw [List.length_append]; omega
  have hsb := sum_bound (L := (cellsP l y ++ rowP l y x).map sgnC) sgn_small
  rw [List.length_map] at hsb
  have e : cellsP l y ++ rowP l y (x + 1) = cellsP l y ++ rowP l y x ++ [((x : Int), (y : Int))] := by rw [hrs, List.append_assoc]
  refine r4_2 hT ho hl hH hR8 (by omega) (by omega) (by rw [List.length_map]; omega) (by rw [List.length_map]; omega) (by omega) fun nv' vv' w' hT' => ?_
  refine hkk _ _ ⟨nv', vv', ?_, ?_⟩
  · rw [e, sum_snoc]
  · rw [e, map_snoc, map_snoc]; exact hT'

set_option maxRecDepth 100000 in
theorem bd33 {d : Int} {K : Value → Prop} : bdQ Tryd.prog 33 [(1, .int .i64 d)] K = K (.agg #[nilS, .int .i64 d]) := by kernel_rfl
set_option maxRecDepth 100000 in
theorem st33 {w : World} {b : Nat} {x y : Value} {d : Int} {K : World → Prop} (h : w.heap[b]? = some (.cells #[x, y] 33 (0, 0))) (hk : ∀ w', Chg (fun k => k = b) w w' → w'.heap.size = w.heap.size → w'.heap[b]? = some (.cells #[nilS, .int .i64 d] 33 (0, 0)) → K w') : stW Tryd.prog 33 (ptrV b) (.agg #[nilS, .int .i64 d]) w K :=
  r_stAll (n := 2) (by kernel_rfl) rfl (by intro u hu; simp [Value.cells] at hu; rcases hu with rfl | rfl <;> rfl) h rfl fun w' h1 h2 h3 => hk w' h1 h2 h3

set_option maxRecDepth 100000 in
set_option maxHeartbeats 2000000 in
theorem law_hall {v : Value} {l : List ByteArray} (w : World) (hf : Wf w) (hr : RdB w v l) (hs : ∀ s ∈ l, s.size ≤ 9223372036854775807) : Calls Tryd.prog 4 #[v] w fun e w' => e = .returned (.bool true) ∧ Kp w w' := by
  obtain ⟨a, cap, ev, _⟩ := hr.len
  have lnv : ∀ K : Value → Prop, ln1 v K = K (.int .i64 l.length) := fun K => by rw [ev]; rfl
  refine lift4 ?_
  unfold S4
  refine r_use fok5 (few_calls w hr) rfl ?_
  rintro _ _ ⟨rfl, rfl⟩
  refine ⟨_, rfl, ?_⟩
  rw [r_not]
  cases hfew : fewB l with
  | false =>
    rw [Bool.not_false, r_condT]
    refine r_use fok6 (tiled_calls w) rfl ?_
    rintro _ w1 ⟨rfl, k1⟩
    exact ⟨_, rfl, rfl, k1⟩
  | true =>
  rw [Bool.not_true, r_condF]
  refine r_use fok8 (both_calls w) rfl ?_
  rintro _ w1 ⟨k1, tv, rfl, hT⟩
  refine ⟨_, rfl, ?_⟩
  refine r_use fok13 (Puts_calls w1 (hr.kp k1) hs hT) rfl ?_
  rintro _ w2 ⟨k2, x, rfl⟩
  refine ⟨_, rfl, ?_⟩
  rw [r_ex2a, r_ex2b]
  have k02 := Kp.trans k1 k2
  cases hfl : flB l with
  | false =>
    rw [if_neg (by simp), r_neq, decide_eq_false (by omega), Bool.not_false, r_condT, r_eql, decide_eq_true rfl]
    simp only [r_gdTT]
    refine r_use fok6 (tiled_calls w2) rfl ?_
    rintro _ w3 ⟨rfl, k3⟩
    refine ⟨_, rfl, ?_⟩
    rw [r_pickT]
    exact ⟨rfl, Kp.trans k02 k3⟩
  | true =>
  rw [if_pos rfl, r_neq, decide_eq_true rfl, Bool.not_true, r_condF]
  obtain ⟨hcl, hR⟩ := fl_small hfl
  refine r_use fok14 (Refute_calls w2 (hf.kp k02) (hr.kp k02) hs) rfl ?_
  rintro _ w3 ⟨k3, ov, E, rfl, hE⟩
  refine ⟨_, rfl, ?_⟩
  rw [r_ex2a, r_ex2b]
  have k03 := Kp.trans k02 k3
  have h8 : ofB 8 l = true := by
    unfold flB at hfl
    have h4 := (Bool.and_eq_true _ _ ▸ hfl).1
    unfold ofB at h4 ⊢
    rw [Bool.and_eq_true] at h4 ⊢
    have := of_decide_eq_true h4.1
    exact ⟨decide_eq_true (by omega), h4.2⟩
  rcases hE with ⟨rfl, h⟩ | ⟨rfl, _⟩ | ⟨rfl, _, out, hO, hH, hl64⟩
  · rw [h8] at h; cases h
  · rw [r_neq, decide_eq_false (by omega), Bool.not_false, r_condT, r_eql, decide_eq_true rfl]
    simp only [r_gdTT]
    refine r_use fok6 (tiled_calls w3) rfl ?_
    rintro _ w4 ⟨rfl, k4⟩
    refine ⟨_, rfl, ?_⟩
    rw [r_pickT]
    exact ⟨rfl, Kp.trans k03 k4⟩
  rw [r_neq, decide_eq_true rfl, Bool.not_true, r_condF, bd33, bd33]
  refine r_box fun b7 w4 e4 s4 h4 k4 => ?_
  have h4' : w4.heap[b7]? = some (.cells #[nilS, .int .i64 0] 33 (0, 0)) := h4
  refine r_box fun b8 w5 e5 s5 h5 k5 => ?_
  have h5' : w5.heap[b8]? = some (.cells #[nilS, .int .i64 0] 33 (0, 0)) := h5
  refine st33 (block_below h4' k5) fun w6 c6 s6 h6 => ?_
  have h56 := c6.at h5' (show ¬ b8 = b7 by omega)
  refine st33 h56 fun w7 c7 s7 h7 => ?_
  have h67 := c7.at h6 (show ¬ b7 = b8 by omega)
  have k37 : Kp w3 w7 := Kp.of_chg (Kp.of_chg (Kp.trans k4 k5) c6 fun q e => by omega) c7 fun q e => by omega
  have T7 : TwoAt w3 w7 b7 b8 nilS nilS ((cellsP l 0).map (atW out)) ((cellsP l 0).map sgnC) :=
    ⟨k37, h67, h7, by omega, by omega, RecAt.nil, RecAt.nil, (fun k h => nomatch h), by omega⟩
  have hr3 := hr.kp k03
  have ho3 : RdC w3 ov out := hO.rd cC_len
  have hlen := hR.len
  unfold S4L0
  refine ⟨fun t9 t10 w' => ∃ (y : Nat) (nv vv : Value), y ≤ l.length ∧ t10 = .int .i64 y ∧ t9 = .int .i64 ((cellsP l y).map sgnC).sum ∧ TwoAt w3 w' b7 b8 nv vv ((cellsP l y).map (atW out)) ((cellsP l y).map sgnC), fun _ t10 _ => l.length - (intOf t10).toNat, ⟨0, nilS, nilS, by omega, rfl, rfl, T7⟩, ?_⟩
  rintro _ _ _ wr ⟨y, nv, vv, hy, rfl, rfl, hT2⟩
  rw [lnv]
  by_cases hlt : y < l.length
  case pos =>
    have hlt' : (y : Int) < (l.length : Int) := by omega
    rw [r_lss, decide_eq_true hlt', r_condT]
    refine r4_1 hr3 hR hlt ho3 hl64 hH hT2 fun nv' vv' w' hT' => ?_
    exact ⟨⟨y + 1, nv', vv', by omega, by go_num, rfl, hT'⟩, by simp only [intOf]; omega⟩
  have hlt' : ¬ (y : Int) < (l.length : Int) := by omega
  obtain rfl : y = l.length := by omega
  rw [r_lss, decide_eq_false hlt', r_condF]
  refine r_drew fun w8 k8 _ => ?_
  have hT8 := hT2.later k8
  rw [r_ldRow (n := 2) hT8.x7 rfl]
  refine r_use fok8 (both_calls w8) rfl ?_
  rintro _ w9 ⟨k9, tv9, rfl, hTi9⟩
  refine ⟨_, rfl, k9, ?_⟩
  have hT9 := hT8.later k9
  refine r_use fok15 (IsAbove_calls (N := (cellsB l).map (atW out)) w9 (hr3.kp hT9.kp) hs hTi9 hfl (hT9.n.rd iC_len) (by simp) (by omega) atW_small) rfl ?_
  rintro _ w10 ⟨rfl, k10⟩
  refine ⟨_, rfl, ?_⟩
  rw [r_ex2a, r_ex2b, above_ok hH]
  refine r_drew fun w11 k11 _ => ?_
  have hT11 := (hT9.later k10).later k11
  rw [r_ldRow (n := 2) hT11.x8 rfl]
  refine r_use fok8 (both_calls w11) rfl ?_
  rintro _ w12 ⟨k12, tv12, rfl, hTi12⟩
  refine ⟨_, rfl, k12, ?_⟩
  have hT12 := hT11.later k12
  refine r_use fok16 (IsWhole_calls (N := (cellsB l).map sgnC) w12 (hr3.kp hT12.kp) hs hTi12 hfl (hT12.v.rd iC_len) (by simp) (by omega) sgn_small) rfl ?_
  rintro _ w13 ⟨rfl, k13⟩
  refine ⟨_, rfl, ?_⟩
  have hrem : ∀ K : Value → Prop, binQ Tryd.prog w13 .rem 3 true (.int .i64 ((cellsP l l.length).map sgnC).sum) (.int .i64 2) K = K (.int .i64 (((cellsP l l.length).map sgnC).sum.tmod 2)) := fun K => r_tmod _ _ (by omega)
  rw [r_ex2a, r_ex2b, whole_ok]
  simp only [r_eql, decide_eq_true (show (0 : Int) = 0 from rfl), r_gdTT, r_pickT, hrem, r_neq]
  refine r_eqlB ?_
  rw [show (!decide (((cellsB l).map sgnC).sum.tmod 2 = 0)) = (!decide (((cellsP l l.length).map sgnC).sum.tmod 2 = 0)) from rfl, beq_self_eq_true]
  simp only [if_true, decide_eq_true (show (0 : Int) = 0 from rfl), r_pickT, r_gdTT]
  refine r_use fok6 (tiled_calls w13) rfl ?_
  rintro _ w14 ⟨rfl, k14⟩
  refine ⟨_, rfl, ?_⟩
  simp only [decide_true, if_true, r_pickT]
  exact ⟨by first | rfl | trivial, Kp.trans k03 (Kp.trans (hT12.later k13).kp k14)⟩

end Go.Proofs.YtbekeccfjmoonaaDoor
