/- Contract: level of SquarePower, whole. -/
import Derived.Test.YtkdcldbedbagjaaDoorXi
set_option linter.all false
namespace Go.Proofs.YtkdcldbedbagjaaDoor
open Go.Lf Go.RowKit Go.Dt

set_option maxRecDepth 100000 in
set_option maxHeartbeats 2000000 in
theorem r23_2 {n s : Nat} {p : Nat → Int} {ws : List Wr} {cl : List Int} {v cv t11 t12 : Value} {T V : Int} {b7 : Nat} {w wr : World} {vals : List Int} {kn : List Bool}
    (hwf : Wf n ws) (hws : ws.length ≤ 16) (hs : s < n) (hcl : cl.length = ws.length) (hc : ∀ k, k < ws.length → cl.getD k 0 = p (ws.getD k (0, 0)).1 - p (ws.getD k (0, 0)).2) (hp : ∀ x, 0 ≤ p x ∧ p x ≤ 65536)
    (hr : Rd 2 wN w v ws) (hcv : RdInts w cv cl) (h : LvSt n p w b7 cv T V t11 t12 wr vals kn) (hall : ∀ x, x < n → kn.getD x false = true) (hV : p s = V) :
    S23L2 v (.int .i64 s) (ptrV b7) t11 t12 (fun e w' => e = .returned (.bool true) ∧ Kp w w') wr := by
  obtain ⟨va, vc, ev, _⟩ := hr.len
  have lnv : ∀ K : Value → Prop, ln1 v K = K (.int .i64 ws.length) := fun K => by rw [ev]; rfl
  unfold S23L2
  refine ⟨fun t17 wq => ∃ k : Nat, k ≤ ws.length ∧ t17 = .int .i64 k ∧ LvSt n p w b7 cv T V t11 t12 wq vals kn, fun t17 _ => ws.length - (intOf t17).toNat, ⟨0, by omega, rfl, h⟩, ?_⟩
  rintro _ _ wq ⟨k, hk1, rfl, hS⟩
  rw [lnv]
  have val : ∀ (w' : World), LvSt n p w b7 cv T V t11 t12 w' vals kn → ∀ x, x < n → ∀ K : Value → Prop, (iaS 1 t11 (.int .i64 x) fun q => ld1 w' q K) = K (.int .i64 (p x)) := fun w' h' x hx K => by
    rw [own_ldK h'.ints (by rw [h'.l1]; exact hx), h'.ok x (hall x hx)]
  by_cases hlt : k < ws.length
  case neg =>
    have hlt' : ¬ (k : Int) < (ws.length : Int) := by omega
    simp only [r_lss, decide_eq_false hlt', r_condF]
    refine r_drew fun w2 k2 _ => ?_
    have hS2 := hS.later k2
    obtain ⟨g2, e2, ar2⟩ := hS2.bools.ar (by rw [hS2.l2]; omega)
    obtain ⟨i2, c2, _, _⟩ := ar2 s (by rw [hS2.l2]; exact hs)
    rw [hall s hs] at c2
    have bx : w2.cell? ⟨b7, 2, none⟩ = some (.int .i64 V) := by rw [cell_row hS2.box]; rfl
    have hself : decide (V = V) = true := decide_eq_true rfl
    rw [i2, r_ld c2]
    simp only [r_gqTT, val w2 hS2 s hs, r_fa, Nat.zero_add, r_ld bx, r_eql, hV, hself, r_pickT]
    exact ⟨by first | rfl | trivial, hS2.kp⟩
  have hlt' : (k : Int) < (ws.length : Int) := by omega
  simp only [r_lss, decide_eq_true hlt', r_condT]
  refine r_drew fun w2 k2 _ => ?_
  have hS2 := hS.later k2
  have hw := hwf (ws.getD k (0, 0)) (by rw [getD_lt _ _ _ hlt]; exact List.getElem_mem hlt)
  have hck := hc k hlt
  obtain ⟨b, o, ia, cA, cB⟩ := wire_two (hr.kp hS2.kp) hlt
  generalize ws.getD k (0, 0) = e at *
  obtain ⟨A, B⟩ := e
  simp only at cA cB hw hck
  obtain ⟨hA, hB, hAB⟩ := hw
  have pA := hp A
  have pB := hp B
  have bx : w2.cell? ⟨b7, 0, none⟩ = some cv := by rw [cell_row hS2.box]; rfl
  rw [ia, r_fa, r_ld cA, val w2 hS2 A hA, ia, r_fa, r_ld cB, val w2 hS2 B hB, r_sub _ _ (by omega) (by omega), r_fa, Nat.zero_add, r_ld bx, ints_ldK (hcv.below hS2.kp) (by omega), hck, r_neq, decide_eq_true rfl, Bool.not_true, r_condF, r_add _ _ (by omega) (by omega)]
  exact ⟨⟨k + 1, by omega, by go_num, hS2⟩, by simp only [intOf]; omega⟩

set_option maxRecDepth 100000 in
set_option maxHeartbeats 2000000 in
theorem level_calls {n s t : Nat} {p : Nat → Int} {ws : List Wr} {cl : List Int} {v cv : Value} {T V : Int} (w : World) (hN : NetOk n ws) (hs : s < n) (ht : t < n) (htr : trees n ws ≠ 0)
    (hcl : cl.length = ws.length) (hc : ∀ k, k < ws.length → cl.getD k 0 = p (ws.getD k (0, 0)).1 - p (ws.getD k (0, 0)).2) (hp : ∀ x, 0 ≤ p x ∧ p x ≤ 65536) (hpt : p t = 0) (hps : p s = V)
    (hr : Rd 2 wN w v ws) (hcv : RdInts w cv cl) :
    Calls Tryd.prog 23 #[.int .i64 n, v, flV cv T V, .int .i64 s, .int .i64 t] w fun e w' => e = .returned (.bool true) ∧ Kp w w' := by
  have h8 := hN.most
  refine lift23 ?_
  unfold S23
  refine r_box fun b7 w1 e7 s7 h7 k1 => ?_
  have h7' : w1.heap[b7]? = some (.cells #[cv, .int .i64 T, .int .i64 V] 36 (0, 0)) := h7
  refine r_drew fun w2 k2 _ => ?_
  have k02 := Kp.trans k1 k2
  have h72 := block_below h7' k2
  have sz2 := k02.size
  refine r_join2 (fun t11 t12 w' => IntsAt w.heap.size w' t11 (List.replicate n 0) ∧ BoolsAt w.heap.size w' t12 (List.replicate n false) ∧ w'.heap[b7]? = some (.cells #[cv, .int .i64 T, .int .i64 V] 36 (0, 0)) ∧ Kp w w') ?_ ?_
  case refine_2 =>
    intro kk hkk
    refine ⟨?_, ?_, trivial⟩
    · refine mk34' (by omega) fun v3 w3 I3 k3 _ => ?_
      refine r_keep k3 ?_
      refine mk85 (by omega) fun v4 w4 B4 k4 _ => ?_
      refine r_keep k4 ?_
      exact hkk _ _ _ ⟨(I3.kp k4).down sz2, B4.down (by have := k3.size; omega), block_below h72 (Kp.trans k3 k4), Kp.trans k02 (Kp.trans k3 k4)⟩
    · refine mk85 (by omega) fun v3 w3 B3 k3 _ => ?_
      refine r_keep k3 ?_
      refine mk34' (by omega) fun v4 w4 I4 k4 _ => ?_
      refine r_keep k4 ?_
      exact hkk _ _ _ ⟨I4.down (by have := k3.size; omega), (B3.kp k4).down sz2, block_below h72 (Kp.trans k3 k4), Kp.trans k02 (Kp.trans k3 k4)⟩
  rintro t11 t12 w3 ⟨hI, hB, h73, k03⟩
  obtain ⟨g2, e2, ar2⟩ := BoolsAt.ar hB (by simp; omega)
  obtain ⟨i2, c2, f2, s2⟩ := ar2 t (by simpa using ht)
  rw [i2, st4 c2 f2]
  have c3 : Chg (fun k => k = g2) w3 (w3.setCell ⟨g2, t, none⟩ (.bool true)) := Chg.setCell _ _ rfl
  obtain ⟨cu2, hc2⟩ := RecAt.row hB e2
  have lg2 := (RecAt.lt hB e2).1
  have n7 : b7 ≠ g2 := type_ne h73 hc2 (by decide)
  have hS : LvSt n p w b7 cv T V t11 t12 (w3.setCell ⟨g2, t, none⟩ (.bool true)) (List.replicate n 0) ((List.replicate n false).set t true) :=
    ⟨Kp.of_chg k03 c3 fun k e => by omega, hI.chg c3 fun k hk e => by
      subst e
      exact rec_ne hI hB (by decide) k hk e2, s2 true, by simp, by simp, c3.at h73 n7, fun x hx => by
      by_cases e : x = t
      · subst e
        rw [hpt]
        simp [List.getD_eq_getElem?_getD, List.getElem?_replicate]
        split <;> rfl
      · rw [List.getD_eq_getElem?_getD, List.getElem?_set_ne (Ne.symm e), List.getElem?_replicate] at hx
        split at hx <;> cases hx⟩
  generalize w3.setCell ⟨g2, t, none⟩ (.bool true) = w4 at hS ⊢
  unfold S23L0
  refine ⟨fun t13 wq => ∃ (turn : Nat) (vals : List Int) (kn : List Bool), turn ≤ n ∧ t13 = .int .i64 turn ∧ LvSt n p w b7 cv T V t11 t12 wq vals kn ∧ ∀ x, ball ws t turn x = true → kn.getD x false = true, fun t13 _ => n - (intOf t13).toNat,
    ⟨0, _, _, by omega, rfl, hS, fun x hx => ?_⟩, ?_⟩
  · have : x = t := one_iff.1 hx
    subst this
    exact kn_set_self (by simpa using ht)
  rintro _ _ wq ⟨turn, vals, kn, htn, rfl, hQ, hball⟩
  by_cases hlt : turn < n
  case neg =>
    have hlt' : ¬ (turn : Int) < (n : Int) := by omega
    obtain rfl : turn = n := by omega
    simp only [r_lss, decide_eq_false hlt', r_condF]
    exact r23_2 hN.wf hN.few hs hcl hc hp hr hcv hQ (fun x hx => hball x (ball_full hN.wf ht (trees_conn ht hx htr))) hps
  have hlt' : (turn : Int) < (n : Int) := by omega
  simp only [r_lss, decide_eq_true hlt', r_condT]
  refine r23_1 hN.wf hN.few (by omega) hcl hc hp hr hcv hQ fun w' vals' kn' hQ' m1 m2 => ?_
  refine ⟨⟨turn + 1, vals', kn', by omega, rfl, hQ', fun x hx => ?_⟩, by simp only [intOf]; omega⟩
  have hx' : grow ws (ball ws t turn) x = true := hx
  unfold grow at hx'
  rw [Bool.or_eq_true] at hx'
  rcases hx' with hx' | hx'
  · exact m1 x (hball x hx')
  · obtain ⟨e, he, hee⟩ := List.any_eq_true.1 hx'
    have := m2 e he
    rw [Bool.or_eq_true, Bool.and_eq_true, Bool.and_eq_true, decide_eq_true_eq, decide_eq_true_eq] at hee
    rcases hee with ⟨h1, h2⟩ | ⟨h1, h2⟩
    · rw [← h2]; exact this.1 (hball _ h1)
    · rw [← h2]; exact this.2 (hball _ h1)

end Go.Proofs.YtkdcldbedbagjaaDoor
