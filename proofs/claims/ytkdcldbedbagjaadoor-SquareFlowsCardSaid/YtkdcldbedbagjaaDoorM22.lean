/- Texts of my own, merged by program: Xq Xr Gg. -/
import Derived.Test.YtkdcldbedbagjaaDoorM21
import Derived.Test.YtkdcldbedbagjaaDoorM19
import Derived.Test.YtkdcldbedbagjaaDoorM15
import Derived.Test.YtkdcldbedbagjaaDoorM14
import Derived.Test.YtkdcldbedbagjaaDoorM11
import Derived.Test.YtkdcldbedbagjaaDoorM06
set_option linter.all false
/- Contracts of the reference: Trees, gcd, lowest, renamed. -/
namespace Go.Proofs.YtkdcldbedbagjaaDoor
open Go.Lf Go.RowKit Go.Dt

set_option maxRecDepth 100000 in
theorem rTrees_calls {v : Value} {L : List (Int × Int)} {n : Int} (w : World) (hr : RdW w v L) : Calls Tryd.prog 25 #[.int .i64 n, v] w fun e w' => Kp w w' ∧ e = .returned (.tuple #[.int .i64 (treesV n L), .int .i64 (netErr n L)]) := by
  refine lift25 ?_
  unfold S25
  refine r_use fok30 (good_calls (n := n) w hr) rfl ?_
  rintro _ w1 ⟨rfl, k1⟩
  refine ⟨_, rfl, ?_⟩
  rw [r_neq]
  by_cases h0 : netErr n L = 0
  case neg =>
    have hT : treesV n L = 0 := if_neg h0
    rw [decide_eq_false h0, Bool.not_false, r_condT, hT]
    exact ⟨k1, rfl⟩
  obtain ⟨N, rfl, hN, hb⟩ := net_ok h0
  have hT : treesV N L = trees N (L.map natW) := by unfold treesV; rw [if_pos h0]; rfl
  have h2 := hN.two
  rw [decide_eq_true h0, Bool.not_true, r_condF, hT, h0]
  refine r_use fok59 (forests_calls w1 hN.wf hN.few (by omega) hN.most (RdW.nat (hr.kp k1) hb)) rfl ?_
  rintro _ w2 ⟨k2, v', rfl, hI⟩
  refine ⟨_, rfl, ?_⟩
  obtain ⟨a, c, e, _⟩ := RecAt.len hI
  have hl : (natI (forL N (L.map natW))).length = trees N (L.map natW) := by rw [← forL_len]; simp [natI]
  rw [e, hl]
  exact ⟨Kp.trans k1 k2, rfl⟩

set_option maxRecDepth 100000 in
theorem gcd_calls {a b : Nat} (w : World) (ha : a ≤ 1000000) (hb : b ≤ 1000000) : Calls Tryd.prog 79 #[.int .i64 a, .int .i64 b] w fun e w' => e = .returned (.int .i64 (Nat.gcd a b : Nat)) ∧ Kp w w' := by
  refine lift79 ?_
  unfold S79 S79L0
  refine ⟨fun t5 t6 wr => ∃ x y : Nat, t5 = .int .i64 x ∧ t6 = .int .i64 y ∧ Nat.gcd x y = Nat.gcd a b ∧ x ≤ 1000000 ∧ y ≤ 1000000 ∧ Kp w wr, fun _ t6 _ => (intOf t6).toNat, ⟨a, b, rfl, rfl, rfl, ha, hb, Kp.refl _⟩, ?_⟩
  rintro _ _ _ wr ⟨x, y, rfl, rfl, hg, hx, hy, kr⟩
  by_cases h : y = 0
  · subst h
    have h0 : (((0 : Nat) : Int) = 0) := rfl
    rw [r_neq, decide_eq_true h0, Bool.not_true, r_condF, r_neg _ (by omega) (by omega), r_max2]
    rw [Nat.gcd_zero_right] at hg
    have e : max (x : Int) (-(x : Int)) = x := by omega
    rw [e, hg]
    exact ⟨rfl, kr⟩
  · have h0 : ¬ ((y : Int) = 0) := by omega
    rw [r_neq, decide_eq_false h0, Bool.not_false, r_condT]
    refine r_drew fun w2 k2 _ => ?_
    rw [r_remN _ _ (by omega)]
    have hlt := Nat.mod_lt x (show y > 0 by omega)
    refine ⟨⟨y, x % y, rfl, rfl, ?_, hy, by omega, Kp.trans kr k2⟩, by simp only [intOf]; omega⟩
    rw [← hg, Nat.gcd_comm x y, Nat.gcd_rec y x, Nat.gcd_comm]

set_option maxRecDepth 100000 in
theorem lowest_calls {a b : Nat} (w : World) (hb0 : 0 < b) (ha : a ≤ 1000000) (hb : b ≤ 1000000) : Calls Tryd.prog 63 #[.int .i64 a, .int .i64 b] w fun e w' => e = .returned (paV (paceOf a b)) ∧ Kp w w' := by
  refine lift63 ?_
  unfold S63
  refine r_box fun b4 w1 e4 s4 h4 k1 => ?_
  have h4' : w1.heap[b4]? = some (.cells #[.int .i64 0, .int .i64 0] 58 (0, 0)) := h4
  refine r_use fok79 (gcd_calls w1 ha hb) rfl ?_
  rintro _ w2 ⟨rfl, k2⟩
  refine ⟨_, rfl, ?_⟩
  have hpos : 0 < Nat.gcd a b := Nat.gcd_pos_of_pos_right _ hb0
  refine r_drew fun w3 k3 _ => ?_
  have k03 := Kp.trans k1 (Kp.trans k2 k3)
  rw [r_quoN _ _ hpos (by omega), r_quoN _ _ hpos (by omega), bd58]
  refine st58 (block_below h4' (Kp.trans k2 k3)) fun w4 c4 s4' h44 => ?_
  rw [pace_box h44]
  exact ⟨rfl, Kp.of_chg k03 c4 fun q e => by omega⟩

/-- The number of a vertex when t is s. -/
def ren (n s t v : Nat) : Nat := if (if v = t then s else v) = n - 1 ∧ t ≠ n - 1 then t else (if v = t then s else v)

set_option maxRecDepth 100000 in
theorem renamed_calls {v n s t : Nat} (w : World) (hn : 1 ≤ n) (hn2 : n ≤ 1000) : Calls Tryd.prog 77 #[.int .i64 v, .int .i64 n, .int .i64 s, .int .i64 t] w fun e w' => e = .returned (.int .i64 (ren n s t v : Nat)) ∧ w = w' := by
  refine lift77 ?_
  unfold S77
  have e1 : (n : Int) - 1 = ((n - 1 : Nat) : Int) := by omega
  have key : ∀ x : Nat, (if v = t then s else v) = x →
      binQ Tryd.prog w .sub 3 true (.int .i64 n) (.int .i64 1) fun t15_2 => binQ Tryd.prog w .eql 3 false (.int .i64 x) t15_2 fun t16_2 => gd t16_2 true (fun k => k (.int .i64 t) w) w fun t18_2 w => gd t16_2 true (fun k => k (.int .i64 n) w) w fun t19_2 w =>
      gd t16_2 true (fun k => binQ Tryd.prog w .sub 3 true t19_2 (.int .i64 1) fun v => k v w) w fun t20_2 w => gd t16_2 true (fun k => binQ Tryd.prog w .neq 3 false t18_2 t20_2 fun v => k v w) w fun t21_2 w0 => pickQ t16_2 t21_2 (.bool false) fun t22_2 =>
      condW t22_2 (Ending.returned (.int .i64 t) = .returned (.int .i64 (ren n s t v : Nat)) ∧ w = w0) (Ending.returned (.int .i64 x) = .returned (.int .i64 (ren n s t v : Nat)) ∧ w = w0) := fun x hx => by
    unfold ren
    rw [hx, r_sub _ _ (by omega) (by omega), e1, r_eql]
    by_cases h1 : x = n - 1
    · have h1' : (x : Int) = ((n - 1 : Nat) : Int) := by omega
      rw [decide_eq_true h1']
      simp only [r_gdTT]
      rw [r_sub _ _ (by omega) (by omega), e1, r_neq]
      by_cases h2 : t = n - 1
      · have h2' : (t : Int) = ((n - 1 : Nat) : Int) := by omega
        rw [decide_eq_true h2', Bool.not_true, r_pickT, r_condF, if_neg fun h => h.2 h2]
        exact ⟨by first | rfl | trivial, by first | rfl | trivial⟩
      · have h2' : ¬ (t : Int) = ((n - 1 : Nat) : Int) := by omega
        rw [decide_eq_false h2', Bool.not_false, r_pickT, r_condT, if_pos ⟨h1, h2⟩]
        exact ⟨by first | rfl | trivial, by first | rfl | trivial⟩
    · have h1' : ¬ (x : Int) = ((n - 1 : Nat) : Int) := by omega
      rw [decide_eq_false h1', if_neg fun h => h1 h.1]
      simp only [r_gdFT, r_pickF, r_condF]
      exact ⟨by first | rfl | trivial, by first | rfl | trivial⟩
  rw [r_eql]
  by_cases h : v = t
  · have h' : (v : Int) = (t : Int) := by omega
    rw [decide_eq_true h']
    simp only [Join, r_condT]
    exact key s (if_pos h)
  · have h' : ¬ (v : Int) = (t : Int) := by omega
    rw [decide_eq_false h']
    simp only [Join, r_condF]
    exact key v (if_neg h)

end Go.Proofs.YtkdcldbedbagjaaDoor

/- Contract of the reference: merged. -/
namespace Go.Proofs.YtkdcldbedbagjaaDoor
open Go.Lf Go.RowKit Go.Dt

/-- The network in which t is s. -/
def mergW (n s t : Nat) (ws : List Wr) : List Wr := (ws.map fun e => (ren n s t e.1, ren n s t e.2)).filter fun e => !decide (e.1 = e.2)
def zW (l : List Wr) : List (Int × Int) := l.map fun e => ((e.1 : Int), (e.2 : Int))
theorem mergW_snoc (n s t : Nat) (l : List Wr) (e : Wr) : mergW n s t (l ++ [e]) = mergW n s t l ++ if ren n s t e.1 = ren n s t e.2 then [] else [(ren n s t e.1, ren n s t e.2)] := by
  unfold mergW
  rw [List.map_append, List.filter_append]
  congr 1
  by_cases h : ren n s t e.1 = ren n s t e.2
  · simp [h]
  · simp [h]
theorem mergW_len (n s t : Nat) (l : List Wr) : (mergW n s t l).length ≤ l.length := by
  unfold mergW
  have := List.length_filter_le (fun e : Wr => !decide (e.1 = e.2)) (l.map fun e => (ren n s t e.1, ren n s t e.2))
  rwa [List.length_map] at this

set_option maxRecDepth 100000 in
set_option maxHeartbeats 2000000 in
theorem rmerged_calls {n s t : Nat} {ws : List Wr} {v : Value} (w : World) (hN : NetOk n ws) (hr : Rd 2 wN w v ws) :
    Calls Tryd.prog 60 #[.int .i64 n, v, .int .i64 s, .int .i64 t] w fun e w' => Kp w w' ∧ ∃ v', e = .returned v' ∧ WrAt w.heap.size w' v' (zW (mergW n s t ws)) := by
  have h2 := hN.two
  have h8 := hN.most
  have hws := hN.few
  obtain ⟨va, vc, ev, _⟩ := hr.len
  have lnv : ∀ K : Value → Prop, ln1 v K = K (.int .i64 ws.length) := fun K => by rw [ev]; rfl
  refine lift60 ?_
  unfold S60 S60L0
  refine ⟨fun t9 t10 wr => ∃ i : Nat, i ≤ ws.length ∧ t10 = .int .i64 i ∧ WrAt w.heap.size wr t9 (zW (mergW n s t (ws.take i))) ∧ Kp w wr, fun _ t10 _ => ws.length - (intOf t10).toNat, ⟨0, by omega, rfl, RecAt.nil, Kp.refl _⟩, ?_⟩
  rintro _ t9 _ wr ⟨i, hi, rfl, hP, kr⟩
  rw [lnv]
  by_cases hlt : i < ws.length
  case neg =>
    have hlt' : ¬ (i : Int) < (ws.length : Int) := by omega
    rw [r_lss, decide_eq_false hlt', r_condF]
    rw [List.take_of_length_le (by omega)] at hP
    exact ⟨kr, _, rfl, hP⟩
  have hlt' : (i : Int) < (ws.length : Int) := by omega
  rw [r_lss, decide_eq_true hlt', r_condT]
  refine r_drew fun w2 k2 _ => ?_
  have k02 := Kp.trans kr k2
  obtain ⟨b, o, ia, cA, cB⟩ := wire_two (hr.kp k02) hlt
  have hts : ws.take (i + 1) = ws.take i ++ [ws.getD i (0, 0)] := by rw [List.take_succ_eq_append_getElem hlt, getD_lt _ _ _ hlt]
  have hml := mergW_len n s t (ws.take i)
  rw [List.length_take] at hml
  have hsn := mergW_snoc n s t (ws.take i) (ws.getD i (0, 0))
  generalize ws.getD i (0, 0) = e at *
  obtain ⟨A, B⟩ := e
  simp only at cA cB hsn
  rw [ia, r_fa, r_ld cA, ia, r_fa, r_ld cB]
  refine r_use fok77 (renamed_calls w2 (by omega) (by omega)) rfl ?_
  rintro _ _ ⟨rfl, rfl⟩
  refine ⟨_, rfl, r_keep (Kp.refl _) ?_⟩
  refine r_use fok77 (renamed_calls w2 (by omega) (by omega)) rfl ?_
  rintro _ _ ⟨rfl, rfl⟩
  refine ⟨_, rfl, ?_⟩
  have hP2 := RecAt.kp hP k2
  rw [r_neq]
  refine r_join1 (fun u w' => WrAt w.heap.size w' u (zW (mergW n s t (ws.take (i + 1)))) ∧ Kp w w') ?_ fun kk hkk => ?_
  · rintro u w' ⟨g1, g2⟩
    rw [r_add _ _ (by omega) (by omega)]
    exact ⟨⟨i + 1, by omega, by go_num, g1, g2⟩, by simp only [intOf]; omega⟩
  by_cases h : ren n s t A = ren n s t B
  · have h' : ((ren n s t A : Nat) : Int) = ((ren n s t B : Nat) : Int) := by omega
    rw [decide_eq_true h', Bool.not_true, r_condF]
    rw [if_pos h, List.append_nil] at hsn
    exact hkk _ _ ⟨by rw [hts, hsn]; exact hP2, k02⟩
  · have h' : ¬ ((ren n s t A : Nat) : Int) = ((ren n s t B : Nat) : Int) := by omega
    rw [decide_eq_false h', Bool.not_false, r_condT, bd40]
    rw [if_neg h] at hsn
    refine r_pushRec (x := (((ren n s t A : Nat) : Int), ((ren n s t B : Nat) : Int))) (ty := 27) slt27 wC_len rfl (bs27 _ _ _) (wC_one _) (by omega) hP2 (by simp only [zW, List.length_map]; omega) k02.size fun v' w' o1 c1 _ => ?_
    refine hkk _ _ ⟨?_, Kp.of_chg k02 c1 fun q hq => (RecAt.lt hP2 hq).1⟩
    rw [hts, hsn]
    unfold zW at o1 ⊢
    rw [List.map_append]
    exact o1

end Go.Proofs.YtkdcldbedbagjaaDoor

/- The network in which two vertices are one, plainly. No program. -/
namespace Go.Dt

/-- Sublists under a map that keeps some elements. -/
theorem cnt_through {f : Wr → Wr} {keep : Wr → Bool} : ∀ {l : List Wr} {P Q : List Wr → Prop},
    (∀ s, s.Sublist l → (∀ e ∈ s, keep e = true) → (P s ↔ Q (s.map f))) → (∀ s, s.Sublist l → P s → ∀ e ∈ s, keep e = true) → cnt P l = cnt Q ((l.filter keep).map f)
  | [], P, Q, h1, _ => by
    have := h1 [] (List.Sublist.refl _) (fun _ h => by cases h)
    simp only [List.filter_nil, List.map_nil] at this ⊢
    unfold cnt
    by_cases hp : P []
    · rw [if_pos hp, if_pos (this.1 hp)]
    · rw [if_neg hp, if_neg fun hq => hp (this.2 hq)]
  | e :: l, P, Q, h1, h2 => by
    have ih := cnt_through (l := l) (P := P) (Q := Q) (fun s hs => h1 s (hs.cons _)) fun s hs => h2 s (hs.cons _)
    show cnt P l + cnt (fun s => P (e :: s)) l = _
    cases hk : keep e with
    | true =>
      have ih2 := cnt_through (l := l) (P := fun s => P (e :: s)) (Q := fun s => Q (f e :: s)) (fun s hs hall => h1 (e :: s) (hs.cons_cons _) fun x hx => by
        rcases List.mem_cons.1 hx with rfl | hx
        · exact hk
        · exact hall x hx) fun s hs hp x hx => h2 (e :: s) (hs.cons_cons _) hp x (List.mem_cons_of_mem _ hx)
      rw [List.filter_cons, if_pos hk, List.map_cons]
      show _ = cnt Q _ + cnt (fun s => Q (f e :: s)) _
      rw [ih, ih2]
    | false =>
      have z : cnt (fun s => P (e :: s)) l = 0 := cnt_false fun s hs hp => by
        have := h2 (e :: s) (hs.cons_cons _) hp e (List.mem_cons_self ..)
        rw [hk] at this; cases this
      rw [List.filter_cons, if_neg (by rw [hk]; decide), z, ih, Nat.add_zero]

theorem Conn.map {φ : Nat → Nat} {x : List Wr} {u v : Nat} (c : Conn x u v) : Conn (x.map fun e => (φ e.1, φ e.2)) (φ u) (φ v) := by
  induction c with
  | refl => exact .refl _
  | step _ h2 ih =>
    refine .step ih ?_
    rcases h2 with h2 | h2
    · exact .inl (List.mem_map.2 ⟨_, h2, rfl⟩)
    · exact .inr (List.mem_map.2 ⟨_, h2, rfl⟩)

/-- A way in the merged network comes from one in the network, or it meets s or t. -/
theorem Conn.lift {n s t : Nat} {φ : Nat → Nat} {x : List Wr} (hx : Wf n x) (hφ : ∀ a b, a < n → b < n → φ a = φ b → a = b ∨ (a = s ∨ a = t)) {p q v : Nat} (hv : v < n) (hp : φ v = p) (c : Conn (x.map fun e => (φ e.1, φ e.2)) p q) :
    (∃ u, u < n ∧ φ u = q ∧ Conn x v u) ∨ Conn x v s ∨ Conn x v t := by
  induction c with
  | refl => exact .inl ⟨v, hv, hp, .refl _⟩
  | step _ h2 ih =>
    rcases ih with ⟨u, hu, he, hc⟩ | h
    · have go : ∀ a b, a < n → b < n → φ a = φ u → ((a, b) ∈ x ∨ (b, a) ∈ x) → (∃ z, z < n ∧ φ z = φ b ∧ Conn x v z) ∨ Conn x v s ∨ Conn x v t := fun a b ha hb hab hm => by
        rcases hφ u a hu ha hab.symm with h1 | h1 | h1
        · subst h1
          exact .inl ⟨b, hb, rfl, hc.trans (.one hm)⟩
        · subst h1; exact .inr (.inl hc)
        · subst h1; exact .inr (.inr hc)
      rcases h2 with h2 | h2
      · obtain ⟨e, hm, hee⟩ := List.mem_map.1 h2
        injection hee with e1 e2
        have hw := hx e hm
        have := go e.1 e.2 hw.1 hw.2.1 (by rw [e1, he]) (.inl hm)
        rwa [e2] at this
      · obtain ⟨e, hm, hee⟩ := List.mem_map.1 h2
        injection hee with e1 e2
        have hw := hx e hm
        have := go e.2 e.1 hw.2.1 hw.1 (by rw [e2, he]) (.inr hm)
        rwa [e1] at this
    · exact .inr h

/-- Forests of the merged network. -/
theorem RF_merge {n s t : Nat} {φ : Nat → Nat} {x : List Wr} (hn : 2 ≤ n) (hs : s < n) (ht : t < n) (hst : s ≠ t) (hx : Wf n x) (hlt : ∀ v, v < n → φ v < n - 1) (honto : ∀ y, y < n - 1 → ∃ v, v < n ∧ φ v = y)
    (hst2 : φ t = φ s) (hφ : ∀ a b, a < n → b < n → φ a = φ b → a = b ∨ ((a = s ∨ a = t) ∧ (b = s ∨ b = t))) :
    RF n (ins (one t) s) x ↔ RF (n - 1) (one (φ s)) (x.map fun e => (φ e.1, φ e.2)) := by
  have c2 : cntS n (ins (one t) s) = 2 := by rw [cnt_ins (one_not hst) hs, cnt_one ht]
  have c1 : cntS (n - 1) (one (φ s)) = 1 := cnt_one (hlt s hs)
  constructor
  · rintro ⟨h1, h2⟩
    refine ⟨by rw [c1, List.length_map]; rw [c2] at h1; omega, fun y hy => ?_⟩
    obtain ⟨v, hv, rfl⟩ := honto y hy
    obtain ⟨r, _, hr, hc⟩ := h2 v hv
    refine ⟨φ s, hlt s hs, one_self _, ?_⟩
    rcases ins_iff.1 hr with hr | rfl
    · rw [one_iff.1 hr] at hc
      rw [← hst2]; exact hc.map
    · exact hc.map
  · rintro ⟨h1, h2⟩
    refine ⟨by rw [c2]; rw [c1, List.length_map] at h1; omega, fun v hv => ?_⟩
    obtain ⟨r, _, hr, hc⟩ := h2 (φ v) (hlt v hv)
    rw [one_iff.1 hr] at hc
    have toS : Conn x v s ∨ Conn x v t := by
      rcases Conn.lift (s := s) (t := t) hx (fun a b ha hb h => (hφ a b ha hb h).imp id fun h => h.1) hv rfl hc with ⟨u, hu, he, hcu⟩ | h
      · rcases hφ u s hu hs he with rfl | ⟨rfl | rfl, _⟩
        · exact .inl hcu
        · exact .inl hcu
        · exact .inr hcu
      · exact h
    rcases toS with h | h
    · exact ⟨s, hs, ins_self _ _, h⟩
    · exact ⟨t, ht, ins_of (one_self t), h⟩

end Go.Dt
