/- Texts of my own, merged by program: Pi Pj. -/
import Derived.Test.YtfmppkplmfbjpaaGreatDoorM19
set_option linter.all false
/- Lines of a group in memory; contracts of pattern: any, directions, on. -/
namespace Go.Proofs.YtfmppkplmfbjpaaGreatDoor
open Go.Lf Go.RowKit Go.Ht Go.Pt Go.MapKept Go.ChangeMaps

abbrev iVz (n : Int) : Value := .int .i64 n
set_option maxRecDepth 100000 in
theorem keyIz : KeyE 3 iVz i64B :=
  ⟨Maps.int_keyed (q := .i64) (by kernel_rfl), fun {k} h => ⟨.int .i64 k, Maps.keyOf_int_mk (by kernel_rfl) (i64_wf h)⟩, fun {a b} h => by injection h⟩
theorem und112 : Tryz.prog.underlying 112 = some (.map 3 4) := by kernel_rfl

theorem mapO_unique {w : World} {b : Nat} {f g : Int → Option Value} (h : MapO iVz i64B w b f) (h' : MapO iVz i64B w b g) : f = g := by
  obtain ⟨es, cl, h1, h2⟩ := h
  obtain ⟨es', cl', h1', h2'⟩ := h'
  rw [h1] at h1'
  cases h1'
  funext k
  have one : ∀ {f g : Int → Option Value}, EntsO iVz i64B es cl f → EntsO iVz i64B es cl g → f k ≠ none → g k = f k := fun {f g} hf hg hne => by
    obtain ⟨e, he, hk⟩ := hf.all k hne
    obtain ⟨k1, _, e1, v1⟩ := hf.val e he
    obtain ⟨k2, _, e2, v2⟩ := hg.val e he
    have a1 : k1 = k := by rw [e1] at hk; injection hk
    have a2 : k2 = k := by rw [e2] at hk; injection hk
    subst a1; subst a2
    rw [v1, v2]
  by_cases hf : f k = none
  · by_cases hg : g k = none
    · rw [hf, hg]
    · exact one h2' h2 hg
  · exact (one h2 h2' hf).symm

/-- A map that holds nothing but true, at 0 if q. -/
def MB (w : World) (b : Nat) (q : Prop) : Prop := ∃ f : Int → Option Value, MapO iVz i64B w b f ∧ (∀ x v, f x = some v → v = .bool true) ∧ (q → f 0 = some (.bool true))
section
variable {w w' : World} {b : Nat} {q q' : Prop}
theorem MB.kp (h : MB w b q) (k : Kp w w') : MB w' b q := let ⟨f, h1, h2⟩ := h; ⟨f, h1.kp k, h2⟩
theorem MB.chg {S : Nat → Prop} (h : MB w b q) (c : Chg S w w') (hs : ¬ S b) : MB w' b q := let ⟨f, h1, h2⟩ := h; ⟨f, h1.chg c hs, h2⟩
theorem MB.mono (h : MB w b q) (hq : q' → q) : MB w b q' := let ⟨f, h1, h2, h3⟩ := h; ⟨f, h1, h2, fun x => h3 (hq x)⟩
theorem MB.or (h : MB w b q) (h' : MB w b q') : MB w b (q ∨ q') := by
  obtain ⟨f, h1, h2, h3⟩ := h
  obtain ⟨g, g1, g2, g3⟩ := h'
  obtain rfl := mapO_unique h1 g1
  exact ⟨f, h1, h2, fun x => x.elim h3 g3⟩
theorem MB.new (w : World) (hq : ¬ q) : MB (w.alloc (.map #[] 0)) w.heap.size q := ⟨_, mapO_new iVz i64B w, by simp, fun h => absurd h hq⟩
set_option maxRecDepth 100000 in
theorem MB.mu (h : MB w b q) {x : Int} (hx : i64B x) {K : Value → World → Prop} (hK : ∀ w', MB w' b (q ∨ x = 0) → (∀ b' q', MB w b' q' → MB w' b' q') → Chg (fun i => i = b) w w' → K undef w') : semW Tryz.prog (muS 112 (.map (some b)) (.int .i64 x) (.bool true)) w K := by
  obtain ⟨f, h1, h2, h3⟩ := h
  refine r_muO (k := x) keyIz und112 zero4 h1 hx fun w' g1 g2 _ => ?_
  have key : ∀ q' : Prop, (q' → f 0 = some (.bool true) ∨ x = 0) → MB w' b q' := fun q' hq' => ⟨_, g1, fun y v hv => by
    unfold updO at hv
    split at hv
    · cases hv; rfl
    · exact h2 y v hv, fun hq => by
    unfold updO
    split
    · rfl
    · rename_i hne
      exact (hq' hq).resolve_right fun e => hne e.symm⟩
  refine hK w' (key _ fun hq => hq.imp h3 id) (fun b' q' hb => ?_) g2
  by_cases e : b' = b
  · subst e
    obtain ⟨g, p1, _, p3⟩ := hb
    obtain rfl := mapO_unique h1 p1
    exact key q' fun hq => .inl (p3 hq)
  · exact hb.chg g2 e
theorem MB.ln (h : MB w b q) {K : Value → Prop} (hK : ∀ n : Nat, (q → 0 < n) → K (.int .i64 n)) : lnM w (.map (some b)) K := by
  obtain ⟨f, ⟨es, cl, h1, h2⟩, _, h3⟩ := h
  unfold lnM
  simp only [h1]
  refine hK _ fun hq => ?_
  obtain ⟨e, he, _⟩ := h2.all 0 (by rw [h3 hq]; simp)
  have := List.length_pos_of_mem he
  simpa using this
set_option maxRecDepth 100000 in
theorem MB.lk (h : MB w b q) {x : Int} (hx : i64B x) {K : Value → World → Prop} (hK : ∀ v : Bool, (q → x = 0 → v = true) → K (.bool v) w) : semW Tryz.prog (lkS 112 (.map (some b)) (.int .i64 x) false) w K := by
  obtain ⟨f, h1, h2, h3⟩ := h
  rw [r_lkO (k := x) keyIz und112 zero4 h1 hx]
  cases hf : f x with
  | none =>
    refine hK false fun hq e => ?_
    subst e
    rw [h3 hq] at hf; cases hf
  | some v =>
    rw [h2 x v hf]
    exact hK true fun _ _ => rfl
end

/-- Lines in memory: the maps of the kinds from 4 up to N. -/
structure LnsC (base : Nat) (w : World) (bl N : Nat) (q : Prop) : Prop where
  hb : base ≤ bl
  blk : ∃ cur : Array Value, w.heap[bl]? = some (.cells cur 115 (0, 0)) ∧ cur.size = 16 ∧ ∀ k, 4 ≤ k → k < N → ∃ bm ba, cur[k]? = some (.map (some bm)) ∧ cur[8 + k]? = some (.map (some ba)) ∧ MB w bm (k = 4 ∧ q) ∧ MB w ba (k = 4 ∧ q) ∧ base ≤ bm ∧ base ≤ ba
section
variable {base bl N : Nat} {w w' : World} {q q' : Prop}
theorem LnsC.kp (h : LnsC base w bl N q) (k : Kp w w') : LnsC base w' bl N q :=
  ⟨h.hb, let ⟨c, h1, h2, h3⟩ := h.blk; ⟨c, block_below h1 k, h2, fun i a b => let ⟨bm, ba, p1, p2, p3, p4, p5⟩ := h3 i a b; ⟨bm, ba, p1, p2, p3.kp k, p4.kp k, p5⟩⟩⟩
theorem LnsC.mono (h : LnsC base w bl N q) (hq : q' → q) : LnsC base w bl N q' :=
  ⟨h.hb, let ⟨c, h1, h2, h3⟩ := h.blk; ⟨c, h1, h2, fun i a b => let ⟨bm, ba, p1, p2, p3, p4, p5⟩ := h3 i a b; ⟨bm, ba, p1, p2, p3.mono fun x => ⟨x.1, hq x.2⟩, p4.mono fun x => ⟨x.1, hq x.2⟩, p5⟩⟩⟩
theorem LnsC.at (h : LnsC base w bl N q) {k : Nat} (h4 : 4 ≤ k) (hN : k < N) : ∃ bm ba, w.cell? ⟨bl, k, none⟩ = some (.map (some bm)) ∧ w.cell? ⟨bl, 8 + k, none⟩ = some (.map (some ba)) ∧ MB w bm (k = 4 ∧ q) ∧ MB w ba (k = 4 ∧ q) ∧ base ≤ bm ∧ base ≤ ba := by
  obtain ⟨c, h1, _, h3⟩ := h.blk
  obtain ⟨bm, ba, p1, p2, p3⟩ := h3 k h4 hN
  exact ⟨bm, ba, by rw [cell_row h1]; exact p1, by rw [cell_row h1]; exact p2, p3⟩
theorem MB.ne {b : Nat} (h : MB w b q') (hl : LnsC base w bl N q) : bl ≠ b := fun e => by
  obtain ⟨f, ⟨es, cl, h1, _⟩, _⟩ := h
  obtain ⟨c, h2, _⟩ := hl.blk
  rw [e, h1] at h2
  cases h2
theorem LnsC.upd {b : Nat} (h : LnsC base w bl N q) (hne : bl ≠ b) (c : Chg (fun i => i = b) w w') (hm : ∀ b' q', MB w b' q' → MB w' b' q') : LnsC base w' bl N q :=
  ⟨h.hb, let ⟨cu, h1, h2, h3⟩ := h.blk; ⟨cu, c.at h1 hne, h2, fun i a b => let ⟨bm, ba, p1, p2, p3, p4, p5⟩ := h3 i a b; ⟨bm, ba, p1, p2, hm _ _ p3, hm _ _ p4, p5⟩⟩⟩
theorem LnsC.raise {bm ba : Nat} (h : LnsC base w bl N q) (h5 : 4 < N) (cm : w.cell? ⟨bl, 4, none⟩ = some (.map (some bm))) (ca : w.cell? ⟨bl, 8 + 4, none⟩ = some (.map (some ba))) (hm : MB w bm True) (ha : MB w ba True) : LnsC base w bl N True := by
  obtain ⟨cu, h1, h2, h3⟩ := h.blk
  rw [cell_row h1] at cm ca
  refine ⟨h.hb, cu, h1, h2, fun k a b => ?_⟩
  obtain ⟨bm', ba', p1, p2, p3, p4, p5⟩ := h3 k a b
  refine ⟨bm', ba', p1, p2, ?_, ?_, p5⟩
  · by_cases e : k = 4
    · subst e
      rw [cm] at p1; cases p1
      exact hm.mono fun _ => trivial
    · exact p3.mono fun x => absurd x.1 e
  · by_cases e : k = 4
    · subst e
      rw [ca] at p2; cases p2
      exact ha.mono fun _ => trivial
    · exact p4.mono fun x => absurd x.1 e
end

set_option maxRecDepth 100000 in
theorem any_calls {base bl : Nat} {w : World} (h : LnsC base w bl 8 True) : Calls Tryz.prog 48 #[ptrV bl] w fun e w' => e = .returned (.bool true) ∧ Kp w w' := by
  refine lift48 ?_
  unfold S48 S48L0
  refine ⟨fun t3 wr => t3 = .int .i64 4 ∧ SameW w wr, fun t3 _ => 8 - (intOf t3).toNat, ⟨rfl, rfl⟩, ?_⟩
  rintro _ _ _ ⟨rfl, rfl⟩
  obtain ⟨bm, ba, _, ca, _, ma, _⟩ := h.at (k := 4) (by omega) (by omega)
  have i4 : (4 : Int).toNat = 4 := rfl
  rw [r_lss, decide_eq_true (by decide : (4 : Int) < 8), r_condT, r_nc, r_fa, Nat.zero_add, r_iaA _ _ _ _ _ _ (by omega) (by omega), i4, Nat.mul_one, r_ld ca]
  refine ma.ln fun n hn => ?_
  have := hn ⟨rfl, trivial⟩
  rw [r_gtr, decide_eq_true (by omega : (0 : Int) < (n : Int)), r_condT]
  exact ⟨rfl, Kp.refl _⟩

set_option maxRecDepth 100000 in
theorem directions_calls {base bl : Nat} {w : World} {q : Prop} (h : LnsC base w bl 8 q) : Calls Tryz.prog 52 #[ptrV bl] w fun e w' => ∃ n : Nat, e = .returned (.int .i64 n) ∧ SameW w w' := by
  refine lift52 ?_
  unfold S52 S52L0
  refine ⟨fun t3 t4 wr => ∃ k n : Nat, 4 ≤ k ∧ k ≤ 8 ∧ n ≤ k ∧ t3 = .int .i64 n ∧ t4 = .int .i64 k ∧ SameW w wr, fun _ t4 _ => 8 - (intOf t4).toNat, ⟨4, 0, by omega, by omega, by omega, rfl, rfl, rfl⟩, ?_⟩
  rintro _ _ _ _ ⟨k, n, h4, h8, hn, rfl, rfl, rfl⟩
  by_cases hlt : k < 8
  case neg =>
    have hlt' : ¬ (k : Int) < 8 := by omega
    rw [r_lss, decide_eq_false hlt', r_condF]
    exact ⟨n, rfl, rfl⟩
  have hlt' : (k : Int) < 8 := by omega
  obtain ⟨bm, ba, cm, _, mm, _⟩ := h.at (k := k) h4 hlt
  have hkk : (k : Int).toNat = k := by omega
  rw [r_lss, decide_eq_true hlt', r_condT, r_nc, r_fa, Nat.zero_add, r_iaA _ _ _ _ _ _ (by omega) (by omega), hkk, Nat.mul_one, Nat.zero_add, r_ld cm]
  refine mm.ln fun z _ => ?_
  rw [r_gtr]
  refine r_join1 (fun v w' => ∃ n' : Nat, n' ≤ k + 1 ∧ v = .int .i64 n' ∧ SameW w w') ?_ fun k' hk' => ?_
  · rintro _ _ ⟨n', hn', rfl, rfl⟩
    rw [r_add _ _ (by omega) (by omega)]
    exact ⟨⟨k + 1, n', by omega, by omega, by omega, rfl, by go_num, rfl⟩, by simp only [intOf]; omega⟩
  · cases decide ((0 : Int) < (z : Int)) with
    | true =>
      rw [r_condT, r_add _ _ (by omega) (by omega)]
      exact hk' _ _ ⟨n + 1, by omega, by go_num, rfl⟩
    | false =>
      rw [r_condF]
      exact hk' _ _ ⟨n, by omega, rfl, rfl⟩

set_option maxRecDepth 100000 in
theorem on_calls {base bl : Nat} {w : World} (h : LnsC base w bl 8 True) {x y : Int} (hx : -1000 ≤ x ∧ x ≤ 1000) (hy : -1000 ≤ y ∧ y ≤ 1000) : Calls Tryz.prog 51 #[ptrV bl, .int .i64 x, .int .i64 y] w fun e w' => ∃ v : Bool, (y = 0 → v = true) ∧ e = .returned (.bool v) ∧ SameW w w' := by
  obtain ⟨b4, _, c4, _, m4, _⟩ := h.at (k := 4) (by omega) (by omega)
  obtain ⟨b5, _, c5, _, m5, _⟩ := h.at (k := 5) (by omega) (by omega)
  obtain ⟨b6, _, c6, _, m6, _⟩ := h.at (k := 6) (by omega) (by omega)
  obtain ⟨b7, _, c7, _, m7, _⟩ := h.at (k := 7) (by omega) (by omega)
  have i4 : (4 : Int).toNat = 4 := rfl
  have i5 : (5 : Int).toNat = 5 := rfl
  have i6 : (6 : Int).toNat = 6 := rfl
  have i7 : (7 : Int).toNat = 7 := rfl
  refine lift51 ?_
  unfold S51
  have hb : ∀ z : Int, -3000 ≤ z → z ≤ 3000 → i64B z := fun z h1 h2 => ⟨by omega, by omega⟩
  simp (disch := omega) only [r_nc, r_fa, Nat.zero_add, r_iaA, i4, Nat.mul_one, r_ld c4]
  refine m4.lk (hb y (by omega) (by omega)) fun v4 hv4 => ?_
  cases v4 with
  | true =>
    simp only [r_gdTF, r_gdU, r_pickT]
    exact ⟨true, fun _ => rfl, rfl, rfl⟩
  | false =>
  have hy0 : ¬ y = 0 := fun e => by have := hv4 ⟨rfl, trivial⟩ e; cases this
  simp (disch := omega) only [r_gdFF, r_nc, r_fa, Nat.zero_add, r_iaA, i5, Nat.mul_one, r_ld c5]
  refine m5.lk (hb x (by omega) (by omega)) fun v5 _ => ?_
  rw [r_pickF]
  cases v5 with
  | true =>
    simp only [r_gdTF, r_gdU, r_pickT]
    exact ⟨true, fun _ => rfl, rfl, rfl⟩
  | false =>
  simp (disch := omega) only [r_gdFF, r_nc, r_fa, Nat.zero_add, r_iaA, i6, Nat.mul_one, r_ld c6, r_sub]
  refine m6.lk (hb (x - y) (by omega) (by omega)) fun v6 _ => ?_
  rw [r_pickF]
  cases v6 with
  | true =>
    simp only [r_gdTF, r_gdU, r_pickT]
    exact ⟨true, fun _ => rfl, rfl, rfl⟩
  | false =>
  simp (disch := omega) only [r_gdFF, r_nc, r_fa, Nat.zero_add, r_iaA, i7, Nat.mul_one, r_ld c7, r_add]
  refine m7.lk (hb (x + y) (by omega) (by omega)) fun v7 _ => ?_
  rw [r_pickF]
  exact ⟨v7, fun e => absurd e hy0, rfl, rfl⟩

end Go.Proofs.YtfmppkplmfbjpaaGreatDoor

/- Contract of pattern: lines. -/
namespace Go.Proofs.YtfmppkplmfbjpaaGreatDoor
open Go.Lf Go.RowKit Go.Ht Go.Pt Go.MapKept Go.ChangeMaps

theorem st112 {w : World} {a : Addr} {b : Nat} {v : Value} {K : World → Prop} (hc : w.cell? a = some v) (hf : w.frozen? a = false) : stW Tryz.prog 112 (.pointer (some a)) (.map (some b)) w K = K (w.setCell a (.map (some b))) := by
  have e : stW Tryz.prog 112 (.pointer (some a)) (.map (some b)) w K = ((w.cell? (a.add 0)).isSome = true ∧ w.frozen? (a.add 0) = false ∧ true = true ∧ K (w.setCell (a.add 0) (.map (some b)))) := by kernel_rfl
  rw [e]
  have ha : a.add 0 = a := rfl
  simp [ha, hc, hf]

set_option maxRecDepth 100000 in
/-- The two new maps of a kind. -/
theorem lns_new {base bl N : Nat} {w w' : World} {q : Prop} {cur : Array Value} {b1 b2 : Nat} (h : LnsC base w bl N q) (h4 : 4 ≤ N) (h8 : N < 8) (hq : N = 4 → ¬ q) (hcur : w.heap[bl]? = some (.cells cur 115 (0, 0))) (c : Chg (fun k => k = bl) w w')
    (hbl : w'.heap[bl]? = some (.cells ((cur.setIfInBounds N (.map (some b1))).setIfInBounds (8 + N) (.map (some b2))) 115 (0, 0))) (m1 : MapO iVz i64B w' b1 (fun _ => none)) (m2 : MapO iVz i64B w' b2 (fun _ => none)) (hb1 : base ≤ b1) (hb2 : base ≤ b2) : LnsC base w' bl (N + 1) q := by
  obtain ⟨cu, e1, e2, e3⟩ := h.blk
  rw [hcur] at e1
  cases e1
  refine ⟨h.hb, _, hbl, by simpa using e2, fun k a b => ?_⟩
  by_cases e : k = N
  · subst e
    refine ⟨b1, b2, ?_, ?_, ⟨_, m1, by simp, fun hh => absurd hh.2 (hq hh.1)⟩, ⟨_, m2, by simp, fun hh => absurd hh.2 (hq hh.1)⟩, hb1, hb2⟩
    · rw [Array.getElem?_setIfInBounds_ne (by omega), Array.getElem?_setIfInBounds_self_of_lt (by omega)]
    · rw [Array.getElem?_setIfInBounds_self_of_lt (by simp; omega)]
  · obtain ⟨bm, ba, p1, p2, p3, p4, p5⟩ := e3 k a (by omega)
    have hne : ∀ {b : Nat} {qq : Prop}, MB w b qq → ¬ b = bl := fun hm e => hm.ne h e.symm
    refine ⟨bm, ba, ?_, ?_, p3.chg c (hne p3), p4.chg c (hne p4), p5⟩
    · rw [Array.getElem?_setIfInBounds_ne (by omega), Array.getElem?_setIfInBounds_ne (by omega)]; exact p1
    · rw [Array.getElem?_setIfInBounds_ne (by omega), Array.getElem?_setIfInBounds_ne (by omega)]; exact p2

set_option maxRecDepth 100000 in
set_option maxHeartbeats 1000000 in
theorem r46_new {base bl N : Nat} {w : World} {q : Prop} {K : World → Prop} (h : LnsC base w bl N q) (h4 : 4 ≤ N) (h8 : N < 8) (hq : N = 4 → ¬ q) (hb : base ≤ w.heap.size) (hK : ∀ w', LnsC base w' bl (N + 1) q → Chg (fun k => k = bl) w w' → K w') :
    ∃ X : Nat → Prop,
        takeX X w (fun w k => k (ptrV bl)) fun t16 =>
        takeX X w (fun w k => k (.int .i64 N)) fun t17 =>
        takeX X w (fun w k => k (ptrV bl)) fun t18 =>
        takeX X w (fun w k => k (.int .i64 N)) fun t19 =>
        takeX X w (fun w k => ncQ t16 k) fun t22 =>
        takeX X w (fun w k => fa1 t22 0 k) fun t23 =>
        takeX X w (fun w k => ncQ t18 k) fun t25 =>
        takeX X w (fun w k => fa1 t25 8 k) fun t26 =>
        And (
          mmW w <| keepX X w fun t20 w =>
          takeX X w (fun w k => iaA 8 1 t23 t17 k) fun t24 =>
          And (
            mmW w <| keepX X w fun t21 w =>
            stW Tryz.prog 112 t24 t20 w <| keepW X w fun w =>
            takeX X w (fun w k => iaA 8 1 t26 t19 k) fun t27 =>
            stW Tryz.prog 112 t27 t21 w fun w =>
            K  w
          ) <|
          And (
            stW Tryz.prog 112 t24 t20 w <| keepW X w fun w =>
            mmW w <| keepX X w fun t21_2 w =>
            takeX X w (fun w k => iaA 8 1 t26 t19 k) fun t27_2 =>
            stW Tryz.prog 112 t27_2 t21_2 w fun w =>
            K  w
          ) <|
          True
        ) <|
        And (
          mmW w <| keepX X w fun t21_3 w =>
          mmW w <| keepX X w fun t20_2 w =>
          takeX X w (fun w k => iaA 8 1 t23 t17 k) fun t24_2 =>
          stW Tryz.prog 112 t24_2 t20_2 w <| keepW X w fun w =>
          takeX X w (fun w k => iaA 8 1 t26 t19 k) fun t27_3 =>
          stW Tryz.prog 112 t27_3 t21_3 w fun w =>
          K  w
        ) <|
        True := by
  refine ⟨fun k => k = bl, ?_⟩
  have hNN : (N : Int).toNat = N := by omega
  simp (disch := omega) only [r_tx, r_nc, r_fa, Nat.zero_add, r_iaA, hNN, Nat.mul_one]
  obtain ⟨cu, e1, e2, e3⟩ := h.blk
  have cset : ∀ {w1 : World} {c1 : Array Value} (n b : Nat) {K : World → Prop}, w1.heap[bl]? = some (.cells c1 115 (0, 0)) → n < c1.size → (∀ w2, Chg (fun k => k = bl) w1 w2 → w2.heap.size = w1.heap.size → w2.heap[bl]? = some (.cells (c1.setIfInBounds n (.map (some b))) 115 (0, 0)) → K w2) → stW Tryz.prog 112 (.pointer (some ⟨bl, n, none⟩)) (.map (some b)) w1 K := fun {w1 c1} n b {K} hc hn hK => by
    rw [st112 (v := c1[n]) (by rw [cell_row hc]; simp [hn]) (frozen_row hc)]
    exact hK _ (Chg.setCell _ _ rfl) (setCell_size _ _ _) (setCell_block hc rfl)
  have hlt := block_lt e1
  have big : ∀ {a b : World}, Kp a b → ∀ b0, b0 < a.heap.size → b0 < b.heap.size := fun k b0 hb0 => by have := k.size; omega
  refine ⟨?_, ?_, trivial⟩
  · refine r_mm ?_
    have k1 : Kp w (w.alloc (.map #[] 0)) := below_alloc _
    have m1 := mapO_new iVz i64B w
    have s1 : (w.alloc (.map #[] 0)).heap.size = w.heap.size + 1 := by show (w.heap.push _).size = _; simp
    rw [r_keepXE]
    refine ⟨BX.of_below k1, ?_⟩
    have g1 := block_below e1 k1
    generalize w.alloc (.map #[] 0) = wa at *
    refine ⟨?_, ?_, trivial⟩
    · refine r_mm ?_
      have k2 : Kp wa (wa.alloc (.map #[] 0)) := below_alloc _
      have m2 := mapO_new iVz i64B wa
      have s2 : (wa.alloc (.map #[] 0)).heap.size = wa.heap.size + 1 := by show (wa.heap.push _).size = _; simp
      rw [r_keepXE]
      refine ⟨BX.of_below k2, ?_⟩
      have g2 := block_below g1 k2
      generalize wa.alloc (.map #[] 0) = wb at *
      refine cset N _ g2 (by omega) fun w3 c3 s3 h3 => ?_
      rw [r_keepWE]
      refine ⟨BX.of_chg c3 fun q e => e, ?_⟩
      refine cset (8 + N) _ h3 (by simp; omega) fun w4 c4 s4 h4' => ?_
      have c34 := c3.trans c4
      refine hK _ (lns_new h h4 h8 hq e1 ((Chg.of_kp (Kp.trans k1 k2)).trans c34) h4' ((m1.kp k2).chg c34 (by omega)) (m2.chg c34 (by omega)) hb (by omega)) ((Chg.of_kp (Kp.trans k1 k2)).trans c34)
    · refine cset N _ g1 (by omega) fun w3 c3 s3 h3 => ?_
      rw [r_keepWE]
      refine ⟨BX.of_chg c3 fun q e => e, ?_⟩
      refine r_mm ?_
      have k2 : Kp w3 (w3.alloc (.map #[] 0)) := below_alloc _
      have m2 := mapO_new iVz i64B w3
      rw [r_keepXE]
      refine ⟨BX.of_below k2, ?_⟩
      have g2 := block_below h3 k2
      generalize w3.alloc (.map #[] 0) = wb at *
      refine cset (8 + N) _ g2 (by simp; omega) fun w4 c4 s4 h4' => ?_
      have cAll := ((Chg.of_kp (S := fun k => k = bl) k1).trans c3).trans ((Chg.of_kp k2).trans c4)
      refine hK _ (lns_new h h4 h8 hq e1 cAll h4' (((m1.chg c3 (by omega)).kp k2).chg c4 (by omega)) (m2.chg c4 (by omega)) hb (by omega)) cAll
  · refine r_mm ?_
    have k1 : Kp w (w.alloc (.map #[] 0)) := below_alloc _
    have m1 := mapO_new iVz i64B w
    have s1 : (w.alloc (.map #[] 0)).heap.size = w.heap.size + 1 := by show (w.heap.push _).size = _; simp
    rw [r_keepXE]
    refine ⟨BX.of_below k1, ?_⟩
    have g1 := block_below e1 k1
    generalize w.alloc (.map #[] 0) = wa at *
    refine r_mm ?_
    have k2 : Kp wa (wa.alloc (.map #[] 0)) := below_alloc _
    have m2 := mapO_new iVz i64B wa
    rw [r_keepXE]
    refine ⟨BX.of_below k2, ?_⟩
    have g2 := block_below g1 k2
    generalize wa.alloc (.map #[] 0) = wb at *
    refine cset N _ g2 (by omega) fun w3 c3 s3 h3 => ?_
    rw [r_keepWE]
    refine ⟨BX.of_chg c3 fun q e => e, ?_⟩
    refine cset (8 + N) _ h3 (by simp; omega) fun w4 c4 s4 h4' => ?_
    have c34 := c3.trans c4
    refine hK _ (lns_new h h4 h8 hq e1 ((Chg.of_kp (Kp.trans k1 k2)).trans c34) h4' (m2.chg c34 (by omega)) ((m1.kp k2).chg c34 (by omega)) (by omega) hb) ((Chg.of_kp (Kp.trans k1 k2)).trans c34)

/-! ### the loops -/
section
variable {w0 : World} {bg bl A B D : Nat} {vs : Value} {own : Nat → Bool}

set_option maxRecDepth 100000 in
set_option maxHeartbeats 1000000 in
theorem r46_2 {k : Nat} {e : Int} {wr : World} {next_2 : Value → World → Prop} (hW : Wk w0) (hg : GrC w0 bg A B D vs own) (hA : 1 ≤ A ∧ A ≤ 6) (hB : B ≤ 6) (hD : 1 ≤ D ∧ D ≤ 6) (hown : own (4 * 36) = true) (h4 : 4 ≤ k) (h8 : k < 8) (he : -72 ≤ e ∧ e ≤ 72) (hk : Kp w0 wr) (hL : LnsC w0.heap.size wr bl (k + 1) (4 < k ∨ 0 < e))
    (hN : ∀ w', Kp w0 w' → LnsC w0.heap.size w' bl (k + 1) (4 < k ∨ 0 < e + 1) → next_2 (.int .i64 (e + 1)) w') : S46L2 (ptrV bg) (.int .i64 k) (.int .i64 e) (ptrV bl) next_2 wr := by
  unfold S46L2
  refine ⟨fun t6 wq => ∃ f : Int, -72 ≤ f ∧ f ≤ 73 ∧ t6 = .int .i64 f ∧ Kp w0 wq ∧ LnsC w0.heap.size wq bl (k + 1) (4 < k ∨ 0 < e ∨ e = 0 ∧ 0 < f), fun t6 _ => (73 - intOf t6).toNat, ⟨-72, by omega, by omega, rfl, hk, hL.mono (by omega)⟩, ?_⟩
  rintro _ _ wq ⟨f, hf1, hf2, rfl, kq, hq⟩
  by_cases hlt : f ≤ 72
  case neg =>
    rw [r_leq, decide_eq_false hlt, r_condF, r_add _ _ (by omega) (by omega)]
    exact hN _ kq (hq.mono (by omega))
  rw [r_leq, decide_eq_true hlt, r_condT]
  refine r_join0 (fun w' => Kp w0 w' ∧ LnsC w0.heap.size w' bl (k + 1) (4 < k ∨ 0 < e ∨ e = 0 ∧ 0 < f + 1)) ?_ fun k' hk' => ?_
  · rintro w' ⟨g1, g2⟩
    rw [r_add _ _ (by omega) (by omega)]
    exact ⟨⟨f + 1, by omega, by omega, rfl, g1, g2⟩, by simp only [intOf]; omega⟩
  have hkk : (k : Int).toNat = k := by omega
  have hsrc : ∀ K : Value → Prop, (iaA 8 6 (.pointer (some ⟨0, 0, none⟩)) (.int .i64 k) fun p => ldN 6 wq p K) = K (mvV (mvK k 0 0)) := fun K => (hW.kp kq).one h8 K
  rw [hsrc]
  refine r_mk (m := mvK k 0 0) (e := e) (f := f) fun b7 w1 h7 k1 hb7 => ?_
  rw [mvEF_K] at h7
  rw [mv_ld h7]
  have k01 := Kp.trans kq k1
  refine r_use fok75 (has_calls (hg.kp k01) hA hB hD h8 (m := mvK k e f) (by show -3000 ≤ e ∧ e ≤ 3000; omega) (by show -3000 ≤ f ∧ f ≤ 3000; omega)) rfl ?_
  rintro _ w2 ⟨rfl, k2⟩
  refine ⟨_, rfl, ?_⟩
  have k02 := Kp.trans k01 k2
  have hq2 := hq.kp (Kp.trans k1 k2)
  rw [r_not]
  have h444 : k = 4 → e = 0 → f = 0 → own (k * 36 + ((mvK k e f).2.2.2.2.1 % (A : Int)).toNat * 6 + (redF A B D (mvK k e f).2.2.2.2.1 (mvK k e f).2.2.2.2.2).toNat) = true := fun e1 e2 e3 => by
    subst e1; subst e2; subst e3
    have z : (mvK 4 0 0).2.2.2.2.1 = 0 := rfl
    have z2 : (mvK 4 0 0).2.2.2.2.2 = 0 := rfl
    rw [z, z2]
    unfold redF
    simpa using hown
  cases ho : own (k * 36 + ((mvK k e f).2.2.2.2.1 % (A : Int)).toNat * 6 + (redF A B D (mvK k e f).2.2.2.2.1 (mvK k e f).2.2.2.2.2).toNat) with
  | false =>
    rw [Bool.not_false, r_condT]
    refine hk' _ ⟨k02, hq2.mono fun hh => ?_⟩
    by_cases hz : k = 4 ∧ e = 0 ∧ f = 0
    · have := h444 hz.1 hz.2.1 hz.2.2
      rw [ho] at this; cases this
    · omega
  | true =>
    rw [Bool.not_true, r_condF, mv_ld (block_below h7 k2)]
    refine r_use fok76 (line_calls (hW.kp k02) h8 (e := e) (f := f) (by omega) (by omega)) rfl ?_
    rintro _ w3 ⟨rfl, k3⟩
    refine ⟨_, rfl, ?_⟩
    have k03 := Kp.trans k02 k3
    have hq3 := hq2.kp k3
    have hrng : (-200 ≤ (lineM k e f).1 ∧ (lineM k e f).1 ≤ 200) := by unfold lineM; split <;> (try split) <;> (try split) <;> dsimp only <;> omega
    have hz4 : k = 4 → e = 0 → f = 0 → (lineM k e f).1 = 0 ∧ (lineM k e f).2 = 0 := fun e1 e2 e3 => by subst e1; subst e2; subst e3; exact ⟨rfl, rfl⟩
    rw [r_ex2a, r_ex2b]
    generalize lineM k e f = L at *
    obtain ⟨bm, ba, cm, ca, mm, ma, gm, ga⟩ := hq3.at (k := k) h4 (by omega)
    simp (disch := omega) only [r_nc, r_fa, Nat.zero_add, r_iaA, hkk, Nat.mul_one, r_ld ca]
    refine ma.mu (x := L.1) ⟨by omega, by omega⟩ fun w4 ma4 m4 c4 => ?_
    have hq4 := hq3.upd (ma.ne hq3) c4 m4
    have k04 : Kp w0 w4 := Kp.of_chg k03 c4 fun i hi => by omega
    have cm4 : w4.cell? ⟨bl, k, none⟩ = some (.map (some bm)) := c4.cell cm fun e => ma.ne hq3 e
    have ca4 : w4.cell? ⟨bl, 8 + k, none⟩ = some (.map (some ba)) := c4.cell ca fun e => ma.ne hq3 e
    rw [r_eql]
    by_cases hal : L.2 = 0
    · rw [decide_eq_true hal, r_condT]
      simp (disch := omega) only [r_ld cm4]
      refine (m4 _ _ mm).mu (x := L.1) ⟨by omega, by omega⟩ fun w5 mm5 m5 c5 => ?_
      have hne5 : bl ≠ bm := (m4 _ _ mm).ne hq4
      have hq5 := hq4.upd hne5 c5 m5
      have k05 : Kp w0 w5 := Kp.of_chg k04 c5 fun i hi => by omega
      refine hk' _ ⟨k05, ?_⟩
      by_cases hz : k = 4 ∧ e = 0 ∧ f = 0
      · obtain ⟨hz1, hz2, hz3⟩ := hz
        have hL0 := (hz4 hz1 hz2 hz3).1
        subst hz1
        exact (hq5.raise (by omega) (c5.cell cm4 fun e => hne5 e) (c5.cell ca4 fun e => hne5 e) (mm5.mono fun _ => .inr hL0) ((m5 _ _ ma4).mono fun _ => .inr hL0)).mono fun _ => trivial
      · exact hq5.mono (by omega)
    · rw [decide_eq_false hal, r_condF]
      refine hk' _ ⟨k04, hq4.mono fun hh => ?_⟩
      by_cases hz : k = 4 ∧ e = 0 ∧ f = 0
      · exact absurd (hz4 hz.1 hz.2.1 hz.2.2).2 hal
      · omega

set_option maxRecDepth 100000 in
theorem r46_1 {k : Nat} {wr : World} {next : Value → World → Prop} (hW : Wk w0) (hg : GrC w0 bg A B D vs own) (hA : 1 ≤ A ∧ A ≤ 6) (hB : B ≤ 6) (hD : 1 ≤ D ∧ D ≤ 6) (hown : own (4 * 36) = true) (h4 : 4 ≤ k) (h8 : k < 8) (hk : Kp w0 wr) (hL : LnsC w0.heap.size wr bl (k + 1) (4 < k))
    (hN : ∀ w', Kp w0 w' → LnsC w0.heap.size w' bl (k + 1) (4 < k + 1) → next (.int .i64 ((k : Int) + 1)) w') : S46L1 (ptrV bg) (.int .i64 k) (ptrV bl) next wr := by
  unfold S46L1
  refine ⟨fun t5 wq => ∃ e : Int, -72 ≤ e ∧ e ≤ 73 ∧ t5 = .int .i64 e ∧ Kp w0 wq ∧ LnsC w0.heap.size wq bl (k + 1) (4 < k ∨ 0 < e), fun t5 _ => (73 - intOf t5).toNat, ⟨-72, by omega, by omega, rfl, hk, hL.mono (by omega)⟩, ?_⟩
  rintro _ _ wq ⟨e, he1, he2, rfl, kq, hq⟩
  by_cases hlt : e ≤ 72
  case neg =>
    rw [r_leq, decide_eq_false hlt, r_condF, r_add _ _ (by omega) (by omega)]
    exact hN _ kq (hq.mono (by omega))
  rw [r_leq, decide_eq_true hlt, r_condT]
  refine r46_2 hW hg hA hB hD hown h4 h8 ⟨he1, hlt⟩ kq hq fun w' g1 g2 => ?_
  exact ⟨⟨e + 1, by omega, by omega, rfl, g1, g2⟩, by simp only [intOf]; omega⟩
end

set_option maxRecDepth 100000 in
theorem bd115 {K : Value → Prop} : bdQ Tryz.prog 115 [] K = K (.agg (Array.replicate 16 (.map none))) := by kernel_rfl

set_option maxRecDepth 100000 in
theorem lines_calls {w : World} {bg A B D : Nat} {vs : Value} {own : Nat → Bool} (hW : Wk w) (hg : GrC w bg A B D vs own) (hA : 1 ≤ A ∧ A ≤ 6) (hB : B ≤ 6) (hD : 1 ≤ D ∧ D ≤ 6) (hown : own (4 * 36) = true) :
    Calls Tryz.prog 46 #[ptrV bg] w fun e w' => ∃ bl, e = .returned (ptrV bl) ∧ LnsC w.heap.size w' bl 8 True ∧ Kp w w' := by
  refine lift46 ?_
  unfold S46
  rw [bd115]
  refine r_box' (cs := Array.replicate 16 (.map none)) rfl fun bl w1 e1 s1 h1 k1 => ?_
  unfold S46L0
  have hL0 : LnsC w.heap.size w1 bl 4 False := ⟨by omega, _, h1, by simp, fun k a b => by omega⟩
  refine ⟨fun t4 wq => ∃ k : Nat, 4 ≤ k ∧ k ≤ 8 ∧ t4 = .int .i64 k ∧ Kp w wq ∧ LnsC w.heap.size wq bl k (4 < k), fun t4 _ => 8 - (intOf t4).toNat, ⟨4, by omega, by omega, rfl, k1, hL0.mono (by omega)⟩, ?_⟩
  rintro _ _ wq ⟨k, h4, h8, rfl, kq, hq⟩
  by_cases hlt : k < 8
  case neg =>
    have hlt' : ¬ (k : Int) < 8 := by omega
    rw [r_lss, decide_eq_false hlt', r_condF]
    obtain rfl : k = 8 := by omega
    exact ⟨bl, rfl, hq.mono (by omega), kq⟩
  have hlt' : (k : Int) < 8 := by omega
  rw [r_lss, decide_eq_true hlt', r_condT]
  refine r_drew fun w2 k2 _ => ?_
  refine r_join0 (fun w' => Kp w w' ∧ LnsC w.heap.size w' bl (k + 1) (4 < k)) ?_ fun k' hk' => ?_
  · rintro w' ⟨g1, g2⟩
    refine r46_1 hW hg hA hB hD hown h4 hlt g1 g2 fun w'' p1 p2 => ?_
    exact ⟨⟨k + 1, by omega, by omega, by go_num, p1, p2⟩, by simp only [intOf]; omega⟩
  · have k02 := Kp.trans kq k2
    refine r46_new (hq.kp k2) h4 hlt (by omega) k02.size fun w' p1 p2 => hk' _ ⟨Kp.of_chg k02 p2 fun i e => by have := hq.hb; omega, p1⟩

end Go.Proofs.YtfmppkplmfbjpaaGreatDoor
