/- Texts of my own, merged by program: Xu Xv Xl. -/
import Derived.Test.YtkdcldbedbagjaaDoorM23
import Derived.Test.YtkdcldbedbagjaaDoorM13
import Derived.Test.YtkdcldbedbagjaaDoorM15
set_option linter.all false
/- Contract of the reference: way, its first part: a tree is gone through from one vertex. -/
namespace Go.Proofs.YtkdcldbedbagjaaDoor
open Go.Lf Go.RowKit Go.Dt

theorem getD_l {α : Type} {l : List α} {x d : α} {k : Nat} (h : k < l.length) : (l ++ [x]).getD k d = l.getD k d := by
  rw [List.getD_eq_getElem?_getD, List.getElem?_append_left h, ← List.getD_eq_getElem?_getD]
theorem getD_r {α : Type} {l : List α} {x d : α} : (l ++ [x]).getD l.length d = x := by simp [List.getD_eq_getElem?_getD]
theorem setD_eq {l : List Int} {k : Nat} {x : Int} (h : k < l.length) : (l.set k x).getD k 0 = x := by simp [List.getD_eq_getElem?_getD, h]
theorem setD_ne {l : List Int} {k j : Nat} {x : Int} (h : k ≠ j) : (l.set k x).getD j 0 = l.getD j 0 := by
  rw [List.getD_eq_getElem?_getD, List.getElem?_set_ne h, ← List.getD_eq_getElem?_getD]
theorem mem_getD {Q : List Nat} {v : Nat} (h : v ∈ Q) : ∃ k, k < Q.length ∧ Q.getD k 0 = v := by
  obtain ⟨k, hk, rfl⟩ := List.getElem_of_mem h
  exact ⟨k, hk, getD_lt _ _ _ hk⟩
theorem natI_len (Q : List Nat) : (natI Q).length = Q.length := by simp [natI]
theorem natI_get {Q : List Nat} {k : Nat} (h : k < Q.length) : (natI Q).getD k 0 = (Q.getD k 0 : Nat) := by
  unfold natI
  rw [getD_lt _ _ _ (by rw [List.length_map]; exact h), List.getElem_map, getD_lt _ _ _ h]

structure Bfs (n m s : Nat) (ws : List Wr) (F : List Int) (Q : List Nat) : Prop where
  len : F.length = n
  pos : 0 < Q.length
  head : Q.getD 0 0 = s
  inj : ∀ i j, i < Q.length → j < Q.length → Q.getD i 0 = Q.getD j 0 → i = j
  lt : ∀ k, k < Q.length → Q.getD k 0 < n
  cnt : cntS n (fun v => decide (v ∈ Q)) = Q.length
  on : ∀ v, v < n → v ≠ s → 0 ≤ F.getD v 0 → v ∈ Q
  par : ∀ k, 0 < k → k < Q.length → ∃ i j, F.getD (Q.getD k 0) 0 = (i : Nat) ∧ i < ws.length ∧ m / 2 ^ i % 2 ≠ 0 ∧ j < k ∧ (ws.getD i (0, 0) = (Q.getD j 0, Q.getD k 0) ∨ ws.getD i (0, 0) = (Q.getD k 0, Q.getD j 0))
theorem Bfs.le {n m s : Nat} {ws : List Wr} {F : List Int} {Q : List Nat} (h : Bfs n m s ws F Q) : Q.length ≤ n := by
  rw [← h.cnt]; exact cnt_le _ _
theorem Bfs.out {n m s : Nat} {ws : List Wr} {F : List Int} {Q : List Nat} (h : Bfs n m s ws F Q) {v : Nat} (hs : v ≠ s) (hF : F.getD v 0 < 0) : v ∉ Q := fun hv => by
  obtain ⟨k, hk, rfl⟩ := mem_getD hv
  by_cases h0 : k = 0
  · subst h0; exact hs h.head
  · obtain ⟨i, _, h1, _⟩ := h.par k (by omega) hk
    omega
theorem Bfs.push {n m s to i j : Nat} {ws : List Wr} {F : List Int} {Q : List Nat} (h : Bfs n m s ws F Q) (hto : to < n) (hs : to ≠ s) (hF : F.getD to 0 < 0) (hi : i < ws.length) (hb : m / 2 ^ i % 2 ≠ 0) (hj : j < Q.length)
    (he : ws.getD i (0, 0) = (Q.getD j 0, to) ∨ ws.getD i (0, 0) = (to, Q.getD j 0)) : Bfs n m s ws (F.set to i) (Q ++ [to]) := by
  have hout := h.out hs hF
  have hl := h.len
  have ne : ∀ k, k < Q.length → Q.getD k 0 ≠ to := fun k hk e => hout (by rw [← e]; exact getD_mem hk)
  have ll : (Q ++ [to]).length = Q.length + 1 := by simp
  refine ⟨by rw [List.length_set]; exact hl, by omega, ?_, fun a b ha hb e => ?_, fun k hk => ?_, ?_, fun v hv hvs h0 => ?_, fun k h0 hk => ?_⟩
  · rw [getD_l h.pos]; exact h.head
  · rw [ll] at ha hb
    by_cases a1 : a < Q.length <;> by_cases b1 : b < Q.length
    · rw [getD_l a1, getD_l b1] at e; exact h.inj a b a1 b1 e
    · obtain rfl : b = Q.length := by omega
      rw [getD_l a1, getD_r] at e; exact absurd e (ne a a1)
    · obtain rfl : a = Q.length := by omega
      rw [getD_l b1, getD_r] at e; exact absurd e.symm (ne b b1)
    · omega
  · rw [ll] at hk
    by_cases k1 : k < Q.length
    · rw [getD_l k1]; exact h.lt k k1
    · obtain rfl : k = Q.length := by omega
      rw [getD_r]; exact hto
  · have e : (fun v => decide (v ∈ Q ++ [to])) = ins (fun v => decide (v ∈ Q)) to := by
      funext v; simp [ins]
    rw [e, cnt_ins (by simpa using hout) hto, h.cnt, ll]
  · by_cases e : v = to
    · subst e; simp
    · rw [setD_ne (Ne.symm e)] at h0
      exact List.mem_append_left _ (h.on v hv hvs h0)
  · rw [ll] at hk
    by_cases k1 : k < Q.length
    · obtain ⟨i', j', e1, e2, e3, e4, e5⟩ := h.par k h0 k1
      refine ⟨i', j', ?_, e2, e3, e4, ?_⟩
      · rw [getD_l k1, setD_ne (Ne.symm (ne k k1))]; exact e1
      · rw [getD_l k1, getD_l (by omega)]; exact e5
    · obtain rfl : k = Q.length := by omega
      refine ⟨i, j, ?_, hi, hb, hj, ?_⟩
      · rw [getD_r, setD_eq (by omega)]
      · rw [getD_r, getD_l hj]; exact he

/-- What is gone through already. -/
def Cl (ws : List Wr) (m : Nat) (Q : List Nat) (k i : Nat) : Prop := ∀ k' i', k' < Q.length → i' < ws.length → (k' < k ∨ (k' = k ∧ i' < i)) → m / 2 ^ i' % 2 ≠ 0 →
  ((ws.getD i' (0, 0)).1 = Q.getD k' 0 → (ws.getD i' (0, 0)).2 ∈ Q) ∧ ((ws.getD i' (0, 0)).2 = Q.getD k' 0 → (ws.getD i' (0, 0)).1 ∈ Q)
theorem Cl.push {ws : List Wr} {m : Nat} {Q : List Nat} {k i to : Nat} (h : Cl ws m Q k i) (hk : k < Q.length) : Cl ws m (Q ++ [to]) k i := fun k' i' hk' hi' ho hb => by
  have k1 : k' < Q.length := by omega
  rw [getD_l k1]
  have := h k' i' k1 hi' ho hb
  exact ⟨fun e => List.mem_append_left _ (this.1 e), fun e => List.mem_append_left _ (this.2 e)⟩
theorem Cl.more {ws : List Wr} {m : Nat} {Q : List Nat} {k i : Nat} (h : Cl ws m Q k i) (hn : m / 2 ^ i % 2 ≠ 0 → ((ws.getD i (0, 0)).1 = Q.getD k 0 → (ws.getD i (0, 0)).2 ∈ Q) ∧ ((ws.getD i (0, 0)).2 = Q.getD k 0 → (ws.getD i (0, 0)).1 ∈ Q)) : Cl ws m Q k (i + 1) := fun k' i' hk' hi' ho hb => by
  by_cases e : k' = k ∧ i' = i
  · obtain ⟨rfl, rfl⟩ := e
    exact hn hb
  · exact h k' i' hk' hi' (by omega) hb
theorem Cl.row {ws : List Wr} {m : Nat} {Q : List Nat} {k : Nat} (h : Cl ws m Q k ws.length) : Cl ws m Q (k + 1) 0 := fun k' i' hk' hi' ho hb => h k' i' hk' hi' (by omega) hb

def Sep (a b : Value) : Prop := ∀ k, a.ownBlock = some k → b.ownBlock ≠ some k

set_option maxRecDepth 100000 in
set_option maxHeartbeats 2000000 in
theorem r61_2 {n m s k : Nat} {ws : List Wr} {v t13 t21 : Value} {F : List Int} {Q : List Nat} {w0 w1 : World} {next : Value → Value → World → Prop} (hwf : Wf n ws) (hws : ws.length ≤ 16) (hn : n ≤ 8) (hr : Rd 2 wN w0 v ws)
    (hB : Bfs n m s ws F Q) (hk : k < Q.length) (hF : IntsAt w0.heap.size w1 t21 F) (hQ : IntsAt w0.heap.size w1 t13 (natI Q)) (hS : Sep t21 t13) (hC : Cl ws m Q k 0) (k1 : Kp w0 w1)
    (hnext : ∀ t w' F' Q', Bfs n m s ws F' Q' → k < Q'.length → IntsAt w0.heap.size w' t21 F' → IntsAt w0.heap.size w' t (natI Q') → Sep t21 t → Cl ws m Q' (k + 1) 0 → Kp w0 w' → next t (.int .i64 ((k : Int) + 1)) w') :
    S61L2 v (.int .i64 m) (.int .i64 s) t13 (.int .i64 k) t21 next w1 := by
  obtain ⟨va, vc, ev, _⟩ := hr.len
  have lnv : ∀ K : Value → Prop, ln1 v K = K (.int .i64 ws.length) := fun K => by rw [ev]; rfl
  unfold S61L2
  refine ⟨fun t13 t15 wr => ∃ (i : Nat) (F : List Int) (Q : List Nat), i ≤ ws.length ∧ t15 = .int .i64 i ∧ Bfs n m s ws F Q ∧ k < Q.length ∧ IntsAt w0.heap.size wr t21 F ∧ IntsAt w0.heap.size wr t13 (natI Q) ∧ Sep t21 t13 ∧ Cl ws m Q k i ∧ Kp w0 wr,
    fun _ t15 _ => ws.length - (intOf t15).toNat, ⟨0, F, Q, by omega, rfl, hB, hk, hF, hQ, hS, hC, k1⟩, ?_⟩
  rintro _ t13 _ wr ⟨i, F, Q, hi, rfl, hB, hk, hF, hQ, hS, hC, kr⟩
  have hle := hB.le
  rw [lnv]
  by_cases hlt : i < ws.length
  case neg =>
    have hlt' : ¬ (i : Int) < (ws.length : Int) := by omega
    obtain rfl : i = ws.length := by omega
    rw [r_lss, decide_eq_false hlt', r_condF, r_add _ _ (by omega) (by omega)]
    exact hnext _ _ F Q hB hk hF hQ hS hC.row kr
  have hlt' : (i : Int) < (ws.length : Int) := by omega
  rw [r_lss, decide_eq_true hlt', r_condT]
  refine r_join1 (fun t w' => ∃ (F : List Int) (Q : List Nat), Bfs n m s ws F Q ∧ k < Q.length ∧ IntsAt w0.heap.size w' t21 F ∧ IntsAt w0.heap.size w' t (natI Q) ∧ Sep t21 t ∧ Cl ws m Q k (i + 1) ∧ Kp w0 w') ?_ fun kk hkk => ?_
  · rintro t w' ⟨F, Q, h1, h2, h3, h4, h5, h6, h7⟩
    rw [r_add _ _ (by omega) (by omega)]
    exact ⟨⟨i + 1, F, Q, by omega, by go_num, h1, h2, h3, h4, h5, h6, h7⟩, by simp only [intOf]; omega⟩
  have q1 : ∀ KK : Value → Prop, binQ Tryd.prog wr .rem 3 true (.int .i64 ((m / 2 ^ i : Nat) : Int)) (.int .i64 2) KK = KK (.int .i64 ((m / 2 ^ i % 2 : Nat) : Int)) := fun KK => r_remN (m / 2 ^ i) 2 (by omega)
  rw [r_shrN m i (by omega), q1, r_eql]
  by_cases hbit : m / 2 ^ i % 2 = 0
  · have hbit' : ((m / 2 ^ i % 2 : Nat) : Int) = 0 := by omega
    rw [decide_eq_true hbit', r_condT]
    exact hkk _ _ ⟨F, Q, hB, hk, hF, hQ, hS, hC.more fun h => absurd hbit h, kr⟩
  have hbit' : ¬ ((m / 2 ^ i % 2 : Nat) : Int) = 0 := by omega
  rw [decide_eq_false hbit', r_condF]
  have hw := hwf (ws.getD i (0, 0)) (getD_mem hlt)
  refine r_drew fun w2 k2 _ => ?_
  have k02 := Kp.trans kr k2
  obtain ⟨b, o, ia, cA, cB⟩ := wire_two (hr.kp k02) hlt
  have hQ2 := RecAt.kp hQ k2
  obtain ⟨g, eg, ar⟩ := IntsAt.ar hQ2 (by rw [natI_len]; omega)
  obtain ⟨iQ, cQ, _, _⟩ := ar k (by rw [natI_len]; exact hk)
  rw [natI_get hk] at cQ
  have hqlt := hB.lt k hk
  have skip : ∀ w', Kp w2 w' → ((ws.getD i (0, 0)).1 = Q.getD k 0 → (ws.getD i (0, 0)).2 ∈ Q) ∧ ((ws.getD i (0, 0)).2 = Q.getD k 0 → (ws.getD i (0, 0)).1 ∈ Q) → kk t13 w' := fun w' k' h =>
    hkk _ _ ⟨F, Q, hB, hk, RecAt.kp hF (Kp.trans k2 k'), RecAt.kp hQ2 k', hS, hC.more fun _ => h, Kp.trans k02 k'⟩
  -- the other end is looked at
  have look : ∀ (w' : World) (to : Nat), Kp w2 w' → to < n → (ws.getD i (0, 0) = (Q.getD k 0, to) ∨ ws.getD i (0, 0) = (to, Q.getD k 0)) →
      (binQ Tryd.prog w' .geq 3 true (.int .i64 to) (.int .i64 0) fun t80_4 =>
          gd t80_4 true (fun k => k (.int .i64 to) w') w' fun t82_4 w =>
          gd t80_4 true (fun k => k (.int .i64 s) w) w fun t83_4 w =>
          gd t80_4 true (fun k => binQ Tryd.prog w .neq 3 false t82_4 t83_4 fun v => k v w) w fun t84_4 w =>
          pickQ t80_4 t84_4 (.bool false) fun t85_4 =>
          gd t85_4 true (fun k => k t21 w) w fun t87_4 w =>
          gd t85_4 true (fun k => k (.int .i64 to) w) w fun t88_4 w =>
          gd t85_4 true (fun k => iaS 1 t87_4 t88_4 fun v => k v w) w fun t89_4 w =>
          gd t85_4 true (fun k => ld1 w t89_4 fun v => k v w) w fun t90_4 w =>
          gd t85_4 true (fun k => binQ Tryd.prog w .lss 3 true t90_4 (.int .i64 0) fun v => k v w) w fun t91_4 w =>
          pickQ t85_4 t91_4 (.bool false) fun t92_4 =>
          condW t92_4 (
            iaS 1 t21 (.int .i64 to) fun t96_4 =>
            stW Tryd.prog 3 t96_4 (.int .i64 i) w fun w =>
            bsW Tryd.prog 34 1 [(0, .int .i64 to)] w fun t99_4 w =>
            semW Tryd.prog (apS [34, 34] 34 [t13, t99_4]) w fun t100_4 w =>
            kk t100_4 w
          ) (
            kk t13 w
          )) := fun w' to k' hto he => by
    have hself : ∀ {P : Prop}, to ∈ Q → ((ws.getD i (0, 0)).1 = Q.getD k 0 → (ws.getD i (0, 0)).2 ∈ Q) ∧ ((ws.getD i (0, 0)).2 = Q.getD k 0 → (ws.getD i (0, 0)).1 ∈ Q) := fun {P} hm => by
      rcases he with he | he
      · rw [he] at hw ⊢
        exact ⟨fun _ => hm, fun e => absurd e.symm hw.2.2⟩
      · rw [he] at hw ⊢
        exact ⟨fun e => absurd e hw.2.2, fun _ => hm⟩
    have g0 : (0 : Int) ≤ (to : Int) := by omega
    by_cases hts : to = s
    · have hts' : (to : Int) = (s : Int) := by omega
      simp (disch := omega) only [r_ln, r_pick, r_pickT, r_pickF, r_condT, r_condF, r_gdTT, r_gdFF, r_gdTF, r_gdFT, r_gqTT, r_gqFF, r_gqTF, r_gqFT, r_not, r_lss, r_leq, r_gtr, r_geq, r_eql, r_neq, r_add, r_sub, r_min2, r_max2, r_min3, r_max3, r_fa, r_iaS, r_iaA, r_ex2a, r_ex2b, r_ex3a, r_ex3b, r_ex3c, r_nc, r_keepE, Nat.zero_add, Nat.add_zero, Nat.mul_one, Int.toNat_natCast, toNat_sub1, toNat_add1, decide_true, decide_false, Bool.not_true, Bool.not_false, if_true, if_false, Bool.false_eq_true, reduceCtorEq, r_gdU, decide_eq_true g0, decide_eq_true hts']
      refine skip w' k' (hself (P := True) ?_)
      rw [hts, ← hB.head]; exact getD_mem hB.pos
    have hts' : ¬ (to : Int) = (s : Int) := by omega
    have hF2 := RecAt.kp hF (Kp.trans k2 k')
    obtain ⟨f, ef, arF⟩ := IntsAt.ar hF2 (by rw [hB.len]; omega)
    obtain ⟨iF, cF, fF, sF⟩ := arF to (by rw [hB.len]; exact hto)
    by_cases hneg : F.getD to 0 < 0
    case neg =>
      simp (disch := omega) only [r_ln, r_pick, r_pickT, r_pickF, r_condT, r_condF, r_gdTT, r_gdFF, r_gdTF, r_gdFT, r_gqTT, r_gqFF, r_gqTF, r_gqFT, r_not, r_lss, r_leq, r_gtr, r_geq, r_eql, r_neq, r_add, r_sub, r_min2, r_max2, r_min3, r_max3, r_fa, r_iaS, r_iaA, r_ex2a, r_ex2b, r_ex3a, r_ex3b, r_ex3c, r_nc, r_keepE, Nat.zero_add, Nat.add_zero, Nat.mul_one, Int.toNat_natCast, toNat_sub1, toNat_add1, decide_true, decide_false, Bool.not_true, Bool.not_false, if_true, if_false, Bool.false_eq_true, reduceCtorEq, r_gdU, decide_eq_true g0, decide_eq_false hts', iF, r_ld cF, decide_eq_false hneg]
      exact skip w' k' (hself (P := True) (hB.on to hto hts (by omega)))
    simp (disch := omega) only [r_ln, r_pick, r_pickT, r_pickF, r_condT, r_condF, r_gdTT, r_gdFF, r_gdTF, r_gdFT, r_gqTT, r_gqFF, r_gqTF, r_gqFT, r_not, r_lss, r_leq, r_gtr, r_geq, r_eql, r_neq, r_add, r_sub, r_min2, r_max2, r_min3, r_max3, r_fa, r_iaS, r_iaA, r_ex2a, r_ex2b, r_ex3a, r_ex3b, r_ex3c, r_nc, r_keepE, Nat.zero_add, Nat.add_zero, Nat.mul_one, Int.toNat_natCast, toNat_sub1, toNat_add1, decide_true, decide_false, Bool.not_true, Bool.not_false, if_true, if_false, Bool.false_eq_true, reduceCtorEq, r_gdU, decide_eq_true g0, decide_eq_false hts', iF, r_ld cF, decide_eq_true hneg]
    rw [st3 cF fF]
    have hF3 := sF (i : Int)
    have ch : Chg (fun q => q = f) w' (w'.setCell ⟨f, to, none⟩ (.int .i64 i)) := Chg.setCell _ _ rfl
    have hQ3 : IntsAt w0.heap.size (w'.setCell ⟨f, to, none⟩ (.int .i64 i)) t13 (natI Q) := (RecAt.kp hQ2 k').chg ch fun q hq e => hS f ef (by rw [← e]; exact hq)
    have lf := (RecAt.lt hF2 ef).1
    have k03 : Kp w0 (w'.setCell ⟨f, to, none⟩ (.int .i64 i)) := Kp.of_chg (Kp.trans k02 k') ch fun q e => by omega
    generalize w'.setCell ⟨f, to, none⟩ (.int .i64 i) = w3 at *
    have sz := k03.size
    refine r_pushRec (x := (to : Int)) slt34 iC_len rfl (bs34 _ _ _) (by intro u hu; simp [iC] at hu; rw [hu]; rfl) (by omega) hQ3 (by rw [natI_len]; omega) (by omega) fun v' w4 o1 c1 hown => ?_
    have hF4 : IntsAt w0.heap.size w4 t21 (F.set to i) := RecAt.chg hF3 c1 fun q hq e => hS q hq e
    have hn4 : natI (Q ++ [to]) = natI Q ++ [(to : Int)] := by simp [natI]
    refine hkk _ _ ⟨F.set to i, Q ++ [to], hB.push hto hts hneg hlt hbit hk he, by simp; omega, hF4, by rw [hn4]; exact o1, fun q hq e => ?_, ?_, Kp.of_chg k03 c1 fun q hq => (RecAt.lt hQ3 hq).1⟩
    · rcases hown q e with h | h
      · exact hS q hq h
      · have := (RecAt.lt hF3 hq).2
        omega
    · refine (hC.push hk).more fun _ => ?_
      rw [getD_l hk]
      have hm : to ∈ Q ++ [to] := by simp
      rcases he with he | he
      · rw [he] at hw ⊢
        exact ⟨fun _ => hm, fun e => absurd e.symm hw.2.2⟩
      · rw [he] at hw ⊢
        exact ⟨fun e => absurd e hw.2.2, fun _ => hm⟩
  by_cases hA : (ws.getD i (0, 0)).1 = Q.getD k 0
  · have hA' : ((ws.getD i (0, 0)).1 : Int) = ((Q.getD k 0 : Nat) : Int) := by omega
    have hBn : ¬ ((ws.getD i (0, 0)).2 : Int) = ((Q.getD k 0 : Nat) : Int) := by omega
    rw [ia, r_fa, r_ld cA, iQ, r_ld cQ, r_eql, decide_eq_true hA']
    simp only [Join, r_condT]
    rw [ia, r_fa, r_ld cB]
    refine r_drew fun w3 k3 _ => ?_
    rw [ia, r_fa, r_ld (cell_later k3 cB), iQ, r_ld (cell_later k3 cQ), r_eql, decide_eq_false hBn, r_condF]
    exact look w3 _ k3 hw.2.1 (.inl (Prod.ext hA rfl))
  have hA' : ¬ ((ws.getD i (0, 0)).1 : Int) = ((Q.getD k 0 : Nat) : Int) := by omega
  rw [ia, r_fa, r_ld cA, iQ, r_ld cQ, r_eql, decide_eq_false hA']
  simp only [Join, r_condF]
  refine r_drew fun w3 k3 _ => ?_
  by_cases hBk : (ws.getD i (0, 0)).2 = Q.getD k 0
  · have hB' : ((ws.getD i (0, 0)).2 : Int) = ((Q.getD k 0 : Nat) : Int) := by omega
    rw [ia, r_fa, r_ld (cell_later k3 cB), iQ, r_ld (cell_later k3 cQ), r_eql, decide_eq_true hB', r_condT]
    rw [ia, r_fa, r_ld (cell_later k3 cA)]
    exact look w3 _ k3 hw.1 (.inr (Prod.ext rfl hBk))
  have hB' : ¬ ((ws.getD i (0, 0)).2 : Int) = ((Q.getD k 0 : Nat) : Int) := by omega
  rw [ia, r_fa, r_ld (cell_later k3 cB), iQ, r_ld (cell_later k3 cQ), r_eql, decide_eq_false hB', r_condF]
  have g1 : ¬ (0 : Int) ≤ -1 := by omega
  simp (disch := omega) only [r_ln, r_pick, r_pickT, r_pickF, r_condT, r_condF, r_gdTT, r_gdFF, r_gdTF, r_gdFT, r_gqTT, r_gqFF, r_gqTF, r_gqFT, r_not, r_lss, r_leq, r_gtr, r_geq, r_eql, r_neq, r_add, r_sub, r_min2, r_max2, r_min3, r_max3, r_fa, r_iaS, r_iaA, r_ex2a, r_ex2b, r_ex3a, r_ex3b, r_ex3c, r_nc, r_keepE, Nat.zero_add, Nat.add_zero, Nat.mul_one, Int.toNat_natCast, toNat_sub1, toNat_add1, decide_true, decide_false, Bool.not_true, Bool.not_false, if_true, if_false, Bool.false_eq_true, reduceCtorEq, r_gdU, decide_eq_false g1]
  exact skip w3 k3 ⟨fun e => absurd e hA, fun e => absurd e hBk⟩

end Go.Proofs.YtkdcldbedbagjaaDoor

/- Contract of the reference: way. -/
namespace Go.Proofs.YtkdcldbedbagjaaDoor
open Go.Lf Go.RowKit Go.Dt

noncomputable def wayL (ws : List Wr) (m s t : Nat) : List Int := (List.range ws.length).map fun i => wayV ws m s t i
theorem wayL_len (ws : List Wr) (m s t : Nat) : (wayL ws m s t).length = ws.length := by simp [wayL]
theorem wayL_get {ws : List Wr} {m s t i : Nat} (h : i < ws.length) : (wayL ws m s t).getD i 0 = wayV ws m s t i := by
  unfold wayL
  rw [getD_lt _ _ _ (by simpa using h)]; simp

theorem find_pos {n m s k : Nat} {ws : List Wr} {F : List Int} {Q : List Nat} (h : Bfs n m s ws F Q) (hk : k < Q.length) : Q.findIdx (fun x => decide (x = Q.getD k 0)) = k := by
  rw [List.findIdx_eq hk]
  refine ⟨by rw [getD_lt _ _ _ hk]; simp, fun j hj => decide_eq_false fun e => ?_⟩
  have := h.inj j k (by omega) hk (by rw [getD_lt _ _ _ (by omega)]; exact e)
  omega
theorem sum_set {out : List Int} {i : Nat} {c : Int} (g : Nat → Int) (hi : i < out.length) (h0 : out.getD i 0 = 0) : sumN (fun j => (out.set i c).getD j 0 * g j) out.length = sumN (fun j => out.getD j 0 * g j) out.length + c * g i := by
  rw [sum_congr (g := fun j => out.getD j 0 * g j + if j = i then c * g i else 0) fun j hj => ?_]
  · rw [sum_add, sum_one (f := fun j => if j = i then c * g i else 0) hi fun j _ hj => if_neg hj, if_pos rfl]
  · by_cases e : j = i
    · subst e; rw [setD_eq hi, if_pos rfl, h0]; omega
    · rw [setD_ne (Ne.symm e), if_neg e]; omega

set_option maxRecDepth 100000 in
set_option maxHeartbeats 2000000 in
theorem r61_3 {n m s t : Nat} {ws : List Wr} {v t21 t103 : Value} {F : List Int} {Q : List Nat} {w0 w1 : World} {R : Ending → World → Prop} (hwf : Wf n ws) (hws : ws.length ≤ 16) (hn : n ≤ 8) (hs : s < n) (ht : t < n) (hT : RF n (Dt.one 0) (pick ws m)) (hr : Rd 2 wN w0 v ws)
    (hB : Bfs n m s ws F Q) (htQ : t ∈ Q) (hF : IntsAt w0.heap.size w1 t21 F) (hO : IntsAt w0.heap.size w1 t103 (List.replicate ws.length 0)) (hS : Sep t103 t21) (k1 : Kp w0 w1)
    (hR : ∀ w', IntsAt w0.heap.size w' t103 (wayL ws m s t) → Kp w0 w' → R (.returned t103) w') :
    S61L3 v (.int .i64 s) (.int .i64 t) t21 t103 R w1 := by
  obtain ⟨kt, hkt, hqt⟩ := mem_getD htQ
  unfold S61L3
  refine ⟨fun t18 wr => ∃ (k : Nat) (out : List Int), k < Q.length ∧ t18 = .int .i64 (Q.getD k 0 : Nat) ∧ IntsAt w0.heap.size wr t21 F ∧ IntsAt w0.heap.size wr t103 out ∧ out.length = ws.length ∧
      (∀ j, j < ws.length → m / 2 ^ j % 2 = 0 → out.getD j 0 = 0) ∧ (∀ x, x < n → sumN (fun j => out.getD j 0 * ends (ws.getD j (0, 0)) x) ws.length = unit (Q.getD k 0) x - unit t x) ∧
      (∀ j, j < ws.length → out.getD j 0 ≠ 0 → ∃ k', k < k' ∧ k' < Q.length ∧ F.getD (Q.getD k' 0) 0 = (j : Nat)) ∧ Kp w0 wr,
    fun t18 _ => Q.findIdx (fun x => decide (x = (intOf t18).toNat)), ⟨kt, _, hkt, by rw [hqt], hF, hO, by simp, fun j _ _ => by simp [List.getD_eq_getElem?_getD, List.getElem?_replicate]; split <;> rfl, fun x hx => ?_, fun j _ h => absurd (by simp [List.getD_eq_getElem?_getD, List.getElem?_replicate]; split <;> rfl) h, k1⟩, ?_⟩
  · rw [hqt, sum_none fun j hj => ?_]
    · omega
    · have : (List.replicate ws.length (0 : Int)).getD j 0 = 0 := by simp [List.getD_eq_getElem?_getD, List.getElem?_replicate]; split <;> rfl
      rw [this, Int.zero_mul]
  rintro _ _ wr ⟨k, out, hk, rfl, hF, hO, hol, hsup, hdiv, hseen, kr⟩
  have hqlt := hB.lt k hk
  by_cases hvs : Q.getD k 0 = s
  · have e : ((Q.getD k 0 : Nat) : Int) = (s : Int) := by omega
    rw [r_neq, decide_eq_true e, Bool.not_true, r_condF]
    refine hR wr ?_ kr
    have : out = wayL ws m s t := by
      refine List.ext_getElem (by rw [hol, wayL_len]) fun i h1 h2 => ?_
      rw [← getD_lt out _ 0 h1, ← getD_lt (wayL ws m s t) _ 0 h2, wayL_get (by omega)]
      exact way_val (out := fun j => out.getD j 0) hwf hT hs ht hsup (fun x hx => by rw [hdiv x hx, hvs]) (by omega)
    rw [← this]; exact hO
  have e : ¬ ((Q.getD k 0 : Nat) : Int) = (s : Int) := by omega
  rw [r_neq, decide_eq_false e, Bool.not_false, r_condT]
  have hk0 : 0 < k := Nat.pos_of_ne_zero fun h => hvs (by rw [h]; exact hB.head)
  obtain ⟨i, j, p1, p2, p3, p4, p5⟩ := hB.par k hk0 hk
  obtain ⟨f, ef, arF⟩ := IntsAt.ar hF (by rw [hB.len]; omega)
  obtain ⟨iF, cF, _, _⟩ := arF (Q.getD k 0) (by rw [hB.len]; exact hqlt)
  rw [p1] at cF
  obtain ⟨b, o, ia, cA, cB⟩ := wire_two (hr.kp kr) p2
  rw [iF, r_ld cF, ia, r_fa, r_ld cB]
  have hw := hwf (ws.getD i (0, 0)) (getD_mem p2)
  have hz : out.getD i 0 = 0 := Classical.byContradiction fun hne => by
    obtain ⟨k', q1, q2, q3⟩ := hseen i p2 hne
    obtain ⟨i', j', r1, _, _, r4, r5⟩ := hB.par k' (by omega) q2
    have : i' = i := by omega
    subst this
    have I := hB.inj
    have fin : ∀ a b, a < Q.length → b < Q.length → a ≠ b → Q.getD a 0 = Q.getD b 0 → False := fun a b h1 h2 h3 h4 => h3 (I a b h1 h2 h4)
    rcases p5 with p5 | p5 <;> rcases r5 with r5 | r5 <;> rw [p5] at r5 <;> injection r5 with r6 r7
    · exact fin k k' hk q2 (by omega) r7
    · have a1 := I j k' (by omega) q2 r6
      have a2 := I k j' hk (by omega) r7
      omega
    · have a1 := I k j' hk (by omega) r6
      have a2 := I j k' (by omega) q2 r7
      omega
    · exact fin k k' hk q2 (by omega) r6
  obtain ⟨g, eg, arO⟩ := IntsAt.ar hO (by rw [hol]; omega)
  obtain ⟨iO, cO, fO, sO⟩ := arO i (by rw [hol]; exact p2)
  have lg := (RecAt.lt hO eg).1
  -- what holds after a step
  have step : ∀ (c : Int), (∀ x, x < n → c * ends (ws.getD i (0, 0)) x = unit (Q.getD j 0) x - unit (Q.getD k 0) x) → c ≠ 0 →
      (∃ (k2 : Nat) (out2 : List Int), k2 < Q.length ∧ Value.int .i64 ((Q.getD j 0 : Nat) : Int) = .int .i64 (Q.getD k2 0 : Nat) ∧ IntsAt w0.heap.size (wr.setCell ⟨g, i, none⟩ (.int .i64 c)) t21 F ∧ IntsAt w0.heap.size (wr.setCell ⟨g, i, none⟩ (.int .i64 c)) t103 out2 ∧ out2.length = ws.length ∧
      (∀ j, j < ws.length → m / 2 ^ j % 2 = 0 → out2.getD j 0 = 0) ∧ (∀ x, x < n → sumN (fun j => out2.getD j 0 * ends (ws.getD j (0, 0)) x) ws.length = unit (Q.getD k2 0) x - unit t x) ∧
      (∀ j, j < ws.length → out2.getD j 0 ≠ 0 → ∃ k', k2 < k' ∧ k' < Q.length ∧ F.getD (Q.getD k' 0) 0 = (j : Nat)) ∧ Kp w0 (wr.setCell ⟨g, i, none⟩ (.int .i64 c))) ∧
      Q.findIdx (fun x => decide (x = (intOf (.int .i64 ((Q.getD j 0 : Nat) : Int))).toNat)) < Q.findIdx (fun x => decide (x = (intOf (.int .i64 ((Q.getD k 0 : Nat) : Int))).toNat)) := fun c hc hc0 => by
    have ch : Chg (fun q => q = g) wr (wr.setCell ⟨g, i, none⟩ (.int .i64 c)) := Chg.setCell _ _ rfl
    refine ⟨⟨j, out.set i c, by omega, rfl, hF.chg ch fun q hq e => hS g eg (by rw [← e]; exact hq), sO c, by rw [List.length_set]; exact hol, fun a ha hb => ?_, fun x hx => ?_, fun a ha hne => ?_, Kp.of_chg kr ch fun q e => by omega⟩, ?_⟩
    · by_cases e : i = a
      · subst e; exact absurd hb p3
      · rw [setD_ne e]; exact hsup a ha hb
    · have := sum_set (out := out) (i := i) (c := c) (fun a => ends (ws.getD a (0, 0)) x) (by omega) hz
      rw [hol] at this
      rw [this, hdiv x hx, hc x hx]; omega
    · by_cases e : i = a
      · subst e; exact ⟨k, p4, hk, p1⟩
      · rw [setD_ne e] at hne
        obtain ⟨k', q1, q2, q3⟩ := hseen a ha hne
        exact ⟨k', by omega, q2, q3⟩
    · have e1 : ∀ a : Nat, (intOf (.int .i64 ((Q.getD a 0 : Nat) : Int))).toNat = Q.getD a 0 := fun a => rfl
      rw [e1, e1, find_pos hB hk, find_pos hB (by omega)]
      exact p4
  have k02 : ∀ c : Int, Kp w0 (wr.setCell ⟨g, i, none⟩ (.int .i64 c)) := fun c => by
    have ch : Chg (fun q => q = g) wr (wr.setCell ⟨g, i, none⟩ (.int .i64 c)) := Chg.setCell _ _ rfl
    exact Kp.of_chg kr ch fun q e => by omega
  rcases p5 with p5 | p5
  · have e1 : (((ws.getD i (0, 0)).2 : Nat) : Int) = ((Q.getD k 0 : Nat) : Int) := by rw [p5]
    rw [r_eql, decide_eq_true e1, r_condT, iO, st3 cO fO]
    obtain ⟨b', o', ia', cA', _⟩ := wire_two (hr.kp (k02 1)) p2
    rw [ia', r_fa, r_ld cA']
    have := step 1 (fun x _ => by rw [p5, Int.one_mul]; rfl) (by decide)
    rw [p5]
    exact this
  · have hne : (ws.getD i (0, 0)).2 ≠ Q.getD k 0 := fun e => hw.2.2 (by rw [e, p5])
    have e1 : ¬ (((ws.getD i (0, 0)).2 : Nat) : Int) = ((Q.getD k 0 : Nat) : Int) := by omega
    rw [r_eql, decide_eq_false e1, r_condF, iO, st3 cO fO]
    obtain ⟨b', o', ia', _, cB'⟩ := wire_two (hr.kp (k02 (-1))) p2
    rw [ia', r_fa, r_ld cB']
    have := step (-1) (fun x _ => by rw [p5]; show -1 * (unit (Q.getD k 0) x - unit (Q.getD j 0) x) = _; omega) (by decide)
    rw [p5]
    exact this

set_option maxRecDepth 100000 in
set_option maxHeartbeats 2000000 in
theorem r61_1 {n m s t : Nat} {ws : List Wr} {v t21 t31 : Value} {F : List Int} {w0 w1 : World} {R : Ending → World → Prop} (hwf : Wf n ws) (hws : ws.length ≤ 16) (hn : n ≤ 8) (hs : s < n) (ht : t < n) (hT : RF n (Dt.one 0) (pick ws m)) (hr : Rd 2 wN w0 v ws)
    (hB : Bfs n m s ws F [s]) (hF : IntsAt w0.heap.size w1 t21 F) (hQ : IntsAt w0.heap.size w1 t31 (natI [s])) (hS : Sep t21 t31) (k1 : Kp w0 w1)
    (hR : ∀ v' w', IntsAt w0.heap.size w' v' (wayL ws m s t) → Kp w0 w' → R (.returned v') w') :
    S61L1 v (.int .i64 m) (.int .i64 s) (.int .i64 t) t21 t31 R w1 := by
  obtain ⟨va, vc, ev, _⟩ := hr.len
  have lnv : ∀ K : Value → Prop, ln1 v K = K (.int .i64 ws.length) := fun K => by rw [ev]; rfl
  unfold S61L1
  refine ⟨fun t13 t14 wr => ∃ (k : Nat) (F : List Int) (Q : List Nat), k ≤ Q.length ∧ t14 = .int .i64 k ∧ Bfs n m s ws F Q ∧ IntsAt w0.heap.size wr t21 F ∧ IntsAt w0.heap.size wr t13 (natI Q) ∧ Sep t21 t13 ∧ Cl ws m Q k 0 ∧ Kp w0 wr,
    fun _ t14 _ => n - (intOf t14).toNat, ⟨0, F, [s], by simp, rfl, hB, hF, hQ, hS, fun k' i' _ _ h => by omega, k1⟩, ?_⟩
  rintro _ t13 _ wr ⟨k, F, Q, hk, rfl, hB, hF, hQ, hS, hC, kr⟩
  have hle := hB.le
  obtain ⟨qa, qc, eq, _⟩ := RecAt.len hQ
  have lnq : ∀ K : Value → Prop, ln1 t13 K = K (.int .i64 Q.length) := fun K => by rw [eq, natI_len]; rfl
  rw [lnq]
  by_cases hlt : k < Q.length
  · have hlt' : (k : Int) < (Q.length : Int) := by omega
    rw [r_lss, decide_eq_true hlt', r_condT]
    refine r61_2 hwf hws hn hr hB hlt hF hQ hS hC kr fun t' w' F' Q' h1 h2 h3 h4 h5 h6 h7 => ?_
    have := h1.le
    exact ⟨⟨k + 1, F', Q', by omega, by go_num, h1, h3, h4, h5, h6, h7⟩, by simp only [intOf]; omega⟩
  have hlt' : ¬ (k : Int) < (Q.length : Int) := by omega
  obtain rfl : k = Q.length := by omega
  rw [r_lss, decide_eq_false hlt', r_condF, lnv]
  refine mk34' (n := ws.length) (by omega) fun v2 w2 I2 k2 own2 => ?_
  have hF2 := RecAt.kp hF k2
  have htQ : t ∈ Q := by
    have hcon : Conn (pick ws m) s t := by
      have f : ∀ x, x < n → Conn (pick ws m) x 0 := fun x hx => by
        obtain ⟨r, _, h2, h3⟩ := hT.2 x hx
        rwa [one_iff.1 h2] at h3
      exact (f s hs).trans (f t ht).symm
    have := closed_conn (S := fun x => decide (x ∈ Q)) (t := s) (decide_eq_true (by rw [← hB.head]; exact getD_mem hB.pos)) (fun e he => ?_) hcon
    · exact of_decide_eq_true this
    · obtain ⟨i, hi, hb, rfl⟩ := pick_mem he
      refine ⟨fun h => ?_, fun h => ?_⟩
      · obtain ⟨k', h1, h2⟩ := mem_getD (of_decide_eq_true h)
        have := (hC k' i h1 hi (by omega) hb).1
        rw [getD_lt _ _ _ hi] at this
        exact decide_eq_true (this h2.symm)
      · obtain ⟨k', h1, h2⟩ := mem_getD (of_decide_eq_true h)
        have := (hC k' i h1 hi (by omega) hb).2
        rw [getD_lt _ _ _ hi] at this
        exact decide_eq_true (this h2.symm)
  have sz := kr.size
  refine r61_3 hwf hws hn hs ht hT hr hB htQ hF2 (RecAt.down I2 sz) (fun q hq e => ?_) (Kp.trans kr k2) fun w' h1 h2 => hR _ _ h1 h2
  rw [own2] at hq
  have := (RecAt.lt hF e).2
  injection hq with hq
  omega

set_option maxRecDepth 100000 in
set_option maxHeartbeats 2000000 in
theorem way_calls {n m s t : Nat} {ws : List Wr} {v : Value} (w : World) (hwf : Wf n ws) (hws : ws.length ≤ 16) (hn : n ≤ 8) (hs : s < n) (ht : t < n) (hT : RF n (Dt.one 0) (pick ws m)) (hr : Rd 2 wN w v ws) :
    Calls Tryd.prog 61 #[.int .i64 n, v, .int .i64 m, .int .i64 s, .int .i64 t] w fun e w' => Kp w w' ∧ ∃ v', e = .returned v' ∧ IntsAt w.heap.size w' v' (wayL ws m s t) := by
  refine lift61 ?_
  unfold S61
  refine mk34' (n := n) (by omega) fun v1 w1 I1 k1 _ => ?_
  unfold S61L0
  refine ⟨fun t12 wr => ∃ (x : Nat) (F : List Int), x ≤ n ∧ t12 = .int .i64 x ∧ IntsAt w.heap.size wr v1 F ∧ F.length = n ∧ (∀ y, y < x → F.getD y 0 = -1) ∧ Kp w wr, fun t12 _ => n - (intOf t12).toNat, ⟨0, _, by omega, rfl, I1, by simp, fun y hy => by omega, k1⟩, ?_⟩
  rintro _ _ wr ⟨x, F, hx, rfl, hI, hl, hF, kr⟩
  by_cases hlt : x < n
  · have hlt' : (x : Int) < (n : Int) := by omega
    rw [r_lss, decide_eq_true hlt', r_condT]
    obtain ⟨g, eg, ar⟩ := IntsAt.ar hI (by omega)
    obtain ⟨iX, cX, fX, sX⟩ := ar x (by omega)
    have lg := (RecAt.lt hI eg).1
    rw [iX, st3 cX fX, r_add _ _ (by omega) (by omega)]
    have ch : Chg (fun k => k = g) wr (wr.setCell ⟨g, x, none⟩ (.int .i64 (-1))) := Chg.setCell _ _ rfl
    refine ⟨⟨x + 1, F.set x (-1), by omega, by go_num, sX (-1), by rw [List.length_set]; exact hl, fun y hy => ?_, Kp.of_chg kr ch fun k e => by omega⟩, by simp only [intOf]; omega⟩
    by_cases e : x = y
    · subst e; rw [setD_eq (by omega)]
    · rw [setD_ne e]; exact hF y (by omega)
  have hlt' : ¬ (x : Int) < (n : Int) := by omega
  obtain rfl : x = n := by omega
  rw [r_lss, decide_eq_false hlt', r_condF, bs34]
  have hone := rec_one (α := Int) (e := 3) (enc := iC) (x := (s : Int)) (z := .int .i64 s) rfl wr
  have k2 : Kp wr (wr.alloc (.cells #[.int .i64 s] 3)) := below_alloc _
  have sz := kr.size
  refine r61_1 hwf hws hn hs ht hT hr ?_ (RecAt.kp hI k2) (RecAt.down hone sz) (fun q hq e => ?_) (Kp.trans kr k2) fun v' w' h1 h2 => ⟨h2, v', rfl, h1⟩
  · refine ⟨hl, by simp, rfl, fun i j hi hj _ => by simp at hi hj; omega, fun k hk => ?_, ?_, fun y hy hys h0 => ?_, fun k h0 hk => by simp at hk; omega⟩
    · have : k = 0 := by simpa using hk
      subst this; exact hs
    · have : (fun v => decide (v ∈ [s])) = Dt.one s := by funext v; simp [Dt.one]
      rw [this, cnt_one hs]; rfl
    · rw [hF y hy] at h0; omega
  · have := (RecAt.lt hI hq).2
    have e2 : (Value.slice (some ⟨wr.heap.size, 0, none⟩) 1 1).ownBlock = some wr.heap.size := rfl
    rw [e2] at e
    injection e with e
    omega

end Go.Proofs.YtkdcldbedbagjaaDoor

/- Resistances and flows with the ends exchanged, plainly. -/
namespace Go.Proofs.YtkdcldbedbagjaaDoor
open Go.Lf Go.RowKit Go.Dt

theorem end_turn (n : Int) (L : List (Int × Int)) (s t : Int) : endErr n L s t = endErr n L t s := by
  unfold endErr
  by_cases h : s < 0 ∨ n ≤ s ∨ t < 0 ∨ n ≤ t ∨ s = t
  · rw [if_pos h, if_pos (show t < 0 ∨ n ≤ t ∨ s < 0 ∨ n ≤ s ∨ t = s by omega)]
  · rw [if_neg h, if_neg (show ¬ (t < 0 ∨ n ≤ t ∨ s < 0 ∨ n ≤ s ∨ t = s) by omega)]
theorem thE_turn (n : Int) (L : List (Int × Int)) (s t : Int) : thE n L s t = thE n L t s := by
  unfold thE; rw [end_turn]
theorem rsP_turn (n : Int) (L : List (Int × Int)) (s t : Int) : rsP n L s t = rsP n L t s := by
  unfold rsP shP; rw [end_turn, volt_comm]

/-- What a resistance without an error is. -/
theorem rs_ok {n s t : Int} {L : List (Int × Int)} (h : thE n L s t = 0) : ∃ (N S T : Nat), n = N ∧ s = S ∧ t = T ∧ NetOk N (L.map natW) ∧ S < N ∧ T < N ∧ S ≠ T ∧ 0 < trees N (L.map natW) ∧ rsP n L s t = paceOf (volt N (L.map natW) S T) (trees N (L.map natW)) := by
  unfold thE at h
  by_cases h1 : endErr n L s t = 0
  case neg => rw [if_neg h1] at h; exact absurd h h1
  rw [if_pos h1] at h
  by_cases h2 : trees n.toNat (L.map natW) = 0
  · rw [if_pos h2] at h; cases h
  obtain ⟨g1, S, T, rfl, rfl, hS, hT, hST⟩ := end_ok h1
  obtain ⟨N, rfl, hN, _⟩ := net_ok g1
  have e : ((N : Nat) : Int).toNat = N := rfl
  rw [e] at h2
  refine ⟨N, S, T, rfl, rfl, rfl, hN, by omega, by omega, hST, by omega, ?_⟩
  unfold rsP shP
  rw [if_pos h1]
  show (if trees N (L.map natW) = 0 then _ else _) = _
  rw [if_neg h2]
  rfl

end Go.Proofs.YtkdcldbedbagjaaDoor
