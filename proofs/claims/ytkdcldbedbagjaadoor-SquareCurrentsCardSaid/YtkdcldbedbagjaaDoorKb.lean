/- Contract: the determinant of the program. -/
import Derived.Test.YtkdcldbedbagjaaDoorKa
set_option linter.all false
namespace Go.Proofs.YtkdcldbedbagjaaDoor
open Go.Lf Go.RowKit Go.Dt

theorem r_txe {X : Nat → Prop} {w : World} {F : World → (Value → Prop) → Prop} {K : Value → Prop} {v : Value} (h : ∀ (w' : World) (k : Value → Prop), F w' k = k v) (hk : K v) : takeX X w F K := ⟨v, fun w' _ => by rw [h], hk⟩

section
variable {n : Nat} {base : Nat}

set_option maxRecDepth 100000 in
set_option maxHeartbeats 1000000 in
theorem r70_1 {A : Nat → Nat → Int} {q : Nat → Nat} {i b2 b7 top : Nat} {s : Int} {v : Value} {vs : List Value} {R : List (List Int)} {w0 : World} {next : Value → Value → Value → World → Prop} (hn : n ≤ 1000) (hi : i < n)
    (hst : DSt n base A q i (i + 1) (i + 1) v vs R w0) (htop : TopV top v vs) (h2 : w0.heap[b2]? = some (.cells #[fnV 122, fnV 123, fnV 124] 100 (0, 0))) (h7 : w0.heap[b7]? = some (.cells #[.int .i64 i] 3 (0, 0)))
    (t2 : top ≤ b2) (t7 : top ≤ b7) (hb : base ≤ w0.heap.size)
    (hnext : ∀ w' R', DSt n base A q i n (i + 1) v vs R' w' → Below base w0 w' → w'.heap[b2]? = some (.cells #[fnV 122, fnV 123, fnV 124] 100 (0, 0)) → next (.int .i64 s) (.int .i64 (det (i + 1) A)) (.int .i64 ((i : Int) + 1)) w') :
    S70L1 v (ptrV b2) (.int .i64 s) (.int .i64 (det i A)) (ptrV b7) (.int .i64 i) (.int .i64 ((i + 1 : Nat) : Int)) next w0 := by
  obtain ⟨va, vc, ev, _⟩ := IMat.len ⟨vs, hst.mat⟩
  have hRl : R.length = n := hst.siz.1
  have lnv : ∀ K : Value → Prop, ln1 v K = K (.int .i64 n) := fun K => by rw [ev, hRl]; rfl
  unfold S70L1
  refine ⟨fun t wr => ∃ (r : Nat) (R' : List (List Int)), i < r ∧ r ≤ n ∧ t = .int .i64 r ∧ DSt n base A q i r (i + 1) v vs R' wr ∧ Below base w0 wr ∧ wr.heap[b2]? = some (.cells #[fnV 122, fnV 123, fnV 124] 100 (0, 0)) ∧ wr.heap[b7]? = some (.cells #[.int .i64 i] 3 (0, 0)), fun t _ => n - (intOf t).toNat,
    ⟨i + 1, R, by omega, by omega, rfl, hst, Below.refl _ _, h2, h7⟩, ?_⟩
  rintro _ _ wr ⟨r, R', hir, hrn, rfl, hs, kr, g2, g7⟩
  have c7 : wr.cell? ⟨b7, 0, none⟩ = some (.int .i64 i) := by rw [cell_row g7]; rfl
  have hsz := kr.size
  rw [lnv]
  by_cases hlt : r < n
  · have hlt' : (r : Int) < (n : Int) := by omega
    simp only [r_lss, decide_eq_true hlt', r_condT]
    rw [r_ld c7, r_add _ _ (by omega) (by omega)]
    refine r70_2 hn hi hir hlt hs htop g2 g7 t2 t7 (by omega) fun w' R'' h1 h2 h3 h4 => ?_
    exact ⟨⟨r + 1, R'', by omega, by omega, by go_num, h1, kr.trans h2, h3, h4⟩, by simp only [intOf]; omega⟩
  · have hlt' : ¬ (r : Int) < (n : Int) := by omega
    obtain rfl : r = n := by omega
    simp only [r_lss, hlt', decide_false, r_condF]
    refine r_drew fun w1 k1 _ => ?_
    have hs1 := hs.kp k1
    have c71 := cell_later k1 c7
    obtain ⟨ui, _, Ii, ldi⟩ := hs1.mat.ldK (i := i) (by rw [hs1.siz.1]; exact hi)
    have e2 : (R'.getD i []).getD i 0 = bar A i i i := by
      have := hs1.at' i i (by omega) hi (by omega) hi
      rw [if_neg (by omega)] at this
      exact this
    rw [r_ld c71, ldi, r_ld c71, own_ldK Ii (by rw [hs1.siz.2 i hi]; exact hi), e2, bar_diag, r_add _ _ (by omega) (by omega)]
    exact hnext w1 R' hs1 (kr.trans (Below.mono k1 (by omega))) (block_below g2 k1)

theorem swap_hat (R : List (List Int)) {i j : Nat} (hi : i < R.length) (hj : j < R.length) (a b : Nat) : hat ((R.set i (R.getD j [])).set j (R.getD i [])) a b = hat R (xch i j a) b := by
  unfold hat xch
  by_cases h1 : a = j
  · subst h1
    rw [List.getD_eq_getElem?_getD (l := (R.set i _).set a _), List.getElem?_set_self (by rw [List.length_set]; exact hj)]
    by_cases h2 : a = i
    · subst h2; rw [if_pos rfl]; rfl
    · rw [if_neg h2, if_pos rfl]; rfl
  · rw [List.getD_eq_getElem?_getD (l := (R.set i _).set j _), List.getElem?_set_ne (Ne.symm h1)]
    by_cases h2 : a = i
    · subst h2
      rw [List.getElem?_set_self hi, if_pos rfl]; rfl
    · rw [List.getElem?_set_ne (Ne.symm h2), if_neg h2, if_neg h1, ← List.getD_eq_getElem?_getD]
theorem swap_sized {R : List (List Int)} (hs : Sized n n R) {i j : Nat} (hi : i < n) (hj : j < n) : Sized n n ((R.set i (R.getD j [])).set j (R.getD i [])) := by
  refine ⟨by simp [hs.1], fun a ha => ?_⟩
  have l1 := hs.1
  by_cases h1 : a = j
  · subst h1
    rw [List.getD_eq_getElem?_getD, List.getElem?_set_self (by rw [List.length_set]; omega)]
    exact hs.2 i hi
  · rw [List.getD_eq_getElem?_getD, List.getElem?_set_ne (Ne.symm h1)]
    by_cases h2 : a = i
    · subst h2
      rw [List.getElem?_set_self (by omega)]
      exact hs.2 j hj
    · rw [List.getElem?_set_ne (Ne.symm h2), ← List.getD_eq_getElem?_getD]
      exact hs.2 a ha

set_option maxRecDepth 100000 in
set_option maxHeartbeats 2000000 in
/-- THE DETERMINANT of a matrix of the caller's own. -/
theorem det_calls {v : Value} {M : List (List Int)} {q : Nat → Nat} (w : World) (hm : IMat base w v M) (hs : Sized n n M) (hn : n ≤ 1000) (hq : Rowed n (hat M) q) (hq2 : sumU q n ≤ 60) (hb : base ≤ w.heap.size) :
    Calls Tryd.prog 70 #[kV, v] w fun e w' => e = .returned (.int .i64 (det n (hat M))) ∧ Below base w w' := by
  obtain ⟨vs0, hm⟩ := hm
  obtain ⟨va, vc, ev, hvc⟩ := IMat.len ⟨vs0, hm⟩
  rw [hs.1] at hvc
  have lnv : ∀ K : Value → Prop, ln1 v K = K (.int .i64 n) := fun K => by rw [ev, hs.1]; rfl
  refine lift70 ?_
  unfold S70
  refine r_box fun b2 w1 e2 s2 h2 k1 => ?_
  have h2' : w1.heap[b2]? = some (.cells #[fnV 122, fnV 123, fnV 124] 100 (0, 0)) := h2
  have hT0 := hm.top
  rw [lnv]
  unfold S70L0
  refine ⟨fun t5 t6 t13 wr => ∃ (i : Nat) (A : Nat → Nat → Int) (qq : Nat → Nat) (s : Int) (vs : List Value) (R : List (List Int)), i ≤ n ∧ t13 = .int .i64 i ∧ t5 = .int .i64 s ∧ t6 = .int .i64 (det i A) ∧ (s = 1 ∨ s = -1) ∧ det n (hat M) = s * det n A ∧ (i < n → DSt n base A qq i (i + 1) (i + 1) v vs R wr) ∧ (i = n → (det n A).natAbs ≤ 2 ^ 30) ∧
      TopV w.heap.size v vs ∧ Below base w wr ∧ wr.heap[b2]? = some (.cells #[fnV 122, fnV 123, fnV 124] 100 (0, 0)), fun _ _ t13 _ => n - (intOf t13).toNat, ?_, ?_⟩
  · refine ⟨0, hat M, q, 1, vs0, M, by omega, rfl, rfl, rfl, .inl rfl, by omega, fun h0 => ⟨hm.kp k1, hs, hq, hq2, by simp [det], fun a b _ _ _ _ => by rw [if_neg (by omega), bar_zero]⟩, fun h0 => ?_, hT0, Below.mono k1 hb, h2'⟩
    subst h0
    exact (by decide : (1 : Int).natAbs ≤ 2 ^ 30)
  rintro _ _ _ _ wr ⟨i, A, qq, s, vs, R, hi, rfl, rfl, rfl, hs1, hdet, hst, hend, hT, kr, g2⟩
  by_cases hlt : i < n
  case neg =>
    have hlt' : ¬ (i : Int) < (n : Int) := by omega
    obtain rfl : i = n := by omega
    simp only [r_lss, hlt', decide_false, r_condF]
    have h30 := small30 (hend rfl)
    rw [r_mul _ _ (by rcases hs1 with rfl | rfl <;> omega) (by rcases hs1 with rfl | rfl <;> omega), ← hdet]
    exact ⟨rfl, kr⟩
  have hlt' : (i : Int) < (n : Int) := by omega
  have hst := hst hlt
  have hRl := hst.siz.1
  have hrow := hst.siz.2
  have hsz := kr.size
  simp only [r_lss, decide_eq_true hlt', r_condT]
  refine r_box fun b7 w2 e7 s7 h7 k2 => ?_
  have h70 : w2.heap[b7]? = some (.cells #[.int .i64 0] 3 (0, 0)) := h7
  have c70 : w2.cell? ⟨b7, 0, none⟩ = some (.int .i64 0) := by rw [cell_row h70]; rfl
  rw [st3 c70 (frozen_row h70)]
  have hch7 : Chg (fun k => k = b7) w2 (w2.setCell ⟨b7, 0, none⟩ (.int .i64 i)) := Chg.setCell _ _ rfl
  have h71 : (w2.setCell ⟨b7, 0, none⟩ (.int .i64 i)).heap[b7]? = some (.cells #[.int .i64 i] 3 (0, 0)) := by rw [setCell_block h70 rfl]; rfl
  have k3 : Kp wr (w2.setCell ⟨b7, 0, none⟩ (.int .i64 i)) := Kp.of_chg k2 hch7 fun k e => by omega
  generalize w2.setCell ⟨b7, 0, none⟩ (.int .i64 i) = w3 at *
  have c7 : w3.cell? ⟨b7, 0, none⟩ = some (.int .i64 i) := by rw [cell_row h71]; rfl
  have st3' := hst.kp k3
  have g23 := block_below g2 k3
  have hw3 := k3.size
  have hii : (i : Int).toNat = i := by omega
  have evR : v = .slice va R.length vc := by rw [ev, hs.1, hRl]
  have rd : RdRows w3 v R := st3'.mat.rdr (by omega) fun a ha => by rw [hrow a (by omega)]; omega
  have hsl : ∀ K : Value → Prop, slS 1 v (some (.int .i64 i)) none K = K (.slice (if vc = i then va else va.map fun x => x.add (i * 1)) (n - i) (vc - i)) := fun K => by
    rw [ev, hs.1, r_slFrom (by omega) (by omega), hii]
  rw [r_ld c7, hsl]
  have rd2 := RdRows.from (by rw [← evR]; exact rd) (by omega) (i := i) (by omega)
  rw [hRl] at rd2
  refine r_use fok84 (pivot_calls w3 rd2 (by rw [List.length_drop]; omega) (fun j hj => by
    rw [List.length_drop] at hj
    rw [List.getD_eq_getElem?_getD, List.getElem?_drop, ← List.getD_eq_getElem?_getD, hrow (i + j) (by omega)]; exact hlt) c7) rfl ?_
  rintro _ _ ⟨rfl, p, rfl, hp⟩
  refine ⟨_, rfl, ?_⟩
  have hat0 : ∀ j, i + j < n → hat (R.drop i) j i = bar A i (i + j) i := fun j hj => by
    rw [hat_drop, hst.at' (i + j) i (by omega) hj (by omega) hlt, if_neg (by omega)]
  rw [List.length_drop, hRl] at hp
  rw [r_lss]
  rcases hp with ⟨rfl, hz⟩ | ⟨hp0, hpn, hpz⟩
  · have hm1 : (-1 : Int) < 0 := by omega
    simp only [decide_eq_true hm1, r_condT]
    have : det n A = 0 := bar_none hlt hst.nz fun r h1 h2 => by
      have := hz (r - i) (by omega)
      rwa [hat0 _ (by omega), show i + (r - i) = r by omega] at this
    rw [hdet, this, Int.mul_zero]
    exact ⟨rfl, kr.trans (Below.mono k3 (by omega))⟩
  obtain ⟨p, rfl⟩ : ∃ p' : Nat, p = p' := ⟨p.toNat, by omega⟩
  have hpp : (p : Int).toNat = p := by omega
  rw [hpp] at hpz
  rw [hat0 p (by omega)] at hpz
  have hneg : ¬ (p : Int) < 0 := by omega
  simp only [hneg, decide_false, r_condF, r_gtr]
  -- behind the exchange
  refine r_join1 (fun t wj => ∃ (A' : Nat → Nat → Int) (q' : Nat → Nat) (s' : Int) (vs' : List Value) (R' : List (List Int)), t = .int .i64 s' ∧ (s' = 1 ∨ s' = -1) ∧ det n (hat M) = s' * det n A' ∧ det i A' = det i A ∧ DSt n base A' q' i (i + 1) (i + 1) v vs' R' wj ∧ bar A' i i i ≠ 0 ∧ TopV w.heap.size v vs' ∧ Below base w wj ∧
      wj.heap[b2]? = some (.cells #[fnV 122, fnV 123, fnV 124] 100 (0, 0)) ∧ wj.heap[b7]? = some (.cells #[.int .i64 i] 3 (0, 0))) ?_ fun kk hkk => ?_
  · rintro _ wj ⟨A', q', s', vs', R', rfl, hs1', hdet', hdd, hst', hnz', hT', kj, g2j, g7j⟩
    have c7j : wj.cell? ⟨b7, 0, none⟩ = some (.int .i64 i) := by rw [cell_row g7j]; rfl
    have hszj := kj.size
    rw [r_ld c7j, r_add _ _ (by omega) (by omega), ← hdd]
    refine r70_1 hn hlt hst' hT' g2j g7j (by omega) (by omega) (by omega) fun w' R'' h1 h2 h3 => ?_
    refine ⟨⟨i + 1, A', q', s', vs', R'', by omega, by go_num, rfl, rfl, hs1', hdet', fun hlt1 => ⟨h1.mat, h1.siz, h1.row, h1.sum, by rw [← bar_diag]; exact hnz', fun a b a1 a2 a3 a4 => ?_⟩, fun h => ?_, hT', kj.trans h2, h3⟩, by simp only [intOf]; omega⟩
    · rw [h1.at' a b (by omega) a2 (by omega) a4, if_pos (by omega), if_neg (by omega)]
    · rw [← h, ← bar_diag]
      exact bar_abs hst'.row hst'.sum (Nat.le_refl _) hlt (Nat.le_refl _) hlt
  · by_cases h0 : p = 0
    · subst h0
      have hgt : ¬ (0 : Int) < ((0 : Nat) : Int) := by omega
      simp only [hgt, decide_false, r_condF]
      exact hkk _ _ ⟨A, qq, s, vs, R, rfl, hs1, hdet, rfl, st3', by simpa using hpz, hT, kr.trans (Below.mono k3 (by omega)), g23, h71⟩
    · have hgt : (0 : Int) < (p : Int) := by omega
      simp only [decide_eq_true hgt, r_condT]
      refine r_drew fun w4 k4 _ => ?_
      have k34 := Kp.trans k3 k4
      have st4 := st3'.kp k4
      have c74 := cell_later k4 c7
      have g24 := block_below g23 k4
      have g74 := block_below h71 k4
      have hw4 := k34.size
      obtain ⟨g, cap, a, na, ca, a', na', ca', ev4, hbg, ci, cj, hfr, ⟨x, hx⟩, hfr2, vs', hmat', hsub⟩ := st4.mat.swap (i := i) (j := i + p) (by omega) (by omega) (by omega)
      rw [hRl] at ev4
      have hgT : g < w.heap.size := hT.1 g (by rw [ev4]; rfl)
      refine ⟨fun k => k = g, ?_⟩
      have hip : ((i : Int) + (p : Int)).toNat = i + p := by omega
      rw [r_ld c74]
      refine r_txe (v := v) (fun _ _ => rfl) ?_
      rw [r_txl c74 (show ¬ b7 = g by omega)]
      refine r_txe (v := .int .i64 p) (fun _ _ => rfl) ?_
      refine r_txe (v := .int .i64 ((i : Int) + p)) (fun w' k => r_add _ _ (by omega) (by omega)) ?_
      rw [r_ld c74, r_add _ _ (by omega) (by omega), ev4, r_iaS _ _ _ _ _ _ _ (by omega) (by omega), hip, Nat.mul_one, Nat.zero_add, r_ld cj, r_ld c74, r_iaS _ _ _ _ _ _ _ (by omega) (by omega), hii, Nat.mul_one, Nat.zero_add, r_ld ci, r_iaS _ _ _ _ _ _ _ (by omega) (by omega), hii, Nat.mul_one, Nat.zero_add, st34 ci (hfr _)]
      refine ⟨⟨rfl, rfl, rfl, by rw [show (w4.setCell ⟨g, i, none⟩ (.slice a' na' ca')).heap.size = w4.heap.size by simp [World.setCell]]; exact Nat.le_refl _, (Chg.setCell (S := fun k => k = g) w4 (p := ⟨g, i, none⟩) _ rfl).block⟩, ?_⟩
      refine r_txe (v := .pointer (some ⟨g, i + p, none⟩)) (fun w' k => by rw [r_iaS _ _ _ _ _ _ _ (by omega) (by omega), hip, Nat.mul_one, Nat.zero_add]) ?_
      rw [st34 hx (hfr2 _), r_neg _ (by rcases hs1 with rfl | rfl <;> omega) (by rcases hs1 with rfl | rfl <;> omega)]
      have hc : Chg (fun k => k = g) w4 ((w4.setCell ⟨g, i, none⟩ (.slice a' na' ca')).setCell ⟨g, i + p, none⟩ (.slice a na ca)) := (Chg.setCell (S := fun k => k = g) w4 (p := ⟨g, i, none⟩) _ rfl).trans (Chg.setCell (S := fun k => k = g) _ (p := ⟨g, i + p, none⟩) _ rfl)
      have hxi : xch i (i + p) i = i + p := by unfold xch; rw [if_pos rfl]
      refine hkk _ _ ⟨fun a b => A (xch i (i + p) a) b, fun a => qq (xch i (i + p) a), -s, vs', _, rfl, by rcases hs1 with rfl | rfl <;> simp, ?_, det_xch_low (Nat.le_refl _) (by omega), ⟨by rw [ev4]; rw [ev4] at hmat'; exact hmat', swap_sized st4.siz hlt (by omega), st4.row.xch hlt (by omega), by rw [sumU_xch hlt (by omega)]; exact st4.sum, by rw [det_xch_low (Nat.le_refl _) (by omega)]; exact hst.nz, fun a b a1 a2 a3 a4 => ?_⟩, ?_, ⟨hT.1, fun qx u hu k hk => ?_⟩, ?_, ?_, ?_⟩
      · rw [det_xch _ hlt (by omega) (by omega), hdet]; grind
      · rw [swap_hat _ (by omega) (by omega), if_neg (by omega), bar_xch (Nat.le_refl _) (by omega) a b a1]
        have hxa : i ≤ xch i (i + p) a ∧ xch i (i + p) a < n := by unfold xch; split <;> (try split) <;> omega
        rw [st4.at' _ b hxa.1 hxa.2 a3 a4, if_neg (by omega)]
      · rw [bar_xch (Nat.le_refl _) (by omega) i i (Nat.le_refl _), hxi]; exact hpz
      · obtain ⟨pp, hpp⟩ := hsub qx u hu
        exact hT.2 pp u hpp k hk
      · exact (kr.trans (Below.mono k34 (by omega))).trans (hc.below (by omega) fun k e => by omega)
      · exact hc.at g24 (by omega)
      · exact hc.at g74 (by omega)

end
end Go.Proofs.YtkdcldbedbagjaaDoor
