/- Texts of my own, merged by program: Kb Ga Gb. -/
import Derived.Test.YtkdcldbedbagjaaDoorN05
set_option linter.all false
/- Contract: the determinant of the program. -/
namespace Go.Proofs.YtkdcldbedbagjaaDoor
open Go.Lf Go.RowKit Go.Dt

theorem r_txe {X : Nat → Prop} {w : World} {F : World → (Value → Prop) → Prop} {K : Value → Prop} {v : Value} (h : ∀ (w' : World) (k : Value → Prop), F w' k = k v) (hk : K v) : takeX X w F K := ⟨v, fun w' _ => by rw [h], hk⟩

section
variable {n : Nat} {base : Nat}

set_option maxRecDepth 100000 in
set_option maxHeartbeats 1000000 in
theorem r70_1 {A : Nat → Nat → Int} {q : Nat → Nat} {i b2 b7 top : Nat} {s : Int} {v : Value} {vs : List Value} {R : List (List Int)} {w0 : World} {next : Value → Value → Value → World → Prop} (hn : n ≤ 1000) (hi : i < n)
    (hst : DSt n base A q i (i + 1) (i + 1) v vs R w0) (htop : TopV top v vs) (h2 : w0.heap[b2]? = some (.cells #[fnV 122, fnV 123, fnV 124] 100 (0, 0))) (h7 : w0.heap[b7]? = some (.cells #[.int .i64 i] 3 (0, 0)))
    (t2 : top ≤ b2) (t7 : top ≤ b7) (hb : base ≤ w0.heap.size)
    (hnext : ∀ w' R', DSt n base A q i n (i + 1) v vs R' w' → Below base w0 w' → w'.heap[b2]? = some (.cells #[fnV 122, fnV 123, fnV 124] 100 (0, 0)) → next (.int .i64 s) (.int .i64 (det (i + 1) A)) (.int .i64 ((i : Int) + 1)) w') :
    S70L1 v (ptrV b2) (.int .i64 s) (.int .i64 (det i A)) (ptrV b7) (.int .i64 i) (.int .i64 ((i + 1 : Nat) : Int)) next w0 := by
  obtain ⟨va, vc, ev, _⟩ := IMat.len ⟨vs, hst.mat⟩
  have hRl : R.length = n := hst.siz.1
  have lnv : ∀ K : Value → Prop, ln1 v K = K (.int .i64 n) := fun K => by rw [ev, hRl]; rfl
  unfold S70L1
  refine ⟨fun t wr => ∃ (r : Nat) (R' : List (List Int)), i < r ∧ r ≤ n ∧ t = .int .i64 r ∧ DSt n base A q i r (i + 1) v vs R' wr ∧ Below base w0 wr ∧ wr.heap[b2]? = some (.cells #[fnV 122, fnV 123, fnV 124] 100 (0, 0)) ∧ wr.heap[b7]? = some (.cells #[.int .i64 i] 3 (0, 0)), fun t _ => n - (intOf t).toNat,
    ⟨i + 1, R, by omega, by omega, rfl, hst, Below.refl _ _, h2, h7⟩, ?_⟩
  rintro _ _ wr ⟨r, R', hir, hrn, rfl, hs, kr, g2, g7⟩
  have c7 : wr.cell? ⟨b7, 0, none⟩ = some (.int .i64 i) := by rw [cell_row g7]; rfl
  have hsz := kr.size
  rw [lnv]
  by_cases hlt : r < n
  · have hlt' : (r : Int) < (n : Int) := by omega
    simp only [r_lss, decide_eq_true hlt', r_condT]
    rw [r_ld c7, r_add _ _ (by omega) (by omega)]
    refine r70_2 hn hi hir hlt hs htop g2 g7 t2 t7 (by omega) fun w' R'' h1 h2 h3 h4 => ?_
    exact ⟨⟨r + 1, R'', by omega, by omega, by go_num, h1, kr.trans h2, h3, h4⟩, by simp only [intOf]; omega⟩
  · have hlt' : ¬ (r : Int) < (n : Int) := by omega
    obtain rfl : r = n := by omega
    simp only [r_lss, hlt', decide_false, r_condF]
    refine r_drew fun w1 k1 _ => ?_
    have hs1 := hs.kp k1
    have c71 := cell_later k1 c7
    obtain ⟨ui, _, Ii, ldi⟩ := hs1.mat.ldK (i := i) (by rw [hs1.siz.1]; exact hi)
    have e2 : (R'.getD i []).getD i 0 = bar A i i i := by
      have := hs1.at' i i (by omega) hi (by omega) hi
      rw [if_neg (by omega)] at this
      exact this
    rw [r_ld c71, ldi, r_ld c71, own_ldK Ii (by rw [hs1.siz.2 i hi]; exact hi), e2, bar_diag, r_add _ _ (by omega) (by omega)]
    exact hnext w1 R' hs1 (kr.trans (Below.mono k1 (by omega))) (block_below g2 k1)

theorem swap_hat (R : List (List Int)) {i j : Nat} (hi : i < R.length) (hj : j < R.length) (a b : Nat) : hat ((R.set i (R.getD j [])).set j (R.getD i [])) a b = hat R (xch i j a) b := by
  unfold hat xch
  by_cases h1 : a = j
  · subst h1
    rw [List.getD_eq_getElem?_getD (l := (R.set i _).set a _), List.getElem?_set_self (by rw [List.length_set]; exact hj)]
    by_cases h2 : a = i
    · subst h2; rw [if_pos rfl]; rfl
    · rw [if_neg h2, if_pos rfl]; rfl
  · rw [List.getD_eq_getElem?_getD (l := (R.set i _).set j _), List.getElem?_set_ne (Ne.symm h1)]
    by_cases h2 : a = i
    · subst h2
      rw [List.getElem?_set_self hi, if_pos rfl]; rfl
    · rw [List.getElem?_set_ne (Ne.symm h2), if_neg h2, if_neg h1, ← List.getD_eq_getElem?_getD]
theorem swap_sized {R : List (List Int)} (hs : Sized n n R) {i j : Nat} (hi : i < n) (hj : j < n) : Sized n n ((R.set i (R.getD j [])).set j (R.getD i [])) := by
  refine ⟨by simp [hs.1], fun a ha => ?_⟩
  have l1 := hs.1
  by_cases h1 : a = j
  · subst h1
    rw [List.getD_eq_getElem?_getD, List.getElem?_set_self (by rw [List.length_set]; omega)]
    exact hs.2 i hi
  · rw [List.getD_eq_getElem?_getD, List.getElem?_set_ne (Ne.symm h1)]
    by_cases h2 : a = i
    · subst h2
      rw [List.getElem?_set_self (by omega)]
      exact hs.2 j hj
    · rw [List.getElem?_set_ne (Ne.symm h2), ← List.getD_eq_getElem?_getD]
      exact hs.2 a ha

set_option maxRecDepth 100000 in
set_option maxHeartbeats 2000000 in
/-- THE DETERMINANT of a matrix of the caller's own. -/
theorem det_calls {v : Value} {M : List (List Int)} {q : Nat → Nat} (w : World) (hm : IMat base w v M) (hs : Sized n n M) (hn : n ≤ 1000) (hq : Rowed n (hat M) q) (hq2 : sumU q n ≤ 60) (hb : base ≤ w.heap.size) :
    Calls Tryd.prog 70 #[kV, v] w fun e w' => e = .returned (.int .i64 (det n (hat M))) ∧ Below base w w' := by
  obtain ⟨vs0, hm⟩ := hm
  obtain ⟨va, vc, ev, hvc⟩ := IMat.len ⟨vs0, hm⟩
  rw [hs.1] at hvc
  have lnv : ∀ K : Value → Prop, ln1 v K = K (.int .i64 n) := fun K => by rw [ev, hs.1]; rfl
  refine lift70 ?_
  unfold S70
  refine r_box fun b2 w1 e2 s2 h2 k1 => ?_
  have h2' : w1.heap[b2]? = some (.cells #[fnV 122, fnV 123, fnV 124] 100 (0, 0)) := h2
  have hT0 := hm.top
  rw [lnv]
  unfold S70L0
  refine ⟨fun t5 t6 t13 wr => ∃ (i : Nat) (A : Nat → Nat → Int) (qq : Nat → Nat) (s : Int) (vs : List Value) (R : List (List Int)), i ≤ n ∧ t13 = .int .i64 i ∧ t5 = .int .i64 s ∧ t6 = .int .i64 (det i A) ∧ (s = 1 ∨ s = -1) ∧ det n (hat M) = s * det n A ∧ (i < n → DSt n base A qq i (i + 1) (i + 1) v vs R wr) ∧ (i = n → (det n A).natAbs ≤ 2 ^ 30) ∧
      TopV w.heap.size v vs ∧ Below base w wr ∧ wr.heap[b2]? = some (.cells #[fnV 122, fnV 123, fnV 124] 100 (0, 0)), fun _ _ t13 _ => n - (intOf t13).toNat, ?_, ?_⟩
  · refine ⟨0, hat M, q, 1, vs0, M, by omega, rfl, rfl, rfl, .inl rfl, by omega, fun h0 => ⟨hm.kp k1, hs, hq, hq2, by simp [det], fun a b _ _ _ _ => by rw [if_neg (by omega), bar_zero]⟩, fun h0 => ?_, hT0, Below.mono k1 hb, h2'⟩
    subst h0
    exact (by decide : (1 : Int).natAbs ≤ 2 ^ 30)
  rintro _ _ _ _ wr ⟨i, A, qq, s, vs, R, hi, rfl, rfl, rfl, hs1, hdet, hst, hend, hT, kr, g2⟩
  by_cases hlt : i < n
  case neg =>
    have hlt' : ¬ (i : Int) < (n : Int) := by omega
    obtain rfl : i = n := by omega
    simp only [r_lss, hlt', decide_false, r_condF]
    have h30 := small30 (hend rfl)
    rw [r_mul _ _ (by rcases hs1 with rfl | rfl <;> omega) (by rcases hs1 with rfl | rfl <;> omega), ← hdet]
    exact ⟨rfl, kr⟩
  have hlt' : (i : Int) < (n : Int) := by omega
  have hst := hst hlt
  have hRl := hst.siz.1
  have hrow := hst.siz.2
  have hsz := kr.size
  simp only [r_lss, decide_eq_true hlt', r_condT]
  refine r_box fun b7 w2 e7 s7 h7 k2 => ?_
  have h70 : w2.heap[b7]? = some (.cells #[.int .i64 0] 3 (0, 0)) := h7
  have c70 : w2.cell? ⟨b7, 0, none⟩ = some (.int .i64 0) := by rw [cell_row h70]; rfl
  rw [st3 c70 (frozen_row h70)]
  have hch7 : Chg (fun k => k = b7) w2 (w2.setCell ⟨b7, 0, none⟩ (.int .i64 i)) := Chg.setCell _ _ rfl
  have h71 : (w2.setCell ⟨b7, 0, none⟩ (.int .i64 i)).heap[b7]? = some (.cells #[.int .i64 i] 3 (0, 0)) := by rw [setCell_block h70 rfl]; rfl
  have k3 : Kp wr (w2.setCell ⟨b7, 0, none⟩ (.int .i64 i)) := Kp.of_chg k2 hch7 fun k e => by omega
  generalize w2.setCell ⟨b7, 0, none⟩ (.int .i64 i) = w3 at *
  have c7 : w3.cell? ⟨b7, 0, none⟩ = some (.int .i64 i) := by rw [cell_row h71]; rfl
  have st3' := hst.kp k3
  have g23 := block_below g2 k3
  have hw3 := k3.size
  have hii : (i : Int).toNat = i := by omega
  have evR : v = .slice va R.length vc := by rw [ev, hs.1, hRl]
  have rd : RdRows w3 v R := st3'.mat.rdr (by omega) fun a ha => by rw [hrow a (by omega)]; omega
  have hsl : ∀ K : Value → Prop, slS 1 v (some (.int .i64 i)) none K = K (.slice (if vc = i then va else va.map fun x => x.add (i * 1)) (n - i) (vc - i)) := fun K => by
    rw [ev, hs.1, r_slFrom (by omega) (by omega), hii]
  rw [r_ld c7, hsl]
  have rd2 := RdRows.from (by rw [← evR]; exact rd) (by omega) (i := i) (by omega)
  rw [hRl] at rd2
  refine r_use fok84 (pivot_calls w3 rd2 (by rw [List.length_drop]; omega) (fun j hj => by
    rw [List.length_drop] at hj
    rw [List.getD_eq_getElem?_getD, List.getElem?_drop, ← List.getD_eq_getElem?_getD, hrow (i + j) (by omega)]; exact hlt) c7) rfl ?_
  rintro _ _ ⟨rfl, p, rfl, hp⟩
  refine ⟨_, rfl, ?_⟩
  have hat0 : ∀ j, i + j < n → hat (R.drop i) j i = bar A i (i + j) i := fun j hj => by
    rw [hat_drop, hst.at' (i + j) i (by omega) hj (by omega) hlt, if_neg (by omega)]
  rw [List.length_drop, hRl] at hp
  rw [r_lss]
  rcases hp with ⟨rfl, hz⟩ | ⟨hp0, hpn, hpz⟩
  · have hm1 : (-1 : Int) < 0 := by omega
    simp only [decide_eq_true hm1, r_condT]
    have : det n A = 0 := bar_none hlt hst.nz fun r h1 h2 => by
      have := hz (r - i) (by omega)
      rwa [hat0 _ (by omega), show i + (r - i) = r by omega] at this
    rw [hdet, this, Int.mul_zero]
    exact ⟨rfl, kr.trans (Below.mono k3 (by omega))⟩
  obtain ⟨p, rfl⟩ : ∃ p' : Nat, p = p' := ⟨p.toNat, by omega⟩
  have hpp : (p : Int).toNat = p := by omega
  rw [hpp] at hpz
  rw [hat0 p (by omega)] at hpz
  have hneg : ¬ (p : Int) < 0 := by omega
  simp only [hneg, decide_false, r_condF, r_gtr]
  -- behind the exchange
  refine r_join1 (fun t wj => ∃ (A' : Nat → Nat → Int) (q' : Nat → Nat) (s' : Int) (vs' : List Value) (R' : List (List Int)), t = .int .i64 s' ∧ (s' = 1 ∨ s' = -1) ∧ det n (hat M) = s' * det n A' ∧ det i A' = det i A ∧ DSt n base A' q' i (i + 1) (i + 1) v vs' R' wj ∧ bar A' i i i ≠ 0 ∧ TopV w.heap.size v vs' ∧ Below base w wj ∧
      wj.heap[b2]? = some (.cells #[fnV 122, fnV 123, fnV 124] 100 (0, 0)) ∧ wj.heap[b7]? = some (.cells #[.int .i64 i] 3 (0, 0))) ?_ fun kk hkk => ?_
  · rintro _ wj ⟨A', q', s', vs', R', rfl, hs1', hdet', hdd, hst', hnz', hT', kj, g2j, g7j⟩
    have c7j : wj.cell? ⟨b7, 0, none⟩ = some (.int .i64 i) := by rw [cell_row g7j]; rfl
    have hszj := kj.size
    rw [r_ld c7j, r_add _ _ (by omega) (by omega), ← hdd]
    refine r70_1 hn hlt hst' hT' g2j g7j (by omega) (by omega) (by omega) fun w' R'' h1 h2 h3 => ?_
    refine ⟨⟨i + 1, A', q', s', vs', R'', by omega, by go_num, rfl, rfl, hs1', hdet', fun hlt1 => ⟨h1.mat, h1.siz, h1.row, h1.sum, by rw [← bar_diag]; exact hnz', fun a b a1 a2 a3 a4 => ?_⟩, fun h => ?_, hT', kj.trans h2, h3⟩, by simp only [intOf]; omega⟩
    · rw [h1.at' a b (by omega) a2 (by omega) a4, if_pos (by omega), if_neg (by omega)]
    · rw [← h, ← bar_diag]
      exact bar_abs hst'.row hst'.sum (Nat.le_refl _) hlt (Nat.le_refl _) hlt
  · by_cases h0 : p = 0
    · subst h0
      have hgt : ¬ (0 : Int) < ((0 : Nat) : Int) := by omega
      simp only [hgt, decide_false, r_condF]
      exact hkk _ _ ⟨A, qq, s, vs, R, rfl, hs1, hdet, rfl, st3', by simpa using hpz, hT, kr.trans (Below.mono k3 (by omega)), g23, h71⟩
    · have hgt : (0 : Int) < (p : Int) := by omega
      simp only [decide_eq_true hgt, r_condT]
      refine r_drew fun w4 k4 _ => ?_
      have k34 := Kp.trans k3 k4
      have st4 := st3'.kp k4
      have c74 := cell_later k4 c7
      have g24 := block_below g23 k4
      have g74 := block_below h71 k4
      have hw4 := k34.size
      obtain ⟨g, cap, a, na, ca, a', na', ca', ev4, hbg, ci, cj, hfr, ⟨x, hx⟩, hfr2, vs', hmat', hsub⟩ := st4.mat.swap (i := i) (j := i + p) (by omega) (by omega) (by omega)
      rw [hRl] at ev4
      have hgT : g < w.heap.size := hT.1 g (by rw [ev4]; rfl)
      refine ⟨fun k => k = g, ?_⟩
      have hip : ((i : Int) + (p : Int)).toNat = i + p := by omega
      rw [r_ld c74]
      refine r_txe (v := v) (fun _ _ => rfl) ?_
      rw [r_txl c74 (show ¬ b7 = g by omega)]
      refine r_txe (v := .int .i64 p) (fun _ _ => rfl) ?_
      refine r_txe (v := .int .i64 ((i : Int) + p)) (fun w' k => r_add _ _ (by omega) (by omega)) ?_
      rw [r_ld c74, r_add _ _ (by omega) (by omega), ev4, r_iaS _ _ _ _ _ _ _ (by omega) (by omega), hip, Nat.mul_one, Nat.zero_add, r_ld cj, r_ld c74, r_iaS _ _ _ _ _ _ _ (by omega) (by omega), hii, Nat.mul_one, Nat.zero_add, r_ld ci, r_iaS _ _ _ _ _ _ _ (by omega) (by omega), hii, Nat.mul_one, Nat.zero_add, st34 ci (hfr _)]
      refine ⟨⟨rfl, rfl, rfl, by rw [show (w4.setCell ⟨g, i, none⟩ (.slice a' na' ca')).heap.size = w4.heap.size by simp [World.setCell]]; exact Nat.le_refl _, (Chg.setCell (S := fun k => k = g) w4 (p := ⟨g, i, none⟩) _ rfl).block⟩, ?_⟩
      refine r_txe (v := .pointer (some ⟨g, i + p, none⟩)) (fun w' k => by rw [r_iaS _ _ _ _ _ _ _ (by omega) (by omega), hip, Nat.mul_one, Nat.zero_add]) ?_
      rw [st34 hx (hfr2 _), r_neg _ (by rcases hs1 with rfl | rfl <;> omega) (by rcases hs1 with rfl | rfl <;> omega)]
      have hc : Chg (fun k => k = g) w4 ((w4.setCell ⟨g, i, none⟩ (.slice a' na' ca')).setCell ⟨g, i + p, none⟩ (.slice a na ca)) := (Chg.setCell (S := fun k => k = g) w4 (p := ⟨g, i, none⟩) _ rfl).trans (Chg.setCell (S := fun k => k = g) _ (p := ⟨g, i + p, none⟩) _ rfl)
      have hxi : xch i (i + p) i = i + p := by unfold xch; rw [if_pos rfl]
      refine hkk _ _ ⟨fun a b => A (xch i (i + p) a) b, fun a => qq (xch i (i + p) a), -s, vs', _, rfl, by rcases hs1 with rfl | rfl <;> simp, ?_, det_xch_low (Nat.le_refl _) (by omega), ⟨by rw [ev4]; rw [ev4] at hmat'; exact hmat', swap_sized st4.siz hlt (by omega), st4.row.xch hlt (by omega), by rw [sumU_xch hlt (by omega)]; exact st4.sum, by rw [det_xch_low (Nat.le_refl _) (by omega)]; exact hst.nz, fun a b a1 a2 a3 a4 => ?_⟩, ?_, ⟨hT.1, fun qx u hu k hk => ?_⟩, ?_, ?_, ?_⟩
      · rw [det_xch _ hlt (by omega) (by omega), hdet]; grind
      · rw [swap_hat _ (by omega) (by omega), if_neg (by omega), bar_xch (Nat.le_refl _) (by omega) a b a1]
        have hxa : i ≤ xch i (i + p) a ∧ xch i (i + p) a < n := by unfold xch; split <;> (try split) <;> omega
        rw [st4.at' _ b hxa.1 hxa.2 a3 a4, if_neg (by omega)]
      · rw [bar_xch (Nat.le_refl _) (by omega) i i (Nat.le_refl _), hxi]; exact hpz
      · obtain ⟨pp, hpp⟩ := hsub qx u hu
        exact hT.2 pp u hpp k hk
      · exact (kr.trans (Below.mono k34 (by omega))).trans (hc.below (by omega) fun k e => by omega)
      · exact hc.at g24 (by omega)
      · exact hc.at g74 (by omega)

end
end Go.Proofs.YtkdcldbedbagjaaDoor

/- Networks, plainly: connection, forests with roots, how many there are, and determinants (Kirchhoff). No program. -/
namespace Go.Dt

abbrev Wr := Nat × Nat
def Wf (n : Nat) (l : List Wr) : Prop := ∀ e ∈ l, e.1 < n ∧ e.2 < n ∧ e.1 ≠ e.2
theorem Wf.tail {n : Nat} {e : Wr} {l : List Wr} (h : Wf n (e :: l)) : Wf n l := fun x hx => h x (List.mem_cons_of_mem _ hx)
theorem Wf.sub {n : Nat} {s l : List Wr} (h : Wf n l) (hs : s.Sublist l) : Wf n s := fun x hx => h x (hs.subset hx)
theorem Wf.perm {n : Nat} {s l : List Wr} (h : Wf n l) (hs : s.Perm l) : Wf n s := fun x hx => h x (hs.subset hx)

inductive Conn (l : List Wr) : Nat → Nat → Prop
  | refl (v : Nat) : Conn l v v
  | step {u v w : Nat} : Conn l u v → ((v, w) ∈ l ∨ (w, v) ∈ l) → Conn l u w
theorem Conn.mono {l l' : List Wr} (h : ∀ e ∈ l, e ∈ l') {u v : Nat} (c : Conn l u v) : Conn l' u v := by
  induction c with
  | refl => exact .refl _
  | step _ h2 ih => exact .step ih (h2.imp (h _) (h _))
theorem Conn.trans {l : List Wr} {u v w : Nat} (a : Conn l u v) (b : Conn l v w) : Conn l u w := by
  induction b with
  | refl => exact a
  | step _ h2 ih => exact .step ih h2
theorem Conn.one {l : List Wr} {u v : Nat} (h : (u, v) ∈ l ∨ (v, u) ∈ l) : Conn l u v := .step (.refl _) h
theorem Conn.symm {l : List Wr} {u v : Nat} (a : Conn l u v) : Conn l v u := by
  induction a with
  | refl => exact .refl _
  | step _ h2 ih => exact (Conn.one h2.symm).trans ih
theorem Conn.cons {e : Wr} {l : List Wr} {u v : Nat} (c : Conn l u v) : Conn (e :: l) u v := c.mono fun _ h => List.mem_cons_of_mem _ h
theorem Conn.head (e : Wr) (l : List Wr) : Conn (e :: l) e.1 e.2 := .one (.inl (List.mem_cons_self ..))
/-- A way is one without a wire, or it comes to an end of that wire without it. -/
theorem Conn.first {e : Wr} {l : List Wr} {u v : Nat} (c : Conn (e :: l) u v) : Conn l u v ∨ Conn l u e.1 ∨ Conn l u e.2 := by
  induction c with
  | refl => exact .inl (.refl _)
  | step _ h2 ih =>
    rcases ih with h | h | h
    · rcases h2 with h2 | h2
      · rcases List.mem_cons.1 h2 with e1 | h2
        · rw [← e1]; exact .inr (.inl h)
        · exact .inl (.step h (.inl h2))
      · rcases List.mem_cons.1 h2 with e1 | h2
        · rw [← e1]; exact .inr (.inr h)
        · exact .inl (.step h (.inr h2))
    · exact .inr (.inl h)
    · exact .inr (.inr h)
theorem Conn.nil {u v : Nat} (c : Conn [] u v) : u = v := by
  induction c with
  | refl => rfl
  | step _ h2 _ => simp at h2
theorem Conn.lt {n : Nat} {l : List Wr} (hl : Wf n l) {u v : Nat} (c : Conn l u v) (hu : u < n) : v < n := by
  induction c with
  | refl => exact hu
  | step _ h2 ih =>
    rcases h2 with h2 | h2
    · exact (hl _ h2).2.1
    · exact (hl _ h2).1

def cntS : Nat → (Nat → Bool) → Nat
  | 0, _ => 0
  | n + 1, S => cntS n S + if S n then 1 else 0
def ins (S : Nat → Bool) (b : Nat) : Nat → Bool := fun v => S v || decide (v = b)
theorem ins_self (S : Nat → Bool) (b : Nat) : ins S b b = true := by simp [ins]
theorem ins_of {S : Nat → Bool} {b v : Nat} (h : S v = true) : ins S b v = true := by simp [ins, h]
theorem ins_iff {S : Nat → Bool} {b v : Nat} : ins S b v = true ↔ S v = true ∨ v = b := by simp [ins]
theorem ins_comm (S : Nat → Bool) (a b : Nat) : ins (ins S a) b = ins (ins S b) a := by
  funext v; simp only [ins, Bool.or_assoc, Bool.or_comm (decide (v = a))]
theorem ins_old {S : Nat → Bool} {b : Nat} (h : S b = true) : ins S b = S := by
  funext v
  unfold ins
  by_cases e : v = b
  · subst e; simp [h]
  · simp [e]
theorem cnt_congr {S T : Nat → Bool} : ∀ {n : Nat}, (∀ v, v < n → S v = T v) → cntS n S = cntS n T
  | 0, _ => rfl
  | n + 1, h => by unfold cntS; rw [cnt_congr fun v hv => h v (by omega), h n (by omega)]
theorem cnt_ins {S : Nat → Bool} {b : Nat} (hS : S b = false) : ∀ {n : Nat}, b < n → cntS n (ins S b) = cntS n S + 1
  | 0, h => by omega
  | n + 1, h => by
    unfold cntS
    by_cases e : b = n
    · subst e
      rw [ins_self, hS, cnt_congr (T := S) fun v hv => by simp [ins, show ¬ v = b by omega]]
      simp
    · rw [cnt_ins hS (by omega)]
      have : ins S b n = S n := by simp [ins, show ¬ n = b by omega]
      rw [this]; omega
theorem cnt_ins_le {S : Nat → Bool} {b : Nat} (n : Nat) : cntS n (ins S b) ≤ cntS n S + 1 := by
  by_cases h : S b = true
  · rw [ins_old h]; omega
  · have h : S b = false := by simpa using h
    by_cases hb : b < n
    · rw [cnt_ins h hb]; omega
    · rw [cnt_congr (T := S) fun v hv => by simp [ins, show ¬ v = b by omega]]; omega
theorem cnt_all {S : Nat → Bool} : ∀ {n : Nat}, (∀ v, v < n → S v = true) → cntS n S = n
  | 0, _ => rfl
  | n + 1, h => by unfold cntS; rw [cnt_all fun v hv => h v (by omega), h n (by omega)]; rfl
theorem cnt_le (S : Nat → Bool) : ∀ n, cntS n S ≤ n
  | 0 => Nat.le_refl _
  | n + 1 => by have := cnt_le S n; unfold cntS; split <;> omega
theorem cnt_none {S : Nat → Bool} : ∀ {n : Nat}, (∀ v, v < n → S v = false) → cntS n S = 0
  | 0, _ => rfl
  | n + 1, h => by unfold cntS; rw [cnt_none fun v hv => h v (by omega), h n (by omega)]; rfl

def Spans (n : Nat) (S : Nat → Bool) (l : List Wr) : Prop := ∀ v, v < n → ∃ s, s < n ∧ S s = true ∧ Conn l v s
theorem Spans.cons {n : Nat} {S : Nat → Bool} {e : Wr} {l : List Wr} (h : Spans n S l) : Spans n S (e :: l) := fun v hv =>
  let ⟨s, h1, h2, h3⟩ := h v hv
  ⟨s, h1, h2, h3.cons⟩
/-- One end of a wire comes to S without it: the other one as a root makes up for the wire. -/
theorem Spans.drop {n : Nat} {S : Nat → Bool} {e : Wr} {l : List Wr} (hl : Wf n (e :: l)) (h : Spans n S (e :: l)) (ha : ∃ s, s < n ∧ S s = true ∧ Conn l e.1 s) : Spans n (ins S e.2) l := fun v hv => by
  have he := hl e (List.mem_cons_self ..)
  obtain ⟨s, h1, h2, h3⟩ := h v hv
  rcases h3.first with h | h | h
  · exact ⟨s, h1, ins_of h2, h⟩
  · obtain ⟨r, r1, r2, r3⟩ := ha
    exact ⟨r, r1, ins_of r2, h.trans r3⟩
  · exact ⟨e.2, he.2.1, ins_self .., h⟩
theorem Conn.flip {e : Wr} {l : List Wr} {u v : Nat} (c : Conn (e :: l) u v) : Conn ((e.2, e.1) :: l) u v := by
  induction c with
  | refl => exact .refl _
  | step _ h2 ih =>
    refine .step ih ?_
    rcases h2 with h2 | h2
    · rcases List.mem_cons.1 h2 with e1 | h2
      · exact .inr (by rw [← e1]; exact List.mem_cons_self ..)
      · exact .inl (List.mem_cons_of_mem _ h2)
    · rcases List.mem_cons.1 h2 with e1 | h2
      · exact .inl (by rw [← e1]; exact List.mem_cons_self ..)
      · exact .inr (List.mem_cons_of_mem _ h2)
theorem Wf.flip {n : Nat} {e : Wr} {l : List Wr} (h : Wf n (e :: l)) : Wf n ((e.2, e.1) :: l) := fun x hx => by
  rcases List.mem_cons.1 hx with rfl | hx
  · have := h e (List.mem_cons_self ..); exact ⟨this.2.1, this.1, this.2.2.symm⟩
  · exact h x (List.mem_cons_of_mem _ hx)
theorem Spans.flip {n : Nat} {S : Nat → Bool} {e : Wr} {l : List Wr} (h : Spans n S (e :: l)) : Spans n S ((e.2, e.1) :: l) := fun v hv =>
  let ⟨s, h1, h2, h3⟩ := h v hv
  ⟨s, h1, h2, h3.flip⟩
/-- The last wire of a way: one of its ends comes to the way's end without it. -/
theorem Spans.oneEnd {n : Nat} {S : Nat → Bool} {e : Wr} {l : List Wr} (hl : Wf n (e :: l)) (h : Spans n S (e :: l)) : (∃ s, s < n ∧ S s = true ∧ Conn l e.1 s) ∨ (∃ s, s < n ∧ S s = true ∧ Conn l e.2 s) := by
  have he := hl e (List.mem_cons_self ..)
  obtain ⟨s, h1, h2, h3⟩ := h e.1 he.1
  rcases h3.symm.first with h | h | h
  · exact .inl ⟨s, h1, h2, h.symm⟩
  · exact .inl ⟨s, h1, h2, h.symm⟩
  · exact .inr ⟨s, h1, h2, h.symm⟩
theorem Spans.count {n : Nat} : ∀ {l : List Wr} {S : Nat → Bool}, Wf n l → Spans n S l → n ≤ cntS n S + l.length
  | [], S, _, h => by
    rw [cnt_all fun v hv => by obtain ⟨s, _, h2, h3⟩ := h v hv; rw [h3.nil]; exact h2]
    omega
  | e :: l, S, hl, h => by
    rw [List.length_cons]
    rcases h.oneEnd hl with ha | hb
    · have := (h.drop hl ha).count hl.tail
      have := cnt_ins_le (S := S) (b := e.2) n
      omega
    · have h1 : n ≤ cntS n (ins S e.1) + l.length := (h.flip.drop hl.flip hb).count hl.tail
      have := cnt_ins_le (S := S) (b := e.1) n
      omega

/-- A forest in which each tree has just one of the roots. -/
def RF (n : Nat) (S : Nat → Bool) (l : List Wr) : Prop := cntS n S + l.length = n ∧ Spans n S l
theorem RF.perm {n : Nat} {S : Nat → Bool} {l l' : List Wr} (h : RF n S l) (p : l.Perm l') : RF n S l' :=
  ⟨by rw [← p.length_eq]; exact h.1, fun v hv => let ⟨s, h1, h2, h3⟩ := h.2 v hv; ⟨s, h1, h2, h3.mono fun _ he => p.subset he⟩⟩
theorem RF.flip {n : Nat} {S : Nat → Bool} {e : Wr} {l : List Wr} (h : RF n S (e :: l)) : RF n S ((e.2, e.1) :: l) := ⟨h.1, h.2.flip⟩
theorem RF.flip_iff {n : Nat} {S : Nat → Bool} {e : Wr} {l : List Wr} : RF n S (e :: l) ↔ RF n S ((e.2, e.1) :: l) := ⟨RF.flip, fun h => by have := h.flip; exact this⟩
theorem RF.grow {n : Nat} {S : Nat → Bool} {e : Wr} {l : List Wr} (hl : Wf n (e :: l)) (ha : S e.1 = true) (hb : S e.2 = false) : RF n S (e :: l) ↔ RF n (ins S e.2) l := by
  have he := hl e (List.mem_cons_self ..)
  unfold RF
  rw [cnt_ins hb he.2.1, List.length_cons]
  constructor
  · rintro ⟨h1, h2⟩
    exact ⟨by omega, h2.drop hl ⟨e.1, he.1, ha, .refl _⟩⟩
  · rintro ⟨h1, h2⟩
    refine ⟨by omega, fun v hv => ?_⟩
    obtain ⟨s, h3, h4, h5⟩ := h2 v hv
    rcases ins_iff.1 h4 with h4 | rfl
    · exact ⟨s, h3, h4, h5.cons⟩
    · exact ⟨e.1, he.1, ha, h5.cons.trans (Conn.head e l).symm⟩
theorem RF.grow' {n : Nat} {S : Nat → Bool} {e : Wr} {l : List Wr} (hl : Wf n (e :: l)) (ha : S e.2 = true) (hb : S e.1 = false) : RF n S (e :: l) ↔ RF n (ins S e.1) l :=
  RF.flip_iff.trans (RF.grow hl.flip ha hb)
theorem RF.shut {n : Nat} {S : Nat → Bool} {e : Wr} {l : List Wr} (hl : Wf n (e :: l)) (ha : S e.1 = true) (hb : S e.2 = true) : ¬ RF n S (e :: l) := fun h => by
  have he := hl e (List.mem_cons_self ..)
  have h1 := h.2.drop hl ⟨e.1, he.1, ha, .refl _⟩
  rw [ins_old hb] at h1
  have := h1.count hl.tail
  have := h.1
  rw [List.length_cons] at this
  omega
/-- Two roots are in different trees. -/
theorem RF.apart {n : Nat} {S : Nat → Bool} {l : List Wr} (hl : Wf n l) (h : RF n S l) {a b : Nat} (ha : S a = true) (hb : S b = true) (la : a < n) (lb : b < n) (hab : a ≠ b) : ¬ Conn l a b := fun c => by
  let T : Nat → Bool := fun v => S v && !decide (v = a)
  have hT : S = ins T a := by
    funext v
    unfold ins
    by_cases e : v = a
    · subst e; simp [ha]
    · simp [T, e]
  have hTa : T a = false := by simp [T]
  have h1 : Spans n T l := fun v hv => by
    obtain ⟨s, h1, h2, h3⟩ := h.2 v hv
    by_cases e : s = a
    · subst e; exact ⟨b, lb, by simp [T, hb, Ne.symm hab], h3.trans c⟩
    · exact ⟨s, h1, by simp [T, h2, e], h3⟩
  have h2 := h1.count hl
  have h3 := h.1
  rw [hT, cnt_ins hTa la] at h3
  omega
/-- Where no wire touches the roots no other vertex comes to them. -/
theorem Conn.off {S : Nat → Bool} {l : List Wr} (h : ∀ e ∈ l, S e.1 = false ∧ S e.2 = false) {u v : Nat} (c : Conn l u v) (hu : S u = false) : S v = false := by
  induction c with
  | refl => exact hu
  | step _ h2 ih =>
    rcases h2 with h2 | h2
    · exact (h _ h2).2
    · exact (h _ h2).1

/-! ### how many sets of wires have a property -/
open Classical in
noncomputable def cnt (P : List Wr → Prop) : List Wr → Nat
  | [] => if P [] then 1 else 0
  | e :: l => cnt P l + cnt (fun s => P (e :: s)) l
theorem cnt_iff : ∀ {l : List Wr} {P Q : List Wr → Prop}, (∀ s, s.Sublist l → (P s ↔ Q s)) → cnt P l = cnt Q l
  | [], P, Q, h => by
    have h0 := h [] (List.Sublist.refl _)
    unfold cnt
    by_cases hp : P []
    · rw [if_pos hp, if_pos (h0.1 hp)]
    · rw [if_neg hp, if_neg fun hq => hp (h0.2 hq)]
  | e :: l, P, Q, h => by
    unfold cnt
    rw [cnt_iff fun s hs => h s (hs.cons _), cnt_iff (P := fun s => P (e :: s)) (Q := fun s => Q (e :: s)) fun s hs => h _ (hs.cons_cons _)]
theorem cnt_false : ∀ {l : List Wr} {P : List Wr → Prop}, (∀ s, s.Sublist l → ¬ P s) → cnt P l = 0
  | [], P, h => by unfold cnt; rw [if_neg (h [] (List.Sublist.refl _))]
  | e :: l, P, h => by
    unfold cnt
    rw [cnt_false fun s hs => h s (hs.cons _), cnt_false (P := fun s => P (e :: s)) fun s hs => h _ (hs.cons_cons _)]
theorem cnt_mono : ∀ {l : List Wr} {P Q : List Wr → Prop}, (∀ s, s.Sublist l → P s → Q s) → cnt P l ≤ cnt Q l
  | [], P, Q, h => by
    unfold cnt
    have := h [] (List.Sublist.refl _)
    split
    · rw [if_pos (this (by assumption))]; exact Nat.le_refl _
    · omega
  | e :: l, P, Q, h => by
    unfold cnt
    have h1 := cnt_mono fun s hs => h s (hs.cons e)
    have h2 := cnt_mono (P := fun s => P (e :: s)) (Q := fun s => Q (e :: s)) fun s hs => h _ (hs.cons_cons e)
    omega
theorem cnt_or : ∀ {l : List Wr} {P Q : List Wr → Prop}, (∀ s, s.Sublist l → P s → ¬ Q s) → cnt (fun s => P s ∨ Q s) l = cnt P l + cnt Q l
  | [], P, Q, h => by
    unfold cnt
    have := h [] (List.Sublist.refl _)
    by_cases hp : P []
    · rw [if_pos (.inl hp), if_pos hp, if_neg (this hp)]
    · by_cases hq : Q []
      · rw [if_pos (.inr hq), if_neg hp, if_pos hq]
      · rw [if_neg (by simp [hp, hq]), if_neg hp, if_neg hq]
  | e :: l, P, Q, h => by
    unfold cnt
    rw [cnt_or fun s hs => h s (hs.cons e), cnt_or (P := fun s => P (e :: s)) (Q := fun s => Q (e :: s)) fun s hs => h _ (hs.cons_cons e)]
    omega
theorem cnt_perm {l l' : List Wr} (p : l.Perm l') : ∀ {P : List Wr → Prop}, (∀ s s', s.Perm s' → P s → P s') → cnt P l = cnt P l' := by
  induction p with
  | nil => intro P _; rfl
  | cons e _ ih =>
    intro P h
    unfold cnt
    rw [ih h, ih fun s s' p => h _ _ (p.cons e)]
  | swap a b l =>
    intro P h
    simp only [cnt]
    rw [cnt_iff (P := fun s => P (a :: b :: s)) (Q := fun s => P (b :: a :: s)) fun s _ => ⟨h _ _ (List.Perm.swap ..), h _ _ (List.Perm.swap ..)⟩]
    omega
  | trans _ _ ih1 ih2 => intro P h; rw [ih1 h, ih2 h]

/-! ### the Laplacian matrix -/
def ends (e : Wr) : Nat → Int := fun i => unit e.1 i - unit e.2 i
def lap : List Wr → Nat → Nat → Int
  | [], _, _ => 0
  | e :: l, i, j => lap l i j + ends e i * ends e j
theorem lap_perm {l l' : List Wr} (p : l.Perm l') : lap l = lap l' := by
  induction p with
  | nil => rfl
  | cons e _ ih => funext i j; simp only [lap, ih]
  | swap a b l => funext i j; simp only [lap]; omega
  | trans _ _ ih1 ih2 => rw [ih1, ih2]
theorem lap_symm (l : List Wr) (i j : Nat) : lap l i j = lap l j i := by
  induction l with
  | nil => rfl
  | cons e l ih => simp only [lap]; rw [ih, Int.mul_comm]
theorem ends_sum {n : Nat} {e : Wr} (x : Nat → Int) (h1 : e.1 < n) (h2 : e.2 < n) : sumN (fun j => ends e j * x j) n = x e.1 - x e.2 := by
  rw [sum_congr (g := fun j => unit e.1 j * x j - unit e.2 j * x j) fun j _ => by rw [ends, Int.sub_mul], sum_sub,
    sum_one (f := fun j => unit e.1 j * x j) h1 fun j _ h => by simp [unit, h], sum_one (f := fun j => unit e.2 j * x j) h2 fun j _ h => by simp [unit, h]]
  simp [unit]
theorem lap_sum {n : Nat} (x : Nat → Int) (i : Nat) : ∀ {l : List Wr}, Wf n l → sumN (fun j => lap l i j * x j) n = (l.map fun e => ends e i * (x e.1 - x e.2)).sum
  | [], _ => by simp only [lap, Int.zero_mul, List.map_nil, List.sum_nil]; exact sum_zero n
  | e :: l, h => by
    have he := h e (List.mem_cons_self ..)
    rw [sum_congr (g := fun j => lap l i j * x j + ends e i * (ends e j * x j)) fun j _ => by simp only [lap, Int.add_mul, Int.mul_assoc], sum_add, lap_sum x i h.tail, sum_mul, ends_sum x he.1 he.2.1,
      List.map_cons, List.sum_cons]
    omega
def MS (S : Nat → Bool) (l : List Wr) : Nat → Nat → Int := fun i j => if S j = true then unit j i else lap l i j
theorem MS_ins (S : Nat → Bool) (l : List Wr) (b : Nat) : setCol (MS S l) b (unit b) = MS (ins S b) l := by
  funext i j
  unfold setCol MS
  by_cases e : j = b
  · subst e; rw [if_pos rfl, ins_self, if_pos rfl]
  · have : ins S b j = S j := by simp [ins, e]
    rw [if_neg e, this]
theorem ends_off {e : Wr} {j : Nat} (h1 : j ≠ e.1) (h2 : j ≠ e.2) : ends e j = 0 := by simp [ends, unit, h1, h2]
theorem MS_shut {S : Nat → Bool} {e : Wr} {l : List Wr} (ha : S e.1 = true) (hb : S e.2 = true) : MS S (e :: l) = MS S l := by
  funext i j
  unfold MS
  split
  · rfl
  · rename_i h
    rw [lap, ends_off (j := j) (fun e1 => h (by rw [e1]; exact ha)) (fun e1 => h (by rw [e1]; exact hb))]; omega
theorem MS_grow {S : Nat → Bool} {e : Wr} {l : List Wr} (ha : S e.1 = true) (hb : S e.2 = false) : MS S (e :: l) = setCol (MS S l) e.2 fun i => MS S l i e.2 + (unit e.2 i + -1 * unit e.1 i) := by
  funext i j
  unfold MS setCol
  by_cases hj : j = e.2
  · rw [if_pos hj, hj, hb]
    simp only [Bool.false_eq_true, if_false, lap]
    have hne : e.2 ≠ e.1 := fun h => by rw [h, ha] at hb; cases hb
    have : ends e e.2 = -1 := by simp [ends, unit, hne]
    rw [this]; unfold ends; omega
  · rw [if_neg hj]
    show (if S j = true then unit j i else lap (e :: l) i j) = if S j = true then unit j i else lap l i j
    split
    · rfl
    · rename_i h
      rw [lap, ends_off (j := j) (fun e1 => h (by rw [e1]; exact ha)) hj]; omega
theorem det_grow {n : Nat} {S : Nat → Bool} {e : Wr} {l : List Wr} (h1 : e.1 < n) (h2 : e.2 < n) (ha : S e.1 = true) (hb : S e.2 = false) : det n (MS S (e :: l)) = det n (MS S l) + det n (MS (ins S e.2) l) := by
  have hne : e.2 ≠ e.1 := fun h => by rw [h, ha] at hb; cases hb
  rw [MS_grow ha hb, det_col_add _ _ _ h2, setCol_self]
  have e1 := det_addCol (n := n) (setCol (MS S l) e.2 (unit e.2)) (-1) (unit e.1) h2 h1 hne fun i _ => by
    unfold setCol MS; rw [if_neg (Ne.symm hne), ha]; simp
  rw [setCol_twice] at e1
  rw [← MS_ins S l e.2, ← e1]
  refine congrArg _ (congrArg _ (congrArg _ (funext fun i => ?_)))
  simp only [setCol, if_pos]
theorem MS_flip (S : Nat → Bool) (e : Wr) (l : List Wr) : MS S (e :: l) = MS S ((e.2, e.1) :: l) := by
  funext i j
  unfold MS
  simp only [lap, ends]
  split
  · rfl
  · grind
theorem det_unit : ∀ n, det n (fun i j => unit j i) = 1
  | 0 => rfl
  | n + 1 => by
    rw [det_col_first _ fun i _ => rfl, ← det_unit n]
    refine det_congr fun i j _ _ => ?_
    simp [unit]

theorem free_sum {n : Nat} {S : Nat → Bool} {l : List Wr} (hl : Wf n l) (h : ∀ e ∈ l, S e.1 = false ∧ S e.2 = false) (i : Nat) : sumN (fun j => lap l i j * if S j = true then 0 else 1) n = 0 := by
  rw [lap_sum _ _ hl]
  have : ∀ e ∈ l, ends e i * ((if S e.1 = true then 0 else 1) - (if S e.2 = true then 0 else 1)) = 0 := fun e he => by
    rw [(h e he).1, (h e he).2]; simp
  clear h hl
  induction l with
  | nil => rfl
  | cons e l ih => rw [List.map_cons, List.sum_cons, this e (List.mem_cons_self ..), ih fun e he => this e (List.mem_cons_of_mem _ he)]; rfl

theorem PI_RF (n : Nat) (S : Nat → Bool) : ∀ s s' : List Wr, s.Perm s' → RF n S s → RF n S s' := fun _ _ p h => h.perm p

/-- KIRCHHOFF: the determinant of the Laplacian without the roots counts the forests with the roots. -/
theorem kirchhoff {n : Nat} : ∀ (k : Nat) {l : List Wr} {S : Nat → Bool}, l.length = k → Wf n l → det n (MS S l) = (cnt (RF n S) l : Nat) := by
  intro k
  induction k with
  | zero =>
    intro l S hk hl
    obtain rfl : l = [] := List.length_eq_zero_iff.1 hk
    by_cases hS : ∀ v, v < n → S v = true
    · have h1 : RF n S [] := ⟨by rw [cnt_all hS]; rfl, fun v hv => ⟨v, hv, hS v hv, .refl _⟩⟩
      rw [det_congr (m' := fun i j => unit j i) fun i j _ hj => by unfold MS; rw [hS j hj]; rfl, det_unit]
      unfold cnt; rw [if_pos h1]; rfl
    · obtain ⟨v, hv⟩ := Classical.not_forall.1 hS
      obtain ⟨hv, hvS⟩ := Classical.not_imp.1 hv
      have hvS : S v = false := by simpa using hvS
      have h1 : ¬ RF n S [] := fun h => by
        obtain ⟨s, _, h2, h3⟩ := h.2 v hv
        rw [← h3.nil, hvS] at h2; cases h2
      unfold cnt; rw [if_neg h1]
      rw [show MS S [] = setCol (MS S []) v fun _ => 0 by
        funext i j
        simp only [setCol, MS]
        by_cases h : j = v
        · subst h; rw [if_pos rfl, hvS]; rfl
        · rw [if_neg h]]
      exact det_col_zero _ hv
  | succ k ih =>
    intro l S hk hl
    by_cases hx : ∃ e ∈ l, S e.1 = true ∨ S e.2 = true
    · obtain ⟨e, he, h⟩ := hx
      have p := List.perm_cons_erase he
      have hl' := hl.perm p.symm
      have hlen : (l.erase e).length = k := by have := p.length_eq; rw [List.length_cons] at this; omega
      have b := hl' e (List.mem_cons_self ..)
      have e0 : MS S l = MS S (e :: l.erase e) := by unfold MS; rw [lap_perm p]
      rw [e0, cnt_perm p (PI_RF n S)]
      generalize l.erase e = l' at *
      by_cases ha : S e.1 = true
      · by_cases hb : S e.2 = true
        · rw [MS_shut ha hb, ih hlen hl'.tail]
          unfold cnt
          rw [cnt_false (P := fun s => RF n S (e :: s)) fun s hs => RF.shut (hl'.sub (hs.cons_cons e)) ha hb]
          rw [Nat.add_zero]
          cases l' <;> rfl
        · have hb : S e.2 = false := by simpa using hb
          rw [det_grow b.1 b.2.1 ha hb, ih hlen hl'.tail, ih hlen hl'.tail]
          conv => rhs; unfold cnt
          rw [cnt_iff (P := fun s => RF n S (e :: s)) fun s hs => RF.grow (hl'.sub (hs.cons_cons e)) ha hb]
          omega
      · have ha : S e.1 = false := by simpa using ha
        have hb : S e.2 = true := by rcases h with h | h; (rw [ha] at h; cases h); exact h
        rw [MS_flip, det_grow (e := (e.2, e.1)) b.2.1 b.1 hb ha, ih hlen hl'.tail, ih hlen hl'.tail]
        conv => rhs; unfold cnt
        rw [cnt_iff (P := fun s => RF n S (e :: s)) fun s hs => RF.grow' (hl'.sub (hs.cons_cons e)) hb ha]
        dsimp only
        omega
    · have hoff : ∀ e ∈ l, S e.1 = false ∧ S e.2 = false := fun e he => by
        refine ⟨?_, ?_⟩
        · cases h : S e.1 with
          | false => rfl
          | true => exact absurd ⟨e, he, .inl h⟩ hx
        · cases h : S e.2 with
          | false => rfl
          | true => exact absurd ⟨e, he, .inr h⟩ hx
      obtain ⟨e, he⟩ : ∃ e, e ∈ l := by
        cases l with
        | nil => simp at hk
        | cons e l => exact ⟨e, List.mem_cons_self ..⟩
      have b := hl e he
      have hv := (hoff e he).1
      rw [cnt_false fun s hs h => by
        obtain ⟨r, _, h2, h3⟩ := h.2 e.1 b.1
        rw [h3.off (fun x hx => hoff x (hs.subset hx)) hv] at h2; cases h2]
      have h1 := det_combo (n := n) (MS S l) (c := e.1) (fun j => if S j = true then 0 else 1) b.1
      rw [hv] at h1
      simp only [Bool.false_eq_true, if_false, Int.one_mul] at h1
      rw [← h1]
      have h2 : (fun i => sumN (fun j => (if S j = true then 0 else 1) * MS S l i j) n) = fun _ => (0 : Int) := by
        funext i
        refine Eq.trans (sum_congr fun j _ => ?_) (free_sum hl hoff i)
        unfold MS
        split <;> simp
      rw [h2]
      exact det_col_zero _ b.1
theorem trees_det {n : Nat} {l : List Wr} {S : Nat → Bool} (hl : Wf n l) : det n (MS S l) = (cnt (RF n S) l : Nat) := kirchhoff _ rfl hl

end Go.Dt

/- Networks, plainly: potentials are numbers of forests; Kirchhoff's laws. No program. -/
namespace Go.Dt

theorem unit_rc {n : Nat} (m : Nat → Nat → Int) {r c : Nat} (hr : r < n) (hc : c < n) : det n (setCol m c (unit r)) = det n (setRow m r (unit c)) := by
  have e : setRow (setCol m c (unit r)) r (unit c) = tr (setRow (setCol (tr m) r (unit c)) c (unit r)) := by
    funext i j
    simp only [tr, setRow, setCol, unit]
    by_cases a : i = r
    · by_cases b : j = c
      · rw [if_pos a, if_pos a, if_pos b, if_pos b]
      · rw [if_pos a, if_neg b, if_neg b, if_pos a]
    · by_cases b : j = c
      · rw [if_neg a, if_pos b, if_pos b]
      · rw [if_neg a, if_neg b, if_neg b, if_neg a]
  rw [det_unit_both m hr hc, e, det_tr, ← det_unit_both (tr m) hc hr, det_setRow]

def one (t : Nat) : Nat → Bool := fun v => decide (v = t)
theorem one_self (t : Nat) : one t t = true := by simp [one]
theorem one_iff {t v : Nat} : one t v = true ↔ v = t := by simp [one]
theorem one_not {t v : Nat} (h : v ≠ t) : one t v = false := by simp [one, h]
theorem cnt_one {n t : Nat} (h : t < n) : cntS n (one t) = 1 := by
  have : one t = ins (fun _ => false) t := by funext v; simp [one, ins]
  rw [this, cnt_ins rfl h, cnt_none fun _ _ => rfl]

/-- Forests with the roots S and s in which v comes to s. -/
def RFv (n : Nat) (S : Nat → Bool) (s v : Nat) (l : List Wr) : Prop := RF n (ins S s) l ∧ Conn l v s
theorem PI_RFv (n : Nat) (S : Nat → Bool) (a b : Nat) : ∀ s s' : List Wr, s.Perm s' → RFv n S a b s → RFv n S a b s' := fun _ _ p h => ⟨h.1.perm p, h.2.mono fun _ he => p.subset he⟩

theorem RFv.flip {n : Nat} {S : Nat → Bool} {s v : Nat} {e : Wr} {l : List Wr} (h : RFv n S s v (e :: l)) : RFv n S s v ((e.2, e.1) :: l) := ⟨h.1.flip, h.2.flip⟩
theorem RFv.flip_iff {n : Nat} {S : Nat → Bool} {s v : Nat} {e : Wr} {l : List Wr} : RFv n S s v (e :: l) ↔ RFv n S s v ((e.2, e.1) :: l) := ⟨RFv.flip, fun h => by have := h.flip; exact this⟩
/-- A wire that leads out of S, to b. -/
theorem RFv.grow {n : Nat} {S : Nat → Bool} {s v : Nat} {e : Wr} {l : List Wr} (hl : Wf n (e :: l)) (hs : S s = false) (ls : s < n) (lv : v < n) (ha : S e.1 = true) (hb : S e.2 = false) (h1 : e.2 ≠ v) (h2 : e.2 ≠ s) :
    RFv n S s v (e :: l) ↔ RFv n (ins S e.2) s v l := by
  have he := hl e (List.mem_cons_self ..)
  have ha' : ins S s e.1 = true := ins_of ha
  have hb' : ins S s e.2 = false := by simp [ins, hb, h2]
  have hne : e.1 ≠ s := fun h => by rw [h, hs] at ha; cases ha
  unfold RFv
  rw [RF.grow hl ha' hb', ins_comm]
  constructor
  · rintro ⟨c1, c2⟩
    refine ⟨c1, ?_⟩
    have c3 : RF n (ins S s) (e :: l) := (RF.grow hl ha' hb').2 (by rw [ins_comm]; exact c1)
    rcases c2.first with h | h | h
    · exact h
    · exact absurd (h.symm.cons.trans c2) (c3.apart hl ha' (ins_self ..) he.1 ls hne)
    · exact absurd ((Conn.head e l).trans (h.symm.cons.trans c2)) (c3.apart hl ha' (ins_self ..) he.1 ls hne)
  · rintro ⟨c1, c2⟩
    exact ⟨c1, c2.cons⟩
theorem RFv.none {n : Nat} {S : Nat → Bool} {s v : Nat} {e : Wr} {l : List Wr} (hl : Wf n (e :: l)) (hs : S s = false) (ls : s < n) (ha : S e.1 = true) (h : e.2 = v ∨ e.2 = s) : ¬ RFv n S s v (e :: l) := fun ⟨c1, c2⟩ => by
  have he := hl e (List.mem_cons_self ..)
  have ha' : ins S s e.1 = true := ins_of ha
  have hne : e.1 ≠ s := fun h => by rw [h, hs] at ha; cases ha
  refine c1.apart hl ha' (ins_self ..) he.1 ls hne ?_
  rcases h with h | h
  · exact (Conn.head e l).trans (by rw [h]; exact c2)
  · exact h ▸ Conn.head e l

theorem allMinors_grow {n : Nat} {S : Nat → Bool} {s v : Nat} {e : Wr} {l : List Wr} (h1 : e.1 < n) (h2 : e.2 < n) (hv : S v = false) (ha : S e.1 = true) (hb : S e.2 = false) (hne2 : e.2 ≠ v) :
    det n (setCol (MS S (e :: l)) v (unit s)) = det n (setCol (MS S l) v (unit s)) + det n (setCol (MS (ins S e.2) l) v (unit s)) := by
  have hne : e.2 ≠ e.1 := fun h => by rw [h, ha] at hb; cases hb
  have hav : e.1 ≠ v := fun h => by rw [h, hv] at ha; cases ha
  rw [MS_grow ha hb, setCol_comm _ _ _ hne2, det_col_add _ _ _ h2, ← setCol_comm _ _ _ hne2, setCol_self]
  have e1 := det_addCol (n := n) (setCol (setCol (MS S l) v (unit s)) e.2 (unit e.2)) (-1) (unit e.1) h2 h1 hne fun i _ => by
    simp only [setCol, MS]; rw [if_neg (Ne.symm hne), if_neg hav, ha]; rfl
  rw [setCol_twice] at e1
  rw [← MS_ins S l e.2, setCol_comm _ _ _ hne2, ← e1]
  refine congrArg _ (congrArg _ (congrArg _ (funext fun i => ?_)))
  simp only [setCol, if_pos]

/-- The potentials: what Cramer's rule gives counts forests. -/
theorem allMinors {n : Nat} : ∀ (k : Nat) {l : List Wr} {S : Nat → Bool} {s v : Nat}, l.length = k → Wf n l → s < n → v < n → S s = false → S v = false →
    det n (setCol (MS S l) v (unit s)) = (cnt (RFv n S s v) l : Nat) := by
  intro k
  induction k with
  | zero =>
    intro l S s v hk hl ls lv hs hv
    obtain rfl : l = [] := List.length_eq_zero_iff.1 hk
    by_cases e : s = v
    · subst e
      rw [MS_ins, trees_det hl]
      refine congrArg _ (cnt_iff fun t _ => ⟨fun h => ⟨h, .refl _⟩, fun h => h.1⟩)
    · rw [cnt_false fun t ht h => by
        obtain rfl := List.sublist_nil.1 ht
        exact e h.2.nil.symm]
      rw [show setCol (MS S []) v (unit s) = setCol (setCol (MS S []) v (unit s)) s fun _ => 0 by
        funext i j
        simp only [setCol, MS]
        by_cases h : j = s
        · subst h; rw [if_neg e, if_pos rfl, hs]; rfl
        · rw [if_neg h]]
      exact det_col_zero _ ls
  | succ k ih =>
    intro l S s v hk hl ls lv hs hv
    by_cases hx : ∃ e ∈ l, S e.1 = true ∨ S e.2 = true
    · obtain ⟨e, he, h⟩ := hx
      have p := List.perm_cons_erase he
      have hl' := hl.perm p.symm
      have hlen : (l.erase e).length = k := by have := p.length_eq; rw [List.length_cons] at this; omega
      have b := hl' e (List.mem_cons_self ..)
      have e0 : MS S l = MS S (e :: l.erase e) := by unfold MS; rw [lap_perm p]
      rw [e0, cnt_perm p (PI_RFv n S s v)]
      generalize l.erase e = l' at *
      by_cases ha : S e.1 = true
      · by_cases hb : S e.2 = true
        · rw [MS_shut ha hb, ih hlen hl'.tail ls lv hs hv]
          conv => rhs; unfold cnt
          rw [cnt_false (P := fun t => RFv n S s v (e :: t)) fun t ht h => RF.shut (hl'.sub (ht.cons_cons e)) (ins_of ha) (ins_of hb) h.1]
          rfl
        · have hb : S e.2 = false := by simpa using hb
          conv => rhs; unfold cnt
          by_cases h1 : e.2 = v
          · rw [cnt_false (P := fun t => RFv n S s v (e :: t)) fun t ht => RFv.none (hl'.sub (ht.cons_cons e)) hs ls ha (.inl h1)]
            have : setCol (MS S (e :: l')) v (unit s) = setCol (MS S l') v (unit s) := by
              rw [MS_grow ha hb, h1, setCol_twice]
            rw [this, ih hlen hl'.tail ls lv hs hv]; rfl
          · rw [allMinors_grow b.1 b.2.1 hv ha hb h1, ih hlen hl'.tail ls lv hs hv]
            by_cases h2 : e.2 = s
            · rw [cnt_false (P := fun t => RFv n S s v (e :: t)) fun t ht => RFv.none (hl'.sub (ht.cons_cons e)) hs ls ha (.inr h2)]
              rw [det_same (c := e.2) (d := v) (setCol (MS (ins S e.2) l') v (unit s)) b.2.1 lv h1 fun i _ => by
                simp only [setCol, MS, if_neg h1, ins_self, if_true, h2]; exact (ite_self _)]
              rfl
            · rw [ih hlen hl'.tail ls lv (by simp [ins, hs, Ne.symm h2]) (by simp [ins, hv, Ne.symm h1])]
              rw [cnt_iff (P := fun t => RFv n S s v (e :: t)) fun t ht => RFv.grow (hl'.sub (ht.cons_cons e)) hs ls lv ha hb h1 h2]
              omega
      · have ha : S e.1 = false := by simpa using ha
        have hb : S e.2 = true := by rcases h with h | h; (rw [ha] at h; cases h); exact h
        rw [MS_flip]
        conv => rhs; unfold cnt
        rw [cnt_iff (P := fun t => RFv n S s v (e :: t)) fun t _ => RFv.flip_iff]
        have hf := hl'.flip
        by_cases h1 : e.1 = v
        · rw [cnt_false (P := fun t => RFv n S s v ((e.2, e.1) :: t)) fun t ht => RFv.none (hf.sub (ht.cons_cons _)) hs ls hb (.inl h1)]
          have : setCol (MS S ((e.2, e.1) :: l')) v (unit s) = setCol (MS S l') v (unit s) := by
            rw [MS_grow (e := (e.2, e.1)) hb ha]
            dsimp only
            rw [h1, setCol_twice]
          rw [this, ih hlen hl'.tail ls lv hs hv]; rfl
        · rw [allMinors_grow (e := (e.2, e.1)) b.2.1 b.1 hv hb ha h1, ih hlen hl'.tail ls lv hs hv]
          dsimp only
          by_cases h2 : e.1 = s
          · rw [cnt_false (P := fun t => RFv n S s v ((e.2, e.1) :: t)) fun t ht => RFv.none (hf.sub (ht.cons_cons _)) hs ls hb (.inr h2)]
            rw [det_same (c := e.1) (d := v) (setCol (MS (ins S e.1) l') v (unit s)) b.1 lv h1 fun i _ => by
              simp only [setCol, MS, if_neg h1, ins_self, if_true, h2]; exact (ite_self _)]
            rfl
          · rw [ih hlen hl'.tail ls lv (by simp [ins, hs, Ne.symm h2]) (by simp [ins, hv, Ne.symm h1])]
            rw [cnt_iff (P := fun t => RFv n S s v ((e.2, e.1) :: t)) fun t ht => RFv.grow (e := (e.2, e.1)) (hf.sub (ht.cons_cons _)) hs ls lv hb ha h1 h2]
            dsimp only
            omega
    · have hoff : ∀ e ∈ l, S e.1 = false ∧ S e.2 = false := fun e he => by
        refine ⟨?_, ?_⟩
        · cases h : S e.1 with
          | false => rfl
          | true => exact absurd ⟨e, he, .inl h⟩ hx
        · cases h : S e.2 with
          | false => rfl
          | true => exact absurd ⟨e, he, .inr h⟩ hx
      have hc : cnt (RFv n S s v) l = cnt (RF n (ins S s)) l := cnt_iff fun t ht => ⟨fun h => h.1, fun h => ⟨h, by
        obtain ⟨r, _, h2, h3⟩ := h.2 v lv
        have h4 := h3.off (fun x hx => hoff x (ht.subset hx)) hv
        rcases ins_iff.1 h2 with h2 | rfl
        · rw [h4] at h2; cases h2
        · exact h3⟩⟩
      rw [hc, ← trees_det hl, ← MS_ins]
      by_cases e : v = s
      · rw [e]
      · -- the columns outside S sum to nothing
        have h1 := det_combo (n := n) (setCol (MS S l) v (unit s)) (c := s) (fun j => if S j = true ∨ j = v then 0 else 1) ls
        rw [if_neg (by rw [hs]; simp [Ne.symm e]), Int.one_mul] at h1
        have h2 : (fun i => sumN (fun j => (if S j = true ∨ j = v then 0 else 1) * setCol (MS S l) v (unit s) i j) n) = fun i => -1 * MS S l i v := by
          funext i
          have h3 := free_sum hl hoff i
          have h4 : sumN (fun j => lap l i j * if S j = true then 0 else 1) n = sumN (fun j => (if S j = true ∨ j = v then 0 else 1) * setCol (MS S l) v (unit s) i j) n + sumN (fun j => if j = v then MS S l i v else 0) n := by
            rw [← sum_add]
            refine sum_congr fun j _ => ?_
            simp only [setCol, MS]
            by_cases a : j = v
            · subst a; simp [hv]
            · cases hj : S j <;> simp [a]
          rw [sum_one (f := fun j => if j = v then MS S l i v else 0) lv fun j _ hj => if_neg hj, if_pos rfl] at h4
          omega
        rw [h2, det_col_mul _ _ _ ls, det_exchange _ _ _ lv ls e, setCol_self] at h1
        omega

theorem lap_tot {n : Nat} {l : List Wr} (hl : Wf n l) (j : Nat) : sumN (fun i => lap l i j) n = 0 := by
  have h := lap_sum (n := n) (fun _ => 1) j hl
  rw [sum_congr (g := fun i => lap l j i * 1) fun i _ => by rw [lap_symm, Int.mul_one], h]
  induction l with
  | nil => rfl
  | cons e l ih =>
    rw [List.map_cons, List.sum_cons, ih hl.tail (lap_sum _ _ hl.tail)]; simp

/-- Spanning trees; those with two vertices as roots; the potential of v when what leaves s for t is the number of trees. -/
noncomputable def trees (n : Nat) (l : List Wr) : Nat := cnt (RF n (one 0)) l
noncomputable def volt (n : Nat) (l : List Wr) (s t : Nat) : Nat := cnt (RF n (ins (one t) s)) l
noncomputable def pot (n : Nat) (l : List Wr) (s t v : Nat) : Nat := if v = t then 0 else cnt (RFv n (one t) s v) l

theorem RF_one {n : Nat} {l : List Wr} {a b : Nat} (ha : a < n) (hb : b < n) (h : RF n (one a) l) : RF n (one b) l := by
  refine ⟨by have := h.1; rw [cnt_one ha] at this; rw [cnt_one hb]; exact this, fun v hv => ⟨b, hb, one_self b, ?_⟩⟩
  have f : ∀ x, x < n → Conn l x a := fun x hx => by
    obtain ⟨s, _, h2, h3⟩ := h.2 x hx
    rwa [one_iff.1 h2] at h3
  exact (f v hv).trans (f b hb).symm
theorem trees_at {n : Nat} {l : List Wr} {t : Nat} (ht : t < n) : cnt (RF n (one t)) l = trees n l :=
  cnt_iff fun _ _ => ⟨RF_one ht (by omega), RF_one (by omega) ht⟩
theorem det_trees {n : Nat} {l : List Wr} {t : Nat} (hl : Wf n l) (ht : t < n) : det n (MS (one t) l) = trees n l := by
  rw [trees_det hl, trees_at ht]
theorem det_volt {n : Nat} {l : List Wr} {s t : Nat} (hl : Wf n l) : det n (MS (ins (one t) s) l) = volt n l s t := trees_det hl
theorem det_pot {n : Nat} {l : List Wr} {s t v : Nat} (hl : Wf n l) (ls : s < n) (lv : v < n) (hst : s ≠ t) (hv : v ≠ t) : det n (setCol (MS (one t) l) v (unit s)) = pot n l s t v := by
  rw [allMinors _ rfl hl ls lv (one_not hst) (one_not hv)]
  unfold pot; rw [if_neg hv]
theorem pot_s {n : Nat} {l : List Wr} {s t : Nat} (hst : s ≠ t) : pot n l s t s = volt n l s t := by
  unfold pot volt
  rw [if_neg hst]
  exact cnt_iff fun _ _ => ⟨fun h => h.1, fun h => ⟨h, .refl _⟩⟩
theorem pot_t {n : Nat} {l : List Wr} {s t : Nat} : pot n l s t t = 0 := if_pos rfl
theorem pot_le {n : Nat} {l : List Wr} {s t v : Nat} : pot n l s t v ≤ volt n l s t := by
  unfold pot volt
  split
  · omega
  · exact cnt_mono fun _ _ h => h.1

/-- KIRCHHOFF'S LAW of currents, in potentials. -/
theorem pot_lap {n : Nat} {l : List Wr} {s t : Nat} (hl : Wf n l) (ls : s < n) (lt : t < n) (hst : s ≠ t) {i : Nat} (hi : i < n) :
    sumN (fun j => lap l i j * pot n l s t j) n = trees n l * (unit s i - unit t i) := by
  have main : ∀ i, i < n → i ≠ t → sumN (fun j => lap l i j * pot n l s t j) n = trees n l * unit s i := fun i hi hit => by
    have h1 : sumN (fun j => lap l i j * pot n l s t j) n = sumN (fun j => MS (one t) l i j * det n (setRow (MS (one t) l) s (unit j))) n := by
      refine sum_congr fun j hj => ?_
      by_cases e : j = t
      · subst e
        have : MS (one j) l i j = 0 := by unfold MS; rw [one_self]; simp [unit, hit]
        rw [pot_t, this]; simp
      · rw [← unit_rc _ ls hj, det_pot hl ls hj hst e]
        unfold MS; rw [one_not e]; simp
    rw [h1, ← det_row_sum (MS (one t) l) (fun j => MS (one t) l i j) (fun j => unit j) ls]
    have h2 : det n (setRow (MS (one t) l) s fun k => sumN (fun j => MS (one t) l i j * unit j k) n) = det n (setRow (MS (one t) l) s (MS (one t) l i)) := by
      refine det_congr fun a b _ hb => ?_
      unfold setRow
      split
      · dsimp only
        rw [sum_one (c := b) hb fun j _ hj => by simp [unit, Ne.symm hj]]
        simp [unit]
      · rfl
    rw [h2]
    by_cases e : i = s
    · subst e; rw [setRow_self, det_trees hl lt]; simp [unit]
    · rw [det_row_same (r := s) (s := i) _ ls hi (Ne.symm e) fun k _ => by simp only [setRow, if_true, if_neg (Ne.symm e), if_neg e]]
      simp [unit, e]
  by_cases e : i = t
  · subst e
    have h3 : sumN (fun i => sumN (fun j => lap l i j * pot n l s i j) n) n = sumN (fun k => sumN (fun j => lap l k j * pot n l s k j) n) n := rfl
    have h4 : sumN (fun k => sumN (fun j => lap l k j * pot n l s i j) n) n = 0 := by
      rw [sum_swap]
      refine sum_none fun j _ => ?_
      rw [sum_congr (g := fun k => (pot n l s i j : Int) * lap l k j) fun k _ => Int.mul_comm .., sum_mul, lap_tot hl]; simp
    have h5 : ∀ k, k < n → sumN (fun j => lap l k j * pot n l s i j) n = (trees n l : Int) * unit s k + (if k = i then sumN (fun j => lap l i j * pot n l s i j) n else 0) := fun k hk => by
      by_cases a : k = i
      · subst a; simp [unit, Ne.symm hst]
      · rw [main k hk a, if_neg a]; omega
    rw [sum_congr h5, sum_add, sum_mul, sum_one (f := fun k => unit s k) ls fun k _ hk => by simp [unit, hk], sum_one (f := fun k => if k = i then sumN (fun j => lap l i j * pot n l s i j) n else 0) lt fun k _ hk => if_neg hk, if_pos rfl] at h4
    simp only [unit, if_pos, if_neg (Ne.symm hst)] at h4 ⊢
    omega
  · rw [main i hi e]
    simp [unit, e]

/-- Where there are trees, the potentials are what they are but for a constant. -/
theorem lap_const {n : Nat} {l : List Wr} {t : Nat} (hl : Wf n l) (lt : t < n) (h0 : trees n l ≠ 0) {z : Nat → Int} (h : ∀ i, i < n → sumN (fun j => lap l i j * z j) n = 0) {v : Nat} (hv : v < n) : z v = z t := by
  by_cases e : v = t
  · rw [e]
  have h1 := det_combo (n := n) (MS (one t) l) (c := v) (fun j => z j - z t) hv
  have h2 : det n (setCol (MS (one t) l) v fun i => sumN (fun j => (z j - z t) * MS (one t) l i j) n) = 0 := by
    rw [det_congr (m' := setCol (MS (one t) l) v fun _ => 0) fun i j hi hj => ?_]
    · exact det_col_zero _ hv
    · unfold setCol
      split
      · dsimp only
        have h3 : sumN (fun j => (z j - z t) * MS (one t) l i j) n = sumN (fun j => lap l i j * z j) n - z t * sumN (fun j => lap l i j) n := by
          rw [← sum_mul, ← sum_sub]
          refine sum_congr fun j _ => ?_
          unfold MS
          by_cases a : j = t
          · subst a; simp; rw [Int.mul_comm]; omega
          · rw [one_not a]; simp only [Bool.false_eq_true, if_false]; grind
        rw [h3, h i hi, sum_congr (g := fun j => lap l j i) fun j _ => lap_symm .., lap_tot hl]; simp
      · rfl
  rw [h2, det_trees hl lt] at h1
  have := Int.mul_eq_zero.1 h1.symm
  omega

/-- Forests with both roots: a vertex comes to one of them. -/
theorem pot_turn {n : Nat} {l : List Wr} {s t v : Nat} (hl : Wf n l) (ls : s < n) (lt : t < n) (hst : s ≠ t) (lv : v < n) : pot n l s t v + pot n l t s v = volt n l s t := by
  have e : ins (one s) t = ins (one t) s := by funext x; simp only [ins, one, Bool.or_comm]
  unfold pot volt
  by_cases h1 : v = t
  · subst h1
    rw [if_pos rfl, if_neg (Ne.symm hst), Nat.zero_add]
    exact cnt_iff fun x _ => ⟨fun h => by rw [← e]; exact h.1, fun h => ⟨by rw [e]; exact h, .refl _⟩⟩
  by_cases h2 : v = s
  · subst h2
    rw [if_pos rfl, if_neg hst, Nat.add_zero]
    exact cnt_iff fun x _ => ⟨fun h => h.1, fun h => ⟨h, .refl _⟩⟩
  rw [if_neg h1, if_neg h2, ← cnt_or fun x hx a b => ?_]
  · refine cnt_iff fun x _ => ⟨?_, fun h => ?_⟩
    · rintro (h | h)
      · exact h.1
      · rw [← e]; exact h.1
    · obtain ⟨r, _, r2, r3⟩ := h.2 v lv
      rcases ins_iff.1 r2 with r2 | rfl
      · obtain rfl := one_iff.1 r2; exact .inr ⟨by rw [e]; exact h, r3⟩
      · exact .inl ⟨h, r3⟩
  · exact a.1.apart (hl.sub hx) (a := s) (b := t) (ins_self ..) (ins_of (one_self t)) ls lt hst (a.2.symm.trans b.2)
theorem volt_comm {n : Nat} {l : List Wr} {s t : Nat} : volt n l s t = volt n l t s := by
  unfold volt
  rw [show ins (one t) s = ins (one s) t by funext x; simp only [ins, one, Bool.or_comm]]

/-- x^T L y as a sum over wires -/
theorem lap_form {n : Nat} (x y : Nat → Int) {l : List Wr} (hl : Wf n l) : sumN (fun i => x i * sumN (fun j => lap l i j * y j) n) n = (l.map fun e => (x e.1 - x e.2) * (y e.1 - y e.2)).sum := by
  induction l with
  | nil =>
    rw [List.map_nil, List.sum_nil]
    refine sum_none fun i _ => ?_
    rw [sum_none fun j _ => by simp [lap]]; simp
  | cons e l ih =>
    have he := hl e (List.mem_cons_self ..)
    rw [List.map_cons, List.sum_cons, ← ih hl.tail]
    have h1 : ∀ i, i < n → x i * sumN (fun j => lap (e :: l) i j * y j) n = x i * sumN (fun j => lap l i j * y j) n + (y e.1 - y e.2) * (ends e i * x i) := fun i _ => by
      rw [sum_congr (g := fun j => lap l i j * y j + ends e i * (ends e j * y j)) fun j _ => by simp only [lap, Int.add_mul, Int.mul_assoc], sum_add, sum_mul, ends_sum y he.1 he.2.1]
      grind
    rw [sum_congr h1, sum_add, sum_mul, ends_sum x he.1 he.2.1]
    grind
/-- THE POWER. -/
theorem pot_power {n : Nat} {l : List Wr} {s t : Nat} (hl : Wf n l) (ls : s < n) (lt : t < n) (hst : s ≠ t) :
    (l.map fun e => ((pot n l s t e.1 : Int) - pot n l s t e.2) * ((pot n l s t e.1 : Int) - pot n l s t e.2)).sum = trees n l * volt n l s t := by
  rw [← lap_form (fun v => (pot n l s t v : Int)) (fun v => (pot n l s t v : Int)) hl]
  rw [sum_congr (g := fun i => (trees n l : Int) * (unit s i * pot n l s t i - unit t i * pot n l s t i)) fun i hi => by rw [pot_lap hl ls lt hst hi]; grind]
  rw [sum_mul, sum_sub, sum_one (f := fun i => unit s i * (pot n l s t i : Int)) ls fun i _ h => by simp [unit, h], sum_one (f := fun i => unit t i * (pot n l s t i : Int)) lt fun i _ h => by simp [unit, h]]
  simp [unit, pot_s hst, pot_t]

end Go.Dt
