/- Texts of my own, merged by program: Xs Xt Gh. -/
import Derived.Test.YtkdcldbedbagjaaDoorM22
import Derived.Test.YtkdcldbedbagjaaDoorM20
import Derived.Test.YtkdcldbedbagjaaDoorM13
set_option linter.all false
/- The trees of the merged network. -/
namespace Go.Proofs.YtkdcldbedbagjaaDoor
open Go.Lf Go.RowKit Go.Dt

theorem ren_lt {n s t v : Nat} (hs : s < n) (ht : t < n) (hst : s ≠ t) (hv : v < n) : ren n s t v < n - 1 := by
  unfold ren
  split <;> split at * <;> omega
theorem ren_st {n s t : Nat} (hst : s ≠ t) : ren n s t t = ren n s t s := by
  unfold ren
  rw [if_pos rfl, if_neg hst]
theorem ren_onto {n s t y : Nat} (hs : s < n) (ht : t < n) (hst : s ≠ t) (hy : y < n - 1) : ∃ v, v < n ∧ ren n s t v = y := by
  by_cases h : y = t
  · subst h
    by_cases h2 : s = n - 1
    · exact ⟨s, hs, by unfold ren; rw [if_neg hst, if_pos ⟨h2, by omega⟩]⟩
    · exact ⟨n - 1, by omega, by unfold ren; rw [if_neg (show ¬ n - 1 = y by omega), if_pos ⟨rfl, by omega⟩]⟩
  · exact ⟨y, by omega, by unfold ren; rw [if_neg h, if_neg (by omega)]⟩
theorem ren_inj {n s t a b : Nat} (hs : s < n) (ht : t < n) (hst : s ≠ t) (ha : a < n) (hb : b < n) (h : ren n s t a = ren n s t b) : a = b ∨ ((a = s ∨ a = t) ∧ (b = s ∨ b = t)) := by
  unfold ren at h
  by_cases h1 : a = t <;> by_cases h2 : b = t
  · omega
  · rw [if_pos h1, if_neg h2] at h
    split at h <;> split at h <;> omega
  · rw [if_neg h1, if_pos h2] at h
    split at h <;> split at h <;> omega
  · rw [if_neg h1, if_neg h2] at h
    split at h <;> split at h <;> omega

/-- The voltage is the number of trees of the merged network. -/
theorem merg_volt {n s t : Nat} {ws : List Wr} (hN : Wf n ws) (hn : 2 ≤ n) (hs : s < n) (ht : t < n) (hst : s ≠ t) : trees (n - 1) (mergW n s t ws) = volt n ws s t := by
  have hm : mergW n s t ws = (ws.filter fun e => !decide (ren n s t e.1 = ren n s t e.2)).map fun e => (ren n s t e.1, ren n s t e.2) := by
    unfold mergW
    rw [List.filter_map]
    rfl
  have hr := ren_lt hs ht hst hs
  rw [← trees_at hr, hm]
  unfold volt
  refine (cnt_through (fun x hx _ => RF_merge hn hs ht hst (hN.sub hx) (fun v hv => ren_lt hs ht hst hv) (fun y hy => ren_onto hs ht hst hy) (ren_st hst) fun a b ha hb h => ren_inj hs ht hst ha hb h) fun x hx hrf e he => ?_).symm
  refine Classical.byContradiction fun hk => ?_
  have hk' : ren n s t e.1 = ren n s t e.2 := by simpa using hk
  have hw := hN.sub hx
  have hwe := hw e he
  have hp : x.Perm (e :: x.erase e) := List.perm_cons_erase he
  have hrf2 := hrf.perm hp
  rcases ren_inj hs ht hst hwe.1 hwe.2.1 hk' with h | ⟨h1, h2⟩
  · exact hwe.2.2 h
  · refine RF.shut (fun z hz => hw z (hp.symm.subset hz)) ?_ ?_ hrf2
    · rcases h1 with h1 | h1
      · rw [h1]; exact ins_self _ _
      · rw [h1]; exact ins_of (one_self t)
    · rcases h2 with h2 | h2
      · rw [h2]; exact ins_self _ _
      · rw [h2]; exact ins_of (one_self t)

theorem mergW_wf {n s t : Nat} {ws : List Wr} (hN : Wf n ws) (hs : s < n) (ht : t < n) (hst : s ≠ t) : Wf (n - 1) (mergW n s t ws) := fun e he => by
  unfold mergW at he
  obtain ⟨h1, h2⟩ := List.mem_filter.1 he
  obtain ⟨f, hf, rfl⟩ := List.mem_map.1 h1
  have hw := hN f hf
  exact ⟨ren_lt hs ht hst hw.1, ren_lt hs ht hst hw.2.1, by simpa using h2⟩

end Go.Proofs.YtkdcldbedbagjaaDoor

/- Contract of the reference: Merged. -/
namespace Go.Proofs.YtkdcldbedbagjaaDoor
open Go.Lf Go.RowKit Go.Dt

theorem cnt_nil : ∀ {l : List Wr} {P : List Wr → Prop}, (∀ s, s.Sublist l → (P s ↔ s = [])) → cnt P l = 1
  | [], P, h => by unfold cnt; rw [if_pos ((h [] (List.Sublist.refl _)).2 rfl)]
  | e :: l, P, h => by
    show cnt P l + cnt (fun s => P (e :: s)) l = 1
    rw [cnt_nil fun s hs => h s (hs.cons _), cnt_false fun s hs hp => by have := (h (e :: s) (hs.cons_cons _)).1 hp; cases this]

theorem volt_two {s t : Nat} {ws : List Wr} (hs : s < 2) (ht : t < 2) (hst : s ≠ t) : volt 2 ws s t = 1 := by
  have c2 : cntS 2 (ins (Dt.one t) s) = 2 := by rw [cnt_ins (one_not hst) hs, cnt_one ht]
  unfold volt
  refine cnt_nil fun x hx => ⟨fun h => ?_, fun h => ?_⟩
  · have := h.1
    rw [c2] at this
    exact List.length_eq_zero_iff.1 (by omega)
  · subst h
    refine ⟨by rw [c2]; rfl, fun v hv => ⟨v, hv, ?_, .refl _⟩⟩
    rw [ins_iff, one_iff]; omega

theorem zW_nat {w : World} {v : Value} {l : List Wr} (h : RdW w v (zW l)) : Rd 2 wN w v l := by
  have e : (zW l).map natW = l := by
    unfold zW
    rw [List.map_map]
    exact (List.map_congr_left fun e _ => rfl).trans (List.map_id l)
  have := RdW.nat h fun e he => by
    obtain ⟨f, _, rfl⟩ := List.mem_map.1 he
    simp [wN, wC, natW]
  rwa [e] at this

set_option maxRecDepth 100000 in
theorem rMerged_calls {v : Value} {L : List (Int × Int)} {n s t : Int} (w : World) (hr : RdW w v L) : Calls Tryd.prog 27 #[.int .i64 n, v, .int .i64 s, .int .i64 t] w fun e w' => Kp w w' ∧ e = .returned (.tuple #[.int .i64 (mergedV n L s t), .int .i64 (endErr n L s t)]) := by
  refine lift27 ?_
  unfold S27
  refine r_use fok31 (ends_calls (n := n) (s := s) (t := t) w hr) rfl ?_
  rintro _ w1 ⟨rfl, k1⟩
  refine ⟨_, rfl, ?_⟩
  rw [r_neq]
  by_cases h0 : endErr n L s t = 0
  case neg =>
    have hM : mergedV n L s t = 0 := if_neg h0
    rw [decide_eq_false h0, Bool.not_false, r_condT, hM]
    exact ⟨k1, rfl⟩
  obtain ⟨h1, S, T, rfl, rfl, hS, hT, hST⟩ := end_ok h0
  obtain ⟨N, rfl, hN, hb⟩ := net_ok h1
  have hM : mergedV N L S T = volt N (L.map natW) S T := by unfold mergedV; rw [if_pos h0]; rfl
  have h2 := hN.two
  have h8 := hN.most
  rw [decide_eq_true h0, Bool.not_true, r_condF, hM, h0, r_eql]
  by_cases hn2 : N = 2
  · subst hn2
    have e : decide (((2 : Nat) : Int) = 2) = true := rfl
    rw [e, r_condT, volt_two (by omega) (by omega) hST]
    exact ⟨k1, rfl⟩
  have hn2' : ¬ (N : Int) = 2 := by omega
  rw [decide_eq_false hn2', r_condF]
  have e1 : (N : Int) - 1 = ((N - 1 : Nat) : Int) := by omega
  rw [r_sub _ _ (by omega) (by omega), e1]
  refine r_use fok60 (rmerged_calls (s := S) (t := T) w1 hN (RdW.nat (hr.kp k1) hb)) rfl ?_
  rintro _ w2 ⟨k2, v2, rfl, hI⟩
  refine ⟨_, rfl, ?_⟩
  have hml := mergW_len N S T (L.map natW)
  have hfew := hN.few
  refine r_use fok59 (forests_calls (n := N - 1) w2 (mergW_wf hN.wf (by omega) (by omega) hST) (by omega) (by omega) (by omega) (zW_nat (RecAt.rd wC_len hI))) rfl ?_
  rintro _ w3 ⟨k3, v3, rfl, hF⟩
  refine ⟨_, rfl, ?_⟩
  obtain ⟨a, c, e, _⟩ := RecAt.len hF
  have hl : (natI (forL (N - 1) (mergW N S T (L.map natW)))).length = volt N (L.map natW) S T := by
    rw [← merg_volt hN.wf h2 (by omega) (by omega) hST, ← forL_len]; simp [natI]
  rw [e, hl]
  exact ⟨Kp.trans k1 (Kp.trans k2 k3), rfl⟩

end Go.Proofs.YtkdcldbedbagjaaDoor

/- The way through a tree, plainly: what goes over a wire, and the sum over all trees. No program. -/
namespace Go.Dt
open Classical

theorem pick_even (e : Wr) (l : List Wr) (m : Nat) : pick (e :: l) (2 * m) = pick l m := by
  unfold pick; rw [if_pos (by omega), show 2 * m / 2 = m by omega]; cases l <;> rfl
theorem pick_odd (e : Wr) (l : List Wr) (m : Nat) : pick (e :: l) (2 * m + 1) = e :: pick l m := by
  show (if (2 * m + 1) % 2 = 0 then pick l ((2 * m + 1) / 2) else e :: pick l ((2 * m + 1) / 2)) = _
  rw [if_neg (by omega), show (2 * m + 1) / 2 = m by omega]

/-- The wires whose bits are set, but for one of them. -/
def pickE : List Wr → Nat → Nat → List Wr
  | [], _, _ => []
  | _ :: l, 0, m => pick l (m / 2)
  | e :: l, i + 1, m => if m % 2 = 0 then pickE l i (m / 2) else e :: pickE l i (m / 2)
theorem pickE_perm : ∀ {l : List Wr} {i m : Nat} (h : i < l.length), m / 2 ^ i % 2 ≠ 0 → (pick l m).Perm (l[i] :: pickE l i m)
  | [], i, m, h, _ => absurd h (by simp)
  | e :: l, 0, m, _, hb => by
    have : ¬ m % 2 = 0 := by simpa using hb
    unfold pick pickE
    rw [if_neg this]
    exact List.Perm.refl _
  | e :: l, i + 1, m, h, hb => by
    have hb' : m / 2 / 2 ^ i % 2 ≠ 0 := by rw [Nat.div_div_eq_div_mul, show 2 * 2 ^ i = 2 ^ (i + 1) by rw [Nat.pow_succ]; omega]; exact hb
    have ih := pickE_perm (l := l) (i := i) (m := m / 2) (by simpa using h) hb'
    unfold pick pickE
    simp only [List.getElem_cons_succ]
    split
    · exact ih
    · exact (ih.cons e).trans (List.Perm.swap ..)
theorem pickE_cnt : ∀ {l : List Wr} {i : Nat} (_ : i < l.length) (R : List Wr → Prop), cF (fun m => decide (m / 2 ^ i % 2 ≠ 0) && decide (R (pickE l i m))) (2 ^ l.length) = cnt R (l.eraseIdx i)
  | [], i, h, _ => absurd h (by simp)
  | e :: l, 0, _, R => by
    rw [List.length_cons, Nat.pow_succ, Nat.mul_comm, cF_two, List.eraseIdx_cons_zero, ← pick_cnt l R]
    rw [cF_congr (g := fun _ => false) fun m _ => by
      have : ¬ (2 * m) / 2 ^ 0 % 2 ≠ 0 := by simp
      simp [this]]
    rw [show cF (fun _ => false) (2 ^ l.length) = 0 by simp [cF], Nat.zero_add]
    refine cF_congr fun m _ => ?_
    have h1 : (2 * m + 1) / 2 ^ 0 % 2 ≠ 0 := by simp
    have h2 : pickE (e :: l) 0 (2 * m + 1) = pick l m := by unfold pickE; rw [show (2 * m + 1) / 2 = m by omega]
    rw [h2]
    simp [h1]
  | e :: l, i + 1, h, R => by
    have h' : i < l.length := by simpa using h
    rw [List.length_cons, show 2 ^ (l.length + 1) = 2 * 2 ^ l.length by rw [Nat.pow_succ]; omega, cF_two, List.eraseIdx_cons_succ, cnt_cons, ← pickE_cnt h' R, ← pickE_cnt h' fun q => R (e :: q)]
    congr 1
    · refine cF_congr fun m _ => ?_
      have h1 : (2 * m) / 2 ^ (i + 1) = m / 2 ^ i := by rw [Nat.pow_succ, Nat.mul_comm (2 ^ i) 2, ← Nat.div_div_eq_div_mul]; congr 1; omega
      have h2 : pickE (e :: l) (i + 1) (2 * m) = pickE l i m := by
        show (if (2 * m) % 2 = 0 then pickE l i (2 * m / 2) else e :: pickE l i (2 * m / 2)) = _
        rw [if_pos (by omega), show 2 * m / 2 = m by omega]
      rw [h1, h2]
    · refine cF_congr fun m _ => ?_
      have h1 : (2 * m + 1) / 2 ^ (i + 1) = m / 2 ^ i := by rw [Nat.pow_succ, Nat.mul_comm (2 ^ i) 2, ← Nat.div_div_eq_div_mul]; congr 1; omega
      have h2 : pickE (e :: l) (i + 1) (2 * m + 1) = e :: pickE l i m := by
        show (if (2 * m + 1) % 2 = 0 then pickE l i ((2 * m + 1) / 2) else e :: pickE l i ((2 * m + 1) / 2)) = _
        rw [if_neg (by omega), show (2 * m + 1) / 2 = m by omega]
      rw [h1, h2]
theorem pick_mem : ∀ {l : List Wr} {m : Nat} {e : Wr}, e ∈ pick l m → ∃ i, ∃ h : i < l.length, m / 2 ^ i % 2 ≠ 0 ∧ l[i] = e
  | [], m, e, h => by simp [pick] at h
  | a :: l, m, e, h => by
    have deep : e ∈ pick l (m / 2) → ∃ i, ∃ h : i < (a :: l).length, m / 2 ^ i % 2 ≠ 0 ∧ (a :: l)[i] = e := fun h => by
      obtain ⟨i, hi, h1, h2⟩ := pick_mem h
      rw [Nat.div_div_eq_div_mul, show 2 * 2 ^ i = 2 ^ (i + 1) by rw [Nat.pow_succ]; omega] at h1
      exact ⟨i + 1, by simpa using hi, h1, by simpa using h2⟩
    unfold pick at h
    by_cases hm : m % 2 = 0
    · rw [if_pos hm] at h; exact deep h
    · rw [if_neg hm] at h
      rcases List.mem_cons.1 h with h | h
      · exact ⟨0, by simp, by simpa using hm, by simp [h]⟩
      · exact deep h
theorem pick_has : ∀ {l : List Wr} {m i : Nat} (h : i < l.length), m / 2 ^ i % 2 ≠ 0 → l[i] ∈ pick l m := fun h hb =>
  (pickE_perm h hb).symm.subset (List.mem_cons_self ..)
theorem pickE_has : ∀ {l : List Wr} {i j m : Nat} (h : j < l.length), m / 2 ^ j % 2 ≠ 0 → j ≠ i → l[j] ∈ pickE l i m
  | [], i, j, m, h, _, _ => absurd h (by simp)
  | a :: l, 0, j, m, h, hb, hj => by
    match j, hj with
    | j + 1, _ =>
      unfold pickE
      simp only [List.getElem_cons_succ]
      refine pick_has _ ?_
      rw [Nat.div_div_eq_div_mul, show 2 * 2 ^ j = 2 ^ (j + 1) by rw [Nat.pow_succ]; omega]; exact hb
  | a :: l, i + 1, 0, m, h, hb, hj => by
    have : ¬ m % 2 = 0 := by simpa using hb
    unfold pickE
    rw [if_neg this]
    exact List.mem_cons_self ..
  | a :: l, i + 1, j + 1, m, h, hb, hj => by
    have ih := pickE_has (l := l) (i := i) (j := j) (m := m / 2) (by simpa using h) (by rw [Nat.div_div_eq_div_mul, show 2 * 2 ^ j = 2 ^ (j + 1) by rw [Nat.pow_succ]; omega]; exact hb) (by omega)
    unfold pickE
    simp only [List.getElem_cons_succ]
    split
    · exact ih
    · exact List.mem_cons_of_mem _ ih

theorem RF_tree {n : Nat} {e : Wr} {q : List Wr} (hl : Wf n (e :: q)) : RF n (one 0) (e :: q) ↔ RF n (ins (one e.2) e.1) q := by
  have hw := hl e (List.mem_cons_self ..)
  rw [← RF.grow' hl (one_self _) (one_not hw.2.2)]
  exact ⟨RF_one (by omega) hw.2.1, RF_one hw.2.1 (by omega)⟩

/-- How many trees have a wire, and a vertex at the wire's first end when the wire is taken away. -/
theorem way_cnt {n i x : Nat} {l : List Wr} (hl : Wf n l) (hi : i < l.length) (hx : x < n) :
    cF (fun m => decide (RF n (one 0) (pick l m)) && (decide (m / 2 ^ i % 2 ≠ 0) && decide (Conn (pickE l i m) x l[i].1))) (2 ^ l.length) = pot n l l[i].1 l[i].2 x := by
  have hw := hl _ (List.getElem_mem hi)
  have hl' : Wf n (l[i] :: l.eraseIdx i) := fun x hx => hl x ((perm_at hi).symm.subset hx)
  obtain ⟨R, hR⟩ : ∃ R : List Wr → Prop, R = fun q => RF n (one 0) (l[i] :: q) ∧ Conn q x l[i].1 := ⟨_, rfl⟩
  have hRq : ∀ q, R q ↔ RF n (one 0) (l[i] :: q) ∧ Conn q x l[i].1 := fun q => by rw [hR]
  have e1 : cF (fun m => decide (RF n (one 0) (pick l m)) && (decide (m / 2 ^ i % 2 ≠ 0) && decide (Conn (pickE l i m) x l[i].1))) (2 ^ l.length) =
      cF (fun m => decide (m / 2 ^ i % 2 ≠ 0) && decide (R (pickE l i m))) (2 ^ l.length) := cF_congr fun m _ => by
    by_cases hb : m / 2 ^ i % 2 ≠ 0
    · have hp := pickE_perm hi hb
      have : RF n (one 0) (pick l m) ↔ RF n (one 0) (l[i] :: pickE l i m) := ⟨fun h => h.perm hp, fun h => h.perm hp.symm⟩
      have h2 := hRq (pickE l i m)
      simp [hb, this, h2]
    · simp [hb]
  rw [e1, pickE_cnt hi R]
  have e2 : cnt R (l.eraseIdx i) = cnt (RFv n (one l[i].2) l[i].1 x) (l.eraseIdx i) := cnt_iff fun q hq => by
    rw [hRq, RF_tree (fun y hy => hl' y ((hq.cons_cons _).subset hy))]
    exact Iff.rfl
  have e3 : cnt (RFv n (one l[i].2) l[i].1 x) (l.eraseIdx i) = cnt (RFv n (one l[i].2) l[i].1 x) l := by
    rw [cnt_perm (perm_at hi) (PI_RFv n _ _ _), cnt_cons, cnt_false (P := fun q => RFv n (one l[i].2) l[i].1 x (l[i] :: q)) fun q hq h => RF.shut (fun y hy => hl' y ((hq.cons_cons _).subset hy)) (ins_self _ _) (ins_of (one_self _)) h.1, Nat.add_zero]
  rw [e2, e3]
  unfold pot
  by_cases hB : x = l[i].2
  · rw [if_pos hB]
    exact cnt_false fun q hq h => h.1.apart (hl.sub hq) (a := l[i].2) (b := l[i].1) (ins_of (one_self _)) (ins_self _ _) hw.2.1 hw.1 (Ne.symm hw.2.2) (by rw [← hB]; exact h.2)
  · rw [if_neg hB]

/-- RECIPROCITY. -/
theorem recip {n s t a b : Nat} {l : List Wr} (hl : Wf n l) (hs : s < n) (ht : t < n) (hst : s ≠ t) (ha : a < n) (hb : b < n) (hab : a ≠ b) (h0 : trees n l ≠ 0) :
    (pot n l a b s : Int) - pot n l a b t = (pot n l s t a : Int) - pot n l s t b := by
  have h := lap_swap (n := n) (fun i => (pot n l s t i : Int)) (fun i => (pot n l a b i : Int)) hl
  rw [sum_congr (g := fun i => (pot n l s t i : Int) * ((trees n l : Int) * (unit a i - unit b i))) fun i hi => by rw [pot_lap hl ha hb hab hi],
    sum_ends ha hb, sum_congr (g := fun i => (pot n l a b i : Int) * ((trees n l : Int) * (unit s i - unit t i))) fun i hi => by rw [pot_lap hl hs ht hst hi], sum_ends hs ht] at h
  exact (Int.eq_of_mul_eq_mul_left (by omega) h).symm

noncomputable def wayV (l : List Wr) (m s t i : Nat) : Int :=
  (if (decide (m / 2 ^ i % 2 ≠ 0) && decide (Conn (pickE l i m) s (l.getD i (0, 0)).1)) = true then 1 else 0) - (if (decide (m / 2 ^ i % 2 ≠ 0) && decide (Conn (pickE l i m) t (l.getD i (0, 0)).1)) = true then 1 else 0)
theorem sum_cF {T c d : Nat → Bool} : ∀ k : Nat, (((List.range k).filter T).map fun m => (if c m = true then (1 : Int) else 0) - (if d m = true then 1 else 0)).sum = (cF (fun m => T m && c m) k : Int) - cF (fun m => T m && d m) k
  | 0 => rfl
  | k + 1 => by
    rw [List.range_succ, List.filter_append, List.map_append, List.sum_append, sum_cF k, cF_succ, cF_succ]
    cases hT : T k <;> cases hc : c k <;> cases hd : d k <;> simp [hT, hc, hd] <;> omega
theorem getD_at {α : Type} {l : List α} {i : Nat} {d : α} (h : i < l.length) : l.getD i d = l[i] := by simp [List.getD_eq_getElem?_getD, h]
/-- The sum of the ways of all trees is the flow. -/
theorem way_sum {n s t i : Nat} {l : List Wr} (hl : Wf n l) (hs : s < n) (ht : t < n) (hst : s ≠ t) (h0 : trees n l ≠ 0) (hi : i < l.length) :
    (((List.range (2 ^ l.length)).filter fun m => decide (RF n (one 0) (pick l m))).map fun m => wayV l m s t i).sum = (pot n l s t l[i].1 : Int) - pot n l s t l[i].2 := by
  have hw := hl _ (List.getElem_mem hi)
  unfold wayV
  rw [sum_cF, getD_at hi, way_cnt hl hi hs, way_cnt hl hi ht]
  exact recip hl hs ht hst hw.1 hw.2.1 hw.2.2 h0

theorem sumN_mul (f : Nat → Int) (c : Int) (n : Nat) : sumN (fun i => f i * c) n = sumN f n * c := by
  rw [show (fun i => f i * c) = fun i => c * f i from funext fun i => Int.mul_comm .., sum_mul, Int.mul_comm]
/-- What goes over the wires of a tree, from s to t, is one thing only. -/
theorem way_val {n m s t : Nat} {l : List Wr} {out : Nat → Int} (hl : Wf n l) (hT : RF n (one 0) (pick l m)) (hs : s < n) (ht : t < n) (hsup : ∀ j, j < l.length → m / 2 ^ j % 2 = 0 → out j = 0)
    (hdiv : ∀ x, x < n → sumN (fun j => out j * ends (l.getD j (0, 0)) x) l.length = unit s x - unit t x) {i : Nat} (hi : i < l.length) : out i = wayV l m s t i := by
  unfold wayV
  by_cases hb : m / 2 ^ i % 2 = 0
  · rw [hsup i hi hb]
    simp [hb]
  have hw := hl _ (List.getElem_mem hi)
  have hp := pickE_perm hi hb
  have hlq : Wf n (l[i] :: pickE l i m) := (hl.sub (pick_sub l m)).perm hp.symm
  have hRF := (RF_tree hlq).1 (hT.perm hp)
  let c : Nat → Int := fun x => if Conn (pickE l i m) x l[i].1 then 1 else 0
  have hc1 : ∀ x, Conn (pickE l i m) x l[i].1 → c x = 1 := fun x h => if_pos h
  have hc0 : ∀ x, ¬ Conn (pickE l i m) x l[i].1 → c x = 0 := fun x h => if_neg h
  have h1 : sumN (fun x => c x * sumN (fun j => out j * ends (l.getD j (0, 0)) x) l.length) n = c s - c t := by
    rw [sum_congr (g := fun x => c x * (1 * (unit s x - unit t x))) fun x hx => by rw [hdiv x hx, Int.one_mul], sum_ends hs ht, Int.one_mul]
  have h2 : sumN (fun x => c x * sumN (fun j => out j * ends (l.getD j (0, 0)) x) l.length) n = sumN (fun j => out j * (c (l.getD j (0, 0)).1 - c (l.getD j (0, 0)).2)) l.length := by
    rw [sum_congr (g := fun x => sumN (fun j => c x * (out j * ends (l.getD j (0, 0)) x)) l.length) fun x _ => (sum_mul ..).symm]
    rw [sum_swap (fun x j => c x * (out j * ends (l.getD j (0, 0)) x)) l.length n]
    refine sum_congr fun j hj => ?_
    have wj := hl _ (List.getElem_mem hj)
    rw [sum_congr (g := fun x => out j * (ends (l.getD j (0, 0)) x * c x)) fun x _ => by rw [← Int.mul_assoc, Int.mul_comm (c x), Int.mul_assoc, Int.mul_comm (c x)], sum_mul, ends_sum c (by rw [getD_at hj]; exact wj.1) (by rw [getD_at hj]; exact wj.2.1)]
  rw [sum_one (f := fun j => out j * (c (l.getD j (0, 0)).1 - c (l.getD j (0, 0)).2)) hi fun j hj hne => ?_] at h2
  · rw [h1, getD_at hi] at h2
    have a1 : c l[i].1 = 1 := hc1 _ (.refl _)
    have a2 : c l[i].2 = 0 := hc0 _ (hRF.apart hlq.tail (a := l[i].2) (b := l[i].1) (ins_of (one_self _)) (ins_self _ _) hw.2.1 hw.1 (Ne.symm hw.2.2))
    rw [a1, a2] at h2
    have h3 : out i = c s - c t := by omega
    rw [h3, getD_at hi]
    have tt : decide (m / 2 ^ i % 2 ≠ 0) = true := decide_eq_true hb
    rw [tt, Bool.true_and, Bool.true_and]
    simp only [decide_eq_true_eq]
    rfl
  · by_cases hbj : m / 2 ^ j % 2 = 0
    · rw [hsup j hj hbj, Int.zero_mul]
    · have hm := pickE_has (i := i) hj hbj hne
      rw [getD_at hj]
      have iff : Conn (pickE l i m) l[j].1 l[i].1 ↔ Conn (pickE l i m) l[j].2 l[i].1 := ⟨fun h => (Conn.one (.inr hm)).trans h, fun h => (Conn.one (.inl hm)).trans h⟩
      by_cases h : Conn (pickE l i m) l[j].1 l[i].1
      · rw [hc1 _ h, hc1 _ (iff.1 h)]; simp
      · rw [hc0 _ h, hc0 _ fun g => h (iff.2 g)]; simp

end Go.Dt
