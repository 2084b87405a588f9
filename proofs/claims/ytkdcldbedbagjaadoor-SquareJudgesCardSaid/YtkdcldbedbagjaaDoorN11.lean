/- Texts of my own, merged by program: Md Na Me. -/
import Derived.Test.YtkdcldbedbagjaaDoorN10
set_option linter.all false
/- Contracts: IndexFunc at levels, the level of a point, Network of the program. -/
namespace Go.Proofs.YtkdcldbedbagjaaDoor
open Go.Lf Go.RowKit Go.Dt

/-- The first one with a property, or -1. -/
def IsIdx (P : T3 → Bool) (V : List T3) (p : Int) : Prop := (∃ i : Nat, p = i ∧ i < V.length ∧ P (V.getD i (0, 0, 0)) = true ∧ ∀ j, j < i → P (V.getD j (0, 0, 0)) = false) ∨ (p = -1 ∧ ∀ j, j < V.length → P (V.getD j (0, 0, 0)) = false)

set_option maxRecDepth 100000 in
theorem idx_calls {v f : Value} {V : List T3} {P : T3 → Bool} (w : World) (hr : RdS w v V) (hl : V.length ≤ 1000) (hf : ∀ (l : T3) (w' : World) (K : Value → World → Prop), Kp w w' → (∀ w'', Kp w' w'' → K (.bool (P l)) w'') → callW Tryd.prog f [t3V l] w' K) :
    Calls Tryd.prog 48 #[v, f] w fun e w' => Kp w w' ∧ ∃ p, e = .returned (.int .i64 p) ∧ IsIdx P V p := by
  obtain ⟨a, cap, ev, _⟩ := hr.len
  have lnv : ∀ K : Value → Prop, ln1 v K = K (.int .i64 V.length) := fun K => by rw [ev]; rfl
  refine lift48 ?_
  unfold S48 S48L0
  rw [lnv]
  refine ⟨fun t8 wr => ∃ j : Nat, j ≤ V.length ∧ t8 = .int .i64 j ∧ (∀ i, i < j → P (V.getD i (0, 0, 0)) = false) ∧ Kp w wr, fun t8 _ => V.length - (intOf t8).toNat, ⟨0, by omega, rfl, fun i hi => by omega, Kp.refl _⟩, ?_⟩
  rintro _ _ wr ⟨j, hj, rfl, hz, kr⟩
  by_cases hlt : j < V.length
  case neg =>
    have hlt' : ¬ (j : Int) < (V.length : Int) := by omega
    simp only [r_lss, hlt', decide_false, r_condF]
    exact ⟨kr, _, rfl, .inr ⟨rfl, fun i hi => hz i (by omega)⟩⟩
  have hlt' : (j : Int) < (V.length : Int) := by omega
  simp only [r_lss, decide_eq_true hlt', r_condT]
  rw [tri_at (hr.kp kr) hlt]
  refine hf _ wr _ kr fun w2 k2 => ?_
  cases hb : P (V.getD j (0, 0, 0)) with
  | true =>
    rw [r_condT]
    exact ⟨Kp.trans kr k2, _, rfl, .inl ⟨j, rfl, hlt, hb, hz⟩⟩
  | false =>
    rw [r_condF, r_add _ _ (by omega) (by omega)]
    refine ⟨⟨j + 1, by omega, by go_num, fun i hi => ?_, Kp.trans kr k2⟩, by simp only [intOf]; omega⟩
    by_cases e : i = j
    · rw [e]; exact hb
    · exact hz i (by omega)

/-- Does a level go over a point? -/
def covB (y x : Int) (l : T3) : Bool := decide (l.1 = y ∧ l.2.1 ≤ x ∧ x ≤ l.2.2)
set_option maxRecDepth 100000 in
theorem cov_calls {l : T3} {y x : Int} {by_ bx : Nat} (w : World) (hy : w.cell? ⟨by_, 0, none⟩ = some (.int .i64 y)) (hx : w.cell? ⟨bx, 0, none⟩ = some (.int .i64 x)) : Calls Tryd.prog 49 #[t3V l, ptrV by_, ptrV bx] w fun e w' => e = .returned (.bool (covB y x l)) ∧ Kp w w' := by
  refine lift49 ?_
  unfold S49
  refine r_box fun b3 w1 e3 s3 h3 k1 => ?_
  obtain ⟨c0, c1, c2⟩ := tri_cells (p := l) h3
  have hy1 := cell_later k1 hy
  have hx1 := cell_later k1 hx
  by_cases g1 : l.1 = y
  case neg =>
    rw [show covB y x l = false from decide_eq_false fun h => g1 h.1]
    simp (disch := omega) only [r_ln, r_pick, r_pickT, r_pickF, r_condT, r_condF, r_gdTT, r_gdFF, r_gdTF, r_gdFT, r_gqTT, r_gqFF, r_gqTF, r_gqFT, r_not, r_lss, r_leq, r_gtr, r_geq, r_eql, r_neq, r_add, r_sub, r_min2, r_max2, r_min3, r_max3, r_fa, r_iaS, r_iaA, r_ex2a, r_ex2b, r_ex3a, r_ex3b, r_ex3c, r_nc, r_keepE, Nat.zero_add, Nat.add_zero, Nat.mul_one, Int.toNat_natCast, toNat_sub1, toNat_add1, decide_true, decide_false, Bool.not_true, Bool.not_false, if_true, if_false, Bool.false_eq_true, reduceCtorEq, r_gdU, r_ld c0, r_ld hy1, g1]
    exact ⟨by first | rfl | trivial, k1⟩
  by_cases g2 : l.2.1 ≤ x
  case neg =>
    rw [show covB y x l = false from decide_eq_false fun h => g2 h.2.1]
    simp (disch := omega) only [r_ln, r_pick, r_pickT, r_pickF, r_condT, r_condF, r_gdTT, r_gdFF, r_gdTF, r_gdFT, r_gqTT, r_gqFF, r_gqTF, r_gqFT, r_not, r_lss, r_leq, r_gtr, r_geq, r_eql, r_neq, r_add, r_sub, r_min2, r_max2, r_min3, r_max3, r_fa, r_iaS, r_iaA, r_ex2a, r_ex2b, r_ex3a, r_ex3b, r_ex3c, r_nc, r_keepE, Nat.zero_add, Nat.add_zero, Nat.mul_one, Int.toNat_natCast, toNat_sub1, toNat_add1, decide_true, decide_false, Bool.not_true, Bool.not_false, if_true, if_false, Bool.false_eq_true, reduceCtorEq, r_gdU, r_ld c0, r_ld hy1, decide_eq_true g1, r_ld c1, r_ld hx1, g2]
    exact ⟨by first | rfl | trivial, k1⟩
  by_cases g3 : x ≤ l.2.2
  case neg =>
    rw [show covB y x l = false from decide_eq_false fun h => g3 h.2.2]
    simp (disch := omega) only [r_ln, r_pick, r_pickT, r_pickF, r_condT, r_condF, r_gdTT, r_gdFF, r_gdTF, r_gdFT, r_gqTT, r_gqFF, r_gqTF, r_gqFT, r_not, r_lss, r_leq, r_gtr, r_geq, r_eql, r_neq, r_add, r_sub, r_min2, r_max2, r_min3, r_max3, r_fa, r_iaS, r_iaA, r_ex2a, r_ex2b, r_ex3a, r_ex3b, r_ex3c, r_nc, r_keepE, Nat.zero_add, Nat.add_zero, Nat.mul_one, Int.toNat_natCast, toNat_sub1, toNat_add1, decide_true, decide_false, Bool.not_true, Bool.not_false, if_true, if_false, Bool.false_eq_true, reduceCtorEq, r_gdU, r_ld c0, r_ld hy1, decide_eq_true g1, r_ld c1, r_ld c2, r_ld hx1, decide_eq_true g2, g3]
    exact ⟨by first | rfl | trivial, k1⟩
  rw [show covB y x l = true from decide_eq_true ⟨g1, g2, g3⟩]
  simp (disch := omega) only [r_ln, r_pick, r_pickT, r_pickF, r_condT, r_condF, r_gdTT, r_gdFF, r_gdTF, r_gdFT, r_gqTT, r_gqFF, r_gqTF, r_gqFT, r_not, r_lss, r_leq, r_gtr, r_geq, r_eql, r_neq, r_add, r_sub, r_min2, r_max2, r_min3, r_max3, r_fa, r_iaS, r_iaA, r_ex2a, r_ex2b, r_ex3a, r_ex3b, r_ex3c, r_nc, r_keepE, Nat.zero_add, Nat.add_zero, Nat.mul_one, Int.toNat_natCast, toNat_sub1, toNat_add1, decide_true, decide_false, Bool.not_true, Bool.not_false, if_true, if_false, Bool.false_eq_true, reduceCtorEq, r_gdU, r_ld c0, r_ld hy1, decide_eq_true g1, r_ld c1, r_ld c2, r_ld hx1, decide_eq_true g2, decide_eq_true g3]
  exact ⟨by first | rfl | trivial, k1⟩
set_option maxRecDepth 100000 in
theorem eqv_calls {l m : T3} {b : Nat} (w : World) (hb : w.heap[b]? = some (.cells #[.int .i64 m.1, .int .i64 m.2.1, .int .i64 m.2.2] 71 (0, 0))) : Calls Tryd.prog 50 #[t3V l, ptrV b] w fun e w' => e = .returned (.bool (decide (l = m))) ∧ Kp w w' := by
  refine lift50 ?_
  unfold S50
  refine r_box fun b2 w1 e2 s2 h2 k1 => ?_
  rw [tri_box (p := l) h2, tri_box (block_below hb k1), r_eq71]
  exact ⟨by first | rfl | trivial, k1⟩

/-- The level of a point, as the program finds it. -/
def lvI (V : List T3) (y x : Int) : Nat := V.findIdx (covB y x)
theorem idx_lv {V : List T3} {y x p : Int} (h : IsIdx (covB y x) V p) (hex : ∃ l ∈ V, covB y x l = true) : p = lvI V y x ∧ lvI V y x < V.length := by
  rcases h with ⟨i, rfl, hi, hp, hj⟩ | ⟨_, hn⟩
  · have : V.findIdx (covB y x) = i := by
      rw [List.findIdx_eq hi]
      refine ⟨by rw [← getD_lt _ _ (0, 0, 0) hi]; exact hp, fun j hj' => ?_⟩
      have := hj j hj'
      rw [getD_lt _ _ _ (by omega)] at this
      rw [this]
    unfold lvI
    rw [this]
    exact ⟨rfl, hi⟩
  · obtain ⟨l, hl, hc⟩ := hex
    obtain ⟨i, hi, rfl⟩ := List.getElem_of_mem hl
    have := hn i hi
    rw [getD_lt _ _ _ hi, hc] at this
    cases this
theorem idx_same {V : List T3} {y x p : Int} (hex : ∃ l ∈ V, covB y x l = true) (h : IsIdx (fun o => decide (o = V.getD (lvI V y x) (0, 0, 0))) V p) : p = lvI V y x := by
  have hlt : lvI V y x < V.length := by
    obtain ⟨l, hl, hc⟩ := hex
    exact List.findIdx_lt_length_of_exists ⟨l, hl, hc⟩
  have hcov : covB y x (V.getD (lvI V y x) (0, 0, 0)) = true := by rw [getD_lt _ _ _ hlt]; exact List.findIdx_getElem (w := hlt)
  rcases h with ⟨i, rfl, hi, hp, hj⟩ | ⟨_, hn⟩
  · have he := of_decide_eq_true hp
    rcases Nat.lt_trichotomy i (lvI V y x) with h | h | h
    · have hf : covB y x V[i] = false := by
        have := List.not_of_lt_findIdx (p := covB y x) (xs := V) h
        simpa using this
      rw [← getD_lt _ _ (0, 0, 0) hi, he, hcov] at hf
      cases hf
    · rw [h]
    · have := hj _ h
      simp at this
  · have := hn _ hlt
    simp at this

set_option maxRecDepth 100000 in
set_option maxHeartbeats 1000000 in
theorem at_lv_calls {V : List T3} {y x : Int} {av : Value} {b : Nat} (w : World) (hb : w.cell? ⟨b, 0, none⟩ = some av) (hr : RdS w av V) (hl : V.length ≤ 1000) (hex : ∃ l ∈ V, covB y x l = true) :
    Calls Tryd.prog 47 #[.int .i64 y, .int .i64 x, ptrV b] w fun e w' => e = .returned (.int .i64 (lvI V y x)) ∧ Kp w w' := by
  have hlt : lvI V y x < V.length := by
    obtain ⟨l, hl, hc⟩ := hex
    exact List.findIdx_lt_length_of_exists ⟨l, hl, hc⟩
  refine lift47 ?_
  unfold S47
  refine r_box fun b3 w1 e3 s3 h3 k1 => ?_
  refine r_box fun b4 w2 e4 s4 h4 k2 => ?_
  have h3' : w1.heap[b3]? = some (.cells #[.int .i64 y] 3 (0, 0)) := h3
  have h4' : w2.heap[b4]? = some (.cells #[.int .i64 x] 3 (0, 0)) := h4
  refine r_drew fun w3 k3 _ => ?_
  have k13 := Kp.trans k2 k3
  have k03 := Kp.trans k1 k13
  have cy : w3.cell? ⟨b3, 0, none⟩ = some (.int .i64 y) := by rw [cell_row (block_below h3' k13)]; rfl
  have cx : w3.cell? ⟨b4, 0, none⟩ = some (.int .i64 x) := by rw [cell_row (block_below h4' k3)]; rfl
  have cb := cell_later k03 hb
  have find : ∀ w', Kp w3 w' → Calls Tryd.prog 48 #[av, .func (.func 49) #[] #[ptrV b3, ptrV b4]] w' fun e w'' => Kp w' w'' ∧ ∃ p, e = .returned (.int .i64 p) ∧ IsIdx (covB y x) V p := fun w' k => by
    refine idx_calls w' (hr.kp (Kp.trans k03 k)) hl fun l w'' K k' hK => ?_
    have kk := Kp.trans k k'
    refine r_use fok49 (cov_calls (l := l) w'' (cell_later kk cy) (cell_later kk cx)) rfl ?_
    rintro _ w4 ⟨rfl, k4⟩
    exact ⟨_, rfl, hK w4 k4⟩
  refine r_join1 (fun t6 wj => ∃ b6, t6 = ptrV b6 ∧ Kp w3 wj ∧ wj.heap[b6]? = some (.cells #[.int .i64 (V.getD (lvI V y x) (0, 0, 0)).1, .int .i64 (V.getD (lvI V y x) (0, 0, 0)).2.1, .int .i64 (V.getD (lvI V y x) (0, 0, 0)).2.2] 71 (0, 0))) ?_ fun kk hkk => ?_
  · rintro _ wj ⟨b6, rfl, kj, h6⟩
    have k0j := Kp.trans k03 kj
    rw [r_ld (cell_later k0j hb)]
    refine r_use fok48 (idx_calls (P := fun o => decide (o = V.getD (lvI V y x) (0, 0, 0))) wj (hr.kp k0j) hl fun l w'' K k' hK => ?_) rfl ?_
    · refine r_use fok50 (eqv_calls (l := l) w'' (block_below h6 k')) rfl ?_
      rintro _ w4 ⟨rfl, k4⟩
      exact ⟨_, rfl, hK w4 k4⟩
    · rintro _ w4 ⟨k4, p, rfl, hp⟩
      exact ⟨_, rfl, by rw [idx_same hex hp], Kp.trans k0j k4⟩
  · rw [r_ld cb, r_ld cb]
    refine ⟨?_, ?_, trivial⟩
    · refine r_use fok48 (find w3 (Kp.refl _)) rfl ?_
      rintro _ w4 ⟨k4, p, rfl, hp⟩
      refine ⟨_, rfl, r_keep k4 ?_⟩
      rw [(idx_lv hp hex).1, tri_at (hr.kp (Kp.trans k03 k4)) hlt]
      refine r_box fun b6 w5 e6 s6 h6 k5 => r_keep k5 ?_
      have h6' : w5.heap[b6]? = some (.cells #[.int .i64 0, .int .i64 0, .int .i64 0] 71 (0, 0)) := h6
      have hsz := k4.size
      exact st71 h6' fun w6 c6 s6 h66 => hkk _ _ ⟨b6, rfl, Kp.of_chg (Kp.trans k4 k5) c6 fun q e => by omega, h66⟩
    · refine r_box fun b6 w5 e6 s6 h6 k5 => r_keep k5 ?_
      have h6' : w5.heap[b6]? = some (.cells #[.int .i64 0, .int .i64 0, .int .i64 0] 71 (0, 0)) := h6
      refine r_use fok48 (find w5 k5) rfl ?_
      rintro _ w4 ⟨k4, p, rfl, hp⟩
      refine ⟨_, rfl, r_keep k4 ?_⟩
      rw [(idx_lv hp hex).1, tri_at (hr.kp (Kp.trans k03 (Kp.trans k5 k4))) hlt]
      exact st71 (block_below h6' k4) fun w6 c6 s6 h66 => hkk _ _ ⟨b6, rfl, Kp.of_chg (Kp.trans k5 k4) c6 fun q e => by omega, h66⟩

end Go.Proofs.YtkdcldbedbagjaaDoor

/- Levels, plainly: the longest segments of sides, in order; there is only one such list. -/
namespace Go.Proofs.YtkdcldbedbagjaaDoor
open Go.Lf Go.RowKit Go.Dt

def lvGap (a b : T3) : Prop := a.1 < b.1 ∨ (a.1 = b.1 ∧ a.2.2 < b.2.1)
/-- A list of segments is that of the sides' longest segments. -/
structure IsLv (S out : List T3) : Prop where
  gap : out.Pairwise lvGap
  long : ∀ o ∈ out, o.2.1 < o.2.2
  cont : ∀ l ∈ S, ∃ o ∈ out, o.1 = l.1 ∧ o.2.1 ≤ l.2.1 ∧ l.2.2 ≤ o.2.2
  cov : ∀ o ∈ out, ∀ x, o.2.1 ≤ x → x < o.2.2 → ∃ l ∈ S, l.1 = o.1 ∧ l.2.1 ≤ x ∧ x < l.2.2

theorem IsLv.perm {S S' out : List T3} (h : IsLv S out) (p : ∀ l, l ∈ S' ↔ l ∈ S) : IsLv S' out :=
  ⟨h.gap, h.long, fun l hl => h.cont l ((p l).1 hl), fun o ho x h1 h2 => let ⟨l, hl, h3⟩ := h.cov o ho x h1 h2; ⟨l, (p l).2 hl, h3⟩⟩

theorem gap_or {out : List T3} (h : out.Pairwise lvGap) {a b : T3} (ha : a ∈ out) (hb : b ∈ out) : a = b ∨ lvGap a b ∨ lvGap b a := by
  obtain ⟨i, hi, rfl⟩ := List.getElem_of_mem ha
  obtain ⟨j, hj, rfl⟩ := List.getElem_of_mem hb
  have hp := List.pairwise_iff_getElem.1 h
  rcases Nat.lt_trichotomy i j with h | h | h
  · exact .inr (.inl (hp i j hi hj h))
  · subst h; exact .inl rfl
  · exact .inr (.inr (hp j i hj hi h))

/-- The sides so far, in order, and what is made of them. -/
theorem merge_lv {S : List T3} (hs : LvSorted S) (hl : ∀ l ∈ S, l.2.1 < l.2.2) : ∀ n, n ≤ S.length → IsLv (S.take n) ((S.take n).foldl mstep []) ∧ ∀ o ∈ (S.take n).foldl mstep [], ∃ t ∈ S.take n, t.1 = o.1 ∧ t.2.1 = o.2.1 := by
  intro n
  induction n with
  | zero => exact fun _ => ⟨⟨List.Pairwise.nil, by simp, by simp, by simp⟩, by simp⟩
  | succ n ih =>
    intro hn
    obtain ⟨h, hf⟩ := ih (by omega)
    have hlt : n < S.length := by omega
    rw [take_succ' _ _ hlt, List.foldl_append]
    simp only [List.foldl_cons, List.foldl_nil]
    have hlong := hl S[n] (List.getElem_mem hlt)
    have hord : ∀ t ∈ S.take n, t.1 < S[n].1 ∨ (t.1 = S[n].1 ∧ t.2.1 ≤ S[n].2.1) := fun t ht => by
      obtain ⟨i, hi, rfl⟩ := List.mem_take_iff_getElem.1 ht
      have := List.pairwise_iff_getElem.1 hs i n (by omega) hlt (by omega)
      rw [lvLt_not] at this
      omega
    generalize S[n] = l at *
    generalize (S.take n).foldl mstep [] = out at *
    generalize S.take n = T at *
    have own : ∀ P : List T3, mstep out l = P → (∀ o ∈ out, ∃ o' ∈ P, o'.1 = o.1 ∧ o'.2.1 = o.2.1 ∧ o.2.2 ≤ o'.2.2) → True := fun _ _ _ => trivial
    cases hlast : out.getLast? with
    | none =>
      have h0 : out = [] := List.getLast?_eq_none_iff.1 hlast
      have hm : mstep out l = [l] := by unfold mstep; rw [hlast]
      rw [hm]
      refine ⟨⟨List.pairwise_singleton _ _, fun o ho => by rw [List.mem_singleton.1 ho]; exact hlong, fun t ht => ?_, fun o ho x h1 h2 => ?_⟩, fun o ho => ?_⟩
      · rcases List.mem_append.1 ht with ht | ht
        · obtain ⟨o, ho, _⟩ := h.cont t ht
          rw [h0] at ho; cases ho
        · rw [List.mem_singleton.1 ht]; exact ⟨l, by simp, rfl, Int.le_refl _, Int.le_refl _⟩
      · rw [List.mem_singleton.1 ho] at h1 h2 ⊢
        exact ⟨l, by simp, rfl, h1, h2⟩
      · rw [List.mem_singleton.1 ho]; exact ⟨l, by simp, rfl, rfl⟩
    | some m =>
      have hne : out ≠ [] := fun e => by rw [e] at hlast; cases hlast
      have hmm : m ∈ out := List.mem_of_getLast? hlast
      have hsplit : out = out.dropLast ++ [m] := by
        have := List.dropLast_concat_getLast hne
        rw [List.getLast?_eq_some_getLast hne] at hlast
        injection hlast with hlast
        rw [hlast] at this
        exact this.symm
      obtain ⟨t, ht, t1, t2⟩ := hf m hmm
      have hml := hord t ht
      rw [t1, t2] at hml
      have hmlong := h.long m hmm
      have hgap := h.gap
      rw [hsplit, List.pairwise_append] at hgap
      obtain ⟨g1, _, g2⟩ := hgap
      have hm : mstep out l = if m.1 = l.1 ∧ l.2.1 ≤ m.2.2 then out.dropLast ++ [(m.1, m.2.1, max m.2.2 l.2.2)] else out ++ [l] := by unfold mstep; rw [hlast]
      rw [hm]
      have memo : ∀ o, o ∈ out ↔ o ∈ out.dropLast ∨ o = m := fun o => by
        conv => lhs; rw [hsplit]
        simp
      by_cases hc : m.1 = l.1 ∧ l.2.1 ≤ m.2.2
      · rw [if_pos hc]
        refine ⟨⟨?_, fun o ho => ?_, fun t ht => ?_, fun o ho x h1 h2 => ?_⟩, fun o ho => ?_⟩
        · rw [List.pairwise_append]
          refine ⟨g1, List.pairwise_singleton _ _, fun a ha b hb => ?_⟩
          have := g2 a ha m (by simp)
          rw [List.mem_singleton.1 hb]
          exact this
        · rcases List.mem_append.1 ho with ho | ho
          · exact h.long o ((memo o).2 (.inl ho))
          · rw [List.mem_singleton.1 ho]; dsimp only; omega
        · have back : ∀ o ∈ out, o.1 = t.1 → o.2.1 ≤ t.2.1 → t.2.2 ≤ o.2.2 → ∃ o' ∈ out.dropLast ++ [(m.1, m.2.1, max m.2.2 l.2.2)], o'.1 = t.1 ∧ o'.2.1 ≤ t.2.1 ∧ t.2.2 ≤ o'.2.2 := fun o ho e1 e2 e3 => by
            rcases (memo o).1 ho with ho | rfl
            · exact ⟨o, List.mem_append_left _ ho, e1, e2, e3⟩
            · exact ⟨_, List.mem_append_right _ (List.mem_singleton_self _), e1, e2, by dsimp only; omega⟩
          rcases List.mem_append.1 ht with ht | ht
          · obtain ⟨o, ho, e1, e2, e3⟩ := h.cont t ht
            exact back o ho e1 e2 e3
          · rw [List.mem_singleton.1 ht]
            exact ⟨_, List.mem_append_right _ (List.mem_singleton_self _), hc.1, by dsimp only; omega, by dsimp only; omega⟩
        · rcases List.mem_append.1 ho with ho | ho
          · obtain ⟨t, ht, e⟩ := h.cov o ((memo o).2 (.inl ho)) x h1 h2
            exact ⟨t, List.mem_append_left _ ht, e⟩
          · rw [List.mem_singleton.1 ho] at h1 h2 ⊢
            dsimp only at h1 h2 ⊢
            by_cases hx : x < m.2.2
            · obtain ⟨t, ht, e⟩ := h.cov m hmm x h1 hx
              exact ⟨t, List.mem_append_left _ ht, e⟩
            · exact ⟨l, by simp, hc.1.symm, by omega, by omega⟩
        · rcases List.mem_append.1 ho with ho | ho
          · obtain ⟨t, ht, e⟩ := hf o ((memo o).2 (.inl ho))
            exact ⟨t, List.mem_append_left _ ht, e⟩
          · rw [List.mem_singleton.1 ho]
            exact ⟨t, List.mem_append_left _ ht, t1, t2⟩
      · rw [if_neg hc]
        have hgl : lvGap m l := by unfold lvGap; omega
        refine ⟨⟨?_, fun o ho => ?_, fun t ht => ?_, fun o ho x h1 h2 => ?_⟩, fun o ho => ?_⟩
        · rw [List.pairwise_append]
          refine ⟨h.gap, List.pairwise_singleton _ _, fun a ha b hb => ?_⟩
          rw [List.mem_singleton.1 hb]
          rcases (memo a).1 ha with ha | rfl
          · have := g2 a ha m (by simp)
            unfold lvGap at this hgl ⊢
            omega
          · exact hgl
        · rcases List.mem_append.1 ho with ho | ho
          · exact h.long o ho
          · rw [List.mem_singleton.1 ho]; exact hlong
        · rcases List.mem_append.1 ht with ht | ht
          · obtain ⟨o, ho, e⟩ := h.cont t ht
            exact ⟨o, List.mem_append_left _ ho, e⟩
          · rw [List.mem_singleton.1 ht]
            exact ⟨l, by simp, rfl, Int.le_refl _, Int.le_refl _⟩
        · rcases List.mem_append.1 ho with ho | ho
          · obtain ⟨t, ht, e⟩ := h.cov o ho x h1 h2
            exact ⟨t, List.mem_append_left _ ht, e⟩
          · rw [List.mem_singleton.1 ho] at h1 h2 ⊢
            exact ⟨l, by simp, rfl, h1, h2⟩
        · rcases List.mem_append.1 ho with ho | ho
          · obtain ⟨t, ht, e⟩ := hf o ho
            exact ⟨t, List.mem_append_left _ ht, e⟩
          · rw [List.mem_singleton.1 ho]; exact ⟨l, by simp, rfl, rfl⟩
theorem mergeL_lv {S S' : List T3} (hs : LvSorted S) (hl : ∀ l ∈ S', l.2.1 < l.2.2) (hp : S.Perm S') : IsLv S' (mergeL S) := by
  have := (merge_lv hs (fun l hm => hl l (hp.subset hm)) S.length (Nat.le_refl _)).1
  rw [List.take_of_length_le (Nat.le_refl _)] at this
  exact this.perm fun l => hp.symm.mem_iff

/-- Segments of one list and of another one that have a place in common are the same. -/
theorem lv_run {S out out' : List T3} (h : IsLv S out) (h' : IsLv S out') {o o' : T3} (ho : o ∈ out) (ho' : o' ∈ out') (hy : o.1 = o'.1) {x : Int} (h1 : o.2.1 ≤ x) (h2 : x < o.2.2) (h3 : o'.2.1 ≤ x) (h4 : x < o'.2.2) : o'.2.1 ≤ o.2.1 ∧ o.2.2 ≤ o'.2.2 := by
  have hl' := h'.long o' ho'
  refine ⟨?_, ?_⟩
  · refine Int.not_lt.1 fun hc => ?_
    obtain ⟨l, hl, e1, e2, e3⟩ := h.cov o ho (o'.2.1 - 1) (by omega) (by omega)
    obtain ⟨p, hp, q1, q2, q3⟩ := h'.cont l hl
    rcases gap_or h'.gap hp ho' with e | e | e
    · rw [e] at q2; omega
    · unfold lvGap at e; omega
    · unfold lvGap at e; omega
  · refine Int.not_lt.1 fun hc => ?_
    obtain ⟨l, hl, e1, e2, e3⟩ := h.cov o ho o'.2.2 (by omega) (by omega)
    obtain ⟨p, hp, q1, q2, q3⟩ := h'.cont l hl
    rcases gap_or h'.gap hp ho' with e | e | e
    · rw [e] at q3; omega
    · unfold lvGap at e; omega
    · unfold lvGap at e; omega
theorem lv_sub {S out out' : List T3} (h : IsLv S out) (h' : IsLv S out') {o : T3} (ho : o ∈ out) : o ∈ out' := by
  have hlo := h.long o ho
  obtain ⟨l, hl, e1, e2, e3⟩ := h.cov o ho o.2.1 (Int.le_refl _) hlo
  obtain ⟨o', ho', q1, q2, q3⟩ := h'.cont l hl
  have hy : o.1 = o'.1 := by omega
  have a := lv_run h h' ho ho' hy (x := o.2.1) (Int.le_refl _) hlo (by omega) (by omega)
  have b := lv_run h' h ho' ho hy.symm (x := o.2.1) (by omega) (by omega) (Int.le_refl _) hlo
  have : o = o' := Prod.ext hy (Prod.ext (by omega) (by omega))
  rw [this]; exact ho'
theorem sorted_ext {out out' : List T3} : out.Pairwise lvGap → out'.Pairwise lvGap → (∀ o ∈ out, o.2.1 < o.2.2) → (∀ o, o ∈ out ↔ o ∈ out') → out = out' := by
  induction out generalizing out' with
  | nil =>
    intro _ _ _ h
    cases out' with
    | nil => rfl
    | cons b l => exact absurd ((h b).2 (by simp)) (by simp)
  | cons a l ih =>
    intro h1 h2 hl h
    cases out' with
    | nil => exact absurd ((h a).1 (by simp)) (by simp)
    | cons b m =>
      rw [List.pairwise_cons] at h1 h2
      have la := hl a (by simp)
      have lb := hl b ((h b).2 (by simp))
      have e : a = b := by
        rcases List.mem_cons.1 ((h a).1 (by simp)) with e | e
        · exact e
        · rcases List.mem_cons.1 ((h b).2 (by simp)) with e' | e'
          · exact e'.symm
          · have g1 := h2.1 a e
            have g2 := h1.1 b e'
            unfold lvGap at g1 g2; omega
      subst e
      rw [ih h1.2 h2.2 (fun o ho => hl o (by simp [ho])) fun o => ⟨fun ho => ?_, fun ho => ?_⟩]
      · rcases List.mem_cons.1 ((h o).1 (by simp [ho])) with e | e
        · have := h1.1 o ho; rw [e] at this; unfold lvGap at this; omega
        · exact e
      · rcases List.mem_cons.1 ((h o).2 (by simp [ho])) with e | e
        · have := h2.1 o ho; rw [e] at this; unfold lvGap at this; omega
        · exact e
/-- There is only one. -/
theorem lv_unique {S out out' : List T3} (h : IsLv S out) (h' : IsLv S out') : out = out' :=
  sorted_ext h.gap h'.gap h.long fun _ => ⟨lv_sub h h', lv_sub h' h⟩

end Go.Proofs.YtkdcldbedbagjaaDoor

/- Contract: Network of the program. -/
namespace Go.Proofs.YtkdcldbedbagjaaDoor
open Go.Lf Go.RowKit Go.Dt

def insS (l : T3) : List T3 → List T3
  | [] => [l]
  | a :: t => if lvLt a l = true then a :: insS l t else l :: a :: t
def isortS : List T3 → List T3
  | [] => []
  | a :: t => insS a (isortS t)
theorem insS_perm (l : T3) : ∀ t : List T3, (insS l t).Perm (l :: t)
  | [] => List.Perm.refl _
  | a :: t => by
    unfold insS
    split
    · exact ((insS_perm l t).cons a).trans (List.Perm.swap l a t)
    · exact List.Perm.refl _
theorem isortS_perm : ∀ t : List T3, (isortS t).Perm t
  | [] => List.Perm.refl _
  | a :: t => (insS_perm a _).trans ((isortS_perm t).cons a)
theorem insS_sorted (l : T3) : ∀ t : List T3, LvSorted t → LvSorted (insS l t)
  | [], _ => List.pairwise_singleton _ _
  | a :: t, h => by
    unfold insS
    have h' := List.pairwise_cons.1 h
    split
    · rename_i hal
      refine List.pairwise_cons.2 ⟨fun b hb => ?_, insS_sorted l t h'.2⟩
      rcases List.mem_cons.1 ((insS_perm l t).subset hb) with e | e
      · rw [e, lvLt_not]; rw [lvLt_iff] at hal; omega
      · exact h'.1 b e
    · rename_i hal
      have hal : lvLt a l = false := by simpa using hal
      refine List.pairwise_cons.2 ⟨fun b hb => ?_, h⟩
      rcases List.mem_cons.1 hb with e | e
      · rw [e]; exact hal
      · have := h'.1 b e
        rw [lvLt_not] at this hal ⊢
        omega
theorem isortS_sorted : ∀ t : List T3, LvSorted (isortS t)
  | [] => List.Pairwise.nil
  | a :: t => insS_sorted a _ (isortS_sorted t)
/-- The levels of squares. -/
def lvsL (L : List T3) : List T3 := mergeL (isortS (sidesL L))
theorem mem_sides {L : List T3} {l : T3} : l ∈ sidesL L ↔ ∃ s ∈ L, l = (s.2.1, s.1, s.1 + s.2.2) ∨ l = (s.2.1 + s.2.2, s.1, s.1 + s.2.2) := by
  unfold sidesL
  rw [List.mem_flatMap]
  simp
theorem sides_long {L : List T3} (h : ∀ s ∈ L, 1 ≤ s.2.2) : ∀ l ∈ sidesL L, l.2.1 < l.2.2 := fun l hl => by
  obtain ⟨s, hs, e⟩ := mem_sides.1 hl
  have := h s hs
  rcases e with rfl | rfl <;> dsimp only <;> omega
theorem lvs_lv {L : List T3} (h : ∀ s ∈ L, 1 ≤ s.2.2) : IsLv (sidesL L) (lvsL L) := mergeL_lv (isortS_sorted _) (sides_long h) (isortS_perm _)
theorem lvs_eq {L S : List T3} (h : ∀ s ∈ L, 1 ≤ s.2.2) (hs : LvSorted S) (hp : S.Perm (sidesL L)) : mergeL S = lvsL L := lv_unique (mergeL_lv hs (sides_long h) hp) (lvs_lv h)
theorem lvs_has {L : List T3} (h : ∀ s ∈ L, 1 ≤ s.2.2) {s : T3} (hs : s ∈ L) : (∃ l ∈ lvsL L, covB s.2.1 s.1 l = true) ∧ ∃ l ∈ lvsL L, covB (s.2.1 + s.2.2) s.1 l = true := by
  have hl := lvs_lv h
  have := h s hs
  obtain ⟨o, ho, e1, e2, e3⟩ := hl.cont _ (mem_sides.2 ⟨s, hs, .inl rfl⟩)
  obtain ⟨o', ho', e1', e2', e3'⟩ := hl.cont _ (mem_sides.2 ⟨s, hs, .inr rfl⟩)
  exact ⟨⟨o, ho, decide_eq_true ⟨e1, e2, by dsimp only at e3; omega⟩⟩, o', ho', decide_eq_true ⟨e1', e2', by dsimp only at e3'; omega⟩⟩

/-- The wires of squares. -/
def wiresL (L : List T3) : List (Int × Int) := L.map fun s => ((lvI (lvsL L) s.2.1 s.1 : Int), (lvI (lvsL L) (s.2.1 + s.2.2) s.1 : Int))
def nwE (W H : Int) (L : List T3) : Int := if isE W H L = 0 then (if isB W H L = true then (if 8 < (lvsL L).length then 8 else 0) else 10) else isE W H L
def nwN (W H : Int) (L : List T3) : Int := if nwE W H L = 0 then (lvsL L).length else 0
def nwW (W H : Int) (L : List T3) : List (Int × Int) := if nwE W H L = 0 then wiresL L else []

theorem isB_fits {W H : Int} {L : List T3} (h : isB W H L = true) : ∀ s ∈ L, fitsB W H s = true := fun s hs => by
  obtain ⟨i, hi, rfl⟩ := List.getElem_of_mem hs
  unfold isB at h
  rw [Bool.and_eq_true, List.all_eq_true] at h
  have := step_fits (h.1 i (List.mem_range.2 hi))
  rwa [getD_lt _ _ _ hi] at this
theorem isB_area {W H : Int} {L : List T3} (h : isB W H L = true) : area L = W * H := by
  unfold isB at h
  rw [Bool.and_eq_true] at h
  exact of_decide_eq_true h.2
theorem isE_zero {W H : Int} {L : List T3} (h : isE W H L = 0) : rectB W = true ∧ rectB H = true ∧ L.length ≤ 16 := by
  unfold isE at h
  cases h1 : rectB W with
  | false => rw [h1] at h; cases h
  | true =>
    cases h2 : rectB H with
    | false => rw [h1, h2] at h; cases h
    | true =>
      rw [h1, h2] at h
      by_cases h3 : 16 < L.length
      · simp only [Bool.and_self, if_true, if_pos h3] at h; cases h
      · exact ⟨rfl, rfl, by omega⟩

set_option maxRecDepth 100000 in
theorem slt27 : SlT 27 40 2 16 := SlT.mk' (z := wV 0 0) (by kernel_rfl) (by kernel_rfl) rfl (by decide)
set_option maxRecDepth 100000 in
theorem bd40 {x y : Int} {K : Value → Prop} : bdQ Tryd.prog 40 [(0, .int .i64 x), (1, .int .i64 y)] K = K (wV x y) := by kernel_rfl
set_option maxRecDepth 100000 in
theorem bs27 (x y : Int) (w : World) (K : Value → World → Prop) : bsW Tryd.prog 27 1 [(0, wV x y)] w K = K (.slice (some ⟨w.heap.size, 0, none⟩) 1 1) (w.alloc (.cells (wV x y).cells 40)) := by kernel_rfl
theorem wC_one (e : Int × Int) : ∀ u ∈ wC e, u.oneCell' = true := by
  intro u hu
  simp only [wC, List.mem_cons, List.not_mem_nil, or_false] at hu
  rcases hu with rfl | rfl <;> rfl
abbrev WrAt (base : Nat) (w : World) (v : Value) (P : List (Int × Int)) : Prop := RecAt 40 2 wC base w v P
set_option maxRecDepth 100000 in
/-- append(wires, x) in a region that draws its order -/
theorem r_pushW {base : Nat} {w : World} {v : Value} {P : List (Int × Int)} {x y : Int} {K : Value → World → Prop} (h : WrAt base w v P) (hn : P.length + 1 ≤ 1000000) (hb : base ≤ w.heap.size)
    (hk : ∀ v' w', WrAt base w' v' (P ++ [(x, y)]) → Chg (fun k => v.ownBlock = some k) w w' → K v' w') :
    bsW Tryd.prog 27 1 [(0, wV x y)] w <| keepB w fun s w => semW Tryd.prog (apS [27, 27] 27 [v, s]) w K := by
  have push := r_pushRec (x := (x, y)) (xv := wV x y) (ty := 27) (K := K) slt27 wC_len rfl (bs27 x y _) (wC_one _) (by omega) h hn hb fun v' w' o1 c1 _ => hk v' w' o1 c1
  rw [bs27] at push ⊢
  exact r_keep (below_alloc _) push

set_option maxRecDepth 100000 in
theorem st68 {w : World} {b : Nat} {x : Value} {a : Option Addr} {m c : Nat} {K : World → Prop} (h : w.heap[b]? = some (.cells #[x] 68 (0, 0))) (hk : ∀ w', Chg (fun k => k = b) w w' → w'.heap.size = w.heap.size → w'.heap[b]? = some (.cells #[.slice a m c] 68 (0, 0)) → K w') : stW Tryd.prog 68 (ptrV b) (.slice a m c) w K :=
  r_stAll (n := 1) (by kernel_rfl) rfl (by intro u hu; simp [Value.cells] at hu; rcases hu with rfl; rfl) h rfl fun w' h1 h2 h3 => hk w' h1 h2 h3

set_option maxRecDepth 100000 in
set_option maxHeartbeats 2000000 in
theorem Network_calls {v : Value} {W H : Int} {L : List T3} (w : World) (hr : RdS w v L) :
    Calls Tryd.prog 17 #[.int .i64 W, .int .i64 H, v] w fun e w' => Kp w w' ∧ ∃ v', e = .returned (.tuple #[.int .i64 (nwN W H L), v', .int .i64 (nwE W H L)]) ∧ WrAt w.heap.size w' v' (nwW W H L) := by
  obtain ⟨a, cap, ev, _⟩ := hr.len
  have lnv : ∀ K : Value → Prop, ln1 v K = K (.int .i64 L.length) := fun K => by rw [ev]; rfl
  refine lift17 ?_
  unfold S17
  refine r_use fok15 (Is_calls w hr) rfl ?_
  rintro _ w1 ⟨rfl, k1⟩
  refine ⟨_, rfl, ?_⟩
  rw [r_ex2a, r_ex2b, r_neq]
  have nothing : ∀ (w' : World) (E : Int), nwE W H L = E → E ≠ 0 → Kp w w' → Kp w w' ∧ ∃ v', Ending.returned (.tuple #[.int .i64 0, .slice none 0 0, .int .i64 E]) = .returned (.tuple #[.int .i64 (nwN W H L), v', .int .i64 (nwE W H L)]) ∧ WrAt w.heap.size w' v' (nwW W H L) := fun w' E hE h0 k => by
    unfold nwN nwW
    rw [hE, if_neg h0, if_neg h0]
    exact ⟨k, _, rfl, RecAt.nil⟩
  by_cases h0 : isE W H L = 0
  case neg =>
    rw [decide_eq_false h0, Bool.not_false, r_condT]
    exact nothing w1 _ (if_neg h0) h0 k1
  rw [decide_eq_true h0, Bool.not_true, r_condF, r_not]
  have hV : isV W H L = isB W H L := by unfold isV; rw [decide_eq_true h0, Bool.true_and]
  rw [hV]
  cases hB : isB W H L with
  | false =>
    rw [Bool.not_false, r_condT]
    exact nothing w1 10 (by unfold nwE; rw [if_pos h0, hB]; rfl) (by decide) k1
  | true =>
  rw [Bool.not_true, r_condF]
  obtain ⟨hW, hH, hl⟩ := isE_zero h0
  have hW' := of_decide_eq_true hW
  have hH' := of_decide_eq_true hH
  have hfit := isB_fits hB
  have hf : ∀ s ∈ L, 1 ≤ s.2.2 ∧ s.2.2 ≤ W ∧ s.2.2 ≤ H ∧ 0 ≤ s.1 ∧ 0 ≤ s.2.1 ∧ s.1 ≤ W - s.2.2 ∧ s.2.1 ≤ H - s.2.2 := fun s hs => fits_iff.1 (hfit s hs)
  have hpos : 0 < L.length := by
    refine Nat.pos_of_ne_zero fun hz => ?_
    have : L = [] := List.length_eq_zero_iff.1 hz
    have ha := isB_area hB
    rw [this] at ha
    have : 0 < W * H := Int.mul_pos (by omega) (by omega)
    simp only [area] at ha
    omega
  refine r_use fok46 (levels_calls w1 (hr.kp k1) hpos (by omega) fun s hs => by have := hf s hs; omega) rfl ?_
  rintro _ w2 ⟨k2, v2, S, rfl, hperm, hsort, hO⟩
  refine ⟨_, rfl, ?_⟩
  have hside : ∀ s ∈ L, 1 ≤ s.2.2 := fun s hs => (hf s hs).1
  rw [lvs_eq hside hsort hperm] at hO
  have k02 := Kp.trans k1 k2
  obtain ⟨oa, oc, eo, _⟩ := hO.len
  have ln2 : ∀ K : Value → Prop, ln1 v2 K = K (.int .i64 (lvsL L).length) := fun K => by rw [eo]; rfl
  refine r_box fun b11 w3 e11 s11 h11 k3 => ?_
  have h11' : w3.heap[b11]? = some (.cells #[.slice none 0 0] 68 (0, 0)) := h11
  have hsz2 := k02.size
  rw [eo]
  refine st68 h11' fun w4 c4 s4 h114 => ?_
  rw [← eo] at h114
  have k24 : Kp w2 w4 := Kp.of_chg k3 c4 fun q e => by omega
  have k04 := Kp.trans k02 k24
  have c11 : ∀ {w' : World}, Kp w4 w' → w'.cell? ⟨b11, 0, none⟩ = some v2 := fun k => by rw [cell_row (block_below h114 k)]; rfl
  rw [r_ld (c11 (Kp.refl _)), ln2, r_gtr]
  have hNW : nwE W H L = if 8 < (lvsL L).length then 8 else 0 := by unfold nwE; rw [if_pos h0, if_pos hB]
  by_cases h8 : (8 : Int) < ((lvsL L).length : Int)
  · rw [decide_eq_true h8, r_condT]
    exact nothing w4 8 (by rw [hNW, if_pos (by omega)]) (by decide) k04
  rw [decide_eq_false h8, r_condF, lnv]
  have hE : nwE W H L = 0 := by rw [hNW, if_neg (by omega)]
  have hO4 := hO.kp k24
  have rdV := hO4.rd t3C_len
  unfold S17L0
  refine ⟨fun t13 t38 wr => ∃ i : Nat, i ≤ L.length ∧ t38 = .int .i64 i ∧ WrAt w4.heap.size wr t13 ((wiresL L).take i) ∧ Kp w4 wr, fun _ t38 _ => L.length - (intOf t38).toNat, ⟨0, by omega, rfl, RecAt.nil, Kp.refl _⟩, ?_⟩
  rintro _ t13 _ wr ⟨i, hi, rfl, hC, kr⟩
  have hwl : (wiresL L).length = L.length := by simp [wiresL]
  have k0r := Kp.trans k04 kr
  have hsz4 := k04.size
  by_cases hlt : i < L.length
  case neg =>
    have hlt' : ¬ (i : Int) < (L.length : Int) := by omega
    rw [List.take_of_length_le (by omega)] at hC
    simp only [r_lss, hlt', decide_false, r_condF]
    rw [r_ld (c11 kr), ln2]
    unfold nwN nwW
    rw [hE, if_pos rfl, if_pos rfl]
    exact ⟨k0r, _, rfl, hC.down hsz4⟩
  have hlt' : (i : Int) < (L.length : Int) := by omega
  simp only [r_lss, decide_eq_true hlt', r_condT]
  have hmem : L.getD i (0, 0, 0) ∈ L := getD_mem hlt
  have hsf := hf _ hmem
  have hx := lvs_has hside hmem
  have hwi : (wiresL L).take (i + 1) = (wiresL L).take i ++ [((lvI (lvsL L) (L.getD i (0, 0, 0)).2.1 (L.getD i (0, 0, 0)).1 : Int), (lvI (lvsL L) ((L.getD i (0, 0, 0)).2.1 + (L.getD i (0, 0, 0)).2.2) (L.getD i (0, 0, 0)).1 : Int))] := by
    rw [take_succ' _ _ (by omega)]
    simp only [wiresL, List.getElem_map]
    rw [getD_lt _ _ _ hlt]
  rw [tri_at (hr.kp k0r) hlt]
  generalize L.getD i (0, 0, 0) = s at *
  refine r_box fun b15 w5 e15 s15 h15 k5 => ?_
  have h15' : w5.heap[b15]? = some (.cells #[.int .i64 0, .int .i64 0, .int .i64 0] 44 (0, 0)) := h15
  refine st44 h15' fun w6 c6 s6 h156 => ?_
  have kr6 : Kp wr w6 := Kp.of_chg k5 c6 fun q e => by omega
  refine r_drew fun w7 k7 _ => ?_
  have k47 := Kp.trans kr (Kp.trans kr6 k7)
  obtain ⟨q0, q1, q2⟩ := tri_cells (p := s) (block_below h156 k7)
  rw [r_fa, r_ld q1, r_fa, r_ld q0, r_fa, r_ld q1, r_fa, r_ld q2, r_add _ _ (by omega) (by omega), r_fa, r_ld q0]
  refine r_use fok47 (at_lv_calls w7 (c11 k47) (rdV.kp k47) (by omega) hx.1) rfl ?_
  rintro _ w8 ⟨rfl, k8⟩
  refine ⟨_, rfl, r_keep k8 ?_⟩
  have k48 := Kp.trans k47 k8
  refine r_use fok47 (at_lv_calls w8 (c11 k48) (rdV.kp k48) (by omega) hx.2) rfl ?_
  rintro _ w9 ⟨rfl, k9⟩
  refine ⟨_, rfl, r_keep k9 ?_⟩
  have k49 := Kp.trans k48 k9
  rw [bd40]
  have kr9 := Kp.trans kr6 (Kp.trans k7 (Kp.trans k8 k9))
  refine r_pushW (hC.kp kr9) (by rw [List.length_take]; omega) k49.size fun v' w' o1 c1 => ?_
  rw [r_add _ _ (by omega) (by omega)]
  exact ⟨⟨i + 1, by omega, by go_num, by rw [hwi]; exact o1, Kp.of_chg k49 c1 fun k hk => (hC.lt hk).1⟩, by simp only [intOf]; omega⟩

end Go.Proofs.YtkdcldbedbagjaaDoor
