/- Cut is a dissection, its sides never grow, the last one is the greatest common divisor. -/
import Derived.Test.YtkdcldbedbagjaaDoorXa
set_option linter.all false
namespace Go.Proofs.YtkdcldbedbagjaaDoor
open Go.Lf Go.RowKit Go.Dt

theorem cutF_cases {k : Nat} {x y w h : Int} {l : List T3} (e : cutF k x y w h = some l) :
    (¬ (0 < w ∧ 0 < h) ∧ l = []) ∨ ((0 < w ∧ 0 < h) ∧ ∃ k' l', k = k' + 1 ∧ l = (x, y, min w h) :: l' ∧ ((h < w ∧ cutF k' (x + h) y (w - h) h = some l') ∨ (w ≤ h ∧ cutF k' x (y + w) w (h - w) = some l'))) := by
  cases k with
  | zero =>
    unfold cutF at e
    split at e
    · cases e
    · rename_i g; cases e; exact .inl ⟨g, rfl⟩
  | succ k =>
    by_cases g : 0 < w ∧ 0 < h
    · rw [cutF_pos g, Option.map_eq_some_iff] at e
      obtain ⟨l', e1, rfl⟩ := e
      refine .inr ⟨g, k, l', rfl, rfl, ?_⟩
      by_cases c : h < w
      · have hm : min w h = h := by omega
        rw [if_pos c, hm] at e1
        exact .inl ⟨c, e1⟩
      · have hm : min w h = w := by omega
        rw [if_neg c, hm] at e1
        exact .inr ⟨by omega, e1⟩
    · unfold cutF at e
      rw [if_neg g] at e
      cases e
      exact .inl ⟨g, rfl⟩

theorem cut_area : ∀ (n : Nat) {k : Nat} {x y w h : Int} {l : List T3}, l.length = n → 0 ≤ w → 0 ≤ h → cutF k x y w h = some l → area l = w * h
  | n, k, x, y, w, h, l, hn, w0, h0, e => by
    rcases cutF_cases e with ⟨g, rfl⟩ | ⟨g, k', l', rfl, rfl, ⟨c, e1⟩ | ⟨c, e1⟩⟩
    · have : w = 0 ∨ h = 0 := by omega
      rcases this with rfl | rfl <;> simp [area]
    · match n, hn with
      | n + 1, hn =>
        have ih := cut_area n (by simpa using hn) (by omega) (by omega) e1
        have hm : min w h = h := by omega
        simp only [area, ih, hm]
        rw [Int.sub_mul]; omega
    · match n, hn with
      | n + 1, hn =>
        have ih := cut_area n (by simpa using hn) (by omega) (by omega) e1
        have hm : min w h = w := by omega
        simp only [area, ih, hm]
        rw [Int.mul_sub]; omega

theorem cut_in : ∀ (n : Nat) {k : Nat} {x y w h : Int} {l : List T3}, l.length = n → 0 ≤ w → 0 ≤ h → cutF k x y w h = some l → ∀ s ∈ l, 1 ≤ s.2.2 ∧ x ≤ s.1 ∧ s.1 + s.2.2 ≤ x + w ∧ y ≤ s.2.1 ∧ s.2.1 + s.2.2 ≤ y + h
  | n, k, x, y, w, h, l, hn, w0, h0, e => by
    intro s hs
    rcases cutF_cases e with ⟨g, rfl⟩ | ⟨g, k', l', rfl, rfl, ⟨c, e1⟩ | ⟨c, e1⟩⟩
    · cases hs
    · match n, hn with
      | n + 1, hn =>
        rcases List.mem_cons.1 hs with rfl | hs
        · simp only; omega
        · have := cut_in n (by simpa using hn) (by omega) (by omega) e1 s hs
          omega
    · match n, hn with
      | n + 1, hn =>
        rcases List.mem_cons.1 hs with rfl | hs
        · simp only; omega
        · have := cut_in n (by simpa using hn) (by omega) (by omega) e1 s hs
          omega

theorem cut_apart : ∀ (n : Nat) {k : Nat} {x y w h : Int} {l : List T3}, l.length = n → 0 ≤ w → 0 ≤ h → cutF k x y w h = some l → l.Pairwise fun o s => overB s o = false
  | n, k, x, y, w, h, l, hn, w0, h0, e => by
    rcases cutF_cases e with ⟨g, rfl⟩ | ⟨g, k', l', rfl, rfl, ⟨c, e1⟩ | ⟨c, e1⟩⟩
    · exact List.Pairwise.nil
    · match n, hn with
      | n + 1, hn =>
        refine List.Pairwise.cons (fun s hs => ?_) (cut_apart n (by simpa using hn) (by omega) (by omega) e1)
        have := cut_in n (by simpa using hn) (by omega) (by omega) e1 s hs
        exact decide_eq_false fun q => by simp only at q; omega
    · match n, hn with
      | n + 1, hn =>
        refine List.Pairwise.cons (fun s hs => ?_) (cut_apart n (by simpa using hn) (by omega) (by omega) e1)
        have := cut_in n (by simpa using hn) (by omega) (by omega) e1 s hs
        exact decide_eq_false fun q => by simp only at q; omega

theorem cut_falls : ∀ (n : Nat) {k : Nat} {x y w h : Int} {l : List T3}, l.length = n → 0 ≤ w → 0 ≤ h → cutF k x y w h = some l → l.Pairwise fun o s => s.2.2 ≤ o.2.2
  | n, k, x, y, w, h, l, hn, w0, h0, e => by
    rcases cutF_cases e with ⟨g, rfl⟩ | ⟨g, k', l', rfl, rfl, ⟨c, e1⟩ | ⟨c, e1⟩⟩
    · exact List.Pairwise.nil
    · match n, hn with
      | n + 1, hn =>
        refine List.Pairwise.cons (fun s hs => ?_) (cut_falls n (by simpa using hn) (by omega) (by omega) e1)
        have := cut_in n (by simpa using hn) (by omega) (by omega) e1 s hs
        simp only; omega
    · match n, hn with
      | n + 1, hn =>
        refine List.Pairwise.cons (fun s hs => ?_) (cut_falls n (by simpa using hn) (by omega) (by omega) e1)
        have := cut_in n (by simpa using hn) (by omega) (by omega) e1 s hs
        simp only; omega

theorem cut_last : ∀ (n : Nat) {k : Nat} {x y w h : Int} {l : List T3}, l.length = n → 0 < w → 0 < h → cutF k x y w h = some l → ∃ s, l.getLast? = some s ∧ s.2.2 = (Int.gcd w h : Int)
  | n, k, x, y, w, h, l, hn, w0, h0, e => by
    rcases cutF_cases e with ⟨g, rfl⟩ | ⟨g, k', l', rfl, rfl, ⟨c, e1⟩ | ⟨c, e1⟩⟩
    · omega
    · match n, hn with
      | n + 1, hn =>
        obtain ⟨s, hs, e2⟩ := cut_last n (by simpa using hn) (by omega) (by omega) e1
        refine ⟨s, by rw [List.getLast?_cons, hs]; rfl, ?_⟩
        rw [e2, Int.gcd_sub_right_left_of_dvd w (Int.dvd_refl h)]
    · match n, hn with
      | n + 1, hn =>
        by_cases q : w = h
        · subst q
          rcases cutF_cases e1 with ⟨_, rfl⟩ | ⟨g2, _⟩
          · refine ⟨(x, y, min w w), rfl, ?_⟩
            simp only [Int.gcd_self]; omega
          · omega
        · obtain ⟨s, hs, e2⟩ := cut_last n (by simpa using hn) (by omega) (by omega) e1
          refine ⟨s, by rw [List.getLast?_cons, hs]; rfl, ?_⟩
          rw [e2, Int.gcd_comm w (h - w), Int.gcd_sub_right_left_of_dvd h (Int.dvd_refl w), Int.gcd_comm]

theorem pair_at {R : T3 → T3 → Prop} {l : List T3} (h : l.Pairwise R) {i j : Nat} (hij : i < j) (hj : j < l.length) : R (l.getD i (0, 0, 0)) (l.getD j (0, 0, 0)) := by
  rw [getD_lt _ _ _ (by omega), getD_lt _ _ _ hj]
  exact List.pairwise_iff_getElem.1 h i j (by omega) hj hij

theorem cut_is {W H : Int} {l : List T3} (hW : 0 ≤ W) (hH : 0 ≤ H) (e : cutF 16 0 0 W H = some l) : isB W H l = true := by
  unfold isB
  rw [Bool.and_eq_true]
  refine ⟨?_, decide_eq_true (cut_area _ rfl hW hH e)⟩
  rw [List.all_eq_true]
  intro i hi
  have hi := List.mem_range.1 hi
  unfold stepB
  rw [Bool.and_eq_true]
  constructor
  · have := cut_in _ rfl hW hH e (l.getD i (0, 0, 0)) (by rw [getD_lt _ _ _ hi]; exact List.getElem_mem hi)
    exact decide_eq_true (by omega)
  · rw [List.all_eq_true]
    intro o ho
    obtain ⟨j, hj, rfl⟩ := List.mem_iff_getElem.1 ho
    have hj2 : j < i := by rw [List.length_take] at hj; omega
    rw [List.getElem_take]
    have := pair_at (cut_apart _ rfl hW hH e) hj2 hi
    rw [getD_lt l j _ (by omega)] at this
    rw [this]; rfl

theorem Is_true {W H : Int} {L : List T3} (hW : rectB W = true) (hH : rectB H = true) (hl : L.length ≤ 16) (h : isB W H L = true) : isV W H L = true ∧ isE W H L = 0 := by
  have : isE W H L = 0 := by unfold isE; rw [hW, hH]; simp; omega
  unfold isV
  rw [this, h]
  exact ⟨rfl, rfl⟩

set_option maxRecDepth 100000 in
theorem law_euclid (W H : Int) (w : World) (hw : Wh w) : Calls Tryd.prog 9 #[.int .i64 W, .int .i64 H] w fun e w' => e = .returned (.bool true) ∧ Kp w w' := by
  refine lift9 ?_
  unfold S9
  refine r_use fok34 (Cut_calls W H w) rfl ?_
  rintro _ w1 ⟨k1, v, rfl, o1⟩
  refine ⟨_, rfl, ?_⟩
  rw [r_ex2a, r_ex2b]
  have hl := cutS_len W H
  obtain ⟨va, vc, ev, _⟩ := o1.len
  have lnv : ∀ K : Value → Prop, ln1 v K = K (.int .i64 (cutS W H).length) := fun K => by rw [ev]; rfl
  by_cases hB : (rectB W && rectB H) = true ∧ (cutF 16 0 0 W H).isSome
  case neg =>
    have hE : cutE W H = 2 ∨ cutE W H = 8 := by
      unfold cutE
      by_cases a : (rectB W && rectB H) = true
      · rw [if_pos a, if_neg fun b => hB ⟨a, b⟩]; exact .inr rfl
      · rw [if_neg a]; exact .inl rfl
    have hS : cutS W H = [] := by
      unfold cutS
      by_cases a : (rectB W && rectB H) = true
      · rw [if_pos a]
        cases c : cutF 16 0 0 W H with
        | none => rfl
        | some l => exact absurd ⟨a, by rw [c]; rfl⟩ hB
      · rw [if_neg a]
    have lnv' : ∀ K : Value → Prop, ln1 v K = K (.int .i64 0) := fun K => by rw [lnv, hS]; rfl
    have n2 : decide ((2 : Int) = 0) = false := rfl
    have n8 : decide ((8 : Int) = 0) = false := rfl
    have n82 : decide ((8 : Int) = 2) = false := rfl
    have n22 : decide ((2 : Int) = 2) = true := rfl
    have n88 : decide ((8 : Int) = 8) = true := rfl
    have n00 : decide ((0 : Int) = 0) = true := rfl
    rcases hE with hE | hE
    · rw [hE]
      simp only [r_ln, r_pick, r_pickT, r_pickF, r_condT, r_condF, r_gdTT, r_gdFF, r_gdTF, r_gdFT, r_gqTT, r_gqFF, r_gqTF, r_gqFT, r_not, r_lss, r_leq, r_gtr, r_geq, r_eql, r_neq, r_add, r_sub, r_min2, r_max2, r_min3, r_max3, r_fa, r_iaS, r_iaA, r_ex2a, r_ex2b, r_ex3a, r_ex3b, r_ex3c, r_nc, r_keepE, Nat.zero_add, Nat.add_zero, Nat.mul_one, Int.toNat_natCast, toNat_sub1, toNat_add1, decide_true, decide_false, Bool.not_true, Bool.not_false, if_true, if_false, Bool.false_eq_true, reduceCtorEq, r_gdU, lnv', n2, n22, n00]
      refine r_use fok14 (alive_calls w1 (hw.kp k1)) rfl ?_
      rintro _ w4 ⟨rfl, k4⟩
      exact ⟨_, rfl, rfl, Kp.trans k1 k4⟩
    · rw [hE]
      simp only [r_ln, r_pick, r_pickT, r_pickF, r_condT, r_condF, r_gdTT, r_gdFF, r_gdTF, r_gdFT, r_gqTT, r_gqFF, r_gqTF, r_gqFT, r_not, r_lss, r_leq, r_gtr, r_geq, r_eql, r_neq, r_add, r_sub, r_min2, r_max2, r_min3, r_max3, r_fa, r_iaS, r_iaA, r_ex2a, r_ex2b, r_ex3a, r_ex3b, r_ex3c, r_nc, r_keepE, Nat.zero_add, Nat.add_zero, Nat.mul_one, Int.toNat_natCast, toNat_sub1, toNat_add1, decide_true, decide_false, Bool.not_true, Bool.not_false, if_true, if_false, Bool.false_eq_true, reduceCtorEq, r_gdU, lnv', n8, n82, n88, n00]
      refine r_use fok14 (alive_calls w1 (hw.kp k1)) rfl ?_
      rintro _ w4 ⟨rfl, k4⟩
      exact ⟨_, rfl, rfl, Kp.trans k1 k4⟩
  obtain ⟨hB, hso⟩ := hB
  obtain ⟨l, hF⟩ := Option.isSome_iff_exists.1 hso
  have hE : cutE W H = 0 := by unfold cutE; rw [if_pos hB, if_pos hso]
  have hS : cutS W H = l := by unfold cutS; rw [if_pos hB, hF]; rfl
  rw [Bool.and_eq_true] at hB
  have bW := of_decide_eq_true hB.1
  have bH := of_decide_eq_true hB.2
  rw [hS] at lnv hl o1
  obtain ⟨i1, i2⟩ := Is_true hB.1 hB.2 hl (cut_is (by omega) (by omega) hF)
  obtain ⟨s, hs, hsg⟩ := cut_last _ rfl (by omega) (by omega) hF
  have hne : l ≠ [] := by rintro rfl; cases hs
  have hpos : 0 < l.length := List.length_pos_iff.2 hne
  have n00 : decide ((0 : Int) = 0) = true := rfl
  have nl : decide ((l.length : Int) = 0) = false := decide_eq_false (by omega)
  rw [hE]
  simp only [r_ln, r_pick, r_pickT, r_pickF, r_condT, r_condF, r_gdTT, r_gdFF, r_gdTF, r_gdFT, r_gqTT, r_gqFF, r_gqTF, r_gqFT, r_not, r_lss, r_leq, r_gtr, r_geq, r_eql, r_neq, r_add, r_sub, r_min2, r_max2, r_min3, r_max3, r_fa, r_iaS, r_iaA, r_ex2a, r_ex2b, r_ex3a, r_ex3b, r_ex3c, r_nc, r_keepE, Nat.zero_add, Nat.add_zero, Nat.mul_one, Int.toNat_natCast, toNat_sub1, toNat_add1, decide_true, decide_false, Bool.not_true, Bool.not_false, if_true, if_false, Bool.false_eq_true, reduceCtorEq, r_gdU, n00]
  refine r_use fok15 (Is_calls w1 (o1.rd t3C_len)) rfl ?_
  rintro _ w2 ⟨rfl, k2⟩
  refine ⟨_, rfl, ?_⟩
  rw [r_ex2a, r_ex2b, i1, i2]
  simp only [r_ln, r_pick, r_pickT, r_pickF, r_condT, r_condF, r_gdTT, r_gdFF, r_gdTF, r_gdFT, r_gqTT, r_gqFF, r_gqTF, r_gqFT, r_not, r_lss, r_leq, r_gtr, r_geq, r_eql, r_neq, r_add, r_sub, r_min2, r_max2, r_min3, r_max3, r_fa, r_iaS, r_iaA, r_ex2a, r_ex2b, r_ex3a, r_ex3b, r_ex3c, r_nc, r_keepE, Nat.zero_add, Nat.add_zero, Nat.mul_one, Int.toNat_natCast, toNat_sub1, toNat_add1, decide_true, decide_false, Bool.not_true, Bool.not_false, if_true, if_false, Bool.false_eq_true, reduceCtorEq, r_gdU, n00, lnv, nl]
  have k02 := Kp.trans k1 k2
  have o2 := (o1.kp k2).rd t3C_len
  -- the sides never grow
  have side : ∀ (wr : World), RdS wr v l → ∀ (i : Nat), i < l.length → ∀ K : Value → Prop, (iaS 3 v (.int .i64 i) fun p => fa1 p 2 fun p => ld1 wr p K) = K (.int .i64 (l.getD i (0, 0, 0)).2.2) := fun wr hr i hi K => by
    obtain ⟨b, off, cap, e, _, hc⟩ := hr.at (List.getElem?_eq_getElem hi)
    have hii : (i : Int).toNat = i := by omega
    rw [e, r_iaS _ _ _ _ _ _ _ (by omega) (by omega), hii, r_fa, r_ld (hc 2 _ rfl), getD_lt _ _ _ hi]
  unfold S9L0
  refine ⟨fun t9 wr => ∃ i : Nat, 1 ≤ i ∧ i ≤ l.length ∧ t9 = .int .i64 i ∧ Kp w wr ∧ RdS wr v l, fun t9 _ => l.length - (intOf t9).toNat, ⟨1, by omega, by omega, rfl, k02, o2⟩, ?_⟩
  rintro _ _ wr ⟨i, hi1, hi, rfl, kr, rr⟩
  rw [lnv]
  by_cases hlt : i < l.length
  · have hlt' : (i : Int) < (l.length : Int) := by omega
    simp only [r_lss, decide_eq_true hlt', r_condT]
    refine r_drew fun w3 k3 _ => ?_
    have r3 := rr.kp k3
    rw [side w3 r3 i hlt, r_sub _ _ (by omega) (by omega), show (i : Int) - 1 = ((i - 1 : Nat) : Int) by omega, side w3 r3 (i - 1) (by omega)]
    have hf := pair_at (cut_falls _ rfl (by omega) (by omega) hF) (show i - 1 < i by omega) hlt
    have hng : ¬ (l.getD (i - 1) (0, 0, 0)).2.2 < (l.getD i (0, 0, 0)).2.2 := by omega
    simp (disch := omega) only [r_ln, r_pick, r_pickT, r_pickF, r_condT, r_condF, r_gdTT, r_gdFF, r_gdTF, r_gdFT, r_gqTT, r_gqFF, r_gqTF, r_gqFT, r_not, r_lss, r_leq, r_gtr, r_geq, r_eql, r_neq, r_add, r_sub, r_min2, r_max2, r_min3, r_max3, r_fa, r_iaS, r_iaA, r_ex2a, r_ex2b, r_ex3a, r_ex3b, r_ex3c, r_nc, r_keepE, Nat.zero_add, Nat.add_zero, Nat.mul_one, Int.toNat_natCast, toNat_sub1, toNat_add1, decide_true, decide_false, Bool.not_true, Bool.not_false, if_true, if_false, Bool.false_eq_true, reduceCtorEq, hng]
    exact ⟨⟨i + 1, by omega, by omega, by go_num, Kp.trans kr k3, r3⟩, by simp only [intOf]; omega⟩
  · have hlt' : ¬ (i : Int) < (l.length : Int) := by omega
    simp only [r_lss, decide_eq_false hlt', r_condF]
    unfold S9L1
    refine ⟨fun t10 t11 wq => ∃ a b : Nat, t10 = .int .i64 a ∧ t11 = .int .i64 b ∧ Nat.gcd a b = Int.gcd W H ∧ a ≤ 1000 ∧ b ≤ 1000 ∧ Kp w wq ∧ RdS wq v l, fun _ t11 _ => (intOf t11).toNat, ⟨W.toNat, H.toNat, by rw [show ((W.toNat : Nat) : Int) = W by omega], by rw [show ((H.toNat : Nat) : Int) = H by omega], ?_, by omega, by omega, kr, rr⟩, ?_⟩
    · unfold Int.gcd
      congr 1 <;> omega
    rintro _ _ _ wq ⟨a, b, rfl, rfl, hg, ha, hb, kq, rq⟩
    by_cases hb0 : b = 0
    · have hb0' : (b : Int) = 0 := by omega
      rw [hb0, Nat.gcd_zero_right] at hg
      have hlast : (l.getD (l.length - 1) (0, 0, 0)).2.2 = (a : Int) := by
        rw [List.getLast?_eq_getElem?] at hs
        rw [List.getD_eq_getElem?_getD, hs, hg]
        exact hsg
      simp only [r_neq, decide_eq_true hb0', Bool.not_true, r_condF, lnv]
      rw [r_sub _ _ (by omega) (by omega), show (l.length : Int) - 1 = ((l.length - 1 : Nat) : Int) by omega, side wq rq _ (by omega), hlast]
      simp only [r_ln, r_pick, r_pickT, r_pickF, r_condT, r_condF, r_gdTT, r_gdFF, r_gdTF, r_gdFT, r_gqTT, r_gqFF, r_gqTF, r_gqFT, r_not, r_lss, r_leq, r_gtr, r_geq, r_eql, r_neq, r_add, r_sub, r_min2, r_max2, r_min3, r_max3, r_fa, r_iaS, r_iaA, r_ex2a, r_ex2b, r_ex3a, r_ex3b, r_ex3c, r_nc, r_keepE, Nat.zero_add, Nat.add_zero, Nat.mul_one, Int.toNat_natCast, toNat_sub1, toNat_add1, decide_true, decide_false, Bool.not_true, Bool.not_false, if_true, if_false, Bool.false_eq_true, reduceCtorEq, decide_true]
      refine r_use fok14 (alive_calls wq (hw.kp kq)) rfl ?_
      rintro _ w4 ⟨rfl, k4⟩
      exact ⟨_, rfl, rfl, Kp.trans kq k4⟩
    · have hb0' : ¬ (b : Int) = 0 := by omega
      simp only [r_neq, decide_eq_false hb0', Bool.not_false, r_condT]
      refine r_drew fun w3 k3 _ => ?_
      rw [r_remN _ _ (by omega)]
      have hlt := Nat.mod_lt a (show 0 < b by omega)
      refine ⟨⟨b, a % b, rfl, rfl, by rw [Nat.gcd_comm, ← hg, Nat.gcd_comm a b, Nat.gcd_rec b a], hb, by omega, Kp.trans kq k3, rq.kp k3⟩, by simp only [intOf]; omega⟩

end Go.Proofs.YtkdcldbedbagjaaDoor
