/- Texts of my own, merged by program: Nb Nc. -/
import Derived.Test.YtbekeccfjmoonaaDoorM24
set_option linter.all false
/- Contract: the determinant modulo the prime. -/
namespace Go.Proofs.YtbekeccfjmoonaaDoor
open Go.Lf Go.RowKit Go.Dt

section
variable {n : Nat} {base : Nat}

def Rng (n : Nat) (R : List (List Int)) : Prop := ∀ a b, a < n → b < n → 0 ≤ hat R a b ∧ hat R a b < 2147483647
/-- How many times the row k is taken from the row a. -/
def tms (R : List (List Int)) (k a : Nat) : Int := hat R a k * (invN (hat R k k).toNat : Int) % 2147483647
/-- What stands in the row a after the step k. -/
def el (R : List (List Int)) (k a b : Nat) : Int := if tms R k a = 0 then hat R a b else (hat R a b + (2147483647 - tms R k a) * hat R k b) % 2147483647
structure ESt (n base : Nat) (R0 : List (List Int)) (k r c : Nat) (v : Value) (vs : List Value) (R : List (List Int)) (w : World) : Prop where
  mat : IMatV base w v vs R
  siz : Sized n n R
  at' : ∀ a b, a < n → b < n → hat R a b = if k < a ∧ k ≤ b ∧ (a < r ∨ (a = r ∧ b < c)) then el R0 k a b else hat R0 a b
theorem ESt.kp {R0 : List (List Int)} {k r c : Nat} {v : Value} {vs : List Value} {R : List (List Int)} {w w' : World} (h : ESt n base R0 k r c v vs R w) (hk : Kp w w') : ESt n base R0 k r c v vs R w' := ⟨h.mat.kp hk, h.siz, h.at'⟩

theorem prodP {x y : Int} (h0 : 0 ≤ x) (h1 : x ≤ 2147483647) (g0 : 0 ≤ y) (g1 : y ≤ 2147483647) : 0 ≤ x * y ∧ x * y ≤ 4611686014132420609 :=
  ⟨Int.mul_nonneg h0 g0, Int.le_trans (Int.mul_le_mul h1 g1 g0 (by omega)) (by decide)⟩

set_option maxRecDepth 100000 in
set_option maxHeartbeats 2000000 in
theorem r28_2 {R0 : List (List Int)} {k r b4 top : Nat} {v u : Value} {vs : List Value} {R : List (List Int)} {w0 : World} {t68 : Value} {next : Value → World → Prop} (hn : n ≤ 1000) (hk : k < n) (hkr : k < r) (hrn : r < n)
    (hR0 : Rng n R0) (hst : ESt n base R0 k r k v vs R w0) (hu : vs[r]? = some u) (htop : TopV top v vs) (h4 : w0.heap[b4]? = some (.cells #[.int .i64 k] 3 (0, 0))) (t4 : top ≤ b4) (hb : base ≤ w0.heap.size) (ht : t68 = .int .i64 ((r : Int) - (k + 1 : Nat)))
    (hnext : ∀ w' R', ESt n base R0 k (r + 1) k v vs R' w' → Below base w0 w' → w'.heap[b4]? = some (.cells #[.int .i64 k] 3 (0, 0)) → next (.int .i64 (((r + 1 : Nat) : Int) - (k + 1 : Nat))) w') :
    S28L2 v (ptrV b4) t68 u (.int .i64 (tms R0 k r)) (.int .i64 k) next w0 := by
  subst ht
  obtain ⟨va, vc, ev, _⟩ := IMat.len ⟨vs, hst.mat⟩
  have hRl : R.length = n := hst.siz.1
  have lnv : ∀ K : Value → Prop, ln1 v K = K (.int .i64 n) := fun K => by rw [ev, hRl]; rfl
  have hm0 : 0 ≤ tms R0 k r ∧ tms R0 k r < 2147483647 := ⟨Int.emod_nonneg _ (by decide), Int.emod_lt_of_pos _ (by decide)⟩
  unfold S28L2
  refine ⟨fun t wr => ∃ (c : Nat) (R' : List (List Int)), k ≤ c ∧ c ≤ n ∧ t = .int .i64 c ∧ ESt n base R0 k r c v vs R' wr ∧ Below base w0 wr ∧ wr.heap[b4]? = some (.cells #[.int .i64 k] 3 (0, 0)), fun t _ => n - (intOf t).toNat,
    ⟨k, R, Nat.le_refl _, by omega, rfl, hst, Below.refl _ _, h4⟩, ?_⟩
  rintro _ _ wr ⟨c, R', hkc, hcn, rfl, hs, kr, g4⟩
  have hend : (tms R0 k r = 0 ∨ c = n) → ∀ w', w' = wr → next (.int .i64 (((r + 1 : Nat) : Int) - (k + 1 : Nat))) w' := by
    rintro hh _ rfl
    refine hnext _ R' ⟨hs.mat, hs.siz, fun a b h1 h2 => ?_⟩ kr g4
    rw [hs.at' a b h1 h2]
    by_cases e : k < a ∧ k ≤ b ∧ (a < r ∨ (a = r ∧ b < c))
    · rw [if_pos e, if_pos (by omega)]
    · rw [if_neg e]
      by_cases e2 : k < a ∧ k ≤ b ∧ (a < r + 1 ∨ (a = r + 1 ∧ b < k))
      · rw [if_pos e2]
        rcases hh with hh | hh
        · have : a = r := by omega
          subst this
          unfold el
          rw [if_pos hh]
        · omega
      · rw [if_neg e2]
  have e1 : ((r : Int) - ((k + 1 : Nat) : Int)) + 1 = (((r + 1 : Nat) : Int) - ((k + 1 : Nat) : Int)) := by omega
  by_cases hz : tms R0 k r = 0
  · simp only [r_neq, hz, decide_true, Bool.not_true, r_gdFT, r_pickF, r_condF]
    rw [r_add _ _ (by omega) (by omega), e1]
    exact hend (.inl hz) _ rfl
  simp only [r_neq, hz, decide_false, Bool.not_false, r_gdTT, r_pickT, lnv, r_lss]
  by_cases hlt : c < n
  case neg =>
    have hlt' : ¬ (c : Int) < (n : Int) := by omega
    simp only [hlt', decide_false, r_condF]
    rw [r_add _ _ (by omega) (by omega), e1]
    exact hend (.inr (by omega)) _ rfl
  have hlt' : (c : Int) < (n : Int) := by omega
  simp only [decide_eq_true hlt', r_condT]
  refine r_drew fun w1 k1 he1 => ?_
  have hs1 := hs.kp k1
  have g41 := block_below g4 k1
  have hR'l : R'.length = n := hs1.siz.1
  have hrow : ∀ a, a < n → (R'.getD a []).length = n := hs1.siz.2
  obtain ⟨ui, _, Ii, ldi⟩ := hs1.mat.ldK (i := k) (by omega)
  obtain ⟨g, cap, q, cq, ev1, hcg, hbg, hbq, hcell, hfr, ⟨uq, huq, hq⟩, hput⟩ := hs1.mat.put (i := r) (j := c) (by omega) (by rw [hrow r hrn]; exact hlt)
  obtain ⟨ur, hur, Ir, ldr⟩ := hs1.mat.ldK (i := r) (by omega)
  have eu : u = .slice (some ⟨q, 0, none⟩) (R'.getD r []).length cq := by
    have h1 := ldr fun x => x = .slice (some ⟨q, 0, none⟩) (R'.getD r []).length cq
    have hii : (r : Int).toNat = r := by omega
    rw [ev1, r_iaS _ _ _ _ _ _ _ (by omega) (by omega), hii, Nat.mul_one, Nat.zero_add, r_ld hcg] at h1
    rw [hu] at hur
    cases hur
    exact h1.mp rfl
  have c4 : w1.cell? ⟨b4, 0, none⟩ = some (.int .i64 k) := by rw [cell_row g41]; rfl
  have hcc : (c : Int).toNat = c := by omega
  have x1 : hat R' r c = hat R0 r c := by rw [hs1.at' r c hrn hlt, if_neg (by omega)]
  have x2 : (R'.getD k []).getD c 0 = hat R0 k c := by
    have := hs1.at' k c hk hlt
    rw [if_neg (by omega)] at this
    exact this
  have B1 := hR0 r c hrn hlt
  have B2 := hR0 k c hk hlt
  have P1 := prodP (x := 2147483647 - tms R0 k r) (y := hat R0 k c) (by omega) (by omega) (by omega) (by omega)
  rw [eu, hrow r hrn, r_iaS _ _ _ _ _ _ _ (by omega) (by omega), hcc, Nat.mul_one, Nat.zero_add, r_ld hcell, r_sub _ _ (by omega) (by omega), r_ld c4, ldi, own_ldK Ii (by rw [hrow k hk]; exact hlt), x2, x1, r_mul _ _ (by omega) (by omega), r_add _ _ (by omega) (by omega), r_rem _ _ (by omega) (by omega), r_iaS _ _ _ _ _ _ _ (by omega) (by omega), hcc, Nat.mul_one, Nat.zero_add, st3 hcell hfr]
  rw [r_add _ _ (by omega) (by omega)]
  have hch : Chg (fun k => k = q) w1 (w1.setCell ⟨q, c, none⟩ (.int .i64 ((hat R0 r c + (2147483647 - tms R0 k r) * hat R0 k c) % 2147483647))) := Chg.setCell _ _ rfl
  have hqT := htop.2 r uq huq q hq
  refine ⟨⟨c + 1, _, by omega, by omega, by go_num, ⟨hput _, put2_sized hs1.siz hrn _, fun a b h1 h2 => ?_⟩, ?_, ?_⟩, by simp only [intOf]; omega⟩
  · rw [put2_hat _ _ _ _ _ _ (by omega) (by rw [hrow r hrn]; exact hlt)]
    by_cases e : a = r ∧ b = c
    · rw [if_pos e, if_pos (by omega), e.1, e.2]
      unfold el
      rw [if_neg hz]
    · rw [if_neg e, hs1.at' a b h1 h2]
      by_cases e' : k < a ∧ k ≤ b ∧ (a < r ∨ (a = r ∧ b < c))
      · rw [if_pos e', if_pos (by omega)]
      · rw [if_neg e', if_neg (by omega)]
  · have hsz := kr.size
    have hs1' := k1.size
    exact kr.trans ((Below.mono k1 (by omega)).trans (hch.below (by omega) fun k e => by omega))
  · exact hch.at g41 (by omega)

set_option maxRecDepth 100000 in
set_option maxHeartbeats 2000000 in
theorem r28_1 {R0 : List (List Int)} {k b4 top vc : Nat} {va : Option Addr} {vs : List Value} {w0 : World} {out t13 : Value} {next : Value → Value → World → Prop} (hn : n ≤ 1000) (hk : k < n)
    (hR0 : Rng n R0) (hst : ESt n base R0 k (k + 1) k (.slice va n vc) vs R0 w0) (htop : TopV top (.slice va n vc) vs) (h4 : w0.heap[b4]? = some (.cells #[.int .i64 k] 3 (0, 0))) (t4 : top ≤ b4) (hb : base ≤ w0.heap.size) (ht : t13 = .int .i64 k)
    (hnext : ∀ w' R', ESt n base R0 k n k (.slice va n vc) vs R' w' → Below base w0 w' → next out (.int .i64 ((k : Int) + 1)) w') :
    S28L1 (.slice va n vc) (ptrV b4) t13 out (.int .i64 (invN (hat R0 k k).toNat)) (.slice (if vc = k + 1 then va else va.map fun x => x.add ((k + 1) * 1)) (n - (k + 1)) (vc - (k + 1))) (.int .i64 ((n - (k + 1) : Nat) : Int)) next w0 := by
  subst ht
  unfold S28L1
  refine ⟨fun t wr => ∃ (r : Nat) (R' : List (List Int)), k < r ∧ r ≤ n ∧ t = .int .i64 ((r : Int) - (k + 1 : Nat)) ∧ ESt n base R0 k r k (.slice va n vc) vs R' wr ∧ Below base w0 wr ∧ wr.heap[b4]? = some (.cells #[.int .i64 k] 3 (0, 0)), fun t _ => n - (intOf t).toNat,
    ⟨k + 1, R0, by omega, by omega, by go_num, hst, Below.refl _ _, h4⟩, ?_⟩
  rintro _ _ wr ⟨r, R', hkr, hrn, rfl, hs, kr, g4⟩
  have hsz := kr.size
  by_cases hlt : r < n
  case neg =>
    have hlt' : ¬ ((r : Int) - ((k + 1 : Nat) : Int)) < ((n - (k + 1) : Nat) : Int) := by omega
    obtain rfl : r = n := by omega
    simp only [r_lss, hlt', decide_false, r_condF]
    rw [r_add _ _ (by omega) (by omega)]
    exact hnext wr R' hs kr
  have hlt' : ((r : Int) - ((k + 1 : Nat) : Int)) < ((n - (k + 1) : Nat) : Int) := by omega
  simp only [r_lss, decide_eq_true hlt', r_condT]
  have c4 : wr.cell? ⟨b4, 0, none⟩ = some (.int .i64 k) := by rw [cell_row g4]; rfl
  have hrow : ∀ a, a < n → (R'.getD a []).length = n := hs.siz.2
  obtain ⟨u, hu, Iu, ldu⟩ := hs.mat.ldFrom (k := k + 1) (i := r - (k + 1)) (by omega)
  rw [show k + 1 + (r - (k + 1)) = r by omega] at hu Iu
  rw [show ((r : Int) - ((k + 1 : Nat) : Int)) = ((r - (k + 1) : Nat) : Int) by omega, ldu, r_ld c4, own_ldK Iu (by rw [hrow r hlt]; exact hk)]
  have x1 : (R'.getD r []).getD k 0 = hat R0 r k := by
    have := hs.at' r k hlt hk
    rw [if_neg (by omega)] at this
    exact this
  have B1 := hR0 r k hlt hk
  have hpr : Fm.pr = 2147483647 := rfl
  have hI := invN_lt (hat R0 k k).toNat
  have P1 := prodP (x := hat R0 r k) (y := (invN (hat R0 k k).toNat : Int)) (by omega) (by omega) (by omega) (by omega)
  rw [x1, r_mul _ _ (by omega) (by omega), r_rem _ _ (by omega) (by omega), r_ld c4]
  refine r28_2 hn hk hkr hlt hR0 hs hu htop g4 t4 (by omega) (congrArg (Value.int .i64) (by omega)) fun w' R'' h1 h2 h3 => ?_
  exact ⟨⟨r + 1, R'', by omega, by omega, rfl, h1, kr.trans h2, h3⟩, by simp only [intOf]; omega⟩

end
end Go.Proofs.YtbekeccfjmoonaaDoor

/- Contract: the determinant modulo the prime, whole. -/
namespace Go.Proofs.YtbekeccfjmoonaaDoor
open Go.Lf Go.RowKit Go.Dt

theorem tms_mo {n k a : Nat} {R : List (List Int)} (hR : Rng n R) (hk : k < n) (h0 : hat R k k ≠ 0) : Mo (hat R a k + -(tms R k a) * hat R k k) 0 := by
  have B := hR k k hk hk
  have h1 := invN_mul (x := (hat R k k).toNat) (by omega) (show _ < 2147483647 by omega)
  have h2 : Mo ((invN (hat R k k).toNat : Int) * hat R k k) 1 := by
    have e : (((invN (hat R k k).toNat) * (hat R k k).toNat % Fm.pr : Nat) : Int) = 1 := by rw [h1]; rfl
    rw [Int.natCast_emod, Int.natCast_mul, Int.toNat_of_nonneg B.1] at e
    refine (Mo.emod _).symm.trans ?_
    rw [show (2147483647 : Int) = ((Fm.pr : Nat) : Int) from rfl, e]
    exact Mo.refl _
  have h3 : Mo (tms R k a * hat R k k) (hat R a k) := by
    refine ((Mo.emod _).mul (Mo.refl (hat R k k))).trans ?_
    rw [Int.mul_assoc]
    have := (Mo.refl (hat R a k)).mul h2
    rwa [Int.mul_one] at this
  have := (Mo.refl (hat R a k)).add h3.neg
  rw [Int.neg_mul]
  rwa [Int.add_right_neg] at this
theorem el_mo {k a b : Nat} {R : List (List Int)} : Mo (el R k a b) (hat R a b + -(tms R k a) * hat R k b) := by
  unfold el
  by_cases h : tms R k a = 0
  · rw [if_pos h, h]
    simp only [Int.neg_zero, Int.zero_mul, Int.add_zero]
    exact Mo.refl _
  · rw [if_neg h]
    refine (Mo.emod _).trans ((Mo.refl _).add ?_)
    exact ⟨hat R k b, by grind⟩
theorem el_rng {n k a b : Nat} {R : List (List Int)} (hR : Rng n R) (ha : a < n) (hb : b < n) : 0 ≤ el R k a b ∧ el R k a b < 2147483647 := by
  unfold el
  split
  · exact hR a b ha hb
  · exact ⟨Int.emod_nonneg _ (by decide), Int.emod_lt_of_pos _ (by decide)⟩

section
variable {n : Nat} {base : Nat}

set_option maxRecDepth 100000 in
set_option maxHeartbeats 4000000 in
/-- THE DETERMINANT of a matrix of the caller's own, small as it is. -/
theorem det28_calls {v : Value} {M : List (List Int)} {D : Int} (w : World) (hm : IMat base w v M) (hs : Sized n n M) (hn : n ≤ 1000) (hR : Rng n M) (hD : Mo (det n (hat M)) D) (hD0 : -1000000 ≤ D) (hD1 : D ≤ 1000000) (hb : base ≤ w.heap.size) :
    Calls Tryd.prog 28 #[v] w fun e w' => e = .returned (.int .i64 D) ∧ Below base w w' := by
  obtain ⟨vs0, hm⟩ := hm
  obtain ⟨va, vc, ev, hvc⟩ := IMat.len ⟨vs0, hm⟩
  rw [hs.1] at hvc
  rw [hs.1] at ev
  subst ev
  have hT0 := hm.top
  refine lift28 ?_
  unfold S28
  rw [r_ln]
  unfold S28L0
  refine ⟨fun t3 t13 wr => ∃ (k : Nat) (out : Int) (vs : List Value) (R : List (List Int)), k ≤ n ∧ t13 = .int .i64 k ∧ t3 = .int .i64 out ∧ 0 ≤ out ∧ out < 2147483647 ∧ Mo (out * det (n - k) fun i j => hat R (k + i) (k + j)) D ∧ IMatV base wr (.slice va n vc) vs R ∧ Sized n n R ∧ Rng n R ∧
      TopV w.heap.size (.slice va n vc) vs ∧ Below base w wr, fun _ t13 _ => n - (intOf t13).toNat, ?_, ?_⟩
  · refine ⟨0, 1, vs0, M, by omega, rfl, rfl, by omega, by omega, ?_, hm, hs, hR, hT0, Below.refl _ _⟩
    simp only [Nat.zero_add, Nat.sub_zero, Int.one_mul]
    exact hD
  rintro _ _ _ wr ⟨k, out, vs, R, hk, rfl, rfl, ho0, ho1, hmo, hmat, hsiz, hrng, hT, kr⟩
  by_cases hlt : k < n
  case neg =>
    have hlt' : ¬ (k : Int) < (n : Int) := by omega
    obtain rfl : k = n := by omega
    simp only [r_lss, hlt', decide_false, r_condF]
    rw [Nat.sub_self] at hmo
    simp only [det, Int.mul_one] at hmo
    rw [r_gtr]
    by_cases hbig : 1073741823 < out
    · rw [decide_eq_true hbig, r_condT, r_sub _ _ (by omega) (by omega)]
      have : Mo (out - 2147483647) D := Mo.trans ⟨-1, by omega⟩ hmo
      exact ⟨by rw [this.eq (by omega) (by omega) (by omega) (by omega)], kr⟩
    · rw [decide_eq_false hbig, r_condF]
      exact ⟨by rw [hmo.eq (by omega) (by omega) (by omega) (by omega)], kr⟩
  have hlt' : (k : Int) < (n : Int) := by omega
  have hRl := hsiz.1
  have hrow := hsiz.2
  have hsz := kr.size
  simp only [r_lss, decide_eq_true hlt', r_condT]
  refine r_box fun b4 w2 e4 s4 h4 k2 => ?_
  have h40 : w2.heap[b4]? = some (.cells #[.int .i64 0] 3 (0, 0)) := h4
  have c40 : w2.cell? ⟨b4, 0, none⟩ = some (.int .i64 0) := by rw [cell_row h40]; rfl
  rw [st3 c40 (frozen_row h40)]
  have hch4 : Chg (fun k => k = b4) w2 (w2.setCell ⟨b4, 0, none⟩ (.int .i64 k)) := Chg.setCell _ _ rfl
  have h41 : (w2.setCell ⟨b4, 0, none⟩ (.int .i64 k)).heap[b4]? = some (.cells #[.int .i64 k] 3 (0, 0)) := by rw [setCell_block h40 rfl]; rfl
  have k3 : Kp wr (w2.setCell ⟨b4, 0, none⟩ (.int .i64 k)) := Kp.of_chg k2 hch4 fun k e => by omega
  generalize w2.setCell ⟨b4, 0, none⟩ (.int .i64 k) = w3 at *
  have c4 : w3.cell? ⟨b4, 0, none⟩ = some (.int .i64 k) := by rw [cell_row h41]; rfl
  have mat3 := hmat.kp k3
  have hw3 := k3.size
  have hkk0 : (k : Int).toNat = k := by omega
  have rd : RdRows w3 (.slice va R.length vc) R := by rw [hRl]; exact mat3.rdr (by omega) fun a ha => by rw [hrow a (by omega)]; omega
  rw [r_ld c4, r_slFrom (by omega) (by omega), hkk0]
  have rd2 := RdRows.from rd (by omega) (i := k) (by omega)
  rw [hRl] at rd2
  refine r_use fok58 (pivot_calls w3 rd2 (by rw [List.length_drop]; omega) (fun j hj => by
    rw [List.length_drop] at hj
    rw [List.getD_eq_getElem?_getD, List.getElem?_drop, ← List.getD_eq_getElem?_getD, hrow (k + j) (by omega)]; exact hlt) c4) rfl ?_
  rintro _ _ ⟨rfl, p, rfl, hp⟩
  refine ⟨_, rfl, ?_⟩
  rw [List.length_drop, hRl] at hp
  rw [r_lss]
  rcases hp with ⟨rfl, hz⟩ | ⟨hp0, hpn, hpz⟩
  · have hm1 : (-1 : Int) < 0 := by omega
    simp only [decide_eq_true hm1, r_condT]
    have : det (n - k) (fun i j => hat R (k + i) (k + j)) = 0 := det_empty hlt (hat R) fun r h1 h2 => by
      have := hz (r - k) (by omega)
      rwa [hat_drop, show k + (r - k) = r by omega] at this
    rw [this, Int.mul_zero] at hmo
    exact ⟨by rw [hmo.eq (by omega) (by omega) (by omega) (by omega)], kr.trans (Below.mono k3 (by omega))⟩
  obtain ⟨p, rfl⟩ : ∃ p' : Nat, p = p' := ⟨p.toNat, by omega⟩
  have hpp : (p : Int).toNat = p := by omega
  rw [hpp, hat_drop] at hpz
  have hneg : ¬ (p : Int) < 0 := by omega
  simp only [hneg, decide_false, r_condF, r_gtr]
  -- behind the exchange
  refine r_join1 (fun t wj => ∃ (o : Int) (vs' : List Value) (R' : List (List Int)), t = .int .i64 o ∧ 0 ≤ o ∧ o ≤ 2147483647 ∧ Mo (o * det (n - k) fun i j => hat R' (k + i) (k + j)) D ∧ IMatV base wj (.slice va n vc) vs' R' ∧ Sized n n R' ∧ Rng n R' ∧ hat R' k k ≠ 0 ∧ TopV w.heap.size (.slice va n vc) vs' ∧ Below base w wj ∧
      wj.heap[b4]? = some (.cells #[.int .i64 k] 3 (0, 0))) ?_ fun kk hkk => ?_
  · rintro _ wj ⟨o, vs', R', rfl, hol, hou, hmo', mat', siz', rng', hnz', hT', kj, g4j⟩
    have hszj := kj.size
    refine r_drew fun w4 k4 _ => ?_
    have c44 : w4.cell? ⟨b4, 0, none⟩ = some (.int .i64 k) := cell_later k4 (by rw [cell_row g4j]; rfl)
    have mat4 := mat'.kp k4
    have hw4 := k4.size
    obtain ⟨ui, _, Ii, ldi⟩ := mat4.ldK (i := k) (by rw [siz'.1]; exact hlt)
    have lr : k < (R'.getD k []).length := by rw [siz'.2 k hlt]; exact hlt
    have eP : (R'.getD k []).getD k 0 = hat R' k k := rfl
    have B1 := rng' k k hlt hlt
    have P1 := prodP (x := o) (y := hat R' k k) (by omega) (by omega) (by omega) (by omega)
    rw [r_ld c44, ldi, r_ld c44, own_ldK Ii lr, eP, r_mul _ _ (by omega) (by omega), r_rem _ _ (by omega) (by omega)]
    refine r_drew fun w5 k5 _ => ?_
    have k45 := Kp.trans k4 k5
    have c45 := cell_later k5 c44
    have mat5 := mat'.kp k45
    have hw5 := k45.size
    obtain ⟨uj, _, Ij, ldj⟩ := mat5.ldK (i := k) (by rw [siz'.1]; exact hlt)
    rw [r_ld c45, ldj, r_ld c45, own_ldK Ij lr, eP, show Value.int .i64 (hat R' k k) = .int .i64 (((hat R' k k).toNat : Nat) : Int) by rw [Int.toNat_of_nonneg B1.1]]
    refine r_use fok60 (inv_calls w5 (show _ < 2147483647 by omega)) rfl ?_
    rintro _ _ ⟨rfl, rfl⟩
    refine ⟨_, rfl, ?_⟩
    rw [r_ld c45, r_add _ _ (by omega) (by omega), r_slFrom (by omega) (by omega), show ((k : Int) + 1).toNat = k + 1 by omega, r_ln]
    have st0 : ESt n base R' k (k + 1) k (.slice va n vc) vs' R' w5 := ⟨mat5, siz', fun a b _ _ => by rw [if_neg (by omega)]⟩
    refine r28_1 hn hlt rng' st0 hT' (block_below g4j k45) (by omega) (by omega) rfl fun w' R'' h1 h2 => ?_
    refine ⟨⟨k + 1, _, vs', R'', by omega, by go_num, rfl, Int.emod_nonneg _ (by decide), Int.emod_lt_of_pos _ (by decide), ?_, h1.mat, h1.siz, fun a b ha hb' => ?_, hT', kj.trans ((Below.mono k45 (by omega)).trans h2)⟩, by simp only [intOf]; omega⟩
    · refine Mo.trans ((Mo.emod _).mul (Mo.refl _)) ?_
      rw [Int.mul_assoc]
      refine Mo.trans ((Mo.refl o).mul (Mo.symm ?_)) hmo'
      refine det_elim hlt (hat R') (hat R'') (fun a => -(tms R' k a)) (fun r j h5 h6 h7 h8 => ?_) fun r h5 h6 => tms_mo rng' hlt hnz'
      rw [h1.at' r j h6 h8, if_pos (by omega)]
      exact el_mo
    · rw [h1.at' a b ha hb']
      split
      · exact el_rng rng' ha hb'
      · exact rng' a b ha hb'
  · by_cases h0 : p = 0
    · subst h0
      have hgt : ¬ (0 : Int) < ((0 : Nat) : Int) := by omega
      simp only [hgt, decide_false, r_condF]
      exact hkk _ _ ⟨out, vs, R, rfl, ho0, by omega, hmo, mat3, hsiz, hrng, by simpa using hpz, hT, kr.trans (Below.mono k3 (by omega)), h41⟩
    · have hgt : (0 : Int) < (p : Int) := by omega
      simp only [decide_eq_true hgt, r_condT]
      refine r_drew fun w4 k4 _ => ?_
      have k34 := Kp.trans k3 k4
      have mat4 := mat3.kp k4
      have c44 := cell_later k4 c4
      have g44 := block_below h41 k4
      have hw4 := k34.size
      obtain ⟨g, cap, a, na, ca, a', na', ca', ev4, hbg, ci, cj, hfr, ⟨x, hx⟩, hfr2, vs', hmat', hsub⟩ := mat4.swap (i := k) (j := k + p) (by omega) (by omega) (by omega)
      rw [hRl] at ev4
      have hgT : g < w.heap.size := hT.1 g (by rw [ev4]; rfl)
      refine ⟨fun k => k = g, ?_⟩
      have hip : ((k : Int) + (p : Int)).toNat = k + p := by omega
      rw [r_ld c44]
      refine r_txe (v := .slice va n vc) (fun _ _ => rfl) ?_
      rw [r_txl c44 (show ¬ b4 = g by omega)]
      refine r_txe (v := .int .i64 p) (fun _ _ => rfl) ?_
      refine r_txe (v := .int .i64 ((k : Int) + p)) (fun w' k => r_add _ _ (by omega) (by omega)) ?_
      rw [r_ld c44, r_add _ _ (by omega) (by omega), ev4, r_iaS _ _ _ _ _ _ _ (by omega) (by omega), hip, Nat.mul_one, Nat.zero_add, r_ld cj, r_ld c44, r_iaS _ _ _ _ _ _ _ (by omega) (by omega), hkk0, Nat.mul_one, Nat.zero_add, r_ld ci, r_iaS _ _ _ _ _ _ _ (by omega) (by omega), hkk0, Nat.mul_one, Nat.zero_add, st31 ci (hfr _)]
      refine ⟨⟨rfl, rfl, rfl, by rw [show (w4.setCell ⟨g, k, none⟩ (.slice a' na' ca')).heap.size = w4.heap.size by simp [World.setCell]]; exact Nat.le_refl _, (Chg.setCell (S := fun k => k = g) w4 (p := ⟨g, k, none⟩) _ rfl).block⟩, ?_⟩
      refine r_txe (v := .pointer (some ⟨g, k + p, none⟩)) (fun w' k => by rw [r_iaS _ _ _ _ _ _ _ (by omega) (by omega), hip, Nat.mul_one, Nat.zero_add]) ?_
      rw [st31 hx (hfr2 _), r_sub _ _ (by omega) (by omega)]
      have hc : Chg (fun k => k = g) w4 ((w4.setCell ⟨g, k, none⟩ (.slice a' na' ca')).setCell ⟨g, k + p, none⟩ (.slice a na ca)) := (Chg.setCell (S := fun k => k = g) w4 (p := ⟨g, k, none⟩) _ rfl).trans (Chg.setCell (S := fun k => k = g) _ (p := ⟨g, k + p, none⟩) _ rfl)
      have hxi : xch k (k + p) k = k + p := by unfold xch; rw [if_pos rfl]
      refine hkk _ _ ⟨2147483647 - out, vs', _, rfl, by omega, by omega, ?_, by rw [ev4]; rw [ev4] at hmat'; exact hmat', swap_sized hsiz hlt (by omega), fun a b h1 h2 => ?_, ?_, ⟨hT.1, fun qx u hu k hk => ?_⟩, ?_, ?_⟩
      · refine Mo.trans ?_ hmo
        rw [det_congr (m := fun i j => hat ((R.set k (R.getD (k + p) [])).set (k + p) (R.getD k [])) (k + i) (k + j)) (m' := fun i j => hat R (xch k (k + p) (k + i)) (k + j)) fun i j _ _ => swap_hat R (by omega) (by omega) _ _, det_change (by omega) (by omega) (hat R)]
        exact ⟨-(det (n - k) fun i j => hat R (k + i) (k + j)), by grind⟩
      · rw [swap_hat _ (by omega) (by omega)]
        exact hrng _ b (by unfold xch; split <;> (try split) <;> omega) h2
      · rw [swap_hat _ (by omega) (by omega), hxi]; exact hpz
      · obtain ⟨pp, hpp⟩ := hsub qx u hu
        exact hT.2 pp u hpp k hk
      · exact (kr.trans (Below.mono k34 (by omega))).trans (hc.below (by omega) fun k e => by omega)
      · exact hc.at g44 (by omega)

end
end Go.Proofs.YtbekeccfjmoonaaDoor
