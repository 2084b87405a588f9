/- Texts of my own, merged by program: Nl Nm. -/
import Derived.Test.YtbekeccfjmoonaaDoorM32
set_option linter.all false
/- Contract: run. -/
namespace Go.Proofs.YtbekeccfjmoonaaDoor
open Go.Lf Go.RowKit Go.Dt

/-- The choice of a row, so far. -/
def Pick (N C : Nat) (S : Sx.Tb) (j i : Nat) (t : Int) : Prop :=
  (t = -1 ∧ ∀ q, q < i → S.T q j ≤ 0) ∨ ∃ o : Nat, t = o ∧ o < i ∧ 0 < S.T o j ∧ ∀ q, q < i → 0 < S.T q j → S.T o (N + C) < S.T q (N + C) ∨ (S.T o (N + C) = S.T q (N + C) ∧ S.b o ≤ S.b q)

section
variable {base bt N C : Nat} {rv gv bv : Value} {vs : List Value} {R : List (List Int)} {G B : List Int} {M : Nat → Nat → Int} {s : Nat → Int} {S : Sx.Tb}

set_option maxRecDepth 100000 in
set_option maxHeartbeats 2000000 in
theorem r33_1 {j : Nat} {w1 : World} {next : World → Prop} (hc : Sx.Cols N C M s) (hi : Sx.Inv N C M S) (hT : IsTb N C R G B S) (hC : C ≤ 16) (hN : N ≤ 100) (hj : j < N + C) (hneg : S.g j < 0) (hlow : ∀ k, k < j → 0 ≤ S.g k) (h : TbAt base w1 bt N C rv gv bv vs R G B) (hb : base ≤ w1.heap.size)
    (hnext : ∀ w' R' G' B' r, Sx.Rule N C S r j → Below base w1 w' → TbAt base w' bt N C rv gv bv vs R' G' B' → IsTb N C R' G' B' (Sx.pv S r j) → next w') :
    S33L1 (ptrV bt) (.int .i64 ((N : Int) + C)) (.int .i64 j) rv (.int .i64 C) next w1 := by
  obtain ⟨hsm, hsg⟩ := tb_small hc hi hT hC
  unfold S33L1
  refine ⟨fun t4 t32 wr => ∃ (i : Nat) (t : Int), i ≤ C ∧ t32 = .int .i64 i ∧ t4 = .int .i64 t ∧ Pick N C S j i t ∧ Kp w1 wr, fun _ t32 _ => C - (intOf t32).toNat, ⟨0, -1, by omega, rfl, rfl, .inl ⟨rfl, fun q hq => by omega⟩, Kp.refl _⟩, ?_⟩
  rintro _ _ _ wr ⟨i, t, hil, rfl, rfl, hp, kr⟩
  have tr := h.kp kr
  have szr := kr.size
  by_cases hlt : i < C
  case neg =>
    have hlt' : ¬ (i : Int) < (C : Int) := by omega
    obtain rfl : i = C := by omega
    rw [r_lss, decide_eq_false hlt', r_condF]
    obtain ⟨q0, hq0, hpos0⟩ := Sx.bounded hc hi hj hneg
    rcases hp with ⟨_, hall⟩ | ⟨o, rfl, ho, hpos, hrat⟩
    · have := hall q0 hq0; omega
    have hrule : Sx.Rule N i S o j := ⟨hj, hneg, hlow, ho, hpos, hrat⟩
    refine r_use fok63 (pivot63_calls wr hc hi hT hC hN hrule tr (by omega)) rfl ?_
    rintro _ w2 ⟨rfl, b2, R', G', B', h1, h2⟩
    exact ⟨_, rfl, hnext w2 R' G' B' o hrule ((Below.mono kr (by omega)).trans b2) h1 h2⟩
  have hlt' : (i : Int) < (C : Int) := by omega
  rw [r_lss, decide_eq_true hlt', r_condT]
  have hnx : ∀ (w' : World) (t' : Int), Pick N C S j (i + 1) t' → Kp w1 w' → (binQ Tryd.prog w' .add 3 true (.int .i64 i) (.int .i64 1) fun t101_2 => (∃ (i : Nat) (t : Int), i ≤ C ∧ t101_2 = .int .i64 i ∧ Value.int .i64 t' = .int .i64 t ∧ Pick N C S j i t ∧ Kp w1 w') ∧ C - (intOf t101_2).toNat < C - (intOf (.int .i64 (i : Int))).toNat) := fun w' t' h1 h2 => by
    rw [r_add _ _ (by omega) (by omega)]
    exact ⟨⟨i + 1, t', by omega, by go_num, rfl, h1, h2⟩, by simp only [intOf]; omega⟩
  obtain ⟨u, hu, Iu, ldu, _⟩ := tr.rowI hlt
  have hul : (R.getD i []).length = N + C + 1 := tr.siz.2 i hlt
  have e1 : (R.getD i []).getD j 0 = S.T i j := hT.T i j hlt (by omega)
  simp only [Join]
  rw [ldu, own_ldK Iu (by omega), e1, r_leq]
  by_cases hle : S.T i j ≤ 0
  · rw [decide_eq_true hle, r_condT]
    refine hnx wr t ?_ kr
    rcases hp with ⟨rfl, hall⟩ | ⟨o, rfl, ho, hpos, hrat⟩
    · exact .inl ⟨rfl, fun q hq => by
        by_cases e : q = i
        · rw [e]; exact hle
        · exact hall q (by omega)⟩
    · exact .inr ⟨o, rfl, by omega, hpos, fun q hq hq2 => by
        by_cases e : q = i
        · rw [e] at hq2; omega
        · exact hrat q (by omega) hq2⟩
  rw [decide_eq_false hle, r_condF, r_lss]
  rcases hp with ⟨rfl, hall⟩ | ⟨o, rfl, ho, hpos, hrat⟩
  · rw [decide_eq_true (by omega), r_condT]
    refine hnx wr i ?_ kr
    exact .inr ⟨i, rfl, by omega, by omega, fun q hq hq2 => by
      by_cases e : q = i
      · subst e; exact .inr ⟨rfl, Nat.le_refl _⟩
      · have := hall q (by omega); omega⟩
  rw [decide_eq_false (by omega), r_condF]
  refine r_drew fun w2 k2 _ => ?_
  have k12 := Kp.trans kr k2
  have t2 := h.kp k12
  have hoC : o < C := by omega
  obtain ⟨uo, huo, Io, ldo, _⟩ := t2.rowI hoC
  have hol : (R.getD o []).length = N + C + 1 := tr.siz.2 o hoC
  have Iu2 := RecAt.kp Iu k2
  obtain ⟨_, _, d2, _, d4, _⟩ := t2.cells
  have o1 : S.T o j = 1 := by have := Sx.entry hc hi hoC hj; omega
  have i1 : S.T i j = 1 := by have := Sx.entry hc hi hlt hj; omega
  have e2 : (R.getD o []).getD j 0 = 1 := (hT.T o j hoC (by omega)).trans o1
  have e3 : (R.getD o []).getD (N + C) 0 = S.T o (N + C) := hT.T o _ hoC (by omega)
  have e4 : (R.getD i []).getD (N + C) 0 = S.T i (N + C) := hT.T i _ hlt (by omega)
  have b3 := hsm o (N + C) hoC (by omega)
  have b4 := hsm i (N + C) hlt (by omega)
  rw [hT.T o _ hoC (by omega)] at b3
  rw [hT.T i _ hlt (by omega)] at b4
  have hlast : ∀ K : Value → Prop, (iaS 1 u (.int .i64 ((N : Int) + C)) fun p => ld1 w2 p K) = K (.int .i64 (S.T i (N + C))) := fun K => by
    have := own_ldK Iu2 (j := N + C) (by omega) K
    rw [e4, Int.natCast_add] at this
    exact this
  have hlasto : ∀ K : Value → Prop, (iaS 1 uo (.int .i64 ((N : Int) + C)) fun p => ld1 w2 p K) = K (.int .i64 (S.T o (N + C))) := fun K => by
    have := own_ldK Io (j := N + C) (by omega) K
    rw [e3, Int.natCast_add] at this
    exact this
  rw [hlast, r_nc, r_fa, r_ld d2, ldo, own_ldK Io (by omega), e2, r_mul _ _ (by omega) (by omega), Int.mul_one, r_nc, r_fa, r_ld d2, ldo, hlasto, own_ldK Iu2 (by omega), e1, i1, r_mul _ _ (by omega) (by omega), Int.mul_one]
  refine r_drew fun w3 k3 _ => ?_
  have k13 := Kp.trans k12 k3
  have t3 := h.kp k13
  obtain ⟨_, _, _, _, d4, _⟩ := t3.cells
  have hbl := t3.bl
  have hlb : ∀ q, q < C → ∀ K : Value → Prop, (iaS 1 bv (.int .i64 q) fun p => ld1 w3 p K) = K (.int .i64 ((S.b q : Nat) : Int)) := fun q hq K => by
    rw [own_ldK t3.ba (by omega), hT.b q hq]
  have take_i : (S.T i (N + C) < S.T o (N + C) ∨ (S.T i (N + C) = S.T o (N + C) ∧ S.b i ≤ S.b o)) → Pick N C S j (i + 1) (i : Int) := fun hx => .inr ⟨i, rfl, by omega, by omega, fun q hq hq2 => by
    by_cases e : q = i
    · subst e; exact .inr ⟨rfl, Nat.le_refl _⟩
    · have := hrat q (by omega) hq2; omega⟩
  have take_o : (S.T o (N + C) < S.T i (N + C) ∨ (S.T o (N + C) = S.T i (N + C) ∧ S.b o ≤ S.b i)) → Pick N C S j (i + 1) (o : Int) := fun hx => .inr ⟨o, rfl, by omega, hpos, fun q hq hq2 => by
    by_cases e : q = i
    · subst e; exact hx
    · exact hrat q (by omega) hq2⟩
  rw [r_lss]
  by_cases h1 : S.T i (N + C) < S.T o (N + C)
  · simp only [decide_eq_true h1, r_gqTF, r_pickT, r_condT]
    first
      | exact hnx w3 i (take_i (.inl h1)) k13
      | (simp only [r_gdQ, undef]; exact hnx w3 i (take_i (.inl h1)) k13)
  · simp only [decide_eq_false h1, r_gqFF, r_pickF, r_eql]
    by_cases h2 : S.T i (N + C) = S.T o (N + C)
    · simp only [decide_eq_true h2, r_gqTT, r_nc, r_fa]
      rw [r_ld d4]
      rw [hlb i hlt, r_ld d4, hlb o hoC, r_lss]
      by_cases h3 : ((S.b i : Nat) : Int) < ((S.b o : Nat) : Int)
      · simp only [decide_eq_true h3, r_pickT, r_condT]
        exact hnx w3 i (take_i (.inr ⟨h2, by omega⟩)) k13
      · simp only [decide_eq_false h3, r_pickT, r_condF]
        exact hnx w3 o (take_o (.inr ⟨h2.symm, by omega⟩)) k13
    · simp only [decide_eq_false h2, r_gqFT, r_pickF, r_condF]
      exact hnx w3 o (take_o (.inl (by omega))) k13

end
end Go.Proofs.YtbekeccfjmoonaaDoor

/- Contract: run, whole. -/
namespace Go.Proofs.YtbekeccfjmoonaaDoor
open Go.Lf Go.RowKit Go.Dt

theorem has_least {p : Nat → Prop} (h : ∃ n, p n) : ∃ n, p n ∧ ∀ m, p m → n ≤ m := by
  obtain ⟨n, hn⟩ := h
  induction n using Nat.strongRecOn with
  | ind n ih =>
    by_cases hx : ∃ m, m < n ∧ p m
    · obtain ⟨m, h1, h2⟩ := hx
      exact ih m h1 h2
    · exact ⟨n, hn, fun m hm => Classical.byContradiction fun h => hx ⟨m, by omega, hm⟩⟩
open Classical in
/-- The least number of a kind. -/
noncomputable def leastN (p : Nat → Prop) : Nat := if h : ∃ n, p n then Classical.choose (has_least h) else 0
theorem leastN_spec {p : Nat → Prop} (h : ∃ n, p n) : p (leastN p) := by
  unfold leastN
  rw [dif_pos h]
  exact (Classical.choose_spec (has_least h)).1
theorem leastN_le {p : Nat → Prop} {m : Nat} (hm : p m) : leastN p ≤ m := by
  have h : ∃ n, p n := ⟨m, hm⟩
  unfold leastN
  rw [dif_pos h]
  exact (Classical.choose_spec (has_least h)).2 m hm

section
variable {base bt N C : Nat} {rv gv bv : Value} {vs : List Value} {M : Nat → Nat → Int} {s : Nat → Int}
/-- A right tableau is in memory from which at most n pivots are left. -/
def GoodW (base bt N C : Nat) (rv gv bv : Value) (vs : List Value) (M : Nat → Nat → Int) (w : World) (n : Nat) : Prop :=
  ∃ R G B S, TbAt base w bt N C rv gv bv vs R G B ∧ IsTb N C R G B S ∧ Sx.Inv N C M S ∧ Sx.Within N C n S

set_option maxRecDepth 100000 in
set_option maxHeartbeats 2000000 in
theorem run_calls {R : List (List Int)} {G B : List Int} {S : Sx.Tb} (w : World) (hc : Sx.Cols N C M s) (hi : Sx.Inv N C M S) (hT : IsTb N C R G B S) (hC : C ≤ 16) (hN : N ≤ 100) (h : TbAt base w bt N C rv gv bv vs R G B) (hb : base ≤ w.heap.size) :
    Calls Tryd.prog 33 #[ptrV bt] w fun e w' => e = .returned (.tuple #[]) ∧ Below base w w' ∧ ∃ R' G' B' S', TbAt base w' bt N C rv gv bv vs R' G' B' ∧ IsTb N C R' G' B' S' ∧ Sx.Inv N C M S' ∧ ∀ k, k < N + C → 0 ≤ S'.g k := by
  refine lift33 ?_
  unfold S33
  refine r_drew fun w1 k1 _ => ?_
  have t1 := h.kp k1
  obtain ⟨d0, d1, _⟩ := t1.cells
  rw [r_nc, r_fa, Nat.zero_add, r_ld d0, r_nc, r_fa, r_ld d1, r_add _ _ (by omega) (by omega)]
  unfold S33L0
  refine ⟨fun wr => Below base w wr ∧ ∃ n, GoodW base bt N C rv gv bv vs M wr n, fun wr => leastN (GoodW base bt N C rv gv bv vs M wr), ⟨Below.mono k1 hb, ?_⟩, ?_⟩
  · obtain ⟨m, hm⟩ := Sx.within hc hi
    exact ⟨m, R, G, B, S, t1, hT, hi, hm⟩
  rintro _ wr ⟨br, hex⟩
  have hsp := leastN_spec hex
  generalize hn0 : leastN (GoodW base bt N C rv gv bv vs M wr) = n0 at hsp
  obtain ⟨R', G', B', S', tr, hT', hi', hw'⟩ := hsp
  have hsz := br.size
  obtain ⟨_, _, d2, d3, _⟩ := tr.cells
  obtain ⟨ga, gc, eg, hgc⟩ := tr.go.len
  have hgl := tr.gl
  have hsl : ∀ K : Value → Prop, slS 1 gv none (some (.int .i64 ((N : Int) + C))) K = K (.slice ga (N + C) gc) := fun K => by
    rw [eg, r_slTo (by omega) (by omega), show ((N : Int) + C).toNat = N + C by omega]
  rw [r_nc, r_fa, r_ld d3, hsl]
  have hrd : RdInts wr (.slice ga (N + C) gc) (G'.take (N + C)) := by
    have := RecAt.rd iC_len tr.go
    rw [eg] at this
    have h2 := Rd.ints (this.take (i := N + C) (by omega)) (by rw [List.length_take]; omega)
    exact h2
  have hlt : (G'.take (N + C)).length = N + C := by rw [List.length_take]; omega
  have hg : ∀ k, k < N + C → (G'.take (N + C)).getD k 0 = S'.g k := fun k hk => by
    rw [List.getD_eq_getElem?_getD, List.getElem?_take, if_pos hk, ← List.getD_eq_getElem?_getD]
    exact hT'.g k (by omega)
  refine r_use fok61 (first_calls wr hrd (by omega)) rfl ?_
  rintro _ _ ⟨rfl, p, rfl, hp⟩
  refine ⟨_, rfl, ?_⟩
  rw [r_lss]
  rcases hp with ⟨rfl, hall⟩ | ⟨hp0, hp1, hp2, hp3⟩
  · rw [decide_eq_true (by omega), r_condT]
    exact ⟨rfl, br, R', G', B', S', tr, hT', hi', fun k hk => by rw [← hg k hk]; exact hall k (by omega)⟩
  · obtain ⟨j, rfl⟩ : ∃ j : Nat, p = j := ⟨p.toNat, by omega⟩
    rw [show (j : Int).toNat = j by omega, hg j (by omega)] at hp2
    have lnr : ∀ K : Value → Prop, ln1 rv K = K (.int .i64 C) := fun K => by
      obtain ⟨a, c, e⟩ := IMat.len ⟨vs, tr.mat⟩
      rw [e.1, tr.siz.1]; rfl
    rw [decide_eq_false (by omega), r_condF, r_nc, r_fa, r_ld d2, lnr]
    refine r33_1 hc hi' hT' hC hN (by omega) hp2 (fun k hk => by rw [← hg k (by omega)]; exact hp3 k (by omega)) tr (by omega) fun w' R2 G2 B2 r hru hbw h1 h2 => ?_
    have hpos : ∃ m, n0 = m + 1 := by
      match n0, hw' with
      | 0, hw' => exact absurd hru (hw' r j)
      | m + 1, _ => exact ⟨m, rfl⟩
    obtain ⟨m, rfl⟩ := hpos
    have hgood : GoodW base bt N C rv gv bv vs M w' m := ⟨R2, G2, B2, _, h1, h2, Sx.pv_inv hc hi' hru, hw' r j hru⟩
    refine ⟨⟨br.trans hbw, m, hgood⟩, ?_⟩
    show leastN (GoodW base bt N C rv gv bv vs M w') < leastN (GoodW base bt N C rv gv bv vs M wr)
    rw [hn0]
    have := leastN_le hgood
    omega

end
end Go.Proofs.YtbekeccfjmoonaaDoor
