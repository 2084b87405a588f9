/- Texts of my own, merged by program: C2 E8 K3. -/
import Derived.Test.YtgalbokmgffhkaaM14
import Derived.Test.YtgalbokmgffhkaaM20
import Derived.Test.YtgalbokmgffhkaaM12
import Derived.Test.YtgalbokmgffhkaaM18
set_option linter.all false
/- Contracts: few of the statements; what Good judges; Good of the specification. -/
namespace Go.Proofs.Ytgalbokmgffhkaa
open Go.Lf Go.RowKit Go.Wg

theorem RdI.kp {w w' : World} {v : Value} {l : List Int} (h : RdI w v l) (hk : Kp w w') : RdI w' v l := by
  obtain ⟨a, cap, h1, h2, h3⟩ := h
  refine ⟨a, cap, h1, h2, fun h0 => ?_⟩
  obtain ⟨b, off, h4, h5⟩ := h3 h0
  exact ⟨b, off, h4, fun i hi => cell_later hk (h5 i hi)⟩
theorem RdR.kp {w w' : World} {v : Value} {h : List (List Int)} (hr : RdR w v h) (hk : Kp w w') : RdR w' v h := by
  obtain ⟨a, cap, vs, h1, h2, h3, h4⟩ := hr
  refine ⟨a, cap, vs, h1, h2, fun h0 => ?_, fun i hi => (h4 i hi).kp hk⟩
  obtain ⟨b, off, h5, h6⟩ := h3 h0
  exact ⟨b, off, h5, fun i hi => cell_later hk (h6 i hi)⟩

/-- Few and short enough lists for a statement. -/
def Few (m : Nat) (h : List (List Int)) : Prop := h.length ≤ m ∧ ∀ i, i < h.length → (h.getD i []).length ≤ 20
theorem Few.rows {m : Nat} {w : World} {v : Value} {h : List (List Int)} (hm : m ≤ 1000) (hf : Few m h) (hr : RdR w v h) : RdRows w v h := hr.small (by have := hf.1; omega) fun i hi => by have := hf.2 i hi; omega

set_option maxRecDepth 100000 in
theorem few_calls (m : Nat) (v : Value) (h : List (List Int)) (w : World) (hm : m ≤ 1000) (hr : RdR w v h) : Calls Try.prog 17 #[v, .int .i64 m] w fun e w' => ∃ b, e = .returned (.bool b) ∧ (b = true → Few m h) ∧ w = w' := by
  obtain ⟨a, cap, vs, rfl, _, hc, hrow⟩ := hr
  refine lift17 ?_
  unfold S17
  refine ⟨fun t3 wr => ∃ i : Nat, i ≤ h.length ∧ i ≤ m ∧ t3 = .int .i64 i ∧ w = wr ∧ ∀ k, k < i → (h.getD k []).length ≤ 20, fun t3 _ => h.length - (intOf t3).toNat, ⟨0, by omega, by omega, rfl, rfl, by omega⟩, ?_⟩
  rintro _ _ _ ⟨i, hi, hi10, rfl, rfl, hprev⟩
  by_cases hlt : i < h.length
  case neg =>
    have hlt' : ¬ (i : Int) < (h.length : Int) := by omega
    simp (disch := omega) only [r_ln, r_pick, r_pickT, r_pickF, r_condT, r_condF, r_gdTT, r_gdFF, r_gdTF, r_gdFT, r_gqTT, r_gqFF, r_gqTF, r_gqFT, r_not, r_lss, r_leq, r_gtr, r_geq, r_eql, r_neq, r_add, r_sub, r_min2, r_max2, r_min3, r_max3, r_fa, r_iaS, r_iaA, r_ex2a, r_ex2b, r_ex3a, r_ex3b, r_ex3c, r_nc, r_keepE, Nat.zero_add, Nat.add_zero, Nat.mul_one, Int.toNat_natCast, toNat_sub1, toNat_add1, decide_true, decide_false, Bool.not_true, Bool.not_false, if_true, if_false, Bool.false_eq_true, reduceCtorEq, hlt']
    exact ⟨true, rfl, (fun _ => ⟨by omega, fun k hk => hprev k (by omega)⟩), by first | rfl | trivial⟩
  have hlt' : (i : Int) < (h.length : Int) := by omega
  obtain ⟨b, off, rfl, hcell⟩ := hc (by omega)
  obtain ⟨ra, rc, hv, _⟩ := hrow i hlt
  have hci := hcell i hlt
  rw [hv] at hci
  by_cases h10 : m ≤ i
  · have h10' : (m : Int) ≤ i := by omega
    simp (disch := omega) only [r_ln, r_pick, r_pickT, r_pickF, r_condT, r_condF, r_gdTT, r_gdFF, r_gdTF, r_gdFT, r_gqTT, r_gqFF, r_gqTF, r_gqFT, r_not, r_lss, r_leq, r_gtr, r_geq, r_eql, r_neq, r_add, r_sub, r_min2, r_max2, r_min3, r_max3, r_fa, r_iaS, r_iaA, r_ex2a, r_ex2b, r_ex3a, r_ex3b, r_ex3c, r_nc, r_keepE, Nat.zero_add, Nat.add_zero, Nat.mul_one, Int.toNat_natCast, toNat_sub1, toNat_add1, decide_true, decide_false, Bool.not_true, Bool.not_false, if_true, if_false, Bool.false_eq_true, reduceCtorEq, decide_eq_true hlt', decide_eq_true h10']
    exact ⟨false, rfl, (fun h => absurd h (by decide)), by first | rfl | trivial⟩
  have h10' : ¬ (m : Int) ≤ i := by omega
  by_cases hl : 20 < (h.getD i []).length
  · have hl' : (20 : Int) < ((h.getD i []).length : Int) := by omega
    simp (disch := omega) only [r_ln, r_pick, r_pickT, r_pickF, r_condT, r_condF, r_gdTT, r_gdFF, r_gdTF, r_gdFT, r_gqTT, r_gqFF, r_gqTF, r_gqFT, r_not, r_lss, r_leq, r_gtr, r_geq, r_eql, r_neq, r_add, r_sub, r_min2, r_max2, r_min3, r_max3, r_fa, r_iaS, r_iaA, r_ex2a, r_ex2b, r_ex3a, r_ex3b, r_ex3c, r_nc, r_keepE, Nat.zero_add, Nat.add_zero, Nat.mul_one, Int.toNat_natCast, toNat_sub1, toNat_add1, decide_true, decide_false, Bool.not_true, Bool.not_false, if_true, if_false, Bool.false_eq_true, reduceCtorEq, decide_eq_true hlt', h10', r_ld hci, decide_eq_true hl']
    exact ⟨false, rfl, (fun h => absurd h (by decide)), by first | rfl | trivial⟩
  have hl' : ¬ (20 : Int) < ((h.getD i []).length : Int) := by omega
  simp (disch := omega) only [r_ln, r_pick, r_pickT, r_pickF, r_condT, r_condF, r_gdTT, r_gdFF, r_gdTF, r_gdFT, r_gqTT, r_gqFF, r_gqTF, r_gqFT, r_not, r_lss, r_leq, r_gtr, r_geq, r_eql, r_neq, r_add, r_sub, r_min2, r_max2, r_min3, r_max3, r_fa, r_iaS, r_iaA, r_ex2a, r_ex2b, r_ex3a, r_ex3b, r_ex3c, r_nc, r_keepE, Nat.zero_add, Nat.add_zero, Nat.mul_one, Int.toNat_natCast, toNat_sub1, toNat_add1, decide_true, decide_false, Bool.not_true, Bool.not_false, if_true, if_false, Bool.false_eq_true, reduceCtorEq, decide_eq_true hlt', h10', r_ld hci, hl']
  refine ⟨⟨i + 1, by omega, by omega, by go_num, by first | rfl | trivial, fun k hk => ?_⟩, by simp only [intOf]; omega⟩
  by_cases hki : k < i
  · exact hprev k hki
  · have : k = i := by omega
    subst this; omega

/-! ### what Good judges -/

/-- The tile at a place of a board. -/
def at2 (l : List Tile) (B : List (List Int)) (y x : Nat) : Tile := tl l ((B.getD y []).getD x 0).toNat
def stE (l : List Tile) (B : List (List Int)) (w y x : Nat) (s : Bool × Bool) : Bool × Bool := if tE (at2 l B y x) = tW (at2 l B y ((x + 1) % w)) then s else (s.1 && decide (x + 1 = w), false)
def stS (l : List Tile) (B : List (List Int)) (h y x : Nat) (s : Bool × Bool) : Bool × Bool := if tS (at2 l B y x) = tN (at2 l B ((y + 1) % h) x) then s else (s.1 && decide (y + 1 = h), false)
def cellF (l : List Tile) (B : List (List Int)) (w h y : Nat) (s : Bool × Bool) (x : Nat) : Bool × Bool := stS l B h y x (stE l B w y x s)
def rowF (l : List Tile) (B : List (List Int)) (w h : Nat) (s : Bool × Bool) (y : Nat) : Bool × Bool := (List.range w).foldl (cellF l B w h y) s
def judge (l : List Tile) (B : List (List Int)) (w h : Nat) : Bool × Bool := (List.range h).foldl (rowF l B w h) (true, true)

/-- What is closed is good. -/
def Le (s : Bool × Bool) : Prop := s.2 = true → s.1 = true
theorem le_cell {l : List Tile} {B : List (List Int)} {w h y x : Nat} {s : Bool × Bool} (hs : Le s) : Le (cellF l B w h y s x) := by
  unfold cellF stS stE Le at *
  split <;> split <;> simp_all
theorem le_fold {α : Type} {f : Bool × Bool → α → Bool × Bool} (hf : ∀ s a, Le s → Le (f s a)) : ∀ (L : List α) (s : Bool × Bool), Le s → Le (L.foldl f s)
  | [], _, h => h
  | a :: L, s, h => le_fold hf L _ (hf s a h)
theorem judge_le (l : List Tile) (B : List (List Int)) (w h : Nat) : Le (judge l B w h) :=
  le_fold (fun s y hs => le_fold (fun s x hs => le_cell hs) _ _ hs) _ _ (fun _ => rfl)

def cellOk (l : List Tile) (n : Int) : Bool := decide (0 ≤ n) && decide (n < l.length)
def boardRow (l : List Tile) (w : Nat) (r : List Int) : Bool := decide (r.length = w) && r.all (cellOk l)
def boardB (l : List Tile) (B : List (List Int)) : Bool := setB l && sideB B.length && sideB (B.getD 0 []).length && B.all (boardRow l (B.getD 0 []).length)

/-- What Good returns. -/
def goodV (l : List Tile) (B : List (List Int)) : Value := if boardB l B = true then .tuple #[.bool (judge l B (B.getD 0 []).length B.length).1, .bool (judge l B (B.getD 0 []).length B.length).2, .int .i64 0] else .tuple #[.bool false, .bool false, .int .i64 2]

theorem board_row {l : List Tile} {B : List (List Int)} (hb : B.all (boardRow l (B.getD 0 []).length) = true) {y : Nat} (hy : y < B.length) : (B.getD y []).length = (B.getD 0 []).length ∧ ∀ x, x < (B.getD 0 []).length → ∃ k : Nat, (B.getD y []).getD x 0 = k ∧ k < l.length := by
  have h1 := List.all_eq_true.1 hb _ (getD_mem (d := []) hy)
  simp only [boardRow, Bool.and_eq_true, decide_eq_true_eq, List.all_eq_true] at h1
  refine ⟨h1.1, fun x hx => ?_⟩
  have h2 := h1.2 _ (getD_mem (d := (0 : Int)) (show x < (B.getD y []).length by omega))
  simp only [cellOk, Bool.and_eq_true, decide_eq_true_eq] at h2
  exact ⟨((B.getD y []).getD x 0).toNat, by omega, by omega⟩

end Go.Proofs.Ytgalbokmgffhkaa

/- Contract: Refutes of the specification; WangRefutes. -/
namespace Go.Proofs.Ytgalbokmgffhkaa
open Go.Lf Go.RowKit Go.Wg

set_option maxRecDepth 100000 in
theorem r20_0 {w0 w : World} {v pv : Value} {l : List Tile} {proof : List (List Int)} {W H : Nat} {K : Ending → World → Prop} (hr : RdT w v l) (hs : setB l = true) (hW : 1 ≤ W ∧ W ≤ 4) (hH : 1 ≤ H ∧ H ≤ 4) (hp : RdRows w pv proof) (hk : Kp w0 w)
    (hK : ∀ w' b, Kp w0 w' → (b = true ↔ okP W H proof ∧ finP (linesL l W) (deadL proof)) → K (.returned (.tuple #[.bool b, .int .i64 0])) w') : S20L0 v (.int .i64 W) (.int .i64 H) pv K w := by
  have hp' := hp
  obtain ⟨pa, pc, rfl, _⟩ := hp.len
  have hset := isSet_of hs
  unfold S20L0
  refine ⟨fun t wr => ∃ i : Nat, i ≤ proof.length ∧ t = .int .i64 i ∧ (∀ k, k < i → rowB W H (proof.getD k []) = true ∧ upB proof k = true) ∧ Kp w wr, fun t _ => proof.length - (intOf t).toNat, ⟨0, by omega, rfl, fun k hk => absurd hk (by omega), Kp.refl _⟩, ?_⟩
  rintro _ _ wr ⟨i, hi, rfl, hok, kr⟩
  by_cases hlt : i < proof.length
  case neg =>
    have hlt' : ¬ (i : Int) < (proof.length : Int) := by omega
    have hokP : okP W H proof := fun k hk => hok k (by omega)
    simp (disch := omega) only [r_ln, r_pick, r_pickT, r_pickF, r_condT, r_condF, r_gdTT, r_gdFF, r_gdTF, r_gdFT, r_gqTT, r_gqFF, r_gqTF, r_gqFT, r_not, r_lss, r_leq, r_gtr, r_geq, r_eql, r_neq, r_add, r_sub, r_min2, r_max2, r_min3, r_max3, r_fa, r_iaS, r_iaA, r_ex2a, r_ex2b, r_ex3a, r_ex3b, r_ex3c, r_nc, r_keepE, Nat.zero_add, Nat.add_zero, Nat.mul_one, Int.toNat_natCast, toNat_sub1, toNat_add1, decide_true, decide_false, Bool.not_true, Bool.not_false, if_true, if_false, Bool.false_eq_true, reduceCtorEq, hlt']
    refine r20_2 (w0 := w) (hr.kp kr) hs hW (hp'.below kr) (fun p hp2 => ?_) kr fun w' b kk hb => hK w' b (Kp.trans hk kk) ?_
    · obtain ⟨j, hj, rfl⟩ := List.getElem_of_mem hp2
      have := (hokP j hj).1
      rw [getD_lt _ _ _ hj] at this
      simp only [rowB, Bool.and_eq_true, decide_eq_true_eq] at this
      exact ⟨this.1.1.1, this.2⟩
    · rw [hb, fin_iff hset.cols hokP]
      exact ⟨fun h => ⟨hokP, h⟩, fun h => h.2⟩
  have hlt' : (i : Int) < (proof.length : Int) := by omega
  have out : ∀ w', Kp w w' → ¬ (rowB W H (proof.getD i []) = true ∧ upB proof i = true) → K (.returned (.tuple #[.bool false, .int .i64 0])) w' := fun w' kk hb =>
    hK w' false (Kp.trans hk kk) ⟨fun h => (by cases h), fun h => absurd (h.1 i hlt) hb⟩
  simp (disch := omega) only [r_ln, r_lss, decide_eq_true hlt', r_condT]
  refine r_drew fun wd kd _ => ?_
  have krd := Kp.trans kr kd
  obtain ⟨pb, po, _, qv, ep, pcell, hq⟩ := (hp'.below krd).row hlt
  cases ep
  obtain ⟨qa, qc, rfl, _, _⟩ := hq.len
  have hii : (i : Int).toNat = i := by omega
  have i0 : (0 : Int).toNat = 0 := rfl
  have row : rowB W H (proof.getD i []) = true ↔ (((proof.getD i []).length = W + 1 ∧ 1 ≤ (proof.getD i []).getD 0 0) ∧ (proof.getD i []).getD 0 0 < H) ∧ ((proof.getD i []).drop 1).all colB = true := by
    simp only [rowB, Bool.and_eq_true, decide_eq_true_eq]
  by_cases g1 : ((proof.getD i []).length : Int) = (W : Int) + 1
  case neg =>
    simp (disch := omega) only [r_ln, r_pick, r_pickT, r_pickF, r_condT, r_condF, r_gdTT, r_gdFF, r_gdTF, r_gdFT, r_gqTT, r_gqFF, r_gqTF, r_gqFT, r_not, r_lss, r_leq, r_gtr, r_geq, r_eql, r_neq, r_add, r_sub, r_min2, r_max2, r_min3, r_max3, r_fa, r_iaS, r_iaA, r_ex2a, r_ex2b, r_ex3a, r_ex3b, r_ex3c, r_nc, r_keepE, Nat.zero_add, Nat.add_zero, Nat.mul_one, Int.toNat_natCast, toNat_sub1, toNat_add1, decide_true, decide_false, Bool.not_true, Bool.not_false, if_true, if_false, Bool.false_eq_true, reduceCtorEq, hii, r_ld pcell, g1, r_gqU, r_gdU]
    refine ⟨Kp.refl _, ?_⟩
    try simp (disch := omega) only [r_ln, r_pick, r_pickT, r_pickF, r_condT, r_condF, r_gdTT, r_gdFF, r_gdTF, r_gdFT, r_gqTT, r_gqFF, r_gqTF, r_gqFT, r_not, r_lss, r_leq, r_gtr, r_geq, r_eql, r_neq, r_add, r_sub, r_min2, r_max2, r_min3, r_max3, r_fa, r_iaS, r_iaA, r_ex2a, r_ex2b, r_ex3a, r_ex3b, r_ex3c, r_nc, r_keepE, Nat.zero_add, Nat.add_zero, Nat.mul_one, Int.toNat_natCast, toNat_sub1, toNat_add1, decide_true, decide_false, Bool.not_true, Bool.not_false, if_true, if_false, Bool.false_eq_true, reduceCtorEq, r_gqU, r_gdU]
    exact out _ krd fun h => g1 (by have := (row.1 h.1).1.1.1; omega)
  have hpl : (proof.getD i []).length = W + 1 := by omega
  obtain ⟨qb, qo, _, eq, qcell⟩ := hq.at (j := 0) (by omega)
  cases eq
  rw [Nat.add_zero] at qcell
  by_cases g2 : (proof.getD i []).getD 0 0 < 1
  · simp (disch := omega) only [r_ln, r_pick, r_pickT, r_pickF, r_condT, r_condF, r_gdTT, r_gdFF, r_gdTF, r_gdFT, r_gqTT, r_gqFF, r_gqTF, r_gqFT, r_not, r_lss, r_leq, r_gtr, r_geq, r_eql, r_neq, r_add, r_sub, r_min2, r_max2, r_min3, r_max3, r_fa, r_iaS, r_iaA, r_ex2a, r_ex2b, r_ex3a, r_ex3b, r_ex3c, r_nc, r_keepE, Nat.zero_add, Nat.add_zero, Nat.mul_one, Int.toNat_natCast, toNat_sub1, toNat_add1, decide_true, decide_false, Bool.not_true, Bool.not_false, if_true, if_false, Bool.false_eq_true, reduceCtorEq, hii, r_ld pcell, decide_eq_true g1, i0, Nat.zero_mul, r_ld qcell, decide_eq_true g2, r_gqU, r_gdU]
    refine ⟨Kp.refl _, ?_⟩
    try simp (disch := omega) only [r_ln, r_pick, r_pickT, r_pickF, r_condT, r_condF, r_gdTT, r_gdFF, r_gdTF, r_gdFT, r_gqTT, r_gqFF, r_gqTF, r_gqFT, r_not, r_lss, r_leq, r_gtr, r_geq, r_eql, r_neq, r_add, r_sub, r_min2, r_max2, r_min3, r_max3, r_fa, r_iaS, r_iaA, r_ex2a, r_ex2b, r_ex3a, r_ex3b, r_ex3c, r_nc, r_keepE, Nat.zero_add, Nat.add_zero, Nat.mul_one, Int.toNat_natCast, toNat_sub1, toNat_add1, decide_true, decide_false, Bool.not_true, Bool.not_false, if_true, if_false, Bool.false_eq_true, reduceCtorEq, r_gqU, r_gdU]
    exact out _ krd fun h => by have := (row.1 h.1).1.1.2; omega
  by_cases g3 : (H : Int) ≤ (proof.getD i []).getD 0 0
  · simp (disch := omega) only [r_ln, r_pick, r_pickT, r_pickF, r_condT, r_condF, r_gdTT, r_gdFF, r_gdTF, r_gdFT, r_gqTT, r_gqFF, r_gqTF, r_gqFT, r_not, r_lss, r_leq, r_gtr, r_geq, r_eql, r_neq, r_add, r_sub, r_min2, r_max2, r_min3, r_max3, r_fa, r_iaS, r_iaA, r_ex2a, r_ex2b, r_ex3a, r_ex3b, r_ex3c, r_nc, r_keepE, Nat.zero_add, Nat.add_zero, Nat.mul_one, Int.toNat_natCast, toNat_sub1, toNat_add1, decide_true, decide_false, Bool.not_true, Bool.not_false, if_true, if_false, Bool.false_eq_true, reduceCtorEq, hii, r_ld pcell, decide_eq_true g1, i0, Nat.zero_mul, r_ld qcell, g2, decide_eq_true g3, r_gqU, r_gdU]
    refine ⟨Kp.refl _, ?_⟩
    try simp (disch := omega) only [r_ln, r_pick, r_pickT, r_pickF, r_condT, r_condF, r_gdTT, r_gdFF, r_gdTF, r_gdFT, r_gqTT, r_gqFF, r_gqTF, r_gqFT, r_not, r_lss, r_leq, r_gtr, r_geq, r_eql, r_neq, r_add, r_sub, r_min2, r_max2, r_min3, r_max3, r_fa, r_iaS, r_iaA, r_ex2a, r_ex2b, r_ex3a, r_ex3b, r_ex3c, r_nc, r_keepE, Nat.zero_add, Nat.add_zero, Nat.mul_one, Int.toNat_natCast, toNat_sub1, toNat_add1, decide_true, decide_false, Bool.not_true, Bool.not_false, if_true, if_false, Bool.false_eq_true, reduceCtorEq, r_gqU, r_gdU]
    exact out _ krd fun h => by have := (row.1 h.1).1.2; omega
  have done : ∀ w', Kp w w' → upB proof i = true → S20L1 (.int .i64 W) (.slice (some ⟨pb, po, none⟩) proof.length pc) (.int .i64 i) (fun a w => (∃ i, i ≤ proof.length ∧ a = .int .i64 (i : Nat) ∧ (∀ k, k < i → rowB W H (proof.getD k []) = true ∧ upB proof k = true) ∧ Kp ‹World› w) ∧ proof.length - (intOf a).toNat < proof.length - (intOf (.int .i64 (i : Int))).toNat) K w' → True := fun _ _ _ _ => trivial
  by_cases hi0 : i = 0
  · have hi0' : ¬ (0 : Int) < (i : Int) := by omega
    have hup : upB proof i = true := by simp [upB, hi0]
    simp (disch := omega) only [r_ln, r_pick, r_pickT, r_pickF, r_condT, r_condF, r_gdTT, r_gdFF, r_gdTF, r_gdFT, r_gqTT, r_gqFF, r_gqTF, r_gqFT, r_not, r_lss, r_leq, r_gtr, r_geq, r_eql, r_neq, r_add, r_sub, r_min2, r_max2, r_min3, r_max3, r_fa, r_iaS, r_iaA, r_ex2a, r_ex2b, r_ex3a, r_ex3b, r_ex3c, r_nc, r_keepE, Nat.zero_add, Nat.add_zero, Nat.mul_one, Int.toNat_natCast, toNat_sub1, toNat_add1, decide_true, decide_false, Bool.not_true, Bool.not_false, if_true, if_false, Bool.false_eq_true, reduceCtorEq, hii, r_ld pcell, decide_eq_true g1, i0, Nat.zero_mul, r_ld qcell, g2, g3, hi0', r_gqU, r_gdU]
    refine ⟨Kp.refl _, ?_⟩
    try simp (disch := omega) only [r_ln, r_pick, r_pickT, r_pickF, r_condT, r_condF, r_gdTT, r_gdFF, r_gdTF, r_gdFT, r_gqTT, r_gqFF, r_gqTF, r_gqFT, r_not, r_lss, r_leq, r_gtr, r_geq, r_eql, r_neq, r_add, r_sub, r_min2, r_max2, r_min3, r_max3, r_fa, r_iaS, r_iaA, r_ex2a, r_ex2b, r_ex3a, r_ex3b, r_ex3c, r_nc, r_keepE, Nat.zero_add, Nat.add_zero, Nat.mul_one, Int.toNat_natCast, toNat_sub1, toNat_add1, decide_true, decide_false, Bool.not_true, Bool.not_false, if_true, if_false, Bool.false_eq_true, reduceCtorEq, r_gqU, r_gdU]
    refine r20_1 (w0 := w) (hp'.below krd) hlt hpl hW.2 krd (fun w' kk hc => out w' kk fun h => by have := (row.1 h.1).2; rw [hc] at this; cases this) fun w' kk hc => ?_
    refine ⟨⟨i + 1, by omega, by go_num, fun k hk => ?_, kk⟩, by simp only [intOf]; omega⟩
    by_cases hki : k < i
    · exact hok k hki
    · have : k = i := by omega
      subst this
      exact ⟨row.2 ⟨⟨⟨hpl, by omega⟩, by omega⟩, hc⟩, hup⟩
  · have hi0' : (0 : Int) < (i : Int) := by omega
    obtain ⟨pb', po', _, qv', ep', pcell', hq'⟩ := (hp'.below krd).row (i := i - 1) (by omega)
    cases ep'
    have hpl' : (proof.getD (i - 1) []).length = W + 1 := by
      have := (hok (i - 1) (by omega)).1
      simp only [rowB, Bool.and_eq_true, decide_eq_true_eq] at this
      exact this.1.1.1
    simp (disch := omega) only [r_ln, r_pick, r_pickT, r_pickF, r_condT, r_condF, r_gdTT, r_gdFF, r_gdTF, r_gdFT, r_gqTT, r_gqFF, r_gqTF, r_gqFT, r_not, r_lss, r_leq, r_gtr, r_geq, r_eql, r_neq, r_add, r_sub, r_min2, r_max2, r_min3, r_max3, r_fa, r_iaS, r_iaA, r_ex2a, r_ex2b, r_ex3a, r_ex3b, r_ex3c, r_nc, r_keepE, Nat.zero_add, Nat.add_zero, Nat.mul_one, Int.toNat_natCast, toNat_sub1, toNat_add1, decide_true, decide_false, Bool.not_true, Bool.not_false, if_true, if_false, Bool.false_eq_true, reduceCtorEq, hii, r_ld pcell, decide_eq_true g1, i0, Nat.zero_mul, r_ld qcell, g2, g3, decide_eq_true hi0', r_ld pcell', r_gqU, r_gdU]
    refine r_use fok61 (less_calls wd hq' hq (by omega)) rfl ?_
    rintro _ w3 ⟨rfl, k3⟩
    refine ⟨_, rfl, k3, ?_⟩
    have kr3 := Kp.trans krd k3
    by_cases hcm : cmpL (proof.getD (i - 1) []) (proof.getD i []) < 0
    case neg =>
      simp (disch := omega) only [r_ln, r_pick, r_pickT, r_pickF, r_condT, r_condF, r_gdTT, r_gdFF, r_gdTF, r_gdFT, r_gqTT, r_gqFF, r_gqTF, r_gqFT, r_not, r_lss, r_leq, r_gtr, r_geq, r_eql, r_neq, r_add, r_sub, r_min2, r_max2, r_min3, r_max3, r_fa, r_iaS, r_iaA, r_ex2a, r_ex2b, r_ex3a, r_ex3b, r_ex3c, r_nc, r_keepE, Nat.zero_add, Nat.add_zero, Nat.mul_one, Int.toNat_natCast, toNat_sub1, toNat_add1, decide_true, decide_false, Bool.not_true, Bool.not_false, if_true, if_false, Bool.false_eq_true, reduceCtorEq, hcm, r_gqU, r_gdU]
      refine out _ kr3 fun h => hcm ?_
      have := h.2
      simp only [upB, Bool.or_eq_true, decide_eq_true_eq] at this
      rcases this with h | h
      · omega
      · exact h
    have hup : upB proof i = true := by simp only [upB, Bool.or_eq_true, decide_eq_true_eq]; exact .inr hcm
    simp (disch := omega) only [r_ln, r_pick, r_pickT, r_pickF, r_condT, r_condF, r_gdTT, r_gdFF, r_gdTF, r_gdFT, r_gqTT, r_gqFF, r_gqTF, r_gqFT, r_not, r_lss, r_leq, r_gtr, r_geq, r_eql, r_neq, r_add, r_sub, r_min2, r_max2, r_min3, r_max3, r_fa, r_iaS, r_iaA, r_ex2a, r_ex2b, r_ex3a, r_ex3b, r_ex3c, r_nc, r_keepE, Nat.zero_add, Nat.add_zero, Nat.mul_one, Int.toNat_natCast, toNat_sub1, toNat_add1, decide_true, decide_false, Bool.not_true, Bool.not_false, if_true, if_false, Bool.false_eq_true, reduceCtorEq, decide_eq_true hcm, r_gqU, r_gdU]
    refine r20_1 (w0 := w) (hp'.below kr3) hlt hpl hW.2 kr3 (fun w' kk hc => out w' kk fun h => by have := (row.1 h.1).2; rw [hc] at this; cases this) fun w' kk hc => ?_
    refine ⟨⟨i + 1, by omega, by go_num, fun k hk => ?_, kk⟩, by simp only [intOf]; omega⟩
    by_cases hki : k < i
    · exact hok k hki
    · have : k = i := by omega
      subst this
      exact ⟨row.2 ⟨⟨⟨hpl, by omega⟩, by omega⟩, hc⟩, hup⟩

set_option maxRecDepth 100000 in
theorem refrefutes_calls {v pv : Value} {l : List Tile} {proof : List (List Int)} (a b : Int) (w : World) (hr : RdT w v l) (hp : RdRows w pv proof) :
    Calls Try.prog 20 #[v, .int .i64 a, .int .i64 b, pv] w fun e w' => Kp w w' ∧ RefPost l a b proof e := by
  have hp' := hp
  obtain ⟨pa, pc, rfl, hpl⟩ := hp.len
  refine lift20 ?_
  unfold S20
  refine r_use fok23 (order_calls a b w hr) rfl ?_
  rintro _ w1 ⟨rfl, k1⟩
  refine ⟨_, rfl, ?_⟩
  have h20 : ¬ ((2 : Int) = 0) := by decide
  rcases ordErr_cases l a b with he | he
  case inr =>
    rw [he]
    simp (disch := omega) only [r_ln, r_pick, r_pickT, r_pickF, r_condT, r_condF, r_gdTT, r_gdFF, r_gdTF, r_gdFT, r_gqTT, r_gqFF, r_gqTF, r_gqFT, r_not, r_lss, r_leq, r_gtr, r_geq, r_eql, r_neq, r_add, r_sub, r_min2, r_max2, r_min3, r_max3, r_fa, r_iaS, r_iaA, r_ex2a, r_ex2b, r_ex3a, r_ex3b, r_ex3c, r_nc, r_keepE, Nat.zero_add, Nat.add_zero, Nat.mul_one, Int.toNat_natCast, toNat_sub1, toNat_add1, decide_true, decide_false, Bool.not_true, Bool.not_false, if_true, if_false, Bool.false_eq_true, reduceCtorEq, h20]
    exact ⟨k1, .inl ⟨by omega, rfl⟩⟩
  rw [he]
  obtain ⟨hset, W, H, rfl, rfl, hW, hH⟩ := ord_ok he
  have h00 : decide ((0 : Int) = 0) = true := rfl
  by_cases hlong : (65535 : Int) < (proof.length : Int)
  · simp (disch := omega) only [r_ln, r_pick, r_pickT, r_pickF, r_condT, r_condF, r_gdTT, r_gdFF, r_gdTF, r_gdFT, r_gqTT, r_gqFF, r_gqTF, r_gqFT, r_not, r_lss, r_leq, r_gtr, r_geq, r_eql, r_neq, r_add, r_sub, r_min2, r_max2, r_min3, r_max3, r_fa, r_iaS, r_iaA, r_ex2a, r_ex2b, r_ex3a, r_ex3b, r_ex3c, r_nc, r_keepE, Nat.zero_add, Nat.add_zero, Nat.mul_one, Int.toNat_natCast, toNat_sub1, toNat_add1, decide_true, decide_false, Bool.not_true, Bool.not_false, if_true, if_false, Bool.false_eq_true, reduceCtorEq, h00, decide_eq_true hlong]
    exact ⟨k1, .inr (.inl ⟨he, by omega, rfl⟩)⟩
  simp (disch := omega) only [r_ln, r_pick, r_pickT, r_pickF, r_condT, r_condF, r_gdTT, r_gdFF, r_gdTF, r_gdFT, r_gqTT, r_gqFF, r_gqTF, r_gqFT, r_not, r_lss, r_leq, r_gtr, r_geq, r_eql, r_neq, r_add, r_sub, r_min2, r_max2, r_min3, r_max3, r_fa, r_iaS, r_iaA, r_ex2a, r_ex2b, r_ex3a, r_ex3b, r_ex3c, r_nc, r_keepE, Nat.zero_add, Nat.add_zero, Nat.mul_one, Int.toNat_natCast, toNat_sub1, toNat_add1, decide_true, decide_false, Bool.not_true, Bool.not_false, if_true, if_false, Bool.false_eq_true, reduceCtorEq, h00, hlong]
  have hs : setB l = true := by
    unfold ordErr at he
    split at he
    · rename_i h; exact h.1
    · cases he
  refine r20_0 (hr.kp k1) hs hW hH (hp'.below k1) k1 fun w' r kk hb => ⟨kk, .inr (.inr ⟨he, by omega, r, rfl, ?_⟩)⟩
  simpa using hb

theorem RefPost.same {l : List Tile} {a b : Int} {proof : List (List Int)} {e e' : Ending} (h : RefPost l a b proof e) (h' : RefPost l a b proof e') : ∃ r k, e = .returned (.tuple #[.bool r, .int .i64 k]) ∧ e' = .returned (.tuple #[.bool r, .int .i64 k]) := by
  rcases h with ⟨h1, rfl⟩ | ⟨h1, h2, rfl⟩ | ⟨h1, h2, r, rfl, h3⟩ <;> rcases h' with ⟨g1, rfl⟩ | ⟨g1, g2, rfl⟩ | ⟨g1, g2, r', rfl, g3⟩
  · exact ⟨_, _, rfl, rfl⟩
  · omega
  · omega
  · omega
  · exact ⟨_, _, rfl, rfl⟩
  · omega
  · omega
  · omega
  · have : r = r' := by
      rw [← g3] at h3
      cases r <;> cases r' <;> simp_all
    subst this
    exact ⟨_, _, rfl, rfl⟩

set_option maxRecDepth 100000 in
theorem refuteslaw_calls {v pv : Value} {l : List Tile} {B : List (List Int)} (a b : Int) (w : World) (hr : RdT w v l) (hb : RdR w pv B) : Calls Try.prog 3 #[v, .int .i64 a, .int .i64 b, pv] w fun e w' => e = .returned (.bool true) ∧ Kp w w' := by
  obtain ⟨va, vcap, rfl, hvc⟩ := hr.len
  refine lift3 ?_
  unfold S3
  have fin : ∀ (w' : World), Kp w w' → Calls Try.prog 18 #[] w' fun e w'' => e = .returned (.bool true) ∧ Kp w w'' := fun w' k => (law_alive w').mono fun e w'' h => ⟨h.1, Kp.trans k h.2⟩
  by_cases hl : (40 : Int) < (l.length : Int)
  · simp (disch := omega) only [r_ln, r_pick, r_pickT, r_pickF, r_condT, r_condF, r_gdTT, r_gdFF, r_gdTF, r_gdFT, r_gqTT, r_gqFF, r_gqTF, r_gqFT, r_not, r_lss, r_leq, r_gtr, r_geq, r_eql, r_neq, r_add, r_sub, r_min2, r_max2, r_min3, r_max3, r_fa, r_iaS, r_iaA, r_ex2a, r_ex2b, r_ex3a, r_ex3b, r_ex3c, r_nc, r_keepE, Nat.zero_add, Nat.add_zero, Nat.mul_one, Int.toNat_natCast, toNat_sub1, toNat_add1, decide_true, decide_false, Bool.not_true, Bool.not_false, if_true, if_false, Bool.false_eq_true, reduceCtorEq, decide_eq_true hl]
    refine r_use fok18 (fin w (Kp.refl _)) rfl ?_
    rintro _ w1 ⟨rfl, k1⟩
    exact ⟨_, rfl, by first | rfl | trivial, k1⟩
  simp (disch := omega) only [r_ln, r_pick, r_pickT, r_pickF, r_condT, r_condF, r_gdTT, r_gdFF, r_gdTF, r_gdFT, r_gqTT, r_gqFF, r_gqTF, r_gqFT, r_not, r_lss, r_leq, r_gtr, r_geq, r_eql, r_neq, r_add, r_sub, r_min2, r_max2, r_min3, r_max3, r_fa, r_iaS, r_iaA, r_ex2a, r_ex2b, r_ex3a, r_ex3b, r_ex3c, r_nc, r_keepE, Nat.zero_add, Nat.add_zero, Nat.mul_one, Int.toNat_natCast, toNat_sub1, toNat_add1, decide_true, decide_false, Bool.not_true, Bool.not_false, if_true, if_false, Bool.false_eq_true, reduceCtorEq, hl]
  refine r_use fok17 (few_calls 200 pv B w (by omega) hb) rfl ?_
  rintro _ _ ⟨fb, rfl, hfew, rfl⟩
  refine ⟨_, rfl, ?_⟩
  cases fb with
  | false =>
    simp (disch := omega) only [r_ln, r_pick, r_pickT, r_pickF, r_condT, r_condF, r_gdTT, r_gdFF, r_gdTF, r_gdFT, r_gqTT, r_gqFF, r_gqTF, r_gqFT, r_not, r_lss, r_leq, r_gtr, r_geq, r_eql, r_neq, r_add, r_sub, r_min2, r_max2, r_min3, r_max3, r_fa, r_iaS, r_iaA, r_ex2a, r_ex2b, r_ex3a, r_ex3b, r_ex3c, r_nc, r_keepE, Nat.zero_add, Nat.add_zero, Nat.mul_one, Int.toNat_natCast, toNat_sub1, toNat_add1, decide_true, decide_false, Bool.not_true, Bool.not_false, if_true, if_false, Bool.false_eq_true, reduceCtorEq]
    refine r_use fok18 (fin w (Kp.refl _)) rfl ?_
    rintro _ w1 ⟨rfl, k1⟩
    exact ⟨_, rfl, by first | rfl | trivial, k1⟩
  | true =>
  have hrows := (hfew rfl).rows (by omega) hb
  simp (disch := omega) only [r_ln, r_pick, r_pickT, r_pickF, r_condT, r_condF, r_gdTT, r_gdFF, r_gdTF, r_gdFT, r_gqTT, r_gqFF, r_gqTF, r_gqFT, r_not, r_lss, r_leq, r_gtr, r_geq, r_eql, r_neq, r_add, r_sub, r_min2, r_max2, r_min3, r_max3, r_fa, r_iaS, r_iaA, r_ex2a, r_ex2b, r_ex3a, r_ex3b, r_ex3c, r_nc, r_keepE, Nat.zero_add, Nat.add_zero, Nat.mul_one, Int.toNat_natCast, toNat_sub1, toNat_add1, decide_true, decide_false, Bool.not_true, Bool.not_false, if_true, if_false, Bool.false_eq_true, reduceCtorEq]
  refine r_use fok19 (refutes_calls a b w hr hrows) rfl ?_
  rintro e1 w1 ⟨k1, p1⟩
  have two := refrefutes_calls a b w1 (hr.kp k1) (hrows.below k1)
  have f1 : ∃ r k, e1 = .returned (.tuple #[.bool r, .int .i64 k]) := by
    obtain ⟨r, k, h, _⟩ := p1.same p1
    exact ⟨r, k, h⟩
  obtain ⟨r1, q1, rfl⟩ := f1
  refine ⟨_, rfl, ?_⟩
  simp (disch := omega) only [r_ln, r_pick, r_pickT, r_pickF, r_condT, r_condF, r_gdTT, r_gdFF, r_gdTF, r_gdFT, r_gqTT, r_gqFF, r_gqTF, r_gqFT, r_not, r_lss, r_leq, r_gtr, r_geq, r_eql, r_neq, r_add, r_sub, r_min2, r_max2, r_min3, r_max3, r_fa, r_iaS, r_iaA, r_ex2a, r_ex2b, r_ex3a, r_ex3b, r_ex3c, r_nc, r_keepE, Nat.zero_add, Nat.add_zero, Nat.mul_one, Int.toNat_natCast, toNat_sub1, toNat_add1, decide_true, decide_false, Bool.not_true, Bool.not_false, if_true, if_false, Bool.false_eq_true, reduceCtorEq]
  refine r_use fok20 two rfl ?_
  rintro e2 w2 ⟨k2, p2⟩
  obtain ⟨r, k, h1, rfl⟩ := p1.same p2
  cases h1
  refine ⟨_, rfl, ?_⟩
  simp (disch := omega) only [r_ln, r_pick, r_pickT, r_pickF, r_condT, r_condF, r_gdTT, r_gdFF, r_gdTF, r_gdFT, r_gqTT, r_gqFF, r_gqTF, r_gqFT, r_not, r_lss, r_leq, r_gtr, r_geq, r_eql, r_neq, r_add, r_sub, r_min2, r_max2, r_min3, r_max3, r_fa, r_iaS, r_iaA, r_ex2a, r_ex2b, r_ex3a, r_ex3b, r_ex3c, r_nc, r_keepE, Nat.zero_add, Nat.add_zero, Nat.mul_one, Int.toNat_natCast, toNat_sub1, toNat_add1, decide_true, decide_false, Bool.not_true, Bool.not_false, if_true, if_false, Bool.false_eq_true, reduceCtorEq]
  refine r_eqlB ?_
  rw [beq_self_eq_true]
  simp (disch := omega) only [r_ln, r_pick, r_pickT, r_pickF, r_condT, r_condF, r_gdTT, r_gdFF, r_gdTF, r_gdFT, r_gqTT, r_gqFF, r_gqTF, r_gqFT, r_not, r_lss, r_leq, r_gtr, r_geq, r_eql, r_neq, r_add, r_sub, r_min2, r_max2, r_min3, r_max3, r_fa, r_iaS, r_iaA, r_ex2a, r_ex2b, r_ex3a, r_ex3b, r_ex3c, r_nc, r_keepE, Nat.zero_add, Nat.add_zero, Nat.mul_one, Int.toNat_natCast, toNat_sub1, toNat_add1, decide_true, decide_false, Bool.not_true, Bool.not_false, if_true, if_false, Bool.false_eq_true, reduceCtorEq, decide_eq_true (rfl : q1 = q1)]
  refine r_use fok18 (fin w2 (Kp.trans k1 k2)) rfl ?_
  rintro _ w3 ⟨rfl, k3⟩
  refine ⟨_, rfl, ?_⟩
  simp (disch := omega) only [r_ln, r_pick, r_pickT, r_pickF, r_condT, r_condF, r_gdTT, r_gdFF, r_gdTF, r_gdFT, r_gqTT, r_gqFF, r_gqTF, r_gqFT, r_not, r_lss, r_leq, r_gtr, r_geq, r_eql, r_neq, r_add, r_sub, r_min2, r_max2, r_min3, r_max3, r_fa, r_iaS, r_iaA, r_ex2a, r_ex2b, r_ex3a, r_ex3b, r_ex3c, r_nc, r_keepE, Nat.zero_add, Nat.add_zero, Nat.mul_one, Int.toNat_natCast, toNat_sub1, toNat_add1, decide_true, decide_false, Bool.not_true, Bool.not_false, if_true, if_false, Bool.false_eq_true, reduceCtorEq]
  exact ⟨by first | rfl | trivial, k3⟩

end Go.Proofs.Ytgalbokmgffhkaa

/- Contract: WangRefused. -/
namespace Go.Proofs.Ytgalbokmgffhkaa
open Go.Lf Go.RowKit Go.Wg

theorem r_neqB {w : World} {x y : Bool} {lit : Bool} {K : Value → Prop} (h : K (.bool (x != y))) : binQ Try.prog w .neq 4 lit (.bool x) (.bool y) K := by
  cases x <;> cases y <;> exact ⟨_, fun w' _ => by cases lit <;> kernel_rfl, h⟩

theorem IRows.rdr {base : Nat} {w : World} {v : Value} {R : List (List Int)} (h : IRows base w v R) : RdR w v R := by
  obtain ⟨vs, h1, h2, h3⟩ := h
  obtain ⟨a, cap, e, hle⟩ := h1.len
  refine ⟨a, cap, fun i => vs.getD i nilS, by rw [e, h2], by omega, fun h0 => ?_, fun i hi => ?_⟩
  · obtain ⟨b, off, cap', e', _, _⟩ := (h1.rd vE_len).at (List.getElem?_eq_getElem (show 0 < vs.length by omega))
    rw [e] at e'
    injection e' with ea _ _
    refine ⟨b, off, ea, fun i hi => ?_⟩
    obtain ⟨b2, off2, cap2, e2, _, hc2⟩ := (h1.rd vE_len).at (List.getElem?_eq_getElem (show i < vs.length by omega))
    rw [e, ea] at e2
    injection e2 with e3 _ _
    injection e3 with e3
    injection e3 with e4 e5 _
    have := hc2 0 _ rfl
    show w.cell? ⟨b, off + i, none⟩ = some (vs.getD i nilS)
    rw [getD_lt _ _ _ (by omega), e4, e5]
    simpa using this
  · show RdI w (vs.getD i nilS) (R.getD i [])
    have hI := h3 i _ _ (List.getElem?_eq_getElem (show i < vs.length by omega)) (List.getElem?_eq_getElem hi)
    rw [getD_lt _ _ _ (by omega), getD_lt _ _ _ hi]
    obtain ⟨a2, c2, e2, hle2⟩ := hI.len
    refine ⟨a2, c2, e2, hle2, fun h0 => ?_⟩
    obtain ⟨b3, off3, c3, e3, _, _⟩ := (hI.rd iC_len).at (List.getElem?_eq_getElem h0)
    rw [e2] at e3
    injection e3 with ea _ _
    refine ⟨b3, off3, ea, fun j hj => ?_⟩
    obtain ⟨b4, off4, c4, e4, _, hc4⟩ := (hI.rd iC_len).at (List.getElem?_eq_getElem hj)
    rw [e2, ea] at e4
    injection e4 with e5 _ _
    injection e5 with e5
    injection e5 with e6 e7 _
    have := hc4 0 _ rfl
    rw [getD_lt _ _ _ hj, e6, e7]
    simpa [iC] using this

set_option maxRecDepth 100000 in
set_option maxHeartbeats 1000000 in
theorem refused_calls {v pv : Value} {l : List Tile} {B : List (List Int)} (a b : Int) (w : World) (hr : RdT w v l) (hb : RdR w pv B) : Calls Try.prog 7 #[v, .int .i64 a, .int .i64 b, pv] w fun e w' => e = .returned (.bool true) ∧ Kp w w' := by
  refine lift7 ?_
  unfold S7
  have fin : ∀ (w' : World), Kp w w' → Calls Try.prog 18 #[] w' fun e w'' => e = .returned (.bool true) ∧ Kp w w'' := fun w' k => (law_alive w').mono fun e w'' h => ⟨h.1, Kp.trans k h.2⟩
  refine r_use fok31 (light_calls a b w hr) rfl ?_
  rintro _ w1 ⟨rfl, k1⟩
  refine ⟨_, rfl, ?_⟩
  by_cases hl : l.length ≤ 40
  case neg =>
    simp (disch := omega) only [r_ln, r_pick, r_pickT, r_pickF, r_condT, r_condF, r_gdTT, r_gdFF, r_gdTF, r_gdFT, r_gqTT, r_gqFF, r_gqTF, r_gqFT, r_not, r_lss, r_leq, r_gtr, r_geq, r_eql, r_neq, r_add, r_sub, r_min2, r_max2, r_min3, r_max3, r_fa, r_iaS, r_iaA, r_ex2a, r_ex2b, r_ex3a, r_ex3b, r_ex3c, r_nc, r_keepE, Nat.zero_add, Nat.add_zero, Nat.mul_one, Int.toNat_natCast, toNat_sub1, toNat_add1, decide_true, decide_false, Bool.not_true, Bool.not_false, if_true, if_false, Bool.false_eq_true, reduceCtorEq, hl, r_gdU]
    refine r_use fok18 (fin w1 k1) rfl ?_
    rintro _ w2 ⟨rfl, k2⟩
    exact ⟨_, rfl, by first | rfl | trivial, k2⟩
  have hb1 : RdR w1 pv B := by
    obtain ⟨pa, pcap, vs, e1, e2, e3, e4⟩ := hb
    exact ⟨pa, pcap, vs, e1, e2, fun h0 => let ⟨x, y, z, h⟩ := e3 h0; ⟨x, y, z, fun i hi => cell_later k1 (h i hi)⟩, fun i hi => let ⟨x, y, z, u, h⟩ := e4 i hi; ⟨x, y, z, u, fun h0 => let ⟨p, q, r, g⟩ := h h0; ⟨p, q, r, fun j hj => cell_later k1 (g j hj)⟩⟩⟩
  simp (disch := omega) only [r_ln, r_pick, r_pickT, r_pickF, r_condT, r_condF, r_gdTT, r_gdFF, r_gdTF, r_gdFT, r_gqTT, r_gqFF, r_gqTF, r_gqFT, r_not, r_lss, r_leq, r_gtr, r_geq, r_eql, r_neq, r_add, r_sub, r_min2, r_max2, r_min3, r_max3, r_fa, r_iaS, r_iaA, r_ex2a, r_ex2b, r_ex3a, r_ex3b, r_ex3c, r_nc, r_keepE, Nat.zero_add, Nat.add_zero, Nat.mul_one, Int.toNat_natCast, toNat_sub1, toNat_add1, decide_true, decide_false, Bool.not_true, Bool.not_false, if_true, if_false, Bool.false_eq_true, reduceCtorEq, decide_eq_true hl, r_gdU]
  refine r_use fok17 (few_calls 200 pv B w1 (by omega) hb1) rfl ?_
  rintro _ _ ⟨fb, rfl, hfew, rfl⟩
  refine ⟨_, rfl, ?_⟩
  cases fb with
  | false =>
    simp (disch := omega) only [r_ln, r_pick, r_pickT, r_pickF, r_condT, r_condF, r_gdTT, r_gdFF, r_gdTF, r_gdFT, r_gqTT, r_gqFF, r_gqTF, r_gqFT, r_not, r_lss, r_leq, r_gtr, r_geq, r_eql, r_neq, r_add, r_sub, r_min2, r_max2, r_min3, r_max3, r_fa, r_iaS, r_iaA, r_ex2a, r_ex2b, r_ex3a, r_ex3b, r_ex3c, r_nc, r_keepE, Nat.zero_add, Nat.add_zero, Nat.mul_one, Int.toNat_natCast, toNat_sub1, toNat_add1, decide_true, decide_false, Bool.not_true, Bool.not_false, if_true, if_false, Bool.false_eq_true, reduceCtorEq]
    refine r_use fok18 (fin w1 k1) rfl ?_
    rintro _ w2 ⟨rfl, k2⟩
    exact ⟨_, rfl, by first | rfl | trivial, k2⟩
  | true =>
  have hrows := (hfew rfl).rows (by omega) hb1
  have hB200 := (hfew rfl).1
  have hr1 := hr.kp k1
  simp (disch := omega) only [r_ln, r_pick, r_pickT, r_pickF, r_condT, r_condF, r_gdTT, r_gdFF, r_gdTF, r_gdFT, r_gqTT, r_gqFF, r_gqTF, r_gqFT, r_not, r_lss, r_leq, r_gtr, r_geq, r_eql, r_neq, r_add, r_sub, r_min2, r_max2, r_min3, r_max3, r_fa, r_iaS, r_iaA, r_ex2a, r_ex2b, r_ex3a, r_ex3b, r_ex3c, r_nc, r_keepE, Nat.zero_add, Nat.add_zero, Nat.mul_one, Int.toNat_natCast, toNat_sub1, toNat_add1, decide_true, decide_false, Bool.not_true, Bool.not_false, if_true, if_false, Bool.false_eq_true, reduceCtorEq]
  refine r_use fok27 (fill_calls a b w1 hr1) rfl ?_
  rintro _ w2 ⟨k2, p2⟩
  obtain ⟨v2, rfl, _⟩ := p2.form
  refine ⟨_, rfl, ?_⟩
  simp (disch := omega) only [r_ln, r_pick, r_pickT, r_pickF, r_condT, r_condF, r_gdTT, r_gdFF, r_gdTF, r_gdFT, r_gqTT, r_gqFF, r_gqTF, r_gqFT, r_not, r_lss, r_leq, r_gtr, r_geq, r_eql, r_neq, r_add, r_sub, r_min2, r_max2, r_min3, r_max3, r_fa, r_iaS, r_iaA, r_ex2a, r_ex2b, r_ex3a, r_ex3b, r_ex3c, r_nc, r_keepE, Nat.zero_add, Nat.add_zero, Nat.mul_one, Int.toNat_natCast, toNat_sub1, toNat_add1, decide_true, decide_false, Bool.not_true, Bool.not_false, if_true, if_false, Bool.false_eq_true, reduceCtorEq]
  refine r_use fok32 (refute_calls a b w2 (hr1.kp k2)) rfl ?_
  rintro e3 w3 ⟨k3, p3⟩
  have k13 := Kp.trans k2 k3
  have f3 : ∃ v3 x3, e3 = .returned (.tuple #[v3, .int .i64 x3]) := by
    rcases p3 with ⟨_, rfl⟩ | ⟨_, _, rfl⟩ | ⟨_, _, ov, out, rfl, _⟩
    · exact ⟨_, _, rfl⟩
    · exact ⟨_, _, rfl⟩
    · exact ⟨_, _, rfl⟩
  obtain ⟨v3, x3, rfl⟩ := f3
  refine ⟨_, rfl, ?_⟩
  simp (disch := omega) only [r_ln, r_pick, r_pickT, r_pickF, r_condT, r_condF, r_gdTT, r_gdFF, r_gdTF, r_gdFT, r_gqTT, r_gqFF, r_gqTF, r_gqFT, r_not, r_lss, r_leq, r_gtr, r_geq, r_eql, r_neq, r_add, r_sub, r_min2, r_max2, r_min3, r_max3, r_fa, r_iaS, r_iaA, r_ex2a, r_ex2b, r_ex3a, r_ex3b, r_ex3c, r_nc, r_keepE, Nat.zero_add, Nat.add_zero, Nat.mul_one, Int.toNat_natCast, toNat_sub1, toNat_add1, decide_true, decide_false, Bool.not_true, Bool.not_false, if_true, if_false, Bool.false_eq_true, reduceCtorEq]
  refine r_use fok19 (refutes_calls a b w3 (hr1.kp k13) (hrows.below k13)) rfl ?_
  rintro e4 w4 ⟨k4, p4⟩
  have f4 : ∃ r4 x4, e4 = .returned (.tuple #[.bool r4, .int .i64 x4]) := by
    obtain ⟨r, k, h, _⟩ := p4.same p4
    exact ⟨r, k, h⟩
  obtain ⟨r4, x4, rfl⟩ := f4
  have k14 := Kp.trans k13 k4
  refine ⟨_, rfl, ?_⟩
  simp (disch := omega) only [r_ln, r_pick, r_pickT, r_pickF, r_condT, r_condF, r_gdTT, r_gdFF, r_gdTF, r_gdFT, r_gqTT, r_gqFF, r_gqTF, r_gqFT, r_not, r_lss, r_leq, r_gtr, r_geq, r_eql, r_neq, r_add, r_sub, r_min2, r_max2, r_min3, r_max3, r_fa, r_iaS, r_iaA, r_ex2a, r_ex2b, r_ex3a, r_ex3b, r_ex3c, r_nc, r_keepE, Nat.zero_add, Nat.add_zero, Nat.mul_one, Int.toNat_natCast, toNat_sub1, toNat_add1, decide_true, decide_false, Bool.not_true, Bool.not_false, if_true, if_false, Bool.false_eq_true, reduceCtorEq]
  refine r_use fok23 (order_calls a b w4 (hr1.kp k14)) rfl ?_
  rintro _ w5 ⟨rfl, k5⟩
  refine ⟨_, rfl, ?_⟩
  have k15 := Kp.trans k14 k5
  have h20 : ¬ ((2 : Int) = 0) := by decide
  have h22 : decide ((2 : Int) = 2) = true := rfl
  rcases ordErr_cases l a b with he | he
  case inr =>
    have q2 : fillE l a b = 2 := by rw [fillE, if_neg (by omega)]
    have q3 : v3 = nilS ∧ x3 = 2 := by
      rcases p3 with ⟨_, h⟩ | ⟨h, _⟩ | ⟨h, _⟩
      · injection h with h
        simp at h
        exact h
      · omega
      · omega
    have q4 : x4 = 2 := by
      rcases p4 with ⟨_, h⟩ | ⟨h, _⟩ | ⟨h, _⟩
      · injection h with h
        simp at h
        exact h.2
      · omega
      · omega
    obtain ⟨rfl, rfl⟩ := q3
    subst q4
    rw [he, q2]
    have h00 : decide ((([] : List Int).length : Int) = 0) = true := rfl
    simp (disch := omega) only [r_ln, r_pick, r_pickT, r_pickF, r_condT, r_condF, r_gdTT, r_gdFF, r_gdTF, r_gdFT, r_gqTT, r_gqFF, r_gqTF, r_gqFT, r_not, r_lss, r_leq, r_gtr, r_geq, r_eql, r_neq, r_add, r_sub, r_min2, r_max2, r_min3, r_max3, r_fa, r_iaS, r_iaA, r_ex2a, r_ex2b, r_ex3a, r_ex3b, r_ex3c, r_nc, r_keepE, Nat.zero_add, Nat.add_zero, Nat.mul_one, Int.toNat_natCast, toNat_sub1, toNat_add1, decide_true, decide_false, Bool.not_true, Bool.not_false, if_true, if_false, Bool.false_eq_true, reduceCtorEq, h20, h22, r_gdU]
    have hz : decide (((0 : Nat) : Int) = 0) = true := rfl
    simp (disch := omega) only [r_ln, r_pick, r_pickT, r_pickF, r_condT, r_condF, r_gdTT, r_gdFF, r_gdTF, r_gdFT, r_gqTT, r_gqFF, r_gqTF, r_gqFT, r_not, r_lss, r_leq, r_gtr, r_geq, r_eql, r_neq, r_add, r_sub, r_min2, r_max2, r_min3, r_max3, r_fa, r_iaS, r_iaA, r_ex2a, r_ex2b, r_ex3a, r_ex3b, r_ex3c, r_nc, r_keepE, Nat.zero_add, Nat.add_zero, Nat.mul_one, Int.toNat_natCast, toNat_sub1, toNat_add1, decide_true, decide_false, Bool.not_true, Bool.not_false, if_true, if_false, Bool.false_eq_true, reduceCtorEq, hz]
    refine r_use fok18 (fin w5 (Kp.trans k1 k15)) rfl ?_
    rintro _ w6 ⟨rfl, k6⟩
    refine ⟨_, rfl, ?_⟩
    simp (disch := omega) only [r_ln, r_pick, r_pickT, r_pickF, r_condT, r_condF, r_gdTT, r_gdFF, r_gdTF, r_gdFT, r_gqTT, r_gqFF, r_gqTF, r_gqFT, r_not, r_lss, r_leq, r_gtr, r_geq, r_eql, r_neq, r_add, r_sub, r_min2, r_max2, r_min3, r_max3, r_fa, r_iaS, r_iaA, r_ex2a, r_ex2b, r_ex3a, r_ex3b, r_ex3c, r_nc, r_keepE, Nat.zero_add, Nat.add_zero, Nat.mul_one, Int.toNat_natCast, toNat_sub1, toNat_add1, decide_true, decide_false, Bool.not_true, Bool.not_false, if_true, if_false, Bool.false_eq_true, reduceCtorEq]
    exact ⟨by first | rfl | trivial, k6⟩
  obtain ⟨hs, W, H, rfl, rfl, hW, hH⟩ := ord_ok he
  have hLo := lines_ok hs hW.2
  have hal := boards_alive hLo (h := H) (by omega)
  have hwb := ways_boards hs (w := W) (h := H) (by omega) (by omega)
  obtain ⟨hnone, _⟩ := fill_all hs (w := W) (h := H) (by omega) (by omega)
  have q4 : x4 = 0 ∧ (r4 = true ↔ okP W H B ∧ finP (linesL l W) (deadL B)) := by
    rcases p4 with ⟨h, _⟩ | ⟨_, h, _⟩ | ⟨_, _, r, h, h2⟩
    · omega
    · omega
    · injection h with h
      simp at h
      obtain ⟨rfl, rfl⟩ := h
      exact ⟨rfl, by simpa using h2⟩
  obtain ⟨rfl, hr4⟩ := q4
  have h00 : decide ((0 : Int) = 0) = true := rfl
  have h010 : decide ((0 : Int) = 10) = false := by decide
  have h100 : decide ((10 : Int) = 0) = false := by decide
  have h1010 : decide ((10 : Int) = 10) = true := rfl
  rw [he]
  by_cases hbd : 0 < boards (linesL l W) H
  · -- there is a board
    have q2 : fillE l W H = 0 := by
      rw [fillE, if_pos he]
      have : fillM l W H (-1) ≠ none := fun h => by have := hnone.2 h; omega
      simp only [Int.toNat_natCast]
      have hsome : (fillM l W H (-1)).isNone = false := by
        cases hM : fillM l W H (-1) with
        | none => exact absurd hM this
        | some _ => rfl
      rw [if_neg (by rw [hsome]; decide)]
    have q3 : x3 = 10 := by
      rcases p3 with ⟨h, _⟩ | ⟨_, _, h⟩ | ⟨_, h, _⟩
      · omega
      · injection h with h
        simp at h
        exact h.2
      · simp only [Int.toNat_natCast] at h
        rw [hal.2 hbd] at h
        cases h
    have q5 : r4 = false := by
      cases r4 with
      | false => rfl
      | true =>
        have := proof_sound (hr4.1 rfl).1 (hr4.1 rfl).2
        omega
    subst q3
    subst q5
    rw [q2]
    simp (disch := omega) only [r_ln, r_pick, r_pickT, r_pickF, r_condT, r_condF, r_gdTT, r_gdFF, r_gdTF, r_gdFT, r_gqTT, r_gqFF, r_gqTF, r_gqFT, r_not, r_lss, r_leq, r_gtr, r_geq, r_eql, r_neq, r_add, r_sub, r_min2, r_max2, r_min3, r_max3, r_fa, r_iaS, r_iaA, r_ex2a, r_ex2b, r_ex3a, r_ex3b, r_ex3c, r_nc, r_keepE, Nat.zero_add, Nat.add_zero, Nat.mul_one, Int.toNat_natCast, toNat_sub1, toNat_add1, decide_true, decide_false, Bool.not_true, Bool.not_false, if_true, if_false, Bool.false_eq_true, reduceCtorEq, h00, h1010]
    refine r_neqB ?_
    simp (disch := omega) only [bne_self_eq_false, r_ln, r_pick, r_pickT, r_pickF, r_condT, r_condF, r_gdTT, r_gdFF, r_gdTF, r_gdFT, r_gqTT, r_gqFF, r_gqTF, r_gqFT, r_not, r_lss, r_leq, r_gtr, r_geq, r_eql, r_neq, r_add, r_sub, r_min2, r_max2, r_min3, r_max3, r_fa, r_iaS, r_iaA, r_ex2a, r_ex2b, r_ex3a, r_ex3b, r_ex3c, r_nc, r_keepE, Nat.zero_add, Nat.add_zero, Nat.mul_one, Int.toNat_natCast, toNat_sub1, toNat_add1, decide_true, decide_false, Bool.not_true, Bool.not_false, if_true, if_false, Bool.false_eq_true, reduceCtorEq, h00, r_gdU]
    refine r_use fok18 (fin w5 (Kp.trans k1 k15)) rfl ?_
    rintro _ w6 ⟨rfl, k6⟩
    exact ⟨_, rfl, by first | rfl | trivial, k6⟩
  -- there is none
  have hb0 : boards (linesL l W) H = 0 := by omega
  have hany : (alvL (linesL l W) (8 ^ W) H).any id = false := by
    cases hh : (alvL (linesL l W) (8 ^ W) H).any id with
    | false => rfl
    | true => exact absurd (hal.1 hh) hbd
  have noneE : ∀ h : Nat, 0 < h → ordErr l W h = 0 → boards (linesL l W) h = 0 → fillE l W h = 10 := fun h hh hoe hz => by
    rw [fillE, if_pos hoe]
    have hn := (fill_all hs (w := W) (h := h) (by omega) hh).1
    rw [ways_boards hs (by omega) hh] at hn
    simp only [Int.toNat_natCast]
    rw [if_pos (by rw [hn.1 hz]; rfl)]
  have q2 : fillE l W H = 10 := noneE H (by omega) he hb0
  obtain ⟨out, hI, hout, rfl⟩ : ∃ out, IRows w2.heap.size w3 v3 out ∧ RefuteOut (linesL l W) W H out ∧ x3 = 0 := by
    rcases p3 with ⟨h, _⟩ | ⟨_, h, _⟩ | ⟨_, _, ov, out, h, h2, h3⟩
    · omega
    · simp only [Int.toNat_natCast] at h
      rw [hany] at h
      cases h
    · injection h with h
      simp at h
      obtain ⟨rfl, rfl⟩ := h
      exact ⟨out, h2, by simpa using h3, rfl⟩
  obtain ⟨g1, g2, g3, g4⟩ := refute_proof hLo (by omega) hany hout
  have h8 := pow8N_le hW.2
  have hI5 := (hI.kp k4).kp k5
  have hrd5 : RdRows w5 v3 out := hI5.rd (by omega) fun r h => by rw [g4 r h]; omega
  rw [q2]
  simp (disch := omega) only [r_ln, r_pick, r_pickT, r_pickF, r_condT, r_condF, r_gdTT, r_gdFF, r_gdTF, r_gdFT, r_gqTT, r_gqFF, r_gqTF, r_gqFT, r_not, r_lss, r_leq, r_gtr, r_geq, r_eql, r_neq, r_add, r_sub, r_min2, r_max2, r_min3, r_max3, r_fa, r_iaS, r_iaA, r_ex2a, r_ex2b, r_ex3a, r_ex3b, r_ex3c, r_nc, r_keepE, Nat.zero_add, Nat.add_zero, Nat.mul_one, Int.toNat_natCast, toNat_sub1, toNat_add1, decide_true, decide_false, Bool.not_true, Bool.not_false, if_true, if_false, Bool.false_eq_true, reduceCtorEq, h00, h010, h100]
  refine r_neqB ?_
  simp (disch := omega) only [bne_self_eq_false, r_ln, r_pick, r_pickT, r_pickF, r_condT, r_condF, r_gdTT, r_gdFF, r_gdTF, r_gdFT, r_gqTT, r_gqFF, r_gqTF, r_gqFT, r_not, r_lss, r_leq, r_gtr, r_geq, r_eql, r_neq, r_add, r_sub, r_min2, r_max2, r_min3, r_max3, r_fa, r_iaS, r_iaA, r_ex2a, r_ex2b, r_ex3a, r_ex3b, r_ex3c, r_nc, r_keepE, Nat.zero_add, Nat.add_zero, Nat.mul_one, Int.toNat_natCast, toNat_sub1, toNat_add1, decide_true, decide_false, Bool.not_true, Bool.not_false, if_true, if_false, Bool.false_eq_true, reduceCtorEq, h00, h100, r_gdU]
  have hr5 := hr1.kp k15
  refine r_use fok19 (refutes_calls (W : Int) (H : Int) w5 hr5 hrd5) rfl ?_
  rintro e6 w6 ⟨k6, p6⟩
  have yes : ∀ {e : Ending}, RefPost l W H out e → e = .returned (.tuple #[.bool true, .int .i64 0]) := fun hp => by
    rcases hp with ⟨h, _⟩ | ⟨_, h, _⟩ | ⟨_, _, r, h, h2⟩
    · omega
    · omega
    · simp only [Int.toNat_natCast] at h2
      rw [h, h2.2 ⟨g1, g2⟩]
  have e6' := yes p6
  subst e6'
  refine ⟨_, rfl, ?_⟩
  simp (disch := omega) only [r_ln, r_pick, r_pickT, r_pickF, r_condT, r_condF, r_gdTT, r_gdFF, r_gdTF, r_gdFT, r_gqTT, r_gqFF, r_gqTF, r_gqFT, r_not, r_lss, r_leq, r_gtr, r_geq, r_eql, r_neq, r_add, r_sub, r_min2, r_max2, r_min3, r_max3, r_fa, r_iaS, r_iaA, r_ex2a, r_ex2b, r_ex3a, r_ex3b, r_ex3c, r_nc, r_keepE, Nat.zero_add, Nat.add_zero, Nat.mul_one, Int.toNat_natCast, toNat_sub1, toNat_add1, decide_true, decide_false, Bool.not_true, Bool.not_false, if_true, if_false, Bool.false_eq_true, reduceCtorEq, h00, r_gdU]
  have k16 := Kp.trans k15 k6
  have hI6 := hI5.kp k6
  refine r_use fok17 (few_calls 200 v3 out w6 (by omega) hI6.rdr) rfl ?_
  rintro _ _ ⟨fb, rfl, _, rfl⟩
  refine ⟨_, rfl, ?_⟩
  refine r_join0 (fun w' => Kp w1 w') ?_ fun k2' hk2 => ?_
  · intro w7 k7
    by_cases h4 : (H : Int) = 4
    · simp (disch := omega) only [r_ln, r_pick, r_pickT, r_pickF, r_condT, r_condF, r_gdTT, r_gdFF, r_gdTF, r_gdFT, r_gqTT, r_gqFF, r_gqTF, r_gqFT, r_not, r_lss, r_leq, r_gtr, r_geq, r_eql, r_neq, r_add, r_sub, r_min2, r_max2, r_min3, r_max3, r_fa, r_iaS, r_iaA, r_ex2a, r_ex2b, r_ex3a, r_ex3b, r_ex3c, r_nc, r_keepE, Nat.zero_add, Nat.add_zero, Nat.mul_one, Int.toNat_natCast, toNat_sub1, toNat_add1, decide_true, decide_false, Bool.not_true, Bool.not_false, if_true, if_false, Bool.false_eq_true, reduceCtorEq, decide_eq_true h4, h1010]
      refine r_use fok18 (fin w7 (Kp.trans k1 k7)) rfl ?_
      rintro _ w8 ⟨rfl, k8⟩
      refine ⟨_, rfl, ?_⟩
      simp (disch := omega) only [r_ln, r_pick, r_pickT, r_pickF, r_condT, r_condF, r_gdTT, r_gdFF, r_gdTF, r_gdFT, r_gqTT, r_gqFF, r_gqTF, r_gqFT, r_not, r_lss, r_leq, r_gtr, r_geq, r_eql, r_neq, r_add, r_sub, r_min2, r_max2, r_min3, r_max3, r_fa, r_iaS, r_iaA, r_ex2a, r_ex2b, r_ex3a, r_ex3b, r_ex3c, r_nc, r_keepE, Nat.zero_add, Nat.add_zero, Nat.mul_one, Int.toNat_natCast, toNat_sub1, toNat_add1, decide_true, decide_false, Bool.not_true, Bool.not_false, if_true, if_false, Bool.false_eq_true, reduceCtorEq]
      exact ⟨by first | rfl | trivial, k8⟩
    · simp (disch := omega) only [r_ln, r_pick, r_pickT, r_pickF, r_condT, r_condF, r_gdTT, r_gdFF, r_gdTF, r_gdFT, r_gqTT, r_gqFF, r_gqTF, r_gqFT, r_not, r_lss, r_leq, r_gtr, r_geq, r_eql, r_neq, r_add, r_sub, r_min2, r_max2, r_min3, r_max3, r_fa, r_iaS, r_iaA, r_ex2a, r_ex2b, r_ex3a, r_ex3b, r_ex3c, r_nc, r_keepE, Nat.zero_add, Nat.add_zero, Nat.mul_one, Int.toNat_natCast, toNat_sub1, toNat_add1, decide_true, decide_false, Bool.not_true, Bool.not_false, if_true, if_false, Bool.false_eq_true, reduceCtorEq, h4]
      have eh : (H : Int) + 1 = ((H + 1 : Nat) : Int) := by omega
      rw [eh]
      have hoe : ordErr l (W : Int) ((H + 1 : Nat) : Int) = 0 := by
        unfold ordErr at he ⊢
        have hc : setB l = true ∧ sideB (W : Int) = true ∧ sideB ((H + 1 : Nat) : Int) = true := by
          split at he
          · rename_i h
            refine ⟨h.1, h.2.1, ?_⟩
            simp only [sideB, decide_eq_true_eq]; omega
          · cases he
        rw [if_pos hc]
      have q7 := noneE (H + 1) (by omega) hoe (boards_mono (by omega) hb0)
      refine r_use fok27 (fill_calls (W : Int) ((H + 1 : Nat) : Int) w7 (hr1.kp k7)) rfl ?_
      rintro _ w8 ⟨k8, p8⟩
      obtain ⟨v8, rfl, _⟩ := p8.form
      refine ⟨_, rfl, ?_⟩
      rw [q7]
      simp (disch := omega) only [r_ln, r_pick, r_pickT, r_pickF, r_condT, r_condF, r_gdTT, r_gdFF, r_gdTF, r_gdFT, r_gqTT, r_gqFF, r_gqTF, r_gqFT, r_not, r_lss, r_leq, r_gtr, r_geq, r_eql, r_neq, r_add, r_sub, r_min2, r_max2, r_min3, r_max3, r_fa, r_iaS, r_iaA, r_ex2a, r_ex2b, r_ex3a, r_ex3b, r_ex3c, r_nc, r_keepE, Nat.zero_add, Nat.add_zero, Nat.mul_one, Int.toNat_natCast, toNat_sub1, toNat_add1, decide_true, decide_false, Bool.not_true, Bool.not_false, if_true, if_false, Bool.false_eq_true, reduceCtorEq, h1010]
      refine r_use fok18 (fin w8 (Kp.trans k1 (Kp.trans k7 k8))) rfl ?_
      rintro _ w9 ⟨rfl, k9⟩
      refine ⟨_, rfl, ?_⟩
      simp (disch := omega) only [r_ln, r_pick, r_pickT, r_pickF, r_condT, r_condF, r_gdTT, r_gdFF, r_gdTF, r_gdFT, r_gqTT, r_gqFF, r_gqTF, r_gqFT, r_not, r_lss, r_leq, r_gtr, r_geq, r_eql, r_neq, r_add, r_sub, r_min2, r_max2, r_min3, r_max3, r_fa, r_iaS, r_iaA, r_ex2a, r_ex2b, r_ex3a, r_ex3b, r_ex3c, r_nc, r_keepE, Nat.zero_add, Nat.add_zero, Nat.mul_one, Int.toNat_natCast, toNat_sub1, toNat_add1, decide_true, decide_false, Bool.not_true, Bool.not_false, if_true, if_false, Bool.false_eq_true, reduceCtorEq]
      exact ⟨by first | rfl | trivial, k9⟩
  · cases fb with
    | false =>
      simp only [r_condF]
      exact hk2 _ k16
    | true =>
      simp only [r_condT]
      refine r_use fok20 (refrefutes_calls (W : Int) (H : Int) w6 (hr1.kp k16) (hrd5.below k6)) rfl ?_
      rintro e7 w7 ⟨k7, p7⟩
      have e7' := yes p7
      subst e7'
      refine ⟨_, rfl, ?_⟩
      simp (disch := omega) only [r_ln, r_pick, r_pickT, r_pickF, r_condT, r_condF, r_gdTT, r_gdFF, r_gdTF, r_gdFT, r_gqTT, r_gqFF, r_gqTF, r_gqFT, r_not, r_lss, r_leq, r_gtr, r_geq, r_eql, r_neq, r_add, r_sub, r_min2, r_max2, r_min3, r_max3, r_fa, r_iaS, r_iaA, r_ex2a, r_ex2b, r_ex3a, r_ex3b, r_ex3c, r_nc, r_keepE, Nat.zero_add, Nat.add_zero, Nat.mul_one, Int.toNat_natCast, toNat_sub1, toNat_add1, decide_true, decide_false, Bool.not_true, Bool.not_false, if_true, if_false, Bool.false_eq_true, reduceCtorEq, h00, r_gdU]
      exact hk2 _ (Kp.trans k16 k7)

end Go.Proofs.Ytgalbokmgffhkaa
