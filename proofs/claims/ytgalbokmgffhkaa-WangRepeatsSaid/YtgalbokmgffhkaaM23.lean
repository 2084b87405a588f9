/- Texts of my own, merged by program: C2 Se C3. -/
import Derived.Test.YtgalbokmgffhkaaM16
import Derived.Test.YtgalbokmgffhkaaM22
import Derived.Test.YtgalbokmgffhkaaM03
import Derived.Test.YtgalbokmgffhkaaM12
set_option linter.all false
/- Contracts: few of the statements; what Good judges; Good of the specification. -/
namespace Go.Proofs.Ytgalbokmgffhkaa
open Go.Lf Go.RowKit Go.Wg

theorem RdI.kp {w w' : World} {v : Value} {l : List Int} (h : RdI w v l) (hk : Kp w w') : RdI w' v l := by
  obtain ⟨a, cap, h1, h2, h3⟩ := h
  refine ⟨a, cap, h1, h2, fun h0 => ?_⟩
  obtain ⟨b, off, h4, h5⟩ := h3 h0
  exact ⟨b, off, h4, fun i hi => cell_later hk (h5 i hi)⟩
theorem RdR.kp {w w' : World} {v : Value} {h : List (List Int)} (hr : RdR w v h) (hk : Kp w w') : RdR w' v h := by
  obtain ⟨a, cap, vs, h1, h2, h3, h4⟩ := hr
  refine ⟨a, cap, vs, h1, h2, fun h0 => ?_, fun i hi => (h4 i hi).kp hk⟩
  obtain ⟨b, off, h5, h6⟩ := h3 h0
  exact ⟨b, off, h5, fun i hi => cell_later hk (h6 i hi)⟩

/-- Few and short enough lists for a statement. -/
def Few (m : Nat) (h : List (List Int)) : Prop := h.length ≤ m ∧ ∀ i, i < h.length → (h.getD i []).length ≤ 20
theorem Few.rows {m : Nat} {w : World} {v : Value} {h : List (List Int)} (hm : m ≤ 1000) (hf : Few m h) (hr : RdR w v h) : RdRows w v h := hr.small (by have := hf.1; omega) fun i hi => by have := hf.2 i hi; omega

set_option maxRecDepth 100000 in
theorem few_calls (m : Nat) (v : Value) (h : List (List Int)) (w : World) (hm : m ≤ 1000) (hr : RdR w v h) : Calls Try.prog 17 #[v, .int .i64 m] w fun e w' => ∃ b, e = .returned (.bool b) ∧ (b = true → Few m h) ∧ w = w' := by
  obtain ⟨a, cap, vs, rfl, _, hc, hrow⟩ := hr
  refine lift17 ?_
  unfold S17
  refine ⟨fun t3 wr => ∃ i : Nat, i ≤ h.length ∧ i ≤ m ∧ t3 = .int .i64 i ∧ w = wr ∧ ∀ k, k < i → (h.getD k []).length ≤ 20, fun t3 _ => h.length - (intOf t3).toNat, ⟨0, by omega, by omega, rfl, rfl, by omega⟩, ?_⟩
  rintro _ _ _ ⟨i, hi, hi10, rfl, rfl, hprev⟩
  by_cases hlt : i < h.length
  case neg =>
    have hlt' : ¬ (i : Int) < (h.length : Int) := by omega
    simp (disch := omega) only [r_ln, r_pick, r_pickT, r_pickF, r_condT, r_condF, r_gdTT, r_gdFF, r_gdTF, r_gdFT, r_gqTT, r_gqFF, r_gqTF, r_gqFT, r_not, r_lss, r_leq, r_gtr, r_geq, r_eql, r_neq, r_add, r_sub, r_min2, r_max2, r_min3, r_max3, r_fa, r_iaS, r_iaA, r_ex2a, r_ex2b, r_ex3a, r_ex3b, r_ex3c, r_nc, r_keepE, Nat.zero_add, Nat.add_zero, Nat.mul_one, Int.toNat_natCast, toNat_sub1, toNat_add1, decide_true, decide_false, Bool.not_true, Bool.not_false, if_true, if_false, Bool.false_eq_true, reduceCtorEq, hlt']
    exact ⟨true, rfl, (fun _ => ⟨by omega, fun k hk => hprev k (by omega)⟩), by first | rfl | trivial⟩
  have hlt' : (i : Int) < (h.length : Int) := by omega
  obtain ⟨b, off, rfl, hcell⟩ := hc (by omega)
  obtain ⟨ra, rc, hv, _⟩ := hrow i hlt
  have hci := hcell i hlt
  rw [hv] at hci
  by_cases h10 : m ≤ i
  · have h10' : (m : Int) ≤ i := by omega
    simp (disch := omega) only [r_ln, r_pick, r_pickT, r_pickF, r_condT, r_condF, r_gdTT, r_gdFF, r_gdTF, r_gdFT, r_gqTT, r_gqFF, r_gqTF, r_gqFT, r_not, r_lss, r_leq, r_gtr, r_geq, r_eql, r_neq, r_add, r_sub, r_min2, r_max2, r_min3, r_max3, r_fa, r_iaS, r_iaA, r_ex2a, r_ex2b, r_ex3a, r_ex3b, r_ex3c, r_nc, r_keepE, Nat.zero_add, Nat.add_zero, Nat.mul_one, Int.toNat_natCast, toNat_sub1, toNat_add1, decide_true, decide_false, Bool.not_true, Bool.not_false, if_true, if_false, Bool.false_eq_true, reduceCtorEq, decide_eq_true hlt', decide_eq_true h10']
    exact ⟨false, rfl, (fun h => absurd h (by decide)), by first | rfl | trivial⟩
  have h10' : ¬ (m : Int) ≤ i := by omega
  by_cases hl : 20 < (h.getD i []).length
  · have hl' : (20 : Int) < ((h.getD i []).length : Int) := by omega
    simp (disch := omega) only [r_ln, r_pick, r_pickT, r_pickF, r_condT, r_condF, r_gdTT, r_gdFF, r_gdTF, r_gdFT, r_gqTT, r_gqFF, r_gqTF, r_gqFT, r_not, r_lss, r_leq, r_gtr, r_geq, r_eql, r_neq, r_add, r_sub, r_min2, r_max2, r_min3, r_max3, r_fa, r_iaS, r_iaA, r_ex2a, r_ex2b, r_ex3a, r_ex3b, r_ex3c, r_nc, r_keepE, Nat.zero_add, Nat.add_zero, Nat.mul_one, Int.toNat_natCast, toNat_sub1, toNat_add1, decide_true, decide_false, Bool.not_true, Bool.not_false, if_true, if_false, Bool.false_eq_true, reduceCtorEq, decide_eq_true hlt', h10', r_ld hci, decide_eq_true hl']
    exact ⟨false, rfl, (fun h => absurd h (by decide)), by first | rfl | trivial⟩
  have hl' : ¬ (20 : Int) < ((h.getD i []).length : Int) := by omega
  simp (disch := omega) only [r_ln, r_pick, r_pickT, r_pickF, r_condT, r_condF, r_gdTT, r_gdFF, r_gdTF, r_gdFT, r_gqTT, r_gqFF, r_gqTF, r_gqFT, r_not, r_lss, r_leq, r_gtr, r_geq, r_eql, r_neq, r_add, r_sub, r_min2, r_max2, r_min3, r_max3, r_fa, r_iaS, r_iaA, r_ex2a, r_ex2b, r_ex3a, r_ex3b, r_ex3c, r_nc, r_keepE, Nat.zero_add, Nat.add_zero, Nat.mul_one, Int.toNat_natCast, toNat_sub1, toNat_add1, decide_true, decide_false, Bool.not_true, Bool.not_false, if_true, if_false, Bool.false_eq_true, reduceCtorEq, decide_eq_true hlt', h10', r_ld hci, hl']
  refine ⟨⟨i + 1, by omega, by omega, by go_num, by first | rfl | trivial, fun k hk => ?_⟩, by simp only [intOf]; omega⟩
  by_cases hki : k < i
  · exact hprev k hki
  · have : k = i := by omega
    subst this; omega

/-! ### what Good judges -/

/-- The tile at a place of a board. -/
def at2 (l : List Tile) (B : List (List Int)) (y x : Nat) : Tile := tl l ((B.getD y []).getD x 0).toNat
def stE (l : List Tile) (B : List (List Int)) (w y x : Nat) (s : Bool × Bool) : Bool × Bool := if tE (at2 l B y x) = tW (at2 l B y ((x + 1) % w)) then s else (s.1 && decide (x + 1 = w), false)
def stS (l : List Tile) (B : List (List Int)) (h y x : Nat) (s : Bool × Bool) : Bool × Bool := if tS (at2 l B y x) = tN (at2 l B ((y + 1) % h) x) then s else (s.1 && decide (y + 1 = h), false)
def cellF (l : List Tile) (B : List (List Int)) (w h y : Nat) (s : Bool × Bool) (x : Nat) : Bool × Bool := stS l B h y x (stE l B w y x s)
def rowF (l : List Tile) (B : List (List Int)) (w h : Nat) (s : Bool × Bool) (y : Nat) : Bool × Bool := (List.range w).foldl (cellF l B w h y) s
def judge (l : List Tile) (B : List (List Int)) (w h : Nat) : Bool × Bool := (List.range h).foldl (rowF l B w h) (true, true)

/-- What is closed is good. -/
def Le (s : Bool × Bool) : Prop := s.2 = true → s.1 = true
theorem le_cell {l : List Tile} {B : List (List Int)} {w h y x : Nat} {s : Bool × Bool} (hs : Le s) : Le (cellF l B w h y s x) := by
  unfold cellF stS stE Le at *
  split <;> split <;> simp_all
theorem le_fold {α : Type} {f : Bool × Bool → α → Bool × Bool} (hf : ∀ s a, Le s → Le (f s a)) : ∀ (L : List α) (s : Bool × Bool), Le s → Le (L.foldl f s)
  | [], _, h => h
  | a :: L, s, h => le_fold hf L _ (hf s a h)
theorem judge_le (l : List Tile) (B : List (List Int)) (w h : Nat) : Le (judge l B w h) :=
  le_fold (fun s y hs => le_fold (fun s x hs => le_cell hs) _ _ hs) _ _ (fun _ => rfl)

def cellOk (l : List Tile) (n : Int) : Bool := decide (0 ≤ n) && decide (n < l.length)
def boardRow (l : List Tile) (w : Nat) (r : List Int) : Bool := decide (r.length = w) && r.all (cellOk l)
def boardB (l : List Tile) (B : List (List Int)) : Bool := setB l && sideB B.length && sideB (B.getD 0 []).length && B.all (boardRow l (B.getD 0 []).length)

/-- What Good returns. -/
def goodV (l : List Tile) (B : List (List Int)) : Value := if boardB l B = true then .tuple #[.bool (judge l B (B.getD 0 []).length B.length).1, .bool (judge l B (B.getD 0 []).length B.length).2, .int .i64 0] else .tuple #[.bool false, .bool false, .int .i64 2]

theorem board_row {l : List Tile} {B : List (List Int)} (hb : B.all (boardRow l (B.getD 0 []).length) = true) {y : Nat} (hy : y < B.length) : (B.getD y []).length = (B.getD 0 []).length ∧ ∀ x, x < (B.getD 0 []).length → ∃ k : Nat, (B.getD y []).getD x 0 = k ∧ k < l.length := by
  have h1 := List.all_eq_true.1 hb _ (getD_mem (d := []) hy)
  simp only [boardRow, Bool.and_eq_true, decide_eq_true_eq, List.all_eq_true] at h1
  refine ⟨h1.1, fun x hx => ?_⟩
  have h2 := h1.2 _ (getD_mem (d := (0 : Int)) (show x < (B.getD y []).length by omega))
  simp only [cellOk, Bool.and_eq_true, decide_eq_true_eq] at h2
  exact ⟨((B.getD y []).getD x 0).toNat, by omega, by omega⟩

end Go.Proofs.Ytgalbokmgffhkaa

/- Lifted texts, printed by program (gen.py): what each function's code asks. The ties are by the kernel. -/
namespace Go.Proofs.Ytgalbokmgffhkaa
open Go.Lf Go.RowKit

def S67 (t0 t1 : Value) (w : World) (R : Ending → World → Prop) : Prop :=
  binQ Try.prog w .lss 3 true t0 (.int .i64 0) fun t5 =>
  gd t5 false (fun k => k t0 w) w fun t7 w =>
  gd t5 false (fun k => ld1 w t1 fun v => k v w) w fun t8 w =>
  gd t5 false (fun k => ln1 t8 fun v => k v w) w fun t9 w =>
  gd t5 false (fun k => binQ Try.prog w .geq 3 false t7 t9 fun v => k v w) w fun t10 w =>
  pickQ t5 (.bool true) t10 fun t11 =>
  R (.returned t11) w

def A67 : Ann where
  live := fun _ => []
  wr := fun _ _ => false
  sched := fun _ => .done

set_option maxRecDepth 100000 in
theorem ok67 : (codeOk Try.f67.ntmps A67 (Try.f67.body.getD .skip) 0 && Nat.ble 2 Try.f67.ntmps) = true := by kernel_rfl
set_option maxRecDepth 100000 in
theorem lift67 {t0 t1 : Value} {w : World} {R : Ending → World → Prop} (h : S67 t0 t1 w R) : Calls Try.prog 67 #[t0, t1] w R :=
  calls_of_cw (fn := Try.f67) (c := Try.f67.body.getD .skip) A67 mixes Try.func67 (by kernel_rfl) ok67
    ((by kernel_rfl : (S67 t0 t1 w R) = cw Try.prog A67 (Try.f67.body.getD .skip) 0 (bodyQ Try.prog Try.f67 R) (frOf #[t0, t1]) w).mp h)

theorem fok67 : fnOk Try.prog 67 = true := by kernel_rfl
end Go.Proofs.Ytgalbokmgffhkaa

/- Contract: Good of the specification. -/
namespace Go.Proofs.Ytgalbokmgffhkaa
open Go.Lf Go.RowKit Go.Wg

theorem goodV_bad {l : List Tile} {B : List (List Int)} (h : boardB l B = false) : goodV l B = .tuple #[.bool false, .bool false, .int .i64 2] := by
  unfold goodV; rw [h]; rfl

theorem RdRows.cell2 {w : World} {v : Value} {B : List (List Int)} (h : RdRows w v B) {y x : Nat} (hy : y < B.length) (hx : x < (B.getD y []).length) :
    ∃ b off cap b' off' cap', v = .slice (some ⟨b, off, none⟩) B.length cap ∧ w.cell? ⟨b, off + y, none⟩ = some (.slice (some ⟨b', off', none⟩) (B.getD y []).length cap') ∧ w.cell? ⟨b', off' + x, none⟩ = some (.int .i64 ((B.getD y []).getD x 0)) := by
  obtain ⟨b, off, cap, rv, e, hc, hr⟩ := h.row hy
  obtain ⟨b', off', cap', e', hc'⟩ := hr.at hx
  subst e'
  exact ⟨b, off, cap, b', off', cap', e, hc, hc'⟩

theorem judge_rows (l : List Tile) (B : List (List Int)) (w h : Nat) : judge l B w h = (List.range h).foldl (rowF l B w h) (true, true) := rfl

set_option maxRecDepth 100000 in
set_option maxHeartbeats 1000000 in
theorem refgood_calls {v bv : Value} {l : List Tile} {B : List (List Int)} (w : World) (hr : RdT w v l) (hb : RdRows w bv B) (hll : l.length ≤ 1000) : Calls Try.prog 22 #[v, bv] w fun e w' => e = .returned (goodV l B) ∧ Kp w w' := by
  obtain ⟨ba, bcap, rfl, hbl⟩ := hb.len
  obtain ⟨va, vcap, rfl, hvc⟩ := hr.len
  refine lift22 ?_
  unfold S22
  refine r_use fok35 (refset_calls w hr) rfl ?_
  rintro _ w1 ⟨rfl, k1⟩
  refine ⟨_, rfl, ?_⟩
  cases b1 : setB l with
  | false =>
    simp (disch := omega) only [r_ln, r_pick, r_pickT, r_pickF, r_condT, r_condF, r_gdTT, r_gdFF, r_gdTF, r_gdFT, r_gqTT, r_gqFF, r_gqTF, r_gqFT, r_not, r_lss, r_leq, r_gtr, r_geq, r_eql, r_neq, r_add, r_sub, r_min2, r_max2, r_min3, r_max3, r_fa, r_iaS, r_iaA, r_ex2a, r_ex2b, r_ex3a, r_ex3b, r_ex3c, r_nc, r_keepE, Nat.zero_add, Nat.add_zero, Nat.mul_one, Int.toNat_natCast, toNat_sub1, toNat_add1, decide_true, decide_false, Bool.not_true, Bool.not_false, if_true, if_false, Bool.false_eq_true, reduceCtorEq]
    exact ⟨by rw [goodV_bad (by simp [boardB, b1])], k1⟩
  | true =>
  simp (disch := omega) only [r_ln, r_pick, r_pickT, r_pickF, r_condT, r_condF, r_gdTT, r_gdFF, r_gdTF, r_gdFT, r_gqTT, r_gqFF, r_gqTF, r_gqFT, r_not, r_lss, r_leq, r_gtr, r_geq, r_eql, r_neq, r_add, r_sub, r_min2, r_max2, r_min3, r_max3, r_fa, r_iaS, r_iaA, r_ex2a, r_ex2b, r_ex3a, r_ex3b, r_ex3c, r_nc, r_keepE, Nat.zero_add, Nat.add_zero, Nat.mul_one, Int.toNat_natCast, toNat_sub1, toNat_add1, decide_true, decide_false, Bool.not_true, Bool.not_false, if_true, if_false, Bool.false_eq_true, reduceCtorEq]
  refine r_use fok68 (size_calls _ w1) rfl ?_
  rintro _ _ ⟨rfl, rfl⟩
  refine ⟨_, rfl, ?_⟩
  cases b2 : sideB (B.length : Int) with
  | false =>
    simp (disch := omega) only [r_ln, r_pick, r_pickT, r_pickF, r_condT, r_condF, r_gdTT, r_gdFF, r_gdTF, r_gdFT, r_gqTT, r_gqFF, r_gqTF, r_gqFT, r_not, r_lss, r_leq, r_gtr, r_geq, r_eql, r_neq, r_add, r_sub, r_min2, r_max2, r_min3, r_max3, r_fa, r_iaS, r_iaA, r_ex2a, r_ex2b, r_ex3a, r_ex3b, r_ex3c, r_nc, r_keepE, Nat.zero_add, Nat.add_zero, Nat.mul_one, Int.toNat_natCast, toNat_sub1, toNat_add1, decide_true, decide_false, Bool.not_true, Bool.not_false, if_true, if_false, Bool.false_eq_true, reduceCtorEq]
    exact ⟨by rw [goodV_bad (by simp [boardB, b2])], k1⟩
  | true =>
  have hH : 1 ≤ B.length ∧ B.length ≤ 4 := by simp only [sideB, decide_eq_true_eq] at b2; omega
  obtain ⟨ob, oo, _, rv, eo, oc, orow⟩ := (hb.below k1).row (i := 0) (by omega)
  cases eo
  obtain ⟨ra, rcap, rfl, hrl⟩ := orow.len
  rw [Nat.add_zero] at oc
  have i0 : (0 : Int).toNat = 0 := rfl
  simp (disch := omega) only [r_ln, r_pick, r_pickT, r_pickF, r_condT, r_condF, r_gdTT, r_gdFF, r_gdTF, r_gdFT, r_gqTT, r_gqFF, r_gqTF, r_gqFT, r_not, r_lss, r_leq, r_gtr, r_geq, r_eql, r_neq, r_add, r_sub, r_min2, r_max2, r_min3, r_max3, r_fa, r_iaS, r_iaA, r_ex2a, r_ex2b, r_ex3a, r_ex3b, r_ex3c, r_nc, r_keepE, Nat.zero_add, Nat.add_zero, Nat.mul_one, Int.toNat_natCast, toNat_sub1, toNat_add1, decide_true, decide_false, Bool.not_true, Bool.not_false, if_true, if_false, Bool.false_eq_true, reduceCtorEq, i0, Nat.zero_mul, r_ld oc]
  refine r_use fok68 (size_calls _ w1) rfl ?_
  rintro _ _ ⟨rfl, rfl⟩
  refine ⟨_, rfl, ?_⟩
  cases b3 : sideB ((B.getD 0 []).length : Int) with
  | false =>
    simp (disch := omega) only [r_ln, r_pick, r_pickT, r_pickF, r_condT, r_condF, r_gdTT, r_gdFF, r_gdTF, r_gdFT, r_gqTT, r_gqFF, r_gqTF, r_gqFT, r_not, r_lss, r_leq, r_gtr, r_geq, r_eql, r_neq, r_add, r_sub, r_min2, r_max2, r_min3, r_max3, r_fa, r_iaS, r_iaA, r_ex2a, r_ex2b, r_ex3a, r_ex3b, r_ex3c, r_nc, r_keepE, Nat.zero_add, Nat.add_zero, Nat.mul_one, Int.toNat_natCast, toNat_sub1, toNat_add1, decide_true, decide_false, Bool.not_true, Bool.not_false, if_true, if_false, Bool.false_eq_true, reduceCtorEq]
    exact ⟨by rw [goodV_bad (by simp only [boardB, b3, Bool.and_false, Bool.false_and])], k1⟩
  | true =>
  have hW : 1 ≤ (B.getD 0 []).length ∧ (B.getD 0 []).length ≤ 4 := by simp only [sideB, decide_eq_true_eq] at b3; omega
  simp (disch := omega) only [r_ln, r_pick, r_pickT, r_pickF, r_condT, r_condF, r_gdTT, r_gdFF, r_gdTF, r_gdFT, r_gqTT, r_gqFF, r_gqTF, r_gqFT, r_not, r_lss, r_leq, r_gtr, r_geq, r_eql, r_neq, r_add, r_sub, r_min2, r_max2, r_min3, r_max3, r_fa, r_iaS, r_iaA, r_ex2a, r_ex2b, r_ex3a, r_ex3b, r_ex3c, r_nc, r_keepE, Nat.zero_add, Nat.add_zero, Nat.mul_one, Int.toNat_natCast, toNat_sub1, toNat_add1, decide_true, decide_false, Bool.not_true, Bool.not_false, if_true, if_false, Bool.false_eq_true, reduceCtorEq, i0, Nat.zero_mul, r_ld oc]
  have bad : ∀ i, i < B.length → boardRow l (B.getD 0 []).length (B.getD i []) = false → goodV l B = .tuple #[.bool false, .bool false, .int .i64 2] := fun i hi h => by
    refine goodV_bad ?_
    cases hB : boardB l B with
    | false => rfl
    | true =>
      simp only [boardB, Bool.and_eq_true] at hB
      have := List.all_eq_true.1 hB.2 _ (getD_mem (d := []) hi)
      rw [h] at this; cases this
  generalize hWe : (B.getD 0 []).length = W at *
  refine ⟨fun t9 wr => ∃ i : Nat, i ≤ B.length ∧ t9 = .int .i64 i ∧ (∀ k, k < i → boardRow l W (B.getD k []) = true) ∧ w1 = wr, fun t9 _ => B.length - (intOf t9).toNat, ⟨0, by omega, rfl, fun k hk => absurd hk (by omega), rfl⟩, ?_⟩
  rintro _ _ _ ⟨i, hi, rfl, hok, rfl⟩
  by_cases hlt : i < B.length
  case pos =>
    have hlt' : (i : Int) < (B.length : Int) := by omega
    obtain ⟨pb, po, _, rv, ep, pc, prow⟩ := (hb.below k1).row hlt
    cases ep
    obtain ⟨qa, qcap, rfl, hql⟩ := prow.len
    by_cases hlen : ((B.getD i []).length : Int) = (W : Int)
    case neg =>
      simp (disch := omega) only [r_ln, r_pick, r_pickT, r_pickF, r_condT, r_condF, r_gdTT, r_gdFF, r_gdTF, r_gdFT, r_gqTT, r_gqFF, r_gqTF, r_gqFT, r_not, r_lss, r_leq, r_gtr, r_geq, r_eql, r_neq, r_add, r_sub, r_min2, r_max2, r_min3, r_max3, r_fa, r_iaS, r_iaA, r_ex2a, r_ex2b, r_ex3a, r_ex3b, r_ex3c, r_nc, r_keepE, Nat.zero_add, Nat.add_zero, Nat.mul_one, Int.toNat_natCast, toNat_sub1, toNat_add1, decide_true, decide_false, Bool.not_true, Bool.not_false, if_true, if_false, Bool.false_eq_true, reduceCtorEq, decide_eq_true hlt', r_ld pc, hlen]
      exact ⟨by rw [bad i hlt (by simp only [boardRow]; rw [decide_eq_false (by omega)]; rfl)], k1⟩
    simp (disch := omega) only [r_ln, r_pick, r_pickT, r_pickF, r_condT, r_condF, r_gdTT, r_gdFF, r_gdTF, r_gdFT, r_gqTT, r_gqFF, r_gqTF, r_gqFT, r_not, r_lss, r_leq, r_gtr, r_geq, r_eql, r_neq, r_add, r_sub, r_min2, r_max2, r_min3, r_max3, r_fa, r_iaS, r_iaA, r_ex2a, r_ex2b, r_ex3a, r_ex3b, r_ex3c, r_nc, r_keepE, Nat.zero_add, Nat.add_zero, Nat.mul_one, Int.toNat_natCast, toNat_sub1, toNat_add1, decide_true, decide_false, Bool.not_true, Bool.not_false, if_true, if_false, Bool.false_eq_true, reduceCtorEq, decide_eq_true hlt', r_ld pc, decide_eq_true hlen]
    refine ⟨fun t10 wr => ∃ j : Nat, j ≤ W ∧ t10 = .int .i64 j ∧ (∀ k, k < j → cellOk l ((B.getD i []).getD k 0) = true) ∧ w1 = wr, fun t10 _ => W - (intOf t10).toNat, ⟨0, by omega, rfl, fun k hk => absurd hk (by omega), rfl⟩, ?_⟩
    rintro _ _ _ ⟨j, hj, rfl, hcok, rfl⟩
    by_cases hjl : j < W
    case neg =>
      have hjl' : ¬ (j : Int) < (W : Int) := by omega
      simp (disch := omega) only [r_ln, r_pick, r_pickT, r_pickF, r_condT, r_condF, r_gdTT, r_gdFF, r_gdTF, r_gdFT, r_gqTT, r_gqFF, r_gqTF, r_gqFT, r_not, r_lss, r_leq, r_gtr, r_geq, r_eql, r_neq, r_add, r_sub, r_min2, r_max2, r_min3, r_max3, r_fa, r_iaS, r_iaA, r_ex2a, r_ex2b, r_ex3a, r_ex3b, r_ex3c, r_nc, r_keepE, Nat.zero_add, Nat.add_zero, Nat.mul_one, Int.toNat_natCast, toNat_sub1, toNat_add1, decide_true, decide_false, Bool.not_true, Bool.not_false, if_true, if_false, Bool.false_eq_true, reduceCtorEq, hjl']
      refine ⟨⟨i + 1, by omega, by go_num, fun k hk => ?_, by first | rfl | trivial⟩, by simp only [intOf]; omega⟩
      by_cases hki : k < i
      · exact hok k hki
      · have : k = i := by omega
        subst this
        simp only [boardRow, Bool.and_eq_true, decide_eq_true_eq, List.all_eq_true]
        refine ⟨by omega, fun x hx => ?_⟩
        obtain ⟨q, hq, rfl⟩ := List.getElem_of_mem hx
        have := hcok q (by omega)
        rwa [getD_lt _ _ _ hq] at this
    have hjl' : (j : Int) < (W : Int) := by omega
    obtain ⟨cb, co, _, ec, cc⟩ := prow.at (j := j) (by omega)
    cases ec
    have cbad : cellOk l ((B.getD i []).getD j 0) = false → boardRow l W (B.getD i []) = false := fun h => by
      cases hB : boardRow l W (B.getD i []) with
      | false => rfl
      | true =>
        simp only [boardRow, Bool.and_eq_true, List.all_eq_true] at hB
        have := hB.2 _ (getD_mem (d := (0 : Int)) (show j < (B.getD i []).length by omega))
        rw [h] at this; cases this
    by_cases h0 : (B.getD i []).getD j 0 < 0
    · simp (disch := omega) only [r_ln, r_pick, r_pickT, r_pickF, r_condT, r_condF, r_gdTT, r_gdFF, r_gdTF, r_gdFT, r_gqTT, r_gqFF, r_gqTF, r_gqFT, r_not, r_lss, r_leq, r_gtr, r_geq, r_eql, r_neq, r_add, r_sub, r_min2, r_max2, r_min3, r_max3, r_fa, r_iaS, r_iaA, r_ex2a, r_ex2b, r_ex3a, r_ex3b, r_ex3c, r_nc, r_keepE, Nat.zero_add, Nat.add_zero, Nat.mul_one, Int.toNat_natCast, toNat_sub1, toNat_add1, decide_true, decide_false, Bool.not_true, Bool.not_false, if_true, if_false, Bool.false_eq_true, reduceCtorEq, decide_eq_true hjl', r_ld pc, r_ld cc, decide_eq_true h0]
      exact ⟨by rw [bad i hlt (cbad (by simp only [cellOk]; rw [decide_eq_false (by omega)]; rfl))], k1⟩
    by_cases h1 : (l.length : Int) ≤ (B.getD i []).getD j 0
    · simp (disch := omega) only [r_ln, r_pick, r_pickT, r_pickF, r_condT, r_condF, r_gdTT, r_gdFF, r_gdTF, r_gdFT, r_gqTT, r_gqFF, r_gqTF, r_gqFT, r_not, r_lss, r_leq, r_gtr, r_geq, r_eql, r_neq, r_add, r_sub, r_min2, r_max2, r_min3, r_max3, r_fa, r_iaS, r_iaA, r_ex2a, r_ex2b, r_ex3a, r_ex3b, r_ex3c, r_nc, r_keepE, Nat.zero_add, Nat.add_zero, Nat.mul_one, Int.toNat_natCast, toNat_sub1, toNat_add1, decide_true, decide_false, Bool.not_true, Bool.not_false, if_true, if_false, Bool.false_eq_true, reduceCtorEq, decide_eq_true hjl', r_ld pc, r_ld cc, h0, decide_eq_true h1]
      exact ⟨by rw [bad i hlt (cbad (by simp only [cellOk]; rw [decide_eq_false (show ¬ (B.getD i []).getD j 0 < (l.length : Int) by omega), Bool.and_false]))], k1⟩
    simp (disch := omega) only [r_ln, r_pick, r_pickT, r_pickF, r_condT, r_condF, r_gdTT, r_gdFF, r_gdTF, r_gdFT, r_gqTT, r_gqFF, r_gqTF, r_gqFT, r_not, r_lss, r_leq, r_gtr, r_geq, r_eql, r_neq, r_add, r_sub, r_min2, r_max2, r_min3, r_max3, r_fa, r_iaS, r_iaA, r_ex2a, r_ex2b, r_ex3a, r_ex3b, r_ex3c, r_nc, r_keepE, Nat.zero_add, Nat.add_zero, Nat.mul_one, Int.toNat_natCast, toNat_sub1, toNat_add1, decide_true, decide_false, Bool.not_true, Bool.not_false, if_true, if_false, Bool.false_eq_true, reduceCtorEq, decide_eq_true hjl', r_ld pc, r_ld cc, h0, h1]
    refine ⟨⟨j + 1, by omega, by go_num, fun k hk => ?_, by first | rfl | trivial⟩, by simp only [intOf]; omega⟩
    by_cases hkj : k < j
    · exact hcok k hkj
    · have : k = j := by omega
      subst this
      simp only [cellOk, Bool.and_eq_true, decide_eq_true_eq]
      omega
  have hlt' : ¬ (i : Int) < (B.length : Int) := by omega
  have hall : B.all (boardRow l W) = true := List.all_eq_true.2 fun r hr => by
    obtain ⟨q, hq, rfl⟩ := List.getElem_of_mem hr
    have := hok q (by omega)
    rwa [getD_lt _ _ _ hq] at this
  simp (disch := omega) only [r_ln, r_pick, r_pickT, r_pickF, r_condT, r_condF, r_gdTT, r_gdFF, r_gdTF, r_gdFT, r_gqTT, r_gqFF, r_gqTF, r_gqFT, r_not, r_lss, r_leq, r_gtr, r_geq, r_eql, r_neq, r_add, r_sub, r_min2, r_max2, r_min3, r_max3, r_fa, r_iaS, r_iaA, r_ex2a, r_ex2b, r_ex3a, r_ex3b, r_ex3c, r_nc, r_keepE, Nat.zero_add, Nat.add_zero, Nat.mul_one, Int.toNat_natCast, toNat_sub1, toNat_add1, decide_true, decide_false, Bool.not_true, Bool.not_false, if_true, if_false, Bool.false_eq_true, reduceCtorEq, hlt']
  have hgv : goodV l B = .tuple #[.bool (judge l B W B.length).1, .bool (judge l B W B.length).2, .int .i64 0] := by
    have hB : boardB l B = true := by simp only [boardB, b1, b2, hWe, b3, hall, Bool.and_self]
    unfold goodV
    rw [hB, hWe]; rfl
  rw [hgv]
  have hle := judge_le l B W B.length
  have hrow := fun y hy => board_row (l := l) (B := B) (by rw [hWe]; exact hall) (y := y) hy
  rw [hWe] at hrow
  refine ⟨fun t11 t12 t13 wr => ∃ y : Nat, y ≤ B.length ∧ t13 = .int .i64 y ∧ t11 = .bool ((List.range y).foldl (rowF l B W B.length) (true, true)).1 ∧ t12 = .bool ((List.range y).foldl (rowF l B W B.length) (true, true)).2 ∧ Kp w1 wr, fun _ _ t13 _ => B.length - (intOf t13).toNat,
    ⟨0, by omega, rfl, rfl, rfl, Kp.refl _⟩, ?_⟩
  rintro _ _ _ _ wr ⟨y, hy, rfl, rfl, rfl, kr⟩
  by_cases hyl : y < B.length
  case neg =>
    have hyl' : ¬ (y : Int) < (B.length : Int) := by omega
    have ey : y = B.length := by omega
    subst ey
    rw [judge_rows] at hle ⊢
    simp (disch := omega) only [r_ln, r_pick, r_pickT, r_pickF, r_condT, r_condF, r_gdTT, r_gdFF, r_gdTF, r_gdFT, r_gqTT, r_gqFF, r_gqTF, r_gqFT, r_not, r_lss, r_leq, r_gtr, r_geq, r_eql, r_neq, r_add, r_sub, r_min2, r_max2, r_min3, r_max3, r_fa, r_iaS, r_iaA, r_ex2a, r_ex2b, r_ex3a, r_ex3b, r_ex3c, r_nc, r_keepE, Nat.zero_add, Nat.add_zero, Nat.mul_one, Int.toNat_natCast, toNat_sub1, toNat_add1, decide_true, decide_false, Bool.not_true, Bool.not_false, if_true, if_false, Bool.false_eq_true, reduceCtorEq, hyl']
    generalize (List.range B.length).foldl (rowF l B W B.length) (true, true) = s at *
    obtain ⟨g, c⟩ := s
    cases g with
    | true =>
      simp (disch := omega) only [r_ln, r_pick, r_pickT, r_pickF, r_condT, r_condF, r_gdTT, r_gdFF, r_gdTF, r_gdFT, r_gqTT, r_gqFF, r_gqTF, r_gqFT, r_not, r_lss, r_leq, r_gtr, r_geq, r_eql, r_neq, r_add, r_sub, r_min2, r_max2, r_min3, r_max3, r_fa, r_iaS, r_iaA, r_ex2a, r_ex2b, r_ex3a, r_ex3b, r_ex3c, r_nc, r_keepE, Nat.zero_add, Nat.add_zero, Nat.mul_one, Int.toNat_natCast, toNat_sub1, toNat_add1, decide_true, decide_false, Bool.not_true, Bool.not_false, if_true, if_false, Bool.false_eq_true, reduceCtorEq]
      exact ⟨by first | rfl | trivial, Kp.trans k1 kr⟩
    | false =>
      have hc : c = false := by
        cases c with
        | false => rfl
        | true => have := hle rfl; cases this
      subst hc
      simp (disch := omega) only [r_ln, r_pick, r_pickT, r_pickF, r_condT, r_condF, r_gdTT, r_gdFF, r_gdTF, r_gdFT, r_gqTT, r_gqFF, r_gqTF, r_gqFT, r_not, r_lss, r_leq, r_gtr, r_geq, r_eql, r_neq, r_add, r_sub, r_min2, r_max2, r_min3, r_max3, r_fa, r_iaS, r_iaA, r_ex2a, r_ex2b, r_ex3a, r_ex3b, r_ex3c, r_nc, r_keepE, Nat.zero_add, Nat.add_zero, Nat.mul_one, Int.toNat_natCast, toNat_sub1, toNat_add1, decide_true, decide_false, Bool.not_true, Bool.not_false, if_true, if_false, Bool.false_eq_true, reduceCtorEq]
      exact ⟨by first | rfl | trivial, Kp.trans k1 kr⟩
  have hyl' : (y : Int) < (B.length : Int) := by omega
  simp (disch := omega) only [r_ln, r_pick, r_pickT, r_pickF, r_condT, r_condF, r_gdTT, r_gdFF, r_gdTF, r_gdFT, r_gqTT, r_gqFF, r_gqTF, r_gqFT, r_not, r_lss, r_leq, r_gtr, r_geq, r_eql, r_neq, r_add, r_sub, r_min2, r_max2, r_min3, r_max3, r_fa, r_iaS, r_iaA, r_ex2a, r_ex2b, r_ex3a, r_ex3b, r_ex3c, r_nc, r_keepE, Nat.zero_add, Nat.add_zero, Nat.mul_one, Int.toNat_natCast, toNat_sub1, toNat_add1, decide_true, decide_false, Bool.not_true, Bool.not_false, if_true, if_false, Bool.false_eq_true, reduceCtorEq, decide_eq_true hyl']
  have hsy : (List.range (y + 1)).foldl (rowF l B W B.length) (true, true) = rowF l B W B.length ((List.range y).foldl (rowF l B W B.length) (true, true)) y := by
    rw [List.range_succ, List.foldl_append]; rfl
  generalize (List.range y).foldl (rowF l B W B.length) (true, true) = s0 at *
  refine ⟨fun t11 t12 t14 wq => ∃ x : Nat, x ≤ W ∧ t14 = .int .i64 x ∧ t11 = .bool ((List.range x).foldl (cellF l B W B.length y) s0).1 ∧ t12 = .bool ((List.range x).foldl (cellF l B W B.length y) s0).2 ∧ Kp w1 wq, fun _ _ t14 _ => W - (intOf t14).toNat,
    ⟨0, by omega, rfl, rfl, rfl, kr⟩, ?_⟩
  rintro _ _ _ _ wq ⟨x, hx, rfl, rfl, rfl, kq⟩
  by_cases hxl : x < W
  case neg =>
    have hxl' : ¬ (x : Int) < (W : Int) := by omega
    have ex : x = W := by omega
    subst ex
    simp (disch := omega) only [r_ln, r_pick, r_pickT, r_pickF, r_condT, r_condF, r_gdTT, r_gdFF, r_gdTF, r_gdFT, r_gqTT, r_gqFF, r_gqTF, r_gqFT, r_not, r_lss, r_leq, r_gtr, r_geq, r_eql, r_neq, r_add, r_sub, r_min2, r_max2, r_min3, r_max3, r_fa, r_iaS, r_iaA, r_ex2a, r_ex2b, r_ex3a, r_ex3b, r_ex3c, r_nc, r_keepE, Nat.zero_add, Nat.add_zero, Nat.mul_one, Int.toNat_natCast, toNat_sub1, toNat_add1, decide_true, decide_false, Bool.not_true, Bool.not_false, if_true, if_false, Bool.false_eq_true, reduceCtorEq, hxl']
    exact ⟨⟨y + 1, by omega, by go_num, by rw [hsy]; rfl, by rw [hsy]; rfl, kq⟩, by simp only [intOf]; omega⟩
  have hxl' : (x : Int) < (W : Int) := by omega
  have hsx : (List.range (x + 1)).foldl (cellF l B W B.length y) s0 = cellF l B W B.length y ((List.range x).foldl (cellF l B W B.length y) s0) x := by
    rw [List.range_succ, List.foldl_append]; rfl
  generalize (List.range x).foldl (cellF l B W B.length y) s0 = s at *
  have hx2 : (x + 1) % W < W := Nat.mod_lt _ (by omega)
  have hy2 : (y + 1) % B.length < B.length := Nat.mod_lt _ (by omega)
  obtain ⟨lr1, hc1⟩ := hrow y hyl
  obtain ⟨n0, e0, l0⟩ := hc1 x hxl
  obtain ⟨n1, e1, l1'⟩ := hc1 _ hx2
  obtain ⟨lr2, hc2⟩ := hrow _ hy2
  obtain ⟨n2, e2, l2'⟩ := hc2 x hxl
  have a0 : at2 l B y x = tl l n0 := by rw [at2, e0]; rfl
  have a1 : at2 l B y ((x + 1) % W) = tl l n1 := by rw [at2, e1]; rfl
  have a2 : at2 l B ((y + 1) % B.length) x = tl l n2 := by rw [at2, e2]; rfl
  have kwq := Kp.trans k1 kq
  obtain ⟨pb, po, _, qb, qo, _, ep, pc, qc⟩ := (hb.below kwq).cell2 (y := y) (x := x) hyl (by omega)
  cases ep
  rw [e0] at qc
  obtain ⟨tb, to, _, et, tld, _⟩ := RdT.tile (hr.kp kwq) l0
  cases et
  simp (disch := omega) only [r_ln, r_pick, r_pickT, r_pickF, r_condT, r_condF, r_gdTT, r_gdFF, r_gdTF, r_gdFT, r_gqTT, r_gqFF, r_gqTF, r_gqFT, r_not, r_lss, r_leq, r_gtr, r_geq, r_eql, r_neq, r_add, r_sub, r_min2, r_max2, r_min3, r_max3, r_fa, r_iaS, r_iaA, r_ex2a, r_ex2b, r_ex3a, r_ex3b, r_ex3c, r_nc, r_keepE, Nat.zero_add, Nat.add_zero, Nat.mul_one, Int.toNat_natCast, toNat_sub1, toNat_add1, decide_true, decide_false, Bool.not_true, Bool.not_false, if_true, if_false, Bool.false_eq_true, reduceCtorEq, decide_eq_true hxl', r_ld pc, r_ld qc, tld]
  refine r_box fun b15 x1 e15 s15 h15 y1 => ?_
  refine r_stAll (n := 4) (ty := 32) (by kernel_rfl) rfl (by intro u hu; simp [Value.cells] at hu; rcases hu with rfl | rfl | rfl | rfl <;> rfl) h15 rfl fun x2 d2 s2 h152 => ?_
  have y2 : Kp wq x2 := Kp.of_chg y1 d2 fun i e => by omega
  refine r_drew fun x3 y3 _ => ?_
  have k3 := Kp.trans kwq (Kp.trans y2 y3)
  have h153 := block_below h152 y3
  have cE : x3.cell? ⟨b15, 1, none⟩ = some (.int .i64 (tE (tl l n0))) := by rw [cell_row h153]; rfl
  obtain ⟨_, _, _, qb1, qo1, _, ep1, pc1, qc1⟩ := (hb.below k3).cell2 (y := y) (x := (x + 1) % W) hyl (by omega)
  cases ep1
  rw [e1] at qc1
  obtain ⟨_, _, _, et1, _, _, _, _, tW1⟩ := RdT.tile (hr.kp k3) l1'
  cases et1
  have ex1 : (x : Int) + 1 = ((x + 1 : Nat) : Int) := by simp
  have ey1 : (y : Int) + 1 = ((y + 1 : Nat) : Int) := by simp
  simp (disch := omega) only [r_ln, r_pick, r_pickT, r_pickF, r_condT, r_condF, r_gdTT, r_gdFF, r_gdTF, r_gdFT, r_gqTT, r_gqFF, r_gqTF, r_gqFT, r_not, r_lss, r_leq, r_gtr, r_geq, r_eql, r_neq, r_add, r_sub, r_min2, r_max2, r_min3, r_max3, r_fa, r_iaS, r_iaA, r_ex2a, r_ex2b, r_ex3a, r_ex3b, r_ex3c, r_nc, r_keepE, Nat.zero_add, Nat.add_zero, Nat.mul_one, Int.toNat_natCast, toNat_sub1, toNat_add1, decide_true, decide_false, Bool.not_true, Bool.not_false, if_true, if_false, Bool.false_eq_true, reduceCtorEq, r_ld cE, r_ld pc1, ex1, r_remN, r_ld qc1, r_ld tW1]
  refine r_join2 (fun p q w' => p = .bool (stE l B W y x s).1 ∧ q = .bool (stE l B W y x s).2 ∧ x3 = w') ?_ ?_
  rotate_left
  · intro kk hkk
    unfold stE at hkk
    rw [a0, a1] at hkk
    by_cases hm : tE (tl l n0) = tW (tl l n1)
    · rw [if_pos hm] at hkk
      simp (disch := omega) only [r_ln, r_pick, r_pickT, r_pickF, r_condT, r_condF, r_gdTT, r_gdFF, r_gdTF, r_gdFT, r_gqTT, r_gqFF, r_gqTF, r_gqFT, r_not, r_lss, r_leq, r_gtr, r_geq, r_eql, r_neq, r_add, r_sub, r_min2, r_max2, r_min3, r_max3, r_fa, r_iaS, r_iaA, r_ex2a, r_ex2b, r_ex3a, r_ex3b, r_ex3c, r_nc, r_keepE, Nat.zero_add, Nat.add_zero, Nat.mul_one, Int.toNat_natCast, toNat_sub1, toNat_add1, decide_true, decide_false, Bool.not_true, Bool.not_false, if_true, if_false, Bool.false_eq_true, reduceCtorEq, decide_eq_true hm]
      exact hkk _ _ _ ⟨rfl, rfl, rfl⟩
    · rw [if_neg hm] at hkk
      obtain ⟨g, c⟩ := s
      cases g with
      | false =>
        simp (disch := omega) only [r_ln, r_pick, r_pickT, r_pickF, r_condT, r_condF, r_gdTT, r_gdFF, r_gdTF, r_gdFT, r_gqTT, r_gqFF, r_gqTF, r_gqFT, r_not, r_lss, r_leq, r_gtr, r_geq, r_eql, r_neq, r_add, r_sub, r_min2, r_max2, r_min3, r_max3, r_fa, r_iaS, r_iaA, r_ex2a, r_ex2b, r_ex3a, r_ex3b, r_ex3c, r_nc, r_keepE, Nat.zero_add, Nat.add_zero, Nat.mul_one, Int.toNat_natCast, toNat_sub1, toNat_add1, decide_true, decide_false, Bool.not_true, Bool.not_false, if_true, if_false, Bool.false_eq_true, reduceCtorEq, hm]
        exact hkk _ _ _ ⟨rfl, rfl, rfl⟩
      | true =>
        simp (disch := omega) only [r_ln, r_pick, r_pickT, r_pickF, r_condT, r_condF, r_gdTT, r_gdFF, r_gdTF, r_gdFT, r_gqTT, r_gqFF, r_gqTF, r_gqFT, r_not, r_lss, r_leq, r_gtr, r_geq, r_eql, r_neq, r_add, r_sub, r_min2, r_max2, r_min3, r_max3, r_fa, r_iaS, r_iaA, r_ex2a, r_ex2b, r_ex3a, r_ex3b, r_ex3c, r_nc, r_keepE, Nat.zero_add, Nat.add_zero, Nat.mul_one, Int.toNat_natCast, toNat_sub1, toNat_add1, decide_true, decide_false, Bool.not_true, Bool.not_false, if_true, if_false, Bool.false_eq_true, reduceCtorEq, hm]
        refine hkk _ _ _ ⟨?_, rfl, rfl⟩
        congr 1
        rw [Bool.true_and, decide_eq_decide]
        omega
  rintro _ _ _ ⟨rfl, rfl, rfl⟩
  generalize hs1 : stE l B W y x s = s1 at *
  refine r_drew fun x4 y4 _ => ?_
  have k4 := Kp.trans k3 y4
  have h154 := block_below h153 y4
  have cS : x4.cell? ⟨b15, 2, none⟩ = some (.int .i64 (tS (tl l n0))) := by rw [cell_row h154]; rfl
  obtain ⟨_, _, _, qb2, qo2, _, ep2, pc2, qc2⟩ := (hb.below k4).cell2 (y := (y + 1) % B.length) (x := x) hy2 (by omega)
  cases ep2
  rw [e2] at qc2
  obtain ⟨_, _, _, et2, _, tN2, _⟩ := RdT.tile (hr.kp k4) l2'
  cases et2
  simp (disch := omega) only [r_ln, r_pick, r_pickT, r_pickF, r_condT, r_condF, r_gdTT, r_gdFF, r_gdTF, r_gdFT, r_gqTT, r_gqFF, r_gqTF, r_gqFT, r_not, r_lss, r_leq, r_gtr, r_geq, r_eql, r_neq, r_add, r_sub, r_min2, r_max2, r_min3, r_max3, r_fa, r_iaS, r_iaA, r_ex2a, r_ex2b, r_ex3a, r_ex3b, r_ex3c, r_nc, r_keepE, Nat.zero_add, Nat.add_zero, Nat.mul_one, Int.toNat_natCast, toNat_sub1, toNat_add1, decide_true, decide_false, Bool.not_true, Bool.not_false, if_true, if_false, Bool.false_eq_true, reduceCtorEq, r_ld cS, r_ld pc2, ey1, r_remN, r_ld qc2, r_ld tN2]
  refine r_join2 (fun p q w' => p = .bool (stS l B B.length y x s1).1 ∧ q = .bool (stS l B B.length y x s1).2 ∧ x4 = w') ?_ ?_
  rotate_left
  · intro kk hkk
    unfold stS at hkk
    rw [a0, a2] at hkk
    by_cases hm : tS (tl l n0) = tN (tl l n2)
    · rw [if_pos hm] at hkk
      simp (disch := omega) only [r_ln, r_pick, r_pickT, r_pickF, r_condT, r_condF, r_gdTT, r_gdFF, r_gdTF, r_gdFT, r_gqTT, r_gqFF, r_gqTF, r_gqFT, r_not, r_lss, r_leq, r_gtr, r_geq, r_eql, r_neq, r_add, r_sub, r_min2, r_max2, r_min3, r_max3, r_fa, r_iaS, r_iaA, r_ex2a, r_ex2b, r_ex3a, r_ex3b, r_ex3c, r_nc, r_keepE, Nat.zero_add, Nat.add_zero, Nat.mul_one, Int.toNat_natCast, toNat_sub1, toNat_add1, decide_true, decide_false, Bool.not_true, Bool.not_false, if_true, if_false, Bool.false_eq_true, reduceCtorEq, decide_eq_true hm]
      exact hkk _ _ _ ⟨rfl, rfl, rfl⟩
    · rw [if_neg hm] at hkk
      obtain ⟨g, c⟩ := s1
      cases g with
      | false =>
        simp (disch := omega) only [r_ln, r_pick, r_pickT, r_pickF, r_condT, r_condF, r_gdTT, r_gdFF, r_gdTF, r_gdFT, r_gqTT, r_gqFF, r_gqTF, r_gqFT, r_not, r_lss, r_leq, r_gtr, r_geq, r_eql, r_neq, r_add, r_sub, r_min2, r_max2, r_min3, r_max3, r_fa, r_iaS, r_iaA, r_ex2a, r_ex2b, r_ex3a, r_ex3b, r_ex3c, r_nc, r_keepE, Nat.zero_add, Nat.add_zero, Nat.mul_one, Int.toNat_natCast, toNat_sub1, toNat_add1, decide_true, decide_false, Bool.not_true, Bool.not_false, if_true, if_false, Bool.false_eq_true, reduceCtorEq, hm]
        exact hkk _ _ _ ⟨rfl, rfl, rfl⟩
      | true =>
        simp (disch := omega) only [r_ln, r_pick, r_pickT, r_pickF, r_condT, r_condF, r_gdTT, r_gdFF, r_gdTF, r_gdFT, r_gqTT, r_gqFF, r_gqTF, r_gqFT, r_not, r_lss, r_leq, r_gtr, r_geq, r_eql, r_neq, r_add, r_sub, r_min2, r_max2, r_min3, r_max3, r_fa, r_iaS, r_iaA, r_ex2a, r_ex2b, r_ex3a, r_ex3b, r_ex3c, r_nc, r_keepE, Nat.zero_add, Nat.add_zero, Nat.mul_one, Int.toNat_natCast, toNat_sub1, toNat_add1, decide_true, decide_false, Bool.not_true, Bool.not_false, if_true, if_false, Bool.false_eq_true, reduceCtorEq, hm]
        refine hkk _ _ _ ⟨?_, rfl, rfl⟩
        congr 1
        rw [Bool.true_and, decide_eq_decide]
        omega
  rintro _ _ _ ⟨rfl, rfl, rfl⟩
  try simp (disch := omega) only [r_ln, r_pick, r_pickT, r_pickF, r_condT, r_condF, r_gdTT, r_gdFF, r_gdTF, r_gdFT, r_gqTT, r_gqFF, r_gqTF, r_gqFT, r_not, r_lss, r_leq, r_gtr, r_geq, r_eql, r_neq, r_add, r_sub, r_min2, r_max2, r_min3, r_max3, r_fa, r_iaS, r_iaA, r_ex2a, r_ex2b, r_ex3a, r_ex3b, r_ex3c, r_nc, r_keepE, Nat.zero_add, Nat.add_zero, Nat.mul_one, Int.toNat_natCast, toNat_sub1, toNat_add1, decide_true, decide_false, Bool.not_true, Bool.not_false, if_true, if_false, Bool.false_eq_true, reduceCtorEq]
  have hcell : cellF l B W B.length y s x = stS l B B.length y x s1 := by rw [cellF, hs1]
  refine ⟨⟨x + 1, by omega, by first | rfl | go_num, by rw [hsx, hcell], by rw [hsx, hcell], Kp.trans kq (Kp.trans (Kp.trans y2 y3) y4)⟩, by simp only [intOf]; omega⟩

end Go.Proofs.Ytgalbokmgffhkaa
