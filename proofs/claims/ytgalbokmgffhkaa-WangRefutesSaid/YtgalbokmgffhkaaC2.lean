/- Contracts: few of the statements; what Good judges; Good of the specification. -/
import Derived.Test.YtgalbokmgffhkaaB9
import Derived.Test.YtgalbokmgffhkaaOpens
set_option linter.all false
namespace Go.Proofs.Ytgalbokmgffhkaa
open Go.Lf Go.RowKit Go.Wg

theorem RdI.kp {w w' : World} {v : Value} {l : List Int} (h : RdI w v l) (hk : Kp w w') : RdI w' v l := by
  obtain ⟨a, cap, h1, h2, h3⟩ := h
  refine ⟨a, cap, h1, h2, fun h0 => ?_⟩
  obtain ⟨b, off, h4, h5⟩ := h3 h0
  exact ⟨b, off, h4, fun i hi => cell_later hk (h5 i hi)⟩
theorem RdR.kp {w w' : World} {v : Value} {h : List (List Int)} (hr : RdR w v h) (hk : Kp w w') : RdR w' v h := by
  obtain ⟨a, cap, vs, h1, h2, h3, h4⟩ := hr
  refine ⟨a, cap, vs, h1, h2, fun h0 => ?_, fun i hi => (h4 i hi).kp hk⟩
  obtain ⟨b, off, h5, h6⟩ := h3 h0
  exact ⟨b, off, h5, fun i hi => cell_later hk (h6 i hi)⟩

/-- Few and short enough lists for a statement. -/
def Few (m : Nat) (h : List (List Int)) : Prop := h.length ≤ m ∧ ∀ i, i < h.length → (h.getD i []).length ≤ 20
theorem Few.rows {m : Nat} {w : World} {v : Value} {h : List (List Int)} (hm : m ≤ 1000) (hf : Few m h) (hr : RdR w v h) : RdRows w v h := hr.small (by have := hf.1; omega) fun i hi => by have := hf.2 i hi; omega

set_option maxRecDepth 100000 in
theorem few_calls (m : Nat) (v : Value) (h : List (List Int)) (w : World) (hm : m ≤ 1000) (hr : RdR w v h) : Calls Try.prog 17 #[v, .int .i64 m] w fun e w' => ∃ b, e = .returned (.bool b) ∧ (b = true → Few m h) ∧ w = w' := by
  obtain ⟨a, cap, vs, rfl, _, hc, hrow⟩ := hr
  refine lift17 ?_
  unfold S17
  refine ⟨fun t3 wr => ∃ i : Nat, i ≤ h.length ∧ i ≤ m ∧ t3 = .int .i64 i ∧ w = wr ∧ ∀ k, k < i → (h.getD k []).length ≤ 20, fun t3 _ => h.length - (intOf t3).toNat, ⟨0, by omega, by omega, rfl, rfl, by omega⟩, ?_⟩
  rintro _ _ _ ⟨i, hi, hi10, rfl, rfl, hprev⟩
  by_cases hlt : i < h.length
  case neg =>
    have hlt' : ¬ (i : Int) < (h.length : Int) := by omega
    simp (disch := omega) only [r_ln, r_pick, r_pickT, r_pickF, r_condT, r_condF, r_gdTT, r_gdFF, r_gdTF, r_gdFT, r_gqTT, r_gqFF, r_gqTF, r_gqFT, r_not, r_lss, r_leq, r_gtr, r_geq, r_eql, r_neq, r_add, r_sub, r_min2, r_max2, r_min3, r_max3, r_fa, r_iaS, r_iaA, r_ex2a, r_ex2b, r_ex3a, r_ex3b, r_ex3c, r_nc, r_keepE, Nat.zero_add, Nat.add_zero, Nat.mul_one, Int.toNat_natCast, toNat_sub1, toNat_add1, decide_true, decide_false, Bool.not_true, Bool.not_false, if_true, if_false, Bool.false_eq_true, reduceCtorEq, hlt']
    exact ⟨true, rfl, (fun _ => ⟨by omega, fun k hk => hprev k (by omega)⟩), by first | rfl | trivial⟩
  have hlt' : (i : Int) < (h.length : Int) := by omega
  obtain ⟨b, off, rfl, hcell⟩ := hc (by omega)
  obtain ⟨ra, rc, hv, _⟩ := hrow i hlt
  have hci := hcell i hlt
  rw [hv] at hci
  by_cases h10 : m ≤ i
  · have h10' : (m : Int) ≤ i := by omega
    simp (disch := omega) only [r_ln, r_pick, r_pickT, r_pickF, r_condT, r_condF, r_gdTT, r_gdFF, r_gdTF, r_gdFT, r_gqTT, r_gqFF, r_gqTF, r_gqFT, r_not, r_lss, r_leq, r_gtr, r_geq, r_eql, r_neq, r_add, r_sub, r_min2, r_max2, r_min3, r_max3, r_fa, r_iaS, r_iaA, r_ex2a, r_ex2b, r_ex3a, r_ex3b, r_ex3c, r_nc, r_keepE, Nat.zero_add, Nat.add_zero, Nat.mul_one, Int.toNat_natCast, toNat_sub1, toNat_add1, decide_true, decide_false, Bool.not_true, Bool.not_false, if_true, if_false, Bool.false_eq_true, reduceCtorEq, decide_eq_true hlt', decide_eq_true h10']
    exact ⟨false, rfl, (fun h => absurd h (by decide)), by first | rfl | trivial⟩
  have h10' : ¬ (m : Int) ≤ i := by omega
  by_cases hl : 20 < (h.getD i []).length
  · have hl' : (20 : Int) < ((h.getD i []).length : Int) := by omega
    simp (disch := omega) only [r_ln, r_pick, r_pickT, r_pickF, r_condT, r_condF, r_gdTT, r_gdFF, r_gdTF, r_gdFT, r_gqTT, r_gqFF, r_gqTF, r_gqFT, r_not, r_lss, r_leq, r_gtr, r_geq, r_eql, r_neq, r_add, r_sub, r_min2, r_max2, r_min3, r_max3, r_fa, r_iaS, r_iaA, r_ex2a, r_ex2b, r_ex3a, r_ex3b, r_ex3c, r_nc, r_keepE, Nat.zero_add, Nat.add_zero, Nat.mul_one, Int.toNat_natCast, toNat_sub1, toNat_add1, decide_true, decide_false, Bool.not_true, Bool.not_false, if_true, if_false, Bool.false_eq_true, reduceCtorEq, decide_eq_true hlt', h10', r_ld hci, decide_eq_true hl']
    exact ⟨false, rfl, (fun h => absurd h (by decide)), by first | rfl | trivial⟩
  have hl' : ¬ (20 : Int) < ((h.getD i []).length : Int) := by omega
  simp (disch := omega) only [r_ln, r_pick, r_pickT, r_pickF, r_condT, r_condF, r_gdTT, r_gdFF, r_gdTF, r_gdFT, r_gqTT, r_gqFF, r_gqTF, r_gqFT, r_not, r_lss, r_leq, r_gtr, r_geq, r_eql, r_neq, r_add, r_sub, r_min2, r_max2, r_min3, r_max3, r_fa, r_iaS, r_iaA, r_ex2a, r_ex2b, r_ex3a, r_ex3b, r_ex3c, r_nc, r_keepE, Nat.zero_add, Nat.add_zero, Nat.mul_one, Int.toNat_natCast, toNat_sub1, toNat_add1, decide_true, decide_false, Bool.not_true, Bool.not_false, if_true, if_false, Bool.false_eq_true, reduceCtorEq, decide_eq_true hlt', h10', r_ld hci, hl']
  refine ⟨⟨i + 1, by omega, by omega, by go_num, by first | rfl | trivial, fun k hk => ?_⟩, by simp only [intOf]; omega⟩
  by_cases hki : k < i
  · exact hprev k hki
  · have : k = i := by omega
    subst this; omega

/-! ### what Good judges -/

/-- The tile at a place of a board. -/
def at2 (l : List Tile) (B : List (List Int)) (y x : Nat) : Tile := tl l ((B.getD y []).getD x 0).toNat
def stE (l : List Tile) (B : List (List Int)) (w y x : Nat) (s : Bool × Bool) : Bool × Bool := if tE (at2 l B y x) = tW (at2 l B y ((x + 1) % w)) then s else (s.1 && decide (x + 1 = w), false)
def stS (l : List Tile) (B : List (List Int)) (h y x : Nat) (s : Bool × Bool) : Bool × Bool := if tS (at2 l B y x) = tN (at2 l B ((y + 1) % h) x) then s else (s.1 && decide (y + 1 = h), false)
def cellF (l : List Tile) (B : List (List Int)) (w h y : Nat) (s : Bool × Bool) (x : Nat) : Bool × Bool := stS l B h y x (stE l B w y x s)
def rowF (l : List Tile) (B : List (List Int)) (w h : Nat) (s : Bool × Bool) (y : Nat) : Bool × Bool := (List.range w).foldl (cellF l B w h y) s
def judge (l : List Tile) (B : List (List Int)) (w h : Nat) : Bool × Bool := (List.range h).foldl (rowF l B w h) (true, true)

/-- What is closed is good. -/
def Le (s : Bool × Bool) : Prop := s.2 = true → s.1 = true
theorem le_cell {l : List Tile} {B : List (List Int)} {w h y x : Nat} {s : Bool × Bool} (hs : Le s) : Le (cellF l B w h y s x) := by
  unfold cellF stS stE Le at *
  split <;> split <;> simp_all
theorem le_fold {α : Type} {f : Bool × Bool → α → Bool × Bool} (hf : ∀ s a, Le s → Le (f s a)) : ∀ (L : List α) (s : Bool × Bool), Le s → Le (L.foldl f s)
  | [], _, h => h
  | a :: L, s, h => le_fold hf L _ (hf s a h)
theorem judge_le (l : List Tile) (B : List (List Int)) (w h : Nat) : Le (judge l B w h) :=
  le_fold (fun s y hs => le_fold (fun s x hs => le_cell hs) _ _ hs) _ _ (fun _ => rfl)

def cellOk (l : List Tile) (n : Int) : Bool := decide (0 ≤ n) && decide (n < l.length)
def boardRow (l : List Tile) (w : Nat) (r : List Int) : Bool := decide (r.length = w) && r.all (cellOk l)
def boardB (l : List Tile) (B : List (List Int)) : Bool := setB l && sideB B.length && sideB (B.getD 0 []).length && B.all (boardRow l (B.getD 0 []).length)

/-- What Good returns. -/
def goodV (l : List Tile) (B : List (List Int)) : Value := if boardB l B = true then .tuple #[.bool (judge l B (B.getD 0 []).length B.length).1, .bool (judge l B (B.getD 0 []).length B.length).2, .int .i64 0] else .tuple #[.bool false, .bool false, .int .i64 2]

theorem board_row {l : List Tile} {B : List (List Int)} (hb : B.all (boardRow l (B.getD 0 []).length) = true) {y : Nat} (hy : y < B.length) : (B.getD y []).length = (B.getD 0 []).length ∧ ∀ x, x < (B.getD 0 []).length → ∃ k : Nat, (B.getD y []).getD x 0 = k ∧ k < l.length := by
  have h1 := List.all_eq_true.1 hb _ (getD_mem (d := []) hy)
  simp only [boardRow, Bool.and_eq_true, decide_eq_true_eq, List.all_eq_true] at h1
  refine ⟨h1.1, fun x hx => ?_⟩
  have h2 := h1.2 _ (getD_mem (d := (0 : Int)) (show x < (B.getD y []).length by omega))
  simp only [cellOk, Bool.and_eq_true, decide_eq_true_eq] at h2
  exact ⟨((B.getD y []).getD x 0).toNat, by omega, by omega⟩

end Go.Proofs.Ytgalbokmgffhkaa
