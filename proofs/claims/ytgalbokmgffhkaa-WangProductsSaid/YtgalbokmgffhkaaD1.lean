/- Contracts: machines: which are right (program and specification). -/
import Derived.Test.YtgalbokmgffhkaaB3
import Derived.Test.YtgalbokmgffhkaaOpens
import Derived.Test.YtgalbokmgffhkaaSf
set_option linter.all false
namespace Go.Proofs.Ytgalbokmgffhkaa
open Go.Lf Go.RowKit Go.Wg

/-- What is written, whether the head goes to the right, the next state. -/
abbrev Ent := Int × Bool × Int
def enC (e : Ent) : List Value := [.int .i64 e.1, .bool e.2.1, .int .i64 e.2.2]
abbrev enV (e : Ent) : Value := .agg #[.int .i64 e.1, .bool e.2.1, .int .i64 e.2.2]
theorem enC_len (e : Ent) : (enC e).length = 3 := rfl
abbrev RdE (w : World) (v : Value) (T : List Ent) : Prop := Rd 3 enC w v T
abbrev macV (S : Int) (tv : Value) : Value := .agg #[.int .i64 S, tv]

def entB (S : Int) (e : Ent) : Bool := decide (0 ≤ e.1 ∧ e.1 ≤ 1) && decide (-1 ≤ e.2.2 ∧ e.2.2 < S)
def macB (S : Int) (T : List Ent) : Bool := decide (1 ≤ S ∧ S ≤ 2) && decide ((T.length : Int) = 2 * S) && T.all (entB S)

theorem RdE.ent {w : World} {v : Value} {T : List Ent} (h : RdE w v T) {i : Nat} {e : Ent} (hi : T[i]? = some e) :
    ∃ b off cap, v = .slice (some ⟨b, off, none⟩) T.length cap ∧ i < T.length ∧ ∀ K : Value → Prop, ldN 3 w (.pointer (some ⟨b, off + i * 3, none⟩)) K = K (enV e) := by
  obtain ⟨b, off, cap, e', hlt, hc⟩ := h.at hi
  exact ⟨b, off, cap, e', hlt, fun K => r_ldCells (l := enC e) rfl hc⟩

set_option maxRecDepth 100000 in
/-- The test of machine: is an entry wrong? -/
theorem badent_call {S : Int} {tv : Value} {b1 : Nat} (w : World) (h1 : w.heap[b1]? = some (.cells #[.int .i64 S, tv] 51 (0, 0))) (e : Ent) (w' : World) (hk : Kp w w') (K : Value → World → Prop) (h : ∀ w'', Kp w' w'' → K (.bool (!entB S e)) w'') :
    callW Try.prog (.func (.func 115) #[] #[.pointer (some ⟨b1, 0, none⟩)]) [enV e] w' K := by
  have hc : Calls Try.prog 115 #[enV e, .pointer (some ⟨b1, 0, none⟩)] w' fun r w'' => r = .returned (.bool (!entB S e)) ∧ Kp w' w'' := by
    refine lift115 ?_
    unfold S115
    refine r_box fun b w1 eb sb hb kb => ?_
    have c0 : w1.cell? ⟨b, 0, none⟩ = some (.int .i64 e.1) := by rw [cell_row hb]; rfl
    have c2 : w1.cell? ⟨b, 2, none⟩ = some (.int .i64 e.2.2) := by rw [cell_row hb]; rfl
    have cS : w1.cell? ⟨b1, 0, none⟩ = some (.int .i64 S) := by rw [cell_row (block_below h1 (Kp.trans hk kb))]; rfl
    have fin : ∀ r : Bool, r = (!entB S e) → Ending.returned (.bool r) = .returned (.bool (!entB S e)) ∧ Kp w' w1 := fun r h => ⟨by rw [h], kb⟩
    by_cases g1 : e.1 < 0
    · simp (disch := omega) only [r_ln, r_pick, r_pickT, r_pickF, r_condT, r_condF, r_gdTT, r_gdFF, r_gdTF, r_gdFT, r_gqTT, r_gqFF, r_gqTF, r_gqFT, r_not, r_lss, r_leq, r_gtr, r_geq, r_eql, r_neq, r_add, r_sub, r_min2, r_max2, r_min3, r_max3, r_fa, r_iaS, r_iaA, r_ex2a, r_ex2b, r_ex3a, r_ex3b, r_ex3c, r_nc, r_keepE, Nat.zero_add, Nat.add_zero, Nat.mul_one, Int.toNat_natCast, toNat_sub1, toNat_add1, decide_true, decide_false, Bool.not_true, Bool.not_false, if_true, if_false, Bool.false_eq_true, reduceCtorEq, r_ld c0, decide_eq_true g1]
      exact fin true (by simp only [entB]; rw [decide_eq_false (by omega)]; rfl)
    by_cases g2 : 1 < e.1
    · simp (disch := omega) only [r_ln, r_pick, r_pickT, r_pickF, r_condT, r_condF, r_gdTT, r_gdFF, r_gdTF, r_gdFT, r_gqTT, r_gqFF, r_gqTF, r_gqFT, r_not, r_lss, r_leq, r_gtr, r_geq, r_eql, r_neq, r_add, r_sub, r_min2, r_max2, r_min3, r_max3, r_fa, r_iaS, r_iaA, r_ex2a, r_ex2b, r_ex3a, r_ex3b, r_ex3c, r_nc, r_keepE, Nat.zero_add, Nat.add_zero, Nat.mul_one, Int.toNat_natCast, toNat_sub1, toNat_add1, decide_true, decide_false, Bool.not_true, Bool.not_false, if_true, if_false, Bool.false_eq_true, reduceCtorEq, r_ld c0, g1, decide_eq_true g2]
      exact fin true (by simp only [entB]; rw [decide_eq_false (by omega)]; rfl)
    by_cases g3 : e.2.2 < -1
    · simp (disch := omega) only [r_ln, r_pick, r_pickT, r_pickF, r_condT, r_condF, r_gdTT, r_gdFF, r_gdTF, r_gdFT, r_gqTT, r_gqFF, r_gqTF, r_gqFT, r_not, r_lss, r_leq, r_gtr, r_geq, r_eql, r_neq, r_add, r_sub, r_min2, r_max2, r_min3, r_max3, r_fa, r_iaS, r_iaA, r_ex2a, r_ex2b, r_ex3a, r_ex3b, r_ex3c, r_nc, r_keepE, Nat.zero_add, Nat.add_zero, Nat.mul_one, Int.toNat_natCast, toNat_sub1, toNat_add1, decide_true, decide_false, Bool.not_true, Bool.not_false, if_true, if_false, Bool.false_eq_true, reduceCtorEq, r_ld c0, r_ld c2, g1, g2, decide_eq_true g3]
      exact fin true (by simp only [entB]; rw [decide_eq_false (show ¬ (-1 ≤ e.2.2 ∧ e.2.2 < S) by omega), Bool.and_false]; rfl)
    by_cases g4 : S ≤ e.2.2
    · simp (disch := omega) only [r_ln, r_pick, r_pickT, r_pickF, r_condT, r_condF, r_gdTT, r_gdFF, r_gdTF, r_gdFT, r_gqTT, r_gqFF, r_gqTF, r_gqFT, r_not, r_lss, r_leq, r_gtr, r_geq, r_eql, r_neq, r_add, r_sub, r_min2, r_max2, r_min3, r_max3, r_fa, r_iaS, r_iaA, r_ex2a, r_ex2b, r_ex3a, r_ex3b, r_ex3c, r_nc, r_keepE, Nat.zero_add, Nat.add_zero, Nat.mul_one, Int.toNat_natCast, toNat_sub1, toNat_add1, decide_true, decide_false, Bool.not_true, Bool.not_false, if_true, if_false, Bool.false_eq_true, reduceCtorEq, r_ld c0, r_ld c2, r_ld cS, g1, g2, g3, decide_eq_true g4]
      exact fin true (by simp only [entB]; rw [decide_eq_false (show ¬ (-1 ≤ e.2.2 ∧ e.2.2 < S) by omega), Bool.and_false]; rfl)
    · simp (disch := omega) only [r_ln, r_pick, r_pickT, r_pickF, r_condT, r_condF, r_gdTT, r_gdFF, r_gdTF, r_gdFT, r_gqTT, r_gqFF, r_gqTF, r_gqFT, r_not, r_lss, r_leq, r_gtr, r_geq, r_eql, r_neq, r_add, r_sub, r_min2, r_max2, r_min3, r_max3, r_fa, r_iaS, r_iaA, r_ex2a, r_ex2b, r_ex3a, r_ex3b, r_ex3c, r_nc, r_keepE, Nat.zero_add, Nat.add_zero, Nat.mul_one, Int.toNat_natCast, toNat_sub1, toNat_add1, decide_true, decide_false, Bool.not_true, Bool.not_false, if_true, if_false, Bool.false_eq_true, reduceCtorEq, r_ld c0, r_ld c2, r_ld cS, g1, g2, g3, g4]
      exact fin false (by simp only [entB]; rw [decide_eq_true (by omega), decide_eq_true (by omega)]; rfl)
  refine r_use fok115 hc rfl ?_
  rintro _ w2 ⟨rfl, k2⟩
  exact ⟨_, rfl, h w2 k2⟩

end Go.Proofs.Ytgalbokmgffhkaa
