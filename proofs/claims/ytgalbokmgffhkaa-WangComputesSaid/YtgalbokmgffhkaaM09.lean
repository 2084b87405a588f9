/- Texts of my own, merged by program: D1 D2 D3. -/
import Derived.Test.YtgalbokmgffhkaaM07
import Derived.Test.YtgalbokmgffhkaaM08
set_option linter.all false
/- Contracts: machines: which are right (program and specification). -/
namespace Go.Proofs.Ytgalbokmgffhkaa
open Go.Lf Go.RowKit Go.Wg

/-- What is written, whether the head goes to the right, the next state. -/
abbrev Ent := Int × Bool × Int
def enC (e : Ent) : List Value := [.int .i64 e.1, .bool e.2.1, .int .i64 e.2.2]
abbrev enV (e : Ent) : Value := .agg #[.int .i64 e.1, .bool e.2.1, .int .i64 e.2.2]
theorem enC_len (e : Ent) : (enC e).length = 3 := rfl
abbrev RdE (w : World) (v : Value) (T : List Ent) : Prop := Rd 3 enC w v T
abbrev macV (S : Int) (tv : Value) : Value := .agg #[.int .i64 S, tv]

def entB (S : Int) (e : Ent) : Bool := decide (0 ≤ e.1 ∧ e.1 ≤ 1) && decide (-1 ≤ e.2.2 ∧ e.2.2 < S)
def macB (S : Int) (T : List Ent) : Bool := decide (1 ≤ S ∧ S ≤ 2) && decide ((T.length : Int) = 2 * S) && T.all (entB S)

theorem RdE.ent {w : World} {v : Value} {T : List Ent} (h : RdE w v T) {i : Nat} {e : Ent} (hi : T[i]? = some e) :
    ∃ b off cap, v = .slice (some ⟨b, off, none⟩) T.length cap ∧ i < T.length ∧ ∀ K : Value → Prop, ldN 3 w (.pointer (some ⟨b, off + i * 3, none⟩)) K = K (enV e) := by
  obtain ⟨b, off, cap, e', hlt, hc⟩ := h.at hi
  exact ⟨b, off, cap, e', hlt, fun K => r_ldCells (l := enC e) rfl hc⟩

set_option maxRecDepth 100000 in
/-- The test of machine: is an entry wrong? -/
theorem badent_call {S : Int} {tv : Value} {b1 : Nat} (w : World) (h1 : w.heap[b1]? = some (.cells #[.int .i64 S, tv] 51 (0, 0))) (e : Ent) (w' : World) (hk : Kp w w') (K : Value → World → Prop) (h : ∀ w'', Kp w' w'' → K (.bool (!entB S e)) w'') :
    callW Try.prog (.func (.func 115) #[] #[.pointer (some ⟨b1, 0, none⟩)]) [enV e] w' K := by
  have hc : Calls Try.prog 115 #[enV e, .pointer (some ⟨b1, 0, none⟩)] w' fun r w'' => r = .returned (.bool (!entB S e)) ∧ Kp w' w'' := by
    refine lift115 ?_
    unfold S115
    refine r_box fun b w1 eb sb hb kb => ?_
    have c0 : w1.cell? ⟨b, 0, none⟩ = some (.int .i64 e.1) := by rw [cell_row hb]; rfl
    have c2 : w1.cell? ⟨b, 2, none⟩ = some (.int .i64 e.2.2) := by rw [cell_row hb]; rfl
    have cS : w1.cell? ⟨b1, 0, none⟩ = some (.int .i64 S) := by rw [cell_row (block_below h1 (Kp.trans hk kb))]; rfl
    have fin : ∀ r : Bool, r = (!entB S e) → Ending.returned (.bool r) = .returned (.bool (!entB S e)) ∧ Kp w' w1 := fun r h => ⟨by rw [h], kb⟩
    by_cases g1 : e.1 < 0
    · simp (disch := omega) only [r_ln, r_pick, r_pickT, r_pickF, r_condT, r_condF, r_gdTT, r_gdFF, r_gdTF, r_gdFT, r_gqTT, r_gqFF, r_gqTF, r_gqFT, r_not, r_lss, r_leq, r_gtr, r_geq, r_eql, r_neq, r_add, r_sub, r_min2, r_max2, r_min3, r_max3, r_fa, r_iaS, r_iaA, r_ex2a, r_ex2b, r_ex3a, r_ex3b, r_ex3c, r_nc, r_keepE, Nat.zero_add, Nat.add_zero, Nat.mul_one, Int.toNat_natCast, toNat_sub1, toNat_add1, decide_true, decide_false, Bool.not_true, Bool.not_false, if_true, if_false, Bool.false_eq_true, reduceCtorEq, r_ld c0, decide_eq_true g1]
      exact fin true (by simp only [entB]; rw [decide_eq_false (by omega)]; rfl)
    by_cases g2 : 1 < e.1
    · simp (disch := omega) only [r_ln, r_pick, r_pickT, r_pickF, r_condT, r_condF, r_gdTT, r_gdFF, r_gdTF, r_gdFT, r_gqTT, r_gqFF, r_gqTF, r_gqFT, r_not, r_lss, r_leq, r_gtr, r_geq, r_eql, r_neq, r_add, r_sub, r_min2, r_max2, r_min3, r_max3, r_fa, r_iaS, r_iaA, r_ex2a, r_ex2b, r_ex3a, r_ex3b, r_ex3c, r_nc, r_keepE, Nat.zero_add, Nat.add_zero, Nat.mul_one, Int.toNat_natCast, toNat_sub1, toNat_add1, decide_true, decide_false, Bool.not_true, Bool.not_false, if_true, if_false, Bool.false_eq_true, reduceCtorEq, r_ld c0, g1, decide_eq_true g2]
      exact fin true (by simp only [entB]; rw [decide_eq_false (by omega)]; rfl)
    by_cases g3 : e.2.2 < -1
    · simp (disch := omega) only [r_ln, r_pick, r_pickT, r_pickF, r_condT, r_condF, r_gdTT, r_gdFF, r_gdTF, r_gdFT, r_gqTT, r_gqFF, r_gqTF, r_gqFT, r_not, r_lss, r_leq, r_gtr, r_geq, r_eql, r_neq, r_add, r_sub, r_min2, r_max2, r_min3, r_max3, r_fa, r_iaS, r_iaA, r_ex2a, r_ex2b, r_ex3a, r_ex3b, r_ex3c, r_nc, r_keepE, Nat.zero_add, Nat.add_zero, Nat.mul_one, Int.toNat_natCast, toNat_sub1, toNat_add1, decide_true, decide_false, Bool.not_true, Bool.not_false, if_true, if_false, Bool.false_eq_true, reduceCtorEq, r_ld c0, r_ld c2, g1, g2, decide_eq_true g3]
      exact fin true (by simp only [entB]; rw [decide_eq_false (show ¬ (-1 ≤ e.2.2 ∧ e.2.2 < S) by omega), Bool.and_false]; rfl)
    by_cases g4 : S ≤ e.2.2
    · simp (disch := omega) only [r_ln, r_pick, r_pickT, r_pickF, r_condT, r_condF, r_gdTT, r_gdFF, r_gdTF, r_gdFT, r_gqTT, r_gqFF, r_gqTF, r_gqFT, r_not, r_lss, r_leq, r_gtr, r_geq, r_eql, r_neq, r_add, r_sub, r_min2, r_max2, r_min3, r_max3, r_fa, r_iaS, r_iaA, r_ex2a, r_ex2b, r_ex3a, r_ex3b, r_ex3c, r_nc, r_keepE, Nat.zero_add, Nat.add_zero, Nat.mul_one, Int.toNat_natCast, toNat_sub1, toNat_add1, decide_true, decide_false, Bool.not_true, Bool.not_false, if_true, if_false, Bool.false_eq_true, reduceCtorEq, r_ld c0, r_ld c2, r_ld cS, g1, g2, g3, decide_eq_true g4]
      exact fin true (by simp only [entB]; rw [decide_eq_false (show ¬ (-1 ≤ e.2.2 ∧ e.2.2 < S) by omega), Bool.and_false]; rfl)
    · simp (disch := omega) only [r_ln, r_pick, r_pickT, r_pickF, r_condT, r_condF, r_gdTT, r_gdFF, r_gdTF, r_gdFT, r_gqTT, r_gqFF, r_gqTF, r_gqFT, r_not, r_lss, r_leq, r_gtr, r_geq, r_eql, r_neq, r_add, r_sub, r_min2, r_max2, r_min3, r_max3, r_fa, r_iaS, r_iaA, r_ex2a, r_ex2b, r_ex3a, r_ex3b, r_ex3c, r_nc, r_keepE, Nat.zero_add, Nat.add_zero, Nat.mul_one, Int.toNat_natCast, toNat_sub1, toNat_add1, decide_true, decide_false, Bool.not_true, Bool.not_false, if_true, if_false, Bool.false_eq_true, reduceCtorEq, r_ld c0, r_ld c2, r_ld cS, g1, g2, g3, g4]
      exact fin false (by simp only [entB]; rw [decide_eq_true (by omega), decide_eq_true (by omega)]; rfl)
  refine r_use fok115 hc rfl ?_
  rintro _ w2 ⟨rfl, k2⟩
  exact ⟨_, rfl, h w2 k2⟩

end Go.Proofs.Ytgalbokmgffhkaa

/- Contracts: machine of the program, Valid of the specification. -/
namespace Go.Proofs.Ytgalbokmgffhkaa
open Go.Lf Go.RowKit Go.Wg

set_option maxRecDepth 100000 in
/-- slices.ContainsFunc at entries. -/
theorem containsE_calls {v fv : Value} {T : List Ent} (p : Ent → Bool) (w : World) (hr : RdE w v T) (hT : T.length ≤ 1000000)
    (hc : ∀ x ∈ T, ∀ (w' : World) (K : Value → World → Prop), Kp w w' → (∀ w'', Kp w' w'' → K (.bool (p x)) w'') → callW Try.prog fv [enV x] w' K) :
    Calls Try.prog 114 #[v, fv] w fun e w' => e = .returned (.bool (T.any p)) ∧ Kp w w' := by
  have hidx : Calls Try.prog 131 #[v, fv] w fun e w' => ∃ n : Int, e = .returned (.int .i64 n) ∧ decide (0 ≤ n) = T.any p ∧ Kp w w' := by
    obtain ⟨a, cap, rfl, hl⟩ := hr.len
    refine lift131 ?_
    unfold S131
    simp only [r_ln, r_pick, r_pickT, r_pickF, r_condT, r_condF, r_gdTT, r_gdFF, r_gdTF, r_gdFT, r_gqTT, r_gqFF, r_gqTF, r_gqFT, r_not, r_lss, r_leq, r_gtr, r_geq, r_eql, r_neq, r_add, r_sub, r_min2, r_max2, r_min3, r_max3, r_fa, r_iaS, r_iaA, r_ex2a, r_ex2b, r_ex3a, r_ex3b, r_ex3c, r_nc, r_keepE, Nat.zero_add, Nat.add_zero, Nat.mul_one, Int.toNat_natCast, toNat_sub1, toNat_add1, decide_true, decide_false, Bool.not_true, Bool.not_false, if_true, if_false, Bool.false_eq_true, reduceCtorEq]
    refine ⟨fun t8 wr => ∃ i : Nat, i ≤ T.length ∧ t8 = .int .i64 i ∧ (T.take i).any p = false ∧ Kp w wr, fun t8 _ => T.length - (intOf t8).toNat, ⟨0, by omega, rfl, by simp, Kp.refl _⟩, ?_⟩
    rintro _ _ wr ⟨i, hi, rfl, hn, hk⟩
    by_cases hlt : i < T.length
    case neg =>
      have hlt' : ¬ (i : Int) < (T.length : Int) := by omega
      rw [List.take_of_length_le (by omega)] at hn
      simp (disch := omega) only [r_ln, r_pick, r_pickT, r_pickF, r_condT, r_condF, r_gdTT, r_gdFF, r_gdTF, r_gdFT, r_gqTT, r_gqFF, r_gqTF, r_gqFT, r_not, r_lss, r_leq, r_gtr, r_geq, r_eql, r_neq, r_add, r_sub, r_min2, r_max2, r_min3, r_max3, r_fa, r_iaS, r_iaA, r_ex2a, r_ex2b, r_ex3a, r_ex3b, r_ex3c, r_nc, r_keepE, Nat.zero_add, Nat.add_zero, Nat.mul_one, Int.toNat_natCast, toNat_sub1, toNat_add1, decide_true, decide_false, Bool.not_true, Bool.not_false, if_true, if_false, Bool.false_eq_true, reduceCtorEq, hlt']
      exact ⟨-1, rfl, by rw [hn]; decide, hk⟩
    have hlt' : (i : Int) < (T.length : Int) := by omega
    obtain ⟨x, hx⟩ : ∃ x, T[i]? = some x := ⟨_, List.getElem?_eq_getElem hlt⟩
    obtain ⟨b, off, _, e, _, hld⟩ := RdE.ent (hr.kp hk) hx
    cases e
    simp (disch := omega) only [r_ln, r_pick, r_pickT, r_pickF, r_condT, r_condF, r_gdTT, r_gdFF, r_gdTF, r_gdFT, r_gqTT, r_gqFF, r_gqTF, r_gqFT, r_not, r_lss, r_leq, r_gtr, r_geq, r_eql, r_neq, r_add, r_sub, r_min2, r_max2, r_min3, r_max3, r_fa, r_iaS, r_iaA, r_ex2a, r_ex2b, r_ex3a, r_ex3b, r_ex3c, r_nc, r_keepE, Nat.zero_add, Nat.add_zero, Nat.mul_one, Int.toNat_natCast, toNat_sub1, toNat_add1, decide_true, decide_false, Bool.not_true, Bool.not_false, if_true, if_false, Bool.false_eq_true, reduceCtorEq, decide_eq_true hlt', hld]
    refine hc x (List.mem_of_getElem? hx) wr _ hk fun w2 k2 => ?_
    have htk : T.take (i + 1) = T.take i ++ [x] := by rw [List.take_add_one, hx]; rfl
    cases hp : p x with
    | true =>
      simp (disch := omega) only [r_ln, r_pick, r_pickT, r_pickF, r_condT, r_condF, r_gdTT, r_gdFF, r_gdTF, r_gdFT, r_gqTT, r_gqFF, r_gqTF, r_gqFT, r_not, r_lss, r_leq, r_gtr, r_geq, r_eql, r_neq, r_add, r_sub, r_min2, r_max2, r_min3, r_max3, r_fa, r_iaS, r_iaA, r_ex2a, r_ex2b, r_ex3a, r_ex3b, r_ex3c, r_nc, r_keepE, Nat.zero_add, Nat.add_zero, Nat.mul_one, Int.toNat_natCast, toNat_sub1, toNat_add1, decide_true, decide_false, Bool.not_true, Bool.not_false, if_true, if_false, Bool.false_eq_true, reduceCtorEq]
      refine ⟨i, rfl, ?_, Kp.trans hk k2⟩
      have : T.any p = true := List.any_eq_true.2 ⟨x, List.mem_of_getElem? hx, hp⟩
      rw [this]
      exact decide_eq_true (by omega)
    | false =>
      simp (disch := omega) only [r_ln, r_pick, r_pickT, r_pickF, r_condT, r_condF, r_gdTT, r_gdFF, r_gdTF, r_gdFT, r_gqTT, r_gqFF, r_gqTF, r_gqFT, r_not, r_lss, r_leq, r_gtr, r_geq, r_eql, r_neq, r_add, r_sub, r_min2, r_max2, r_min3, r_max3, r_fa, r_iaS, r_iaA, r_ex2a, r_ex2b, r_ex3a, r_ex3b, r_ex3c, r_nc, r_keepE, Nat.zero_add, Nat.add_zero, Nat.mul_one, Int.toNat_natCast, toNat_sub1, toNat_add1, decide_true, decide_false, Bool.not_true, Bool.not_false, if_true, if_false, Bool.false_eq_true, reduceCtorEq]
      exact ⟨⟨i + 1, by omega, by go_num, by rw [htk, List.any_append, hn, List.any_cons, List.any_nil, hp]; rfl, Kp.trans hk k2⟩, by simp only [intOf]; omega⟩
  refine lift114 ?_
  unfold S114
  refine r_use fok131 hidx rfl ?_
  rintro _ w1 ⟨n, rfl, hn, k1⟩
  refine ⟨_, rfl, ?_⟩
  simp only [r_ln, r_pick, r_pickT, r_pickF, r_condT, r_condF, r_gdTT, r_gdFF, r_gdTF, r_gdFT, r_gqTT, r_gqFF, r_gqTF, r_gqFT, r_not, r_lss, r_leq, r_gtr, r_geq, r_eql, r_neq, r_add, r_sub, r_min2, r_max2, r_min3, r_max3, r_fa, r_iaS, r_iaA, r_ex2a, r_ex2b, r_ex3a, r_ex3b, r_ex3c, r_nc, r_keepE, Nat.zero_add, Nat.add_zero, Nat.mul_one, Int.toNat_natCast, toNat_sub1, toNat_add1, decide_true, decide_false, Bool.not_true, Bool.not_false, if_true, if_false, Bool.false_eq_true, reduceCtorEq, hn]
  exact ⟨by first | rfl | trivial, k1⟩

theorem any_ent (S : Int) (T : List Ent) : (T.any fun x => !entB S x) = !(T.all (entB S)) := by
  induction T with
  | nil => rfl
  | cons x T ih => simp [ih]

set_option maxRecDepth 100000 in
/-- machine: is a machine right? -/
theorem machine_calls {S : Int} {tv : Value} {T : List Ent} (w : World) (hr : RdE w tv T) (hT : T.length ≤ 1000) : Calls Try.prog 89 #[macV S tv] w fun e w' => e = .returned (.bool (macB S T)) ∧ Kp w w' := by
  obtain ⟨ta, tcap, rfl, _⟩ := hr.len
  refine lift89 ?_
  unfold S89
  refine r_box fun b1 w1 e1 s1 h1 k1 => ?_
  have h1' : w1.heap[b1]? = some (.cells #[.int .i64 S, .slice ta T.length tcap] 51 (0, 0)) := h1
  have cS : w1.cell? ⟨b1, 0, none⟩ = some (.int .i64 S) := by rw [cell_row h1']; rfl
  have cT : w1.cell? ⟨b1, 1, none⟩ = some (.slice ta T.length tcap) := by rw [cell_row h1']; rfl
  have fin : ∀ (r : Bool) (w' : World), r = macB S T → Kp w1 w' → Ending.returned (.bool r) = .returned (.bool (macB S T)) ∧ Kp w w' := fun r w' h k => ⟨by rw [h], Kp.trans k1 k⟩
  by_cases g1 : 1 ≤ S
  case neg =>
    simp (disch := omega) only [r_ln, r_pick, r_pickT, r_pickF, r_condT, r_condF, r_gdTT, r_gdFF, r_gdTF, r_gdFT, r_gqTT, r_gqFF, r_gqTF, r_gqFT, r_not, r_lss, r_leq, r_gtr, r_geq, r_eql, r_neq, r_add, r_sub, r_min2, r_max2, r_min3, r_max3, r_fa, r_iaS, r_iaA, r_ex2a, r_ex2b, r_ex3a, r_ex3b, r_ex3c, r_nc, r_keepE, Nat.zero_add, Nat.add_zero, Nat.mul_one, Int.toNat_natCast, toNat_sub1, toNat_add1, decide_true, decide_false, Bool.not_true, Bool.not_false, if_true, if_false, Bool.false_eq_true, reduceCtorEq, r_ld cS, g1]
    exact fin false w1 (by simp only [macB]; rw [decide_eq_false (by omega)]; rfl) (Kp.refl _)
  by_cases g2 : S ≤ 2
  case neg =>
    simp (disch := omega) only [r_ln, r_pick, r_pickT, r_pickF, r_condT, r_condF, r_gdTT, r_gdFF, r_gdTF, r_gdFT, r_gqTT, r_gqFF, r_gqTF, r_gqFT, r_not, r_lss, r_leq, r_gtr, r_geq, r_eql, r_neq, r_add, r_sub, r_min2, r_max2, r_min3, r_max3, r_fa, r_iaS, r_iaA, r_ex2a, r_ex2b, r_ex3a, r_ex3b, r_ex3c, r_nc, r_keepE, Nat.zero_add, Nat.add_zero, Nat.mul_one, Int.toNat_natCast, toNat_sub1, toNat_add1, decide_true, decide_false, Bool.not_true, Bool.not_false, if_true, if_false, Bool.false_eq_true, reduceCtorEq, r_ld cS, decide_eq_true g1, g2]
    exact fin false w1 (by simp only [macB]; rw [decide_eq_false (show ¬ (1 ≤ S ∧ S ≤ 2) by omega)]; rfl) (Kp.refl _)
  by_cases g3 : (T.length : Int) = 2 * S
  case neg =>
    simp (disch := omega) only [r_ln, r_pick, r_pickT, r_pickF, r_condT, r_condF, r_gdTT, r_gdFF, r_gdTF, r_gdFT, r_gqTT, r_gqFF, r_gqTF, r_gqFT, r_not, r_lss, r_leq, r_gtr, r_geq, r_eql, r_neq, r_add, r_sub, r_min2, r_max2, r_min3, r_max3, r_fa, r_iaS, r_iaA, r_ex2a, r_ex2b, r_ex3a, r_ex3b, r_ex3c, r_nc, r_keepE, Nat.zero_add, Nat.add_zero, Nat.mul_one, Int.toNat_natCast, toNat_sub1, toNat_add1, decide_true, decide_false, Bool.not_true, Bool.not_false, if_true, if_false, Bool.false_eq_true, reduceCtorEq, r_ld cS, r_ld cT, decide_eq_true g1, decide_eq_true g2, r_mul, g3]
    exact fin false w1 (by simp only [macB]; rw [decide_eq_false g3]; simp) (Kp.refl _)
  simp (disch := omega) only [r_ln, r_pick, r_pickT, r_pickF, r_condT, r_condF, r_gdTT, r_gdFF, r_gdTF, r_gdFT, r_gqTT, r_gqFF, r_gqTF, r_gqFT, r_not, r_lss, r_leq, r_gtr, r_geq, r_eql, r_neq, r_add, r_sub, r_min2, r_max2, r_min3, r_max3, r_fa, r_iaS, r_iaA, r_ex2a, r_ex2b, r_ex3a, r_ex3b, r_ex3c, r_nc, r_keepE, Nat.zero_add, Nat.add_zero, Nat.mul_one, Int.toNat_natCast, toNat_sub1, toNat_add1, decide_true, decide_false, Bool.not_true, Bool.not_false, if_true, if_false, Bool.false_eq_true, reduceCtorEq, r_ld cS, r_ld cT, decide_eq_true g1, decide_eq_true g2, r_mul, decide_eq_true g3]
  refine r_use fok114 (containsE_calls (fun x => !entB S x) w1 (hr.kp k1) (by omega) fun x _ w' K hk hK => badent_call w1 h1' x w' hk K hK) rfl ?_
  rintro _ w2 ⟨rfl, k2⟩
  refine ⟨_, rfl, ?_⟩
  rw [any_ent]
  simp (disch := omega) only [r_ln, r_pick, r_pickT, r_pickF, r_condT, r_condF, r_gdTT, r_gdFF, r_gdTF, r_gdFT, r_gqTT, r_gqFF, r_gqTF, r_gqFT, r_not, r_lss, r_leq, r_gtr, r_geq, r_eql, r_neq, r_add, r_sub, r_min2, r_max2, r_min3, r_max3, r_fa, r_iaS, r_iaA, r_ex2a, r_ex2b, r_ex3a, r_ex3b, r_ex3c, r_nc, r_keepE, Nat.zero_add, Nat.add_zero, Nat.mul_one, Int.toNat_natCast, toNat_sub1, toNat_add1, decide_true, decide_false, Bool.not_true, Bool.not_false, if_true, if_false, Bool.false_eq_true, reduceCtorEq, Bool.not_not]
  exact fin _ w2 (by simp only [macB]; rw [decide_eq_true ⟨g1, g2⟩, decide_eq_true g3]; simp) k2

end Go.Proofs.Ytgalbokmgffhkaa

/- Contract: Valid of the specification. -/
namespace Go.Proofs.Ytgalbokmgffhkaa
open Go.Lf Go.RowKit Go.Wg

set_option maxRecDepth 100000 in
set_option maxHeartbeats 400000 in
theorem valid2_calls {S : Int} {tv : Value} {T : List Ent} (w : World) (hr : RdE w tv T) (hT : T.length ≤ 1000) : Calls Try.prog 93 #[macV S tv] w fun e w' => e = .returned (.bool (macB S T)) ∧ Kp w w' := by
  obtain ⟨ta, tcap, rfl, _⟩ := hr.len
  refine lift93 ?_
  unfold S93
  refine r_box fun b1 w1 e1 s1 h1 k1 => ?_
  have h1' : w1.heap[b1]? = some (.cells #[.int .i64 S, .slice ta T.length tcap] 51 (0, 0)) := h1
  have cS : w1.cell? ⟨b1, 0, none⟩ = some (.int .i64 S) := by rw [cell_row h1']; rfl
  have cT : w1.cell? ⟨b1, 1, none⟩ = some (.slice ta T.length tcap) := by rw [cell_row h1']; rfl
  have fin : ∀ (r : Bool) (w' : World), r = macB S T → Kp w1 w' → Ending.returned (.bool r) = .returned (.bool (macB S T)) ∧ Kp w w' := fun r w' h k => ⟨by rw [h], Kp.trans k1 k⟩
  by_cases g1 : S < 1
  · simp (disch := omega) only [r_ln, r_pick, r_pickT, r_pickF, r_condT, r_condF, r_gdTT, r_gdFF, r_gdTF, r_gdFT, r_gqTT, r_gqFF, r_gqTF, r_gqFT, r_not, r_lss, r_leq, r_gtr, r_geq, r_eql, r_neq, r_add, r_sub, r_min2, r_max2, r_min3, r_max3, r_fa, r_iaS, r_iaA, r_ex2a, r_ex2b, r_ex3a, r_ex3b, r_ex3c, r_nc, r_keepE, Nat.zero_add, Nat.add_zero, Nat.mul_one, Int.toNat_natCast, toNat_sub1, toNat_add1, decide_true, decide_false, Bool.not_true, Bool.not_false, if_true, if_false, Bool.false_eq_true, reduceCtorEq, r_ld cS, decide_eq_true g1]
    exact fin false w1 (by simp only [macB]; rw [decide_eq_false (show ¬ (1 ≤ S ∧ S ≤ 2) by omega)]; rfl) (Kp.refl _)
  by_cases g2 : 2 < S
  · simp (disch := omega) only [r_ln, r_pick, r_pickT, r_pickF, r_condT, r_condF, r_gdTT, r_gdFF, r_gdTF, r_gdFT, r_gqTT, r_gqFF, r_gqTF, r_gqFT, r_not, r_lss, r_leq, r_gtr, r_geq, r_eql, r_neq, r_add, r_sub, r_min2, r_max2, r_min3, r_max3, r_fa, r_iaS, r_iaA, r_ex2a, r_ex2b, r_ex3a, r_ex3b, r_ex3c, r_nc, r_keepE, Nat.zero_add, Nat.add_zero, Nat.mul_one, Int.toNat_natCast, toNat_sub1, toNat_add1, decide_true, decide_false, Bool.not_true, Bool.not_false, if_true, if_false, Bool.false_eq_true, reduceCtorEq, r_ld cS, g1, decide_eq_true g2]
    exact fin false w1 (by simp only [macB]; rw [decide_eq_false (show ¬ (1 ≤ S ∧ S ≤ 2) by omega)]; rfl) (Kp.refl _)
  by_cases g3 : (T.length : Int) = 2 * S
  case neg =>
    simp (disch := omega) only [r_ln, r_pick, r_pickT, r_pickF, r_condT, r_condF, r_gdTT, r_gdFF, r_gdTF, r_gdFT, r_gqTT, r_gqFF, r_gqTF, r_gqFT, r_not, r_lss, r_leq, r_gtr, r_geq, r_eql, r_neq, r_add, r_sub, r_min2, r_max2, r_min3, r_max3, r_fa, r_iaS, r_iaA, r_ex2a, r_ex2b, r_ex3a, r_ex3b, r_ex3c, r_nc, r_keepE, Nat.zero_add, Nat.add_zero, Nat.mul_one, Int.toNat_natCast, toNat_sub1, toNat_add1, decide_true, decide_false, Bool.not_true, Bool.not_false, if_true, if_false, Bool.false_eq_true, reduceCtorEq, r_ld cS, r_ld cT, g1, g2, r_mul, g3]
    exact fin false w1 (by simp only [macB]; rw [decide_eq_false g3]; simp) (Kp.refl _)
  have hmac : macB S T = T.all (entB S) := by simp only [macB]; rw [decide_eq_true (show 1 ≤ S ∧ S ≤ 2 by omega), decide_eq_true g3]; simp
  have bad : ∀ x ∈ T, entB S x = false → false = macB S T := fun x hx h => by
    rw [hmac]
    cases hB : T.all (entB S) with
    | false => rfl
    | true =>
      have := List.all_eq_true.1 hB x hx
      rw [h] at this; cases this
  simp (disch := omega) only [r_ln, r_pick, r_pickT, r_pickF, r_condT, r_condF, r_gdTT, r_gdFF, r_gdTF, r_gdFT, r_gqTT, r_gqFF, r_gqTF, r_gqFT, r_not, r_lss, r_leq, r_gtr, r_geq, r_eql, r_neq, r_add, r_sub, r_min2, r_max2, r_min3, r_max3, r_fa, r_iaS, r_iaA, r_ex2a, r_ex2b, r_ex3a, r_ex3b, r_ex3c, r_nc, r_keepE, Nat.zero_add, Nat.add_zero, Nat.mul_one, Int.toNat_natCast, toNat_sub1, toNat_add1, decide_true, decide_false, Bool.not_true, Bool.not_false, if_true, if_false, Bool.false_eq_true, reduceCtorEq, r_ld cS, r_ld cT, g1, g2, r_mul, decide_eq_true g3]
  refine ⟨fun t3 wr => ∃ i : Nat, i ≤ T.length ∧ t3 = .int .i64 i ∧ (∀ x ∈ T.take i, entB S x = true) ∧ Kp w1 wr, fun t3 _ => T.length - (intOf t3).toNat, ⟨0, by omega, rfl, by simp, Kp.refl _⟩, ?_⟩
  rintro _ _ wr ⟨i, hi, rfl, hok, kr⟩
  have cTr := cell_later kr cT
  by_cases hlt : i < T.length
  case neg =>
    have hlt' : ¬ (i : Int) < (T.length : Int) := by omega
    rw [List.take_of_length_le (by omega)] at hok
    simp (disch := omega) only [r_ln, r_pick, r_pickT, r_pickF, r_condT, r_condF, r_gdTT, r_gdFF, r_gdTF, r_gdFT, r_gqTT, r_gqFF, r_gqTF, r_gqFT, r_not, r_lss, r_leq, r_gtr, r_geq, r_eql, r_neq, r_add, r_sub, r_min2, r_max2, r_min3, r_max3, r_fa, r_iaS, r_iaA, r_ex2a, r_ex2b, r_ex3a, r_ex3b, r_ex3c, r_nc, r_keepE, Nat.zero_add, Nat.add_zero, Nat.mul_one, Int.toNat_natCast, toNat_sub1, toNat_add1, decide_true, decide_false, Bool.not_true, Bool.not_false, if_true, if_false, Bool.false_eq_true, reduceCtorEq, r_ld cTr, hlt']
    exact fin true wr (by rw [hmac]; exact (List.all_eq_true.2 hok).symm) kr
  have hlt' : (i : Int) < (T.length : Int) := by omega
  obtain ⟨x, hx⟩ : ∃ x, T[i]? = some x := ⟨_, List.getElem?_eq_getElem hlt⟩
  have hxm := List.mem_of_getElem? hx
  obtain ⟨b, off, _, e, _, hld⟩ := RdE.ent (hr.kp (Kp.trans k1 kr)) hx
  cases e
  simp (disch := omega) only [r_ln, r_pick, r_pickT, r_pickF, r_condT, r_condF, r_gdTT, r_gdFF, r_gdTF, r_gdFT, r_gqTT, r_gqFF, r_gqTF, r_gqFT, r_not, r_lss, r_leq, r_gtr, r_geq, r_eql, r_neq, r_add, r_sub, r_min2, r_max2, r_min3, r_max3, r_fa, r_iaS, r_iaA, r_ex2a, r_ex2b, r_ex3a, r_ex3b, r_ex3c, r_nc, r_keepE, Nat.zero_add, Nat.add_zero, Nat.mul_one, Int.toNat_natCast, toNat_sub1, toNat_add1, decide_true, decide_false, Bool.not_true, Bool.not_false, if_true, if_false, Bool.false_eq_true, reduceCtorEq, r_ld cTr, decide_eq_true hlt', hld]
  refine r_box fun b4 w4 e4 s4 h4 k4 => ?_
  refine r_stAll (n := 3) (ty := 102) (by kernel_rfl) rfl (by intro u hu; simp [Value.cells] at hu; rcases hu with rfl | rfl | rfl <;> rfl) h4 rfl fun w5 d5 t5 h5 => ?_
  have k5 : Kp wr w5 := Kp.of_chg k4 d5 fun i e => by omega
  have k15 := Kp.trans kr k5
  have c0 : w5.cell? ⟨b4, 0, none⟩ = some (.int .i64 x.1) := by rw [cell_row h5]; rfl
  have c2 : w5.cell? ⟨b4, 2, none⟩ = some (.int .i64 x.2.2) := by rw [cell_row h5]; rfl
  have cS5 := cell_later k15 cS
  by_cases q1 : x.1 < 0
  · simp (disch := omega) only [r_ln, r_pick, r_pickT, r_pickF, r_condT, r_condF, r_gdTT, r_gdFF, r_gdTF, r_gdFT, r_gqTT, r_gqFF, r_gqTF, r_gqFT, r_not, r_lss, r_leq, r_gtr, r_geq, r_eql, r_neq, r_add, r_sub, r_min2, r_max2, r_min3, r_max3, r_fa, r_iaS, r_iaA, r_ex2a, r_ex2b, r_ex3a, r_ex3b, r_ex3c, r_nc, r_keepE, Nat.zero_add, Nat.add_zero, Nat.mul_one, Int.toNat_natCast, toNat_sub1, toNat_add1, decide_true, decide_false, Bool.not_true, Bool.not_false, if_true, if_false, Bool.false_eq_true, reduceCtorEq, r_ld c0, decide_eq_true q1]
    exact fin false w5 (bad x hxm (by simp only [entB]; rw [decide_eq_false (show ¬ (0 ≤ x.1 ∧ x.1 ≤ 1) by omega)]; rfl)) k15
  by_cases q2 : 1 < x.1
  · simp (disch := omega) only [r_ln, r_pick, r_pickT, r_pickF, r_condT, r_condF, r_gdTT, r_gdFF, r_gdTF, r_gdFT, r_gqTT, r_gqFF, r_gqTF, r_gqFT, r_not, r_lss, r_leq, r_gtr, r_geq, r_eql, r_neq, r_add, r_sub, r_min2, r_max2, r_min3, r_max3, r_fa, r_iaS, r_iaA, r_ex2a, r_ex2b, r_ex3a, r_ex3b, r_ex3c, r_nc, r_keepE, Nat.zero_add, Nat.add_zero, Nat.mul_one, Int.toNat_natCast, toNat_sub1, toNat_add1, decide_true, decide_false, Bool.not_true, Bool.not_false, if_true, if_false, Bool.false_eq_true, reduceCtorEq, r_ld c0, q1, decide_eq_true q2]
    exact fin false w5 (bad x hxm (by simp only [entB]; rw [decide_eq_false (show ¬ (0 ≤ x.1 ∧ x.1 ≤ 1) by omega)]; rfl)) k15
  by_cases q3 : x.2.2 < -1
  · simp (disch := omega) only [r_ln, r_pick, r_pickT, r_pickF, r_condT, r_condF, r_gdTT, r_gdFF, r_gdTF, r_gdFT, r_gqTT, r_gqFF, r_gqTF, r_gqFT, r_not, r_lss, r_leq, r_gtr, r_geq, r_eql, r_neq, r_add, r_sub, r_min2, r_max2, r_min3, r_max3, r_fa, r_iaS, r_iaA, r_ex2a, r_ex2b, r_ex3a, r_ex3b, r_ex3c, r_nc, r_keepE, Nat.zero_add, Nat.add_zero, Nat.mul_one, Int.toNat_natCast, toNat_sub1, toNat_add1, decide_true, decide_false, Bool.not_true, Bool.not_false, if_true, if_false, Bool.false_eq_true, reduceCtorEq, r_ld c0, r_ld c2, q1, q2, decide_eq_true q3]
    exact fin false w5 (bad x hxm (by simp only [entB]; rw [decide_eq_false (show ¬ (-1 ≤ x.2.2 ∧ x.2.2 < S) by omega), Bool.and_false])) k15
  by_cases q4 : S ≤ x.2.2
  · simp (disch := omega) only [r_ln, r_pick, r_pickT, r_pickF, r_condT, r_condF, r_gdTT, r_gdFF, r_gdTF, r_gdFT, r_gqTT, r_gqFF, r_gqTF, r_gqFT, r_not, r_lss, r_leq, r_gtr, r_geq, r_eql, r_neq, r_add, r_sub, r_min2, r_max2, r_min3, r_max3, r_fa, r_iaS, r_iaA, r_ex2a, r_ex2b, r_ex3a, r_ex3b, r_ex3c, r_nc, r_keepE, Nat.zero_add, Nat.add_zero, Nat.mul_one, Int.toNat_natCast, toNat_sub1, toNat_add1, decide_true, decide_false, Bool.not_true, Bool.not_false, if_true, if_false, Bool.false_eq_true, reduceCtorEq, r_ld c0, r_ld c2, r_ld cS5, q1, q2, q3, decide_eq_true q4]
    exact fin false w5 (bad x hxm (by simp only [entB]; rw [decide_eq_false (show ¬ (-1 ≤ x.2.2 ∧ x.2.2 < S) by omega), Bool.and_false])) k15
  simp (disch := omega) only [r_ln, r_pick, r_pickT, r_pickF, r_condT, r_condF, r_gdTT, r_gdFF, r_gdTF, r_gdFT, r_gqTT, r_gqFF, r_gqTF, r_gqFT, r_not, r_lss, r_leq, r_gtr, r_geq, r_eql, r_neq, r_add, r_sub, r_min2, r_max2, r_min3, r_max3, r_fa, r_iaS, r_iaA, r_ex2a, r_ex2b, r_ex3a, r_ex3b, r_ex3c, r_nc, r_keepE, Nat.zero_add, Nat.add_zero, Nat.mul_one, Int.toNat_natCast, toNat_sub1, toNat_add1, decide_true, decide_false, Bool.not_true, Bool.not_false, if_true, if_false, Bool.false_eq_true, reduceCtorEq, r_ld c0, r_ld c2, r_ld cS5, q1, q2, q3, q4]
  refine ⟨⟨i + 1, by omega, by go_num, fun y hy => ?_, k15⟩, by simp only [intOf]; omega⟩
  rw [List.take_add_one, hx] at hy
  rcases List.mem_append.1 hy with h | h
  · exact hok y h
  · simp at h
    rw [h]
    simp only [entB]
    rw [decide_eq_true (show 0 ≤ x.1 ∧ x.1 ≤ 1 by omega), decide_eq_true (show -1 ≤ x.2.2 ∧ x.2.2 < S by omega)]
    rfl

end Go.Proofs.Ytgalbokmgffhkaa
