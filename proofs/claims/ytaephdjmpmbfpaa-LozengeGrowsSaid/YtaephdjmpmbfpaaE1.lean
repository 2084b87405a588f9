/- Contracts: choose; lists of rows of one's own. -/
import Derived.Test.YtaephdjmpmbfpaaGrow
import Derived.Test.YtaephdjmpmbfpaaC5
import Derived.Test.YtaephdjmpmbfpaaDet
import Derived.Test.YtaephdjmpmbfpaaSc
set_option linter.all false
namespace Go.Proofs.Ytaephdjmpmbfpaa
open Go.Lf Go.RowKit Go.Hp

theorem choose_calls (n : Nat) (k : Int) (w : World) (hn : n ≤ 8) (hk : k ≤ 100) : Calls Try.prog 60 #[.int .i64 n, .int .i64 k] w fun e w' => e = .returned (.int .i64 (chZ n k)) ∧ w = w' := by
  refine lift60 ?_
  unfold S60
  by_cases h0 : k < 0
  · simp (disch := omega) only [r_ln, r_pick, r_pickT, r_pickF, r_condT, r_condF, r_gdTT, r_gdFF, r_gdTF, r_gdFT, r_gqTT, r_gqFF, r_gqTF, r_gqFT, r_not, r_lss, r_leq, r_gtr, r_geq, r_eql, r_neq, r_add, r_sub, r_min2, r_max2, r_min3, r_max3, r_fa, r_iaS, r_iaA, r_ex2a, r_ex2b, r_ex3a, r_ex3b, r_ex3c, r_nc, r_keepE, Nat.zero_add, Nat.add_zero, Nat.mul_one, Int.toNat_natCast, toNat_sub1, toNat_add1, decide_true, decide_false, Bool.not_true, Bool.not_false, if_true, if_false, Bool.false_eq_true, reduceCtorEq, h0]
    exact ⟨by simp [chZ, h0], trivial⟩
  by_cases h1 : (n : Int) < k
  · simp (disch := omega) only [r_ln, r_pick, r_pickT, r_pickF, r_condT, r_condF, r_gdTT, r_gdFF, r_gdTF, r_gdFT, r_gqTT, r_gqFF, r_gqTF, r_gqFT, r_not, r_lss, r_leq, r_gtr, r_geq, r_eql, r_neq, r_add, r_sub, r_min2, r_max2, r_min3, r_max3, r_fa, r_iaS, r_iaA, r_ex2a, r_ex2b, r_ex3a, r_ex3b, r_ex3c, r_nc, r_keepE, Nat.zero_add, Nat.add_zero, Nat.mul_one, Int.toNat_natCast, toNat_sub1, toNat_add1, decide_true, decide_false, Bool.not_true, Bool.not_false, if_true, if_false, Bool.false_eq_true, reduceCtorEq, h0, h1]
    refine ⟨?_, trivial⟩
    rw [chZ, if_neg h0, ch_big n k.toNat (by omega)]; rfl
  simp (disch := omega) only [r_ln, r_pick, r_pickT, r_pickF, r_condT, r_condF, r_gdTT, r_gdFF, r_gdTF, r_gdFT, r_gqTT, r_gqFF, r_gqTF, r_gqFT, r_not, r_lss, r_leq, r_gtr, r_geq, r_eql, r_neq, r_add, r_sub, r_min2, r_max2, r_min3, r_max3, r_fa, r_iaS, r_iaA, r_ex2a, r_ex2b, r_ex3a, r_ex3b, r_ex3c, r_nc, r_keepE, Nat.zero_add, Nat.add_zero, Nat.mul_one, Int.toNat_natCast, toNat_sub1, toNat_add1, decide_true, decide_false, Bool.not_true, Bool.not_false, if_true, if_false, Bool.false_eq_true, reduceCtorEq, h0, h1]
  refine ⟨fun t5 t15 wr => ∃ i : Nat, (i : Int) ≤ k ∧ t15 = .int .i64 i ∧ t5 = .int .i64 (ch n i) ∧ w = wr, fun _ t15 _ => k.toNat - (intOf t15).toNat, ⟨0, by omega, rfl, by rw [ch_zero]; rfl, rfl⟩, ?_⟩
  rintro _ _ _ _ ⟨i, hi, rfl, rfl, rfl⟩
  by_cases hlt : (i : Int) < k
  case neg =>
    have e : k.toNat = i := by omega
    simp (disch := omega) only [r_ln, r_pick, r_pickT, r_pickF, r_condT, r_condF, r_gdTT, r_gdFF, r_gdTF, r_gdFT, r_gqTT, r_gqFF, r_gqTF, r_gqFT, r_not, r_lss, r_leq, r_gtr, r_geq, r_eql, r_neq, r_add, r_sub, r_min2, r_max2, r_min3, r_max3, r_fa, r_iaS, r_iaA, r_ex2a, r_ex2b, r_ex3a, r_ex3b, r_ex3c, r_nc, r_keepE, Nat.zero_add, Nat.add_zero, Nat.mul_one, Int.toNat_natCast, toNat_sub1, toNat_add1, decide_true, decide_false, Bool.not_true, Bool.not_false, if_true, if_false, Bool.false_eq_true, reduceCtorEq, hlt]
    exact ⟨by rw [chZ, if_neg h0, e], trivial⟩
  have hb := ch_mulZ hn (show i < n by omega)
  simp (disch := omega) only [r_ln, r_pick, r_pickT, r_pickF, r_condT, r_condF, r_gdTT, r_gdFF, r_gdTF, r_gdFT, r_gqTT, r_gqFF, r_gqTF, r_gqFT, r_not, r_lss, r_leq, r_gtr, r_geq, r_eql, r_neq, r_add, r_sub, r_min2, r_max2, r_min3, r_max3, r_fa, r_iaS, r_iaA, r_ex2a, r_ex2b, r_ex3a, r_ex3b, r_ex3c, r_nc, r_keepE, Nat.zero_add, Nat.add_zero, Nat.mul_one, Int.toNat_natCast, toNat_sub1, toNat_add1, decide_true, decide_false, Bool.not_true, Bool.not_false, if_true, if_false, Bool.false_eq_true, reduceCtorEq, hlt, r_mul, r_quo]
  refine ⟨⟨i + 1, by omega, by go_num, ?_, trivial⟩, by simp only [intOf]; omega⟩
  rw [ch_stepZ hn (by omega)]

set_option maxRecDepth 100000 in
theorem refchoose_calls : ∀ (n : Nat) (k : Int) (w : World), n ≤ 8 → k ≤ 100 → Calls Try.prog 63 #[.int .i64 n, .int .i64 k] w fun e w' => e = .returned (.int .i64 (chZ n k)) ∧ w = w' := by
  intro n
  induction n with
  | zero =>
    intro k w hn hk
    refine lift63 ?_
    unfold S63
    by_cases h0 : k < 0
    · simp (disch := omega) only [r_ln, r_pick, r_pickT, r_pickF, r_condT, r_condF, r_gdTT, r_gdFF, r_gdTF, r_gdFT, r_gqTT, r_gqFF, r_gqTF, r_gqFT, r_not, r_lss, r_leq, r_gtr, r_geq, r_eql, r_neq, r_add, r_sub, r_min2, r_max2, r_min3, r_max3, r_fa, r_iaS, r_iaA, r_ex2a, r_ex2b, r_ex3a, r_ex3b, r_ex3c, r_nc, r_keepE, Nat.zero_add, Nat.add_zero, Nat.mul_one, Int.toNat_natCast, toNat_sub1, toNat_add1, decide_true, decide_false, Bool.not_true, Bool.not_false, if_true, if_false, Bool.false_eq_true, reduceCtorEq, h0]
      exact ⟨by simp [chZ, h0], trivial⟩
    by_cases h1 : ((0 : Nat) : Int) < k
    · simp (disch := omega) only [r_ln, r_pick, r_pickT, r_pickF, r_condT, r_condF, r_gdTT, r_gdFF, r_gdTF, r_gdFT, r_gqTT, r_gqFF, r_gqTF, r_gqFT, r_not, r_lss, r_leq, r_gtr, r_geq, r_eql, r_neq, r_add, r_sub, r_min2, r_max2, r_min3, r_max3, r_fa, r_iaS, r_iaA, r_ex2a, r_ex2b, r_ex3a, r_ex3b, r_ex3c, r_nc, r_keepE, Nat.zero_add, Nat.add_zero, Nat.mul_one, Int.toNat_natCast, toNat_sub1, toNat_add1, decide_true, decide_false, Bool.not_true, Bool.not_false, if_true, if_false, Bool.false_eq_true, reduceCtorEq, h0, h1]
      refine ⟨?_, trivial⟩
      rw [chZ, if_neg h0, ch_big 0 k.toNat (by omega)]; rfl
    have e : k = 0 := by omega
    subst e
    simp (disch := omega) only [r_ln, r_pick, r_pickT, r_pickF, r_condT, r_condF, r_gdTT, r_gdFF, r_gdTF, r_gdFT, r_gqTT, r_gqFF, r_gqTF, r_gqFT, r_not, r_lss, r_leq, r_gtr, r_geq, r_eql, r_neq, r_add, r_sub, r_min2, r_max2, r_min3, r_max3, r_fa, r_iaS, r_iaA, r_ex2a, r_ex2b, r_ex3a, r_ex3b, r_ex3c, r_nc, r_keepE, Nat.zero_add, Nat.add_zero, Nat.mul_one, Int.toNat_natCast, toNat_sub1, toNat_add1, decide_true, decide_false, Bool.not_true, Bool.not_false, if_true, if_false, Bool.false_eq_true, reduceCtorEq, h0, h1]
    exact ⟨rfl, trivial⟩
  | succ n ih =>
    intro k w hn hk
    refine lift63 ?_
    unfold S63
    by_cases h0 : k < 0
    · simp (disch := omega) only [r_ln, r_pick, r_pickT, r_pickF, r_condT, r_condF, r_gdTT, r_gdFF, r_gdTF, r_gdFT, r_gqTT, r_gqFF, r_gqTF, r_gqFT, r_not, r_lss, r_leq, r_gtr, r_geq, r_eql, r_neq, r_add, r_sub, r_min2, r_max2, r_min3, r_max3, r_fa, r_iaS, r_iaA, r_ex2a, r_ex2b, r_ex3a, r_ex3b, r_ex3c, r_nc, r_keepE, Nat.zero_add, Nat.add_zero, Nat.mul_one, Int.toNat_natCast, toNat_sub1, toNat_add1, decide_true, decide_false, Bool.not_true, Bool.not_false, if_true, if_false, Bool.false_eq_true, reduceCtorEq, h0]
      exact ⟨by simp [chZ, h0], trivial⟩
    by_cases h1 : ((n + 1 : Nat) : Int) < k
    · simp (disch := omega) only [r_ln, r_pick, r_pickT, r_pickF, r_condT, r_condF, r_gdTT, r_gdFF, r_gdTF, r_gdFT, r_gqTT, r_gqFF, r_gqTF, r_gqFT, r_not, r_lss, r_leq, r_gtr, r_geq, r_eql, r_neq, r_add, r_sub, r_min2, r_max2, r_min3, r_max3, r_fa, r_iaS, r_iaA, r_ex2a, r_ex2b, r_ex3a, r_ex3b, r_ex3c, r_nc, r_keepE, Nat.zero_add, Nat.add_zero, Nat.mul_one, Int.toNat_natCast, toNat_sub1, toNat_add1, decide_true, decide_false, Bool.not_true, Bool.not_false, if_true, if_false, Bool.false_eq_true, reduceCtorEq, h0, h1]
      refine ⟨?_, trivial⟩
      rw [chZ, if_neg h0, ch_big (n + 1) k.toNat (by omega)]; rfl
    by_cases h2 : k = 0
    · subst h2
      simp (disch := omega) only [r_ln, r_pick, r_pickT, r_pickF, r_condT, r_condF, r_gdTT, r_gdFF, r_gdTF, r_gdFT, r_gqTT, r_gqFF, r_gqTF, r_gqFT, r_not, r_lss, r_leq, r_gtr, r_geq, r_eql, r_neq, r_add, r_sub, r_min2, r_max2, r_min3, r_max3, r_fa, r_iaS, r_iaA, r_ex2a, r_ex2b, r_ex3a, r_ex3b, r_ex3c, r_nc, r_keepE, Nat.zero_add, Nat.add_zero, Nat.mul_one, Int.toNat_natCast, toNat_sub1, toNat_add1, decide_true, decide_false, Bool.not_true, Bool.not_false, if_true, if_false, Bool.false_eq_true, reduceCtorEq, h0, h1]
      exact ⟨rfl, trivial⟩
    by_cases h3 : k = ((n + 1 : Nat) : Int)
    · subst h3
      simp (disch := omega) only [r_ln, r_pick, r_pickT, r_pickF, r_condT, r_condF, r_gdTT, r_gdFF, r_gdTF, r_gdFT, r_gqTT, r_gqFF, r_gqTF, r_gqFT, r_not, r_lss, r_leq, r_gtr, r_geq, r_eql, r_neq, r_add, r_sub, r_min2, r_max2, r_min3, r_max3, r_fa, r_iaS, r_iaA, r_ex2a, r_ex2b, r_ex3a, r_ex3b, r_ex3c, r_nc, r_keepE, Nat.zero_add, Nat.add_zero, Nat.mul_one, Int.toNat_natCast, toNat_sub1, toNat_add1, decide_true, decide_false, Bool.not_true, Bool.not_false, if_true, if_false, Bool.false_eq_true, reduceCtorEq, h0, h1, h2]
      refine ⟨?_, trivial⟩
      rw [chZ, if_neg h0, Int.toNat_natCast, ch_self]; rfl
    simp (disch := omega) only [r_ln, r_pick, r_pickT, r_pickF, r_condT, r_condF, r_gdTT, r_gdFF, r_gdTF, r_gdFT, r_gqTT, r_gqFF, r_gqTF, r_gqFT, r_not, r_lss, r_leq, r_gtr, r_geq, r_eql, r_neq, r_add, r_sub, r_min2, r_max2, r_min3, r_max3, r_fa, r_iaS, r_iaA, r_ex2a, r_ex2b, r_ex3a, r_ex3b, r_ex3c, r_nc, r_keepE, Nat.zero_add, Nat.add_zero, Nat.mul_one, Int.toNat_natCast, toNat_sub1, toNat_add1, decide_true, decide_false, Bool.not_true, Bool.not_false, if_true, if_false, Bool.false_eq_true, reduceCtorEq, h0, h1, h2, h3]
    have en : ((n + 1 : Nat) : Int) - 1 = (n : Nat) := by omega
    rw [en]
    refine r_use fok63 (ih (k - 1) w (by omega) (by omega)) rfl ?_
    rintro _ _ ⟨rfl, rfl⟩
    refine ⟨_, rfl, ?_⟩
    try simp (disch := omega) only [r_ln, r_pick, r_pickT, r_pickF, r_condT, r_condF, r_gdTT, r_gdFF, r_gdTF, r_gdFT, r_gqTT, r_gqFF, r_gqTF, r_gqFT, r_not, r_lss, r_leq, r_gtr, r_geq, r_eql, r_neq, r_add, r_sub, r_min2, r_max2, r_min3, r_max3, r_fa, r_iaS, r_iaA, r_ex2a, r_ex2b, r_ex3a, r_ex3b, r_ex3c, r_nc, r_keepE, Nat.zero_add, Nat.add_zero, Nat.mul_one, Int.toNat_natCast, toNat_sub1, toNat_add1, decide_true, decide_false, Bool.not_true, Bool.not_false, if_true, if_false, Bool.false_eq_true, reduceCtorEq, en]
    refine r_use fok63 (ih k w (by omega) (by omega)) rfl ?_
    rintro _ _ ⟨rfl, rfl⟩
    refine ⟨_, rfl, ?_⟩
    have b1 := chZ_le (n := n) (k := k) (by omega)
    have b2 := chZ_le (n := n) (k := k - 1) (by omega)
    simp (disch := omega) only [r_ln, r_pick, r_pickT, r_pickF, r_condT, r_condF, r_gdTT, r_gdFF, r_gdTF, r_gdFT, r_gqTT, r_gqFF, r_gqTF, r_gqFT, r_not, r_lss, r_leq, r_gtr, r_geq, r_eql, r_neq, r_add, r_sub, r_min2, r_max2, r_min3, r_max3, r_fa, r_iaS, r_iaA, r_ex2a, r_ex2b, r_ex3a, r_ex3b, r_ex3c, r_nc, r_keepE, Nat.zero_add, Nat.add_zero, Nat.mul_one, Int.toNat_natCast, toNat_sub1, toNat_add1, decide_true, decide_false, Bool.not_true, Bool.not_false, if_true, if_false, Bool.false_eq_true, reduceCtorEq]
    refine ⟨?_, trivial⟩
    have e1 : chZ (n + 1) k = chZ n (k - 1) + chZ n k := by
      unfold chZ
      rw [if_neg h0, if_neg h0, if_neg (by omega)]
      obtain ⟨q, hq⟩ : ∃ q, k.toNat = q + 1 := ⟨k.toNat - 1, by omega⟩
      have hq2 : (k - 1).toNat = q := by omega
      rw [hq, hq2]
      simp [ch]
    rw [e1]

/-- The slice v reads as l, has room as long as it says, and lies in a block of its own. -/
def OwnInts (w : World) (r : Value) (l : List Int) : Prop := (∃ b, w.ownsRow b 3 1 r l.length (intCells l)) ∧ l.length ≤ 1000000

theorem OwnInts.kp {w w' : World} {r : Value} {l : List Int} (h : OwnInts w r l) (hk : Kp w w') : OwnInts w' r l := let ⟨⟨b, o⟩, hl⟩ := h; ⟨⟨b, owns_kp o hk⟩, hl⟩

theorem OwnInts.form {w : World} {r : Value} {l : List Int} (h : OwnInts w r l) : ∃ a cap, r = .slice a l.length cap ∧ l.length ≤ cap ∧ RdInts w r l := by
  obtain ⟨⟨b, h1, h2⟩, hsm⟩ := h
  rcases h2 with ⟨rfl, h0⟩ | ⟨g, cap, cur, rfl, hb, hg, hle, hm, hs, ht⟩
  · refine ⟨none, 0, by rw [h0], by omega, none, 0, by rw [h0], by omega, fun h => by omega⟩
  · refine ⟨_, cap, rfl, hle, _, cap, rfl, by omega, fun _ => ⟨g, 0, rfl, fun i hi => ?_⟩⟩
    rw [Nat.zero_add, cell_row hg]
    have : cur.toList[i]? = (intCells l)[i]? := by
      rw [← ht, List.getElem?_take, if_pos (by omega)]
    rw [← Array.getElem?_toList, this]
    simp [intCells, hi]

/-- The slice v reads as rows, itself and each row in a block of its own. -/
def IntRows (base : Nat) (w : World) (v : Value) (rows : List (List Int)) : Prop :=
  ∃ xs, w.ownsRow base 36 1 v rows.length xs ∧ ∀ i, i < rows.length → ∃ r, xs[i]? = some r ∧ OwnInts w r (rows.getD i [])

theorem IntRows.nil (base : Nat) (w : World) : IntRows base w nilS [] := ⟨[], World.ownsRow_nil _ _ _ _, fun _ h => by cases h⟩

theorem IntRows.kp {base : Nat} {w w' : World} {v : Value} {rows : List (List Int)} (h : IntRows base w v rows) (hk : Kp w w') : IntRows base w' v rows :=
  let ⟨xs, h1, h2⟩ := h; ⟨xs, owns_kp h1 hk, fun i hi => let ⟨r, a, b⟩ := h2 i hi; ⟨r, a, b.kp hk⟩⟩

theorem IntRows.at {base : Nat} {w : World} {v : Value} {rows : List (List Int)} (h : IntRows base w v rows) {i : Nat} (hi : i < rows.length) :
    ∃ g cap r, v = .slice (some ⟨g, 0, none⟩) rows.length cap ∧ rows.length ≤ cap ∧ w.cell? ⟨g, i, none⟩ = some r ∧ OwnInts w r (rows.getD i []) := by
  obtain ⟨xs, ⟨h1, h2⟩, h3⟩ := h
  obtain ⟨r, hr, ho⟩ := h3 i hi
  rcases h2 with ⟨rfl, h0⟩ | ⟨g, cap, cur, rfl, hb, hg, hle, hm, hs, ht⟩
  · omega
  · refine ⟨g, cap, r, rfl, hle, ?_, ho⟩
    rw [cell_row hg, ← Array.getElem?_toList]
    have : cur.toList[i]? = xs[i]? := by rw [← ht, List.getElem?_take, if_pos (by omega)]
    rw [this, hr]

theorem IntRows.len {base : Nat} {w : World} {v : Value} {rows : List (List Int)} (h : IntRows base w v rows) : ∃ a cap, v = .slice a rows.length cap ∧ rows.length ≤ cap := by
  obtain ⟨xs, ⟨h1, h2⟩, h3⟩ := h
  rcases h2 with ⟨rfl, h0⟩ | ⟨g, cap, cur, rfl, hb, hg, hle, hm, hs, ht⟩
  · exact ⟨none, 0, by rw [h0], by omega⟩
  · exact ⟨_, cap, rfl, hle⟩

theorem IntRows.rd {base : Nat} {w : World} {v : Value} {rows : List (List Int)} (h : IntRows base w v rows) (hs : rows.length ≤ 17592186044416) : RdRows w v rows := by
  obtain ⟨xs, ⟨h1, h2⟩, h3⟩ := h
  rcases h2 with ⟨rfl, h0⟩ | ⟨g, cap, cur, rfl, hb, hg, hle, hm, hsz, ht⟩
  · exact ⟨none, 0, fun _ => undef, by rw [h0], hs, fun h => by omega, fun i hi => by omega⟩
  · refine ⟨_, cap, fun i => xs.getD i undef, rfl, hs, fun _ => ⟨g, 0, rfl, fun i hi => ?_⟩, fun i hi => ?_⟩
    · obtain ⟨r, hr, _⟩ := h3 i hi
      rw [Nat.zero_add, cell_row hg, ← Array.getElem?_toList]
      have : cur.toList[i]? = xs[i]? := by rw [← ht, List.getElem?_take, if_pos (by omega)]
      rw [this, hr]
      simp [hr]
    · obtain ⟨r, hr, ho⟩ := h3 i hi
      have : xs.getD i undef = r := by simp [hr]
      show RdInts w (xs.getD i undef) _
      rw [this]
      obtain ⟨_, _, _, _, h⟩ := ho.form
      exact h

theorem OwnInts.grown {base n size : Nat} {w w' : World} {r v : Value} {l : List Int} {xs : List Value} (h : OwnInts w r l) (hv : w.ownsRow base 36 size v n xs) (hg : w.grownBy w' v.ownBlock) : OwnInts w' r l := by
  obtain ⟨⟨b, o⟩, hsm⟩ := h
  refine ⟨⟨b, owns_chg o (Chg.of_grown (S := fun k => v.ownBlock = some k) hg fun k h => h) fun k hk hv' => ?_⟩, hsm⟩
  rcases o.2 with ⟨rfl, _⟩ | ⟨g, cap, cur, rfl, _, hgb, _⟩
  · simp [Value.ownBlock] at hk
  · rcases hv.2 with ⟨rfl, _⟩ | ⟨g2, cap2, cur2, rfl, _, hgb2, _⟩
    · simp [Value.ownBlock] at hv'
    · simp [Value.ownBlock] at hk hv'
      subst hk; subst hv'
      rw [hgb] at hgb2
      simp at hgb2

set_option maxRecDepth 100000 in
/-- append(v, r) of a row. -/
theorem r_pushRow {base : Nat} {ty : TypeId} {v r : Value} {rows : List (List Int)} {row : List Int} {w w0 : World} {K : Value → World → Prop} (h : IntRows base w v rows) (hr : OwnInts w r row) (hn : rows.length + 1 ≤ 1000000) (hb : base ≤ w.heap.size)
    (h0 : Kp w0 w) (hb0 : w0.heap.size ≤ base) (hk : ∀ v' w', IntRows base w' v' (rows ++ [row]) → Kp w0 w' → K v' w') : bsW Try.prog 26 1 [(0, r)] w fun s w => semW Try.prog (apS [26, 26] ty [v, s]) w K := by
  obtain ⟨xs, h1, h2⟩ := h
  obtain ⟨a, cap, e, _, _⟩ := hr.form
  subst e
  have key : ∀ v' w', w'.ownsRow base 36 1 v' (rows.length + 1) (xs ++ [Value.slice a row.length cap]) → w.grownBy w' v.ownBlock → K v' w' := by
    intro v' w' ho hg
    refine hk v' w' ⟨xs ++ [.slice a row.length cap], by simpa using ho, fun i hi => ?_⟩ (Below.grown h0 hg h0.size fun k hk' => Nat.le_trans hb0 (h1.lt k hk').1)
    have hl : xs.length = rows.length := by have := h1.1; omega
    by_cases hir : i < rows.length
    · obtain ⟨r, e1, e2⟩ := h2 i hir
      refine ⟨r, by rw [List.getElem?_append_left (by omega), e1], ?_⟩
      have : (rows ++ [row]).getD i [] = rows.getD i [] := by simp [List.getD_eq_getElem?_getD, List.getElem?_append_left hir]
      rw [this]
      exact e2.grown h1 hg
    · have hi' : i = rows.length := by simp at hi; omega
      subst hi'
      refine ⟨.slice a row.length cap, by rw [List.getElem?_append_right (by omega), hl, Nat.sub_self]; rfl, ?_⟩
      have : (rows ++ [row]).getD rows.length [] = row := by simp [List.getD_eq_getElem?_getD]
      rw [this]
      exact hr.grown h1 hg
  exact r_push slt26 (bs26 _ _ _ _) rfl (by intro u hu; simp [Value.cells] at hu; subst hu; rfl) h1 (by omega) (by omega) hb fun v' w' ho hg => key v' w' (by simpa [Value.cells] using ho) hg

set_option maxRecDepth 100000 in
/-- The same where the new element's block is asked to keep what is there. -/
theorem r_pushRowK {base : Nat} {ty : TypeId} {v r : Value} {rows : List (List Int)} {row : List Int} {w w0 : World} {K : Value → World → Prop} (h : IntRows base w v rows) (hr : OwnInts w r row) (hn : rows.length + 1 ≤ 1000000) (hb : base ≤ w.heap.size)
    (h0 : Kp w0 w) (hb0 : w0.heap.size ≤ base) (hk : ∀ v' w', IntRows base w' v' (rows ++ [row]) → Kp w0 w' → K v' w') : bsW Try.prog 26 1 [(0, r)] w (keepB w fun s w => semW Try.prog (apS [26, 26] ty [v, s]) w K) := by
  have := r_pushRow (ty := ty) h hr hn hb h0 hb0 hk
  obtain ⟨a, cap, e, _, _⟩ := hr.form
  subst e
  rw [bs26] at this ⊢
  exact ⟨below_alloc _, this⟩

set_option maxRecDepth 100000 in
/-- append(r, x) of an integer. -/
theorem r_pushInt {base : Nat} {ty : TypeId} {r : Value} {l : List Int} {x : Int} {w w0 : World} {K : Value → World → Prop} (h : w.ownsRow base 3 1 r l.length (intCells l)) (hn : l.length + 1 ≤ 1000000) (hb : base ≤ w.heap.size)
    (h0 : Kp w0 w) (hb0 : w0.heap.size ≤ base) (hk : ∀ v' w', w'.ownsRow base 3 1 v' (l ++ [x]).length (intCells (l ++ [x])) → Kp w0 w' → K v' w') : bsW Try.prog 36 1 [(0, .int .i64 x)] w fun s w => semW Try.prog (apS [36, 36] ty [r, s]) w K :=
  r_push slt36 (bs36 _ _ _) rfl (by intro u hu; simp [Value.cells] at hu; subst hu; rfl) h (by omega) (by omega) hb fun v' w' ho hg => hk v' w' (by simpa [Value.cells, intCells] using ho) (Below.grown h0 hg h0.size fun k hk' => Nat.le_trans hb0 (h.lt k hk').1)

theorem addr_add0 (a : Addr) : a.add 0 = a := by
  cases a with
  | mk b o h => cases h <;> rfl

/-- s[:j] -/
theorem r_slTo {a : Option Addr} {n c : Nat} {j : Int} {k : IntKind} {K : Value → Prop} (h0 : 0 ≤ j) (h1 : j ≤ c) : slS 1 (.slice a n c) none (some (.int k j)) K = K (.slice a j.toNat c) := by
  have e : (if c = 0 then a else a.map fun x => x.add (0 * 1)) = a := by
    split
    · rfl
    · cases a with
      | none => rfl
      | some x => simp [addr_add0]
  simp only [slS, cutQ, bnd, h0, h1, and_self, if_true, Nat.sub_zero, e]

/-- s[j:] -/
theorem r_slFrom {a : Option Addr} {n c : Nat} {j : Int} {k : IntKind} {K : Value → Prop} (h0 : 0 ≤ j) (h1 : j ≤ n) : slS 1 (.slice a n c) (some (.int k j)) none K = K (.slice (if c = j.toNat then a else a.map fun x => x.add j.toNat) (n - j.toNat) (c - j.toNat)) := by
  simp only [slS, cutQ, bnd, h0, h1, and_self, if_true, Nat.mul_one]

theorem rd_to {w : World} {a : Option Addr} {n c c' j : Nat} {l : List Int} (h : RdInts w (.slice a n c) l) (hj : j ≤ n) : RdInts w (.slice a j c') (l.take j) := by
  obtain ⟨a', cap, e, hl, hc⟩ := h
  simp only [Value.slice.injEq] at e
  obtain ⟨rfl, rfl, rfl⟩ := e
  have e2 : (l.take j).length = j := by simp; omega
  refine ⟨a, c', by rw [e2], by omega, fun h0 => ?_⟩
  obtain ⟨b, off, rfl, hcell⟩ := hc (by omega)
  refine ⟨b, off, rfl, fun i hi => ?_⟩
  rw [hcell i (by omega)]
  simp [List.getD_eq_getElem?_getD, List.getElem?_take, show i < j by omega]

theorem rd_from {w : World} {a : Option Addr} {n c c' j : Nat} {l : List Int} (h : RdInts w (.slice a n c) l) (hj : j ≤ n) (hnc : n ≤ c) : RdInts w (.slice (if c = j then a else a.map fun x => x.add j) (n - j) c') (l.drop j) := by
  obtain ⟨a', cap, e, hl, hc⟩ := h
  simp only [Value.slice.injEq] at e
  obtain ⟨rfl, rfl, rfl⟩ := e
  have e2 : (l.drop j).length = l.length - j := by simp
  refine ⟨_, c', by rw [e2], by omega, fun h0 => ?_⟩
  obtain ⟨b, off, rfl, hcell⟩ := hc (by omega)
  refine ⟨b, off + j, by rw [if_neg (by omega)]; simp [r_addr], fun i hi => ?_⟩
  rw [Nat.add_assoc, hcell (j + i) (by omega)]
  simp [List.getD_eq_getElem?_getD]

theorem bs26_2 (a a' : Option Addr) (n c n' c' : Nat) (w : World) (K : Value → World → Prop) : bsW Try.prog 26 2 [(0, .slice a n c), (1, .slice a' n' c')] w K = K (.slice (some ⟨w.heap.size, 0, none⟩) 2 2) (w.alloc (.cells #[.slice a n c, .slice a' n' c'] 36)) := by kernel_rfl

theorem rd_two {w w' : World} {a a' : Option Addr} {n c n' c' : Nat} {l l' : List Int} (h : RdInts w (.slice a n c) l) (h' : RdInts w (.slice a' n' c') l') (e : w' = w.alloc (.cells #[.slice a n c, .slice a' n' c'] 36)) :
    RdRows w' (.slice (some ⟨w.heap.size, 0, none⟩) 2 2) [l, l'] := by
  have hk : Kp w w' := by subst e; exact below_alloc _
  have hb : w'.heap[w.heap.size]? = some (.cells #[.slice a n c, .slice a' n' c'] 36 (0, 0)) := by subst e; exact heap_alloc_new _ _
  refine ⟨_, 2, fun i => if i = 0 then .slice a n c else .slice a' n' c', rfl, by simp, fun _ => ⟨_, 0, rfl, fun i hi => ?_⟩, fun i hi => ?_⟩
  · rw [cell_row hb]
    match i, hi with
    | 0, _ => rfl
    | 1, _ => rfl
  · match i, hi with
    | 0, _ => exact h.below hk
    | 1, _ => exact h'.below hk

end Go.Proofs.Ytaephdjmpmbfpaa
