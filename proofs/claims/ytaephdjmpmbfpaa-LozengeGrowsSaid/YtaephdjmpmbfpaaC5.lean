/- Contract: Heap of the specification. -/
import Derived.Test.YtaephdjmpmbfpaaC4
set_option linter.all false
namespace Go.Proofs.Ytaephdjmpmbfpaa
open Go.Lf Go.RowKit Go.Hp

abbrev nilS : Value := .slice none 0 0

/-- What Heap of the specification hands back. -/
def RefHeap (A B C rank : Int) (w w' : World) (v : Value) (err : Int) : Prop :=
  if validB A B C = false then v = nilS ∧ err = 2 else
  if rank < 0 then v = nilS ∧ err = 4 else
  match iterN A.toNat B.toNat C rank.toNat with
  | none => v = nilS ∧ err = 4
  | some h => NewRows w w' v h ∧ err = 0

set_option maxRecDepth 100000 in
theorem refheap_calls (A B C rank : Int) (w : World) (hr : rank ≤ 9223372036854775807) :
    Calls Try.prog 34 #[boxV A B C, .int .i64 rank] w fun e w' => ∃ v err, e = .returned (.tuple #[v, .int .i64 err]) ∧ Kp w w' ∧ RefHeap A B C rank w w' v err := by
  refine lift34 ?_
  unfold S34
  refine r_box fun b w1 hbw hsz hb hk => ?_
  simp (disch := omega) only [r_ln, r_pick, r_pickT, r_pickF, r_condT, r_condF, r_gdTT, r_gdFF, r_gdTF, r_gdFT, r_gqTT, r_gqFF, r_gqTF, r_gqFT, r_not, r_lss, r_leq, r_gtr, r_geq, r_eql, r_neq, r_add, r_sub, r_min2, r_max2, r_min3, r_max3, r_fa, r_iaS, r_iaA, r_ex2a, r_ex2b, r_ex3a, r_ex3b, r_ex3c, r_nc, r_keepE, Nat.zero_add, Nat.add_zero, Nat.mul_one, Int.toNat_natCast, toNat_sub1, toNat_add1, decide_true, decide_false, Bool.not_true, Bool.not_false, if_true, if_false, Bool.false_eq_true, reduceCtorEq, r_ldRow (n := 3) hb rfl]
  refine r_use fok62 (good_calls A B C w1) rfl ?_
  rintro e w2 ⟨rfl, hk2⟩
  refine ⟨_, rfl, ?_⟩
  have hkw2 := Kp.trans hk hk2
  have hb2 := block_below hb hk2
  by_cases hv : validB A B C = true
  case neg =>
    have hv' : validB A B C = false := by simpa using hv
    simp (disch := omega) only [r_ln, r_pick, r_pickT, r_pickF, r_condT, r_condF, r_gdTT, r_gdFF, r_gdTF, r_gdFT, r_gqTT, r_gqFF, r_gqTF, r_gqFT, r_not, r_lss, r_leq, r_gtr, r_geq, r_eql, r_neq, r_add, r_sub, r_min2, r_max2, r_min3, r_max3, r_fa, r_iaS, r_iaA, r_ex2a, r_ex2b, r_ex3a, r_ex3b, r_ex3c, r_nc, r_keepE, Nat.zero_add, Nat.add_zero, Nat.mul_one, Int.toNat_natCast, toNat_sub1, toNat_add1, decide_true, decide_false, Bool.not_true, Bool.not_false, if_true, if_false, Bool.false_eq_true, reduceCtorEq, hv']
    exact ⟨nilS, 2, rfl, hkw2, by simp [RefHeap, hv']⟩
  have hvp := of_decide_eq_true hv
  by_cases hneg : rank < 0
  case pos =>
    simp (disch := omega) only [r_ln, r_pick, r_pickT, r_pickF, r_condT, r_condF, r_gdTT, r_gdFF, r_gdTF, r_gdFT, r_gqTT, r_gqFF, r_gqTF, r_gqFT, r_not, r_lss, r_leq, r_gtr, r_geq, r_eql, r_neq, r_add, r_sub, r_min2, r_max2, r_min3, r_max3, r_fa, r_iaS, r_iaA, r_ex2a, r_ex2b, r_ex3a, r_ex3b, r_ex3c, r_nc, r_keepE, Nat.zero_add, Nat.add_zero, Nat.mul_one, Int.toNat_natCast, toNat_sub1, toNat_add1, decide_true, decide_false, Bool.not_true, Bool.not_false, if_true, if_false, Bool.false_eq_true, reduceCtorEq, hv, hneg]
    exact ⟨nilS, 4, rfl, hkw2, by simp [RefHeap, hv, hneg]⟩
  simp (disch := omega) only [r_ln, r_pick, r_pickT, r_pickF, r_condT, r_condF, r_gdTT, r_gdFF, r_gdTF, r_gdFT, r_gqTT, r_gqFF, r_gqTF, r_gqFT, r_not, r_lss, r_leq, r_gtr, r_geq, r_eql, r_neq, r_add, r_sub, r_min2, r_max2, r_min3, r_max3, r_fa, r_iaS, r_iaA, r_ex2a, r_ex2b, r_ex3a, r_ex3b, r_ex3c, r_nc, r_keepE, Nat.zero_add, Nat.add_zero, Nat.mul_one, Int.toNat_natCast, toNat_sub1, toNat_add1, decide_true, decide_false, Bool.not_true, Bool.not_false, if_true, if_false, Bool.false_eq_true, reduceCtorEq, hv, hneg, r_ldRow (n := 3) hb2 rfl]
  obtain ⟨a, rfl⟩ := Int.eq_ofNat_of_zero_le (show 0 ≤ A by omega)
  obtain ⟨b', rfl⟩ := Int.eq_ofNat_of_zero_le (show 0 ≤ B by omega)
  obtain ⟨n, rfl⟩ := Int.eq_ofNat_of_zero_le (show 0 ≤ rank by omega)
  refine r_use fok66 (empty_calls a b' C w2 (by omega) (by omega) (by omega)) rfl ?_
  rintro e w3 ⟨v, rfl, hk3, g, bs, ho, hg, hbs⟩
  refine ⟨_, rfl, ?_⟩
  have hkw3 := Kp.trans hkw2 hk3
  have hb3 := block_below hb2 hk3
  have hlz : (zeros a b').length = a := by simp [zeros]
  have hbnew : ∀ i, i < a → w2.heap.size ≤ bs i := fun i hi => hbs i (by simpa using hi)
  have hblt := block_lt hb2
  have hS : ∀ k, (∃ i, i < a ∧ k = bs i) → w.heap.size ≤ k := fun k ⟨i, hi, e⟩ => by have := hbnew i hi; have := hkw2.size; omega
  have hSb : ¬ (∃ i, i < a ∧ b = bs i) := fun ⟨i, hi, e⟩ => by have := hbnew i hi; omega
  refine ⟨fun t7 wr => ∃ i : Nat, i ≤ n ∧ t7 = .int .i64 i ∧ Chg (fun k => ∃ i, i < a ∧ k = bs i) w3 wr ∧ ∃ h, iterN a b' C i = some h ∧ OwnRows wr v g bs h, fun t7 _ => n - (intOf t7).toNat,
    ⟨0, by omega, rfl, Chg.refl _ _, zeros a b', rfl, ho⟩, ?_⟩
  rintro _ _ wr ⟨i, hi, rfl, hch, h, hit, hoh⟩
  have hb4 := hch.at hb3 hSb
  obtain ⟨hsz4, hnn4⟩ := iterN_keeps (by omega) i h hit
  have hkwr : Kp w wr := Kp.of_chg hkw3 hch hS
  by_cases hlt : i < n
  case neg =>
    have hlt' : ¬ (i : Int) < (n : Int) := by omega
    simp (disch := omega) only [r_ln, r_pick, r_pickT, r_pickF, r_condT, r_condF, r_gdTT, r_gdFF, r_gdTF, r_gdFT, r_gqTT, r_gqFF, r_gqTF, r_gqFT, r_not, r_lss, r_leq, r_gtr, r_geq, r_eql, r_neq, r_add, r_sub, r_min2, r_max2, r_min3, r_max3, r_fa, r_iaS, r_iaA, r_ex2a, r_ex2b, r_ex3a, r_ex3b, r_ex3c, r_nc, r_keepE, Nat.zero_add, Nat.add_zero, Nat.mul_one, Int.toNat_natCast, toNat_sub1, toNat_add1, decide_true, decide_false, Bool.not_true, Bool.not_false, if_true, if_false, Bool.false_eq_true, reduceCtorEq, hlt']
    refine ⟨v, 0, rfl, hkwr, ?_⟩
    have hin : i = n := by omega
    subst hin
    simp only [RefHeap, hv, Bool.true_eq_false, if_false, Int.toNat_natCast, hit]
    rw [if_neg (by omega)]
    exact ⟨⟨g, bs, hoh, by have := hkw2.size; omega, fun k hk' => by rw [hsz4.1] at hk'; exact hS _ ⟨k, hk', rfl⟩⟩, trivial⟩
  have hlt' : (i : Int) < (n : Int) := by omega
  simp (disch := omega) only [r_ln, r_pick, r_pickT, r_pickF, r_condT, r_condF, r_gdTT, r_gdFF, r_gdTF, r_gdFT, r_gqTT, r_gqFF, r_gqTF, r_gqFT, r_not, r_lss, r_leq, r_gtr, r_geq, r_eql, r_neq, r_add, r_sub, r_min2, r_max2, r_min3, r_max3, r_fa, r_iaS, r_iaA, r_ex2a, r_ex2b, r_ex3a, r_ex3b, r_ex3c, r_nc, r_keepE, Nat.zero_add, Nat.add_zero, Nat.mul_one, Int.toNat_natCast, toNat_sub1, toNat_add1, decide_true, decide_false, Bool.not_true, Bool.not_false, if_true, if_false, Bool.false_eq_true, reduceCtorEq, hlt', r_ldRow (n := 3) hb4 rfl]
  refine r_use fok23 (next_calls a b' C v g bs h wr (by omega) (by omega) (by omega) (by omega) hoh hsz4 hnn4) rfl ?_
  rintro e w5 ⟨rfl, ho5, hch5⟩
  refine ⟨_, rfl, ?_⟩
  rw [hsz4.1] at hch5
  have hkw5 : Kp w w5 := Kp.of_chg hkwr hch5 hS
  cases hnx : nextM a b' C h with
  | none =>
    simp (disch := omega) only [r_ln, r_pick, r_pickT, r_pickF, r_condT, r_condF, r_gdTT, r_gdFF, r_gdTF, r_gdFT, r_gqTT, r_gqFF, r_gqTF, r_gqFT, r_not, r_lss, r_leq, r_gtr, r_geq, r_eql, r_neq, r_add, r_sub, r_min2, r_max2, r_min3, r_max3, r_fa, r_iaS, r_iaA, r_ex2a, r_ex2b, r_ex3a, r_ex3b, r_ex3c, r_nc, r_keepE, Nat.zero_add, Nat.add_zero, Nat.mul_one, Int.toNat_natCast, toNat_sub1, toNat_add1, decide_true, decide_false, Bool.not_true, Bool.not_false, if_true, if_false, Bool.false_eq_true, reduceCtorEq, Option.isSome_none]
    refine ⟨nilS, 4, rfl, hkw5, ?_⟩
    have : iterN a b' C n = none := by
      have h1 : iterN a b' C (i + 1) = none := by simp [iterN, hit, hnx]
      have := iterN_none h1 (n - (i + 1))
      rwa [show i + 1 + (n - (i + 1)) = n by omega] at this
    simp only [RefHeap, hv, Bool.true_eq_false, if_false, Int.toNat_natCast, this]
    rw [if_neg (by omega)]
    exact ⟨trivial, trivial⟩
  | some h' =>
    rw [hnx] at ho5
    simp (disch := omega) only [r_ln, r_pick, r_pickT, r_pickF, r_condT, r_condF, r_gdTT, r_gdFF, r_gdTF, r_gdFT, r_gqTT, r_gqFF, r_gqTF, r_gqFT, r_not, r_lss, r_leq, r_gtr, r_geq, r_eql, r_neq, r_add, r_sub, r_min2, r_max2, r_min3, r_max3, r_fa, r_iaS, r_iaA, r_ex2a, r_ex2b, r_ex3a, r_ex3b, r_ex3c, r_nc, r_keepE, Nat.zero_add, Nat.add_zero, Nat.mul_one, Int.toNat_natCast, toNat_sub1, toNat_add1, decide_true, decide_false, Bool.not_true, Bool.not_false, if_true, if_false, Bool.false_eq_true, reduceCtorEq, Option.isSome_some]
    exact ⟨⟨i + 1, by omega, by go_num, hch.trans hch5, h', by simp [iterN, hit, hnx], ho5⟩, by simp only [intOf]; omega⟩

end Go.Proofs.Ytaephdjmpmbfpaa
