/- Texts of my own, merged by program: B5 G1 H1. -/
import Derived.Test.YtgalbokmgffhkaaN08
import Derived.Test.YtgalbokmgffhkaaN00
import Derived.Lib.SlicesCompact
import Derived.Test.YtgalbokmgffhkaaN05
set_option linter.all false
/- Contracts: colours, Contains at booleans, SortFunc of one list. -/
namespace Go.Proofs.Ytgalbokmgffhkaa
open Go.Lf Go.RowKit Go.Wg

/-- The colours that a number is made of. -/
def colsL : Nat → Int → List Int
  | 0, _ => []
  | a + 1, c => colsL a (c / 8) ++ [c % 8]
theorem colsL_len : ∀ (a : Nat) (c : Int), (colsL a c).length = a
  | 0, _ => rfl
  | a + 1, c => by rw [colsL, List.length_append, colsL_len a]; rfl

set_option maxRecDepth 100000 in
theorem colours_calls {a : Nat} {c : Int} (w : World) (ha : a ≤ 4) (h0 : 0 ≤ c) (h1 : c ≤ 4096) : Calls Try.prog 83 #[.int .i64 c, .int .i64 a] w fun e w' => ∃ v, e = .returned v ∧ Kp w w' ∧ IntsAt w.heap.size w' v (colsL a c) := by
  refine lift83 ?_
  unfold S83
  refine mk30' (by omega) fun v w1 hv k1 hvb => ?_
  simp (disch := omega) only [r_ln, r_pick, r_pickT, r_pickF, r_condT, r_condF, r_gdTT, r_gdFF, r_gdTF, r_gdFT, r_gqTT, r_gqFF, r_gqTF, r_gqFT, r_not, r_lss, r_leq, r_gtr, r_geq, r_eql, r_neq, r_add, r_sub, r_min2, r_max2, r_min3, r_max3, r_fa, r_iaS, r_iaA, r_ex2a, r_ex2b, r_ex3a, r_ex3b, r_ex3c, r_nc, r_keepE, Nat.zero_add, Nat.add_zero, Nat.mul_one, Int.toNat_natCast, toNat_sub1, toNat_add1, decide_true, decide_false, Bool.not_true, Bool.not_false, if_true, if_false, Bool.false_eq_true, reduceCtorEq]
  refine ⟨fun t0 t6 wr => ∃ (i : Nat) (d : Int) (suf : List Int), i ≤ a ∧ t6 = .int .i64 ((i : Int) - 1) ∧ t0 = .int .i64 d ∧ 0 ≤ d ∧ d ≤ 4096 ∧ colsL a c = colsL i d ++ suf ∧ IntsAt w.heap.size wr v (List.replicate i 0 ++ suf) ∧ Kp w wr, fun _ t6 _ => (intOf t6 + 1).toNat,
    ⟨a, c, [], by omega, rfl, rfl, h0, h1, by simp, by simpa using hv, k1⟩, ?_⟩
  rintro _ _ _ wr ⟨i, d, suf, hi, rfl, rfl, hd0, hd1, hc, hr, hk⟩
  by_cases hlt : 0 < i
  case neg =>
    have : i = 0 := by omega
    subst this
    have hlt' : ¬ (0 : Int) ≤ ((0 : Nat) : Int) - 1 := by omega
    simp (disch := omega) only [r_ln, r_pick, r_pickT, r_pickF, r_condT, r_condF, r_gdTT, r_gdFF, r_gdTF, r_gdFT, r_gqTT, r_gqFF, r_gqTF, r_gqFT, r_not, r_lss, r_leq, r_gtr, r_geq, r_eql, r_neq, r_add, r_sub, r_min2, r_max2, r_min3, r_max3, r_fa, r_iaS, r_iaA, r_ex2a, r_ex2b, r_ex3a, r_ex3b, r_ex3c, r_nc, r_keepE, Nat.zero_add, Nat.add_zero, Nat.mul_one, Int.toNat_natCast, toNat_sub1, toNat_add1, decide_true, decide_false, Bool.not_true, Bool.not_false, if_true, if_false, Bool.false_eq_true, reduceCtorEq, hlt']
    refine ⟨_, rfl, hk, ?_⟩
    rw [hc]
    simpa [colsL] using hr
  have hlt' : (0 : Int) ≤ (i : Int) - 1 := by omega
  obtain ⟨j, rfl⟩ : ∃ j, i = j + 1 := ⟨i - 1, by omega⟩
  have e1 : ((j + 1 : Nat) : Int) - 1 = (j : Int) := by omega
  rw [e1] at hlt' ⊢
  have hsl : (List.replicate (j + 1) (0 : Int) ++ suf).length = a := by
    have := congrArg List.length hc
    rw [List.length_append, colsL_len, colsL_len] at this
    rw [List.length_append, List.length_replicate]
    omega
  obtain ⟨g, cap, ev, hgb, gc, gf, gset⟩ := IntsAt.put hr (q := j) (by omega) (d % 8)
  subst ev
  rw [hsl]
  simp (disch := omega) only [r_ln, r_pick, r_pickT, r_pickF, r_condT, r_condF, r_gdTT, r_gdFF, r_gdTF, r_gdFT, r_gqTT, r_gqFF, r_gqTF, r_gqFT, r_not, r_lss, r_leq, r_gtr, r_geq, r_eql, r_neq, r_add, r_sub, r_min2, r_max2, r_min3, r_max3, r_fa, r_iaS, r_iaA, r_ex2a, r_ex2b, r_ex3a, r_ex3b, r_ex3c, r_nc, r_keepE, Nat.zero_add, Nat.add_zero, Nat.mul_one, Int.toNat_natCast, toNat_sub1, toNat_add1, decide_true, decide_false, Bool.not_true, Bool.not_false, if_true, if_false, Bool.false_eq_true, reduceCtorEq, decide_eq_true hlt', r_rem]
  rw [st3 gc gf]
  simp (disch := omega) only [r_ln, r_pick, r_pickT, r_pickF, r_condT, r_condF, r_gdTT, r_gdFF, r_gdTF, r_gdFT, r_gqTT, r_gqFF, r_gqTF, r_gqFT, r_not, r_lss, r_leq, r_gtr, r_geq, r_eql, r_neq, r_add, r_sub, r_min2, r_max2, r_min3, r_max3, r_fa, r_iaS, r_iaA, r_ex2a, r_ex2b, r_ex3a, r_ex3b, r_ex3c, r_nc, r_keepE, Nat.zero_add, Nat.add_zero, Nat.mul_one, Int.toNat_natCast, toNat_sub1, toNat_add1, decide_true, decide_false, Bool.not_true, Bool.not_false, if_true, if_false, Bool.false_eq_true, reduceCtorEq, r_quo]
  refine ⟨⟨j, d / 8, d % 8 :: suf, by omega, by go_num, rfl, by omega, by omega, by rw [hc, colsL]; simp, ?_, Kp.of_chg hk (Chg.setCell (S := fun k => k = g) _ _ rfl) fun k e => by omega⟩, by simp only [intOf]; omega⟩
  have e2 : (List.replicate (j + 1) (0 : Int) ++ suf).set j (d % 8) = List.replicate j 0 ++ d % 8 :: suf := by
    rw [List.replicate_succ', List.append_assoc, List.set_append_right _ _ (by simp)]
    simp
  rw [e2, hsl] at gset
  exact gset

theorem eqBl (x y : Bool) (w : World) (K : Value → Prop) : binQ Try.prog w .eql 4 false (.bool x) (.bool y) K = genQ Try.prog w (semBin .eql 4 false (.bool x) (.bool y)) K := by kernel_rfl
theorem r_eqlB {x y : Bool} {w : World} {K : Value → Prop} (h : K (.bool (x == y))) : binQ Try.prog w .eql 4 false (.bool x) (.bool y) K := by
  rw [eqBl]
  refine ⟨.bool (x == y), fun _ _ => ?_, h⟩
  cases x <;> cases y <;> kernel_rfl

set_option maxRecDepth 100000 in
/-- slices.Contains of true. -/
theorem containsB_calls {v : Value} {l : List Bool} (w : World) (hr : Rd 1 bC w v l) (hl : l.length ≤ 1000000) : Calls Try.prog 81 #[v, .bool true] w fun e w' => e = .returned (.bool (l.any id)) ∧ Kp w w' := by
  have hidx : Calls Try.prog 108 #[v, .bool true] w fun e w' => ∃ n : Int, e = .returned (.int .i64 n) ∧ decide (0 ≤ n) = l.any id ∧ Kp w w' := by
    obtain ⟨a, cap, rfl, hcap⟩ := hr.len
    refine lift108 ?_
    unfold S108
    simp only [r_ln, r_pick, r_pickT, r_pickF, r_condT, r_condF, r_gdTT, r_gdFF, r_gdTF, r_gdFT, r_gqTT, r_gqFF, r_gqTF, r_gqFT, r_not, r_lss, r_leq, r_gtr, r_geq, r_eql, r_neq, r_add, r_sub, r_min2, r_max2, r_min3, r_max3, r_fa, r_iaS, r_iaA, r_ex2a, r_ex2b, r_ex3a, r_ex3b, r_ex3c, r_nc, r_keepE, Nat.zero_add, Nat.add_zero, Nat.mul_one, Int.toNat_natCast, toNat_sub1, toNat_add1, decide_true, decide_false, Bool.not_true, Bool.not_false, if_true, if_false, Bool.false_eq_true, reduceCtorEq]
    refine ⟨fun t8 wr => ∃ i : Nat, i ≤ l.length ∧ t8 = .int .i64 i ∧ (l.take i).any id = false ∧ Kp w wr, fun t8 _ => l.length - (intOf t8).toNat, ⟨0, by omega, rfl, by simp, Kp.refl _⟩, ?_⟩
    rintro _ _ wr ⟨i, hi, rfl, hn, hk⟩
    by_cases hlt : i < l.length
    case neg =>
      have hlt' : ¬ (i : Int) < (l.length : Int) := by omega
      rw [List.take_of_length_le (by omega)] at hn
      simp (disch := omega) only [r_ln, r_pick, r_pickT, r_pickF, r_condT, r_condF, r_gdTT, r_gdFF, r_gdTF, r_gdFT, r_gqTT, r_gqFF, r_gqTF, r_gqFT, r_not, r_lss, r_leq, r_gtr, r_geq, r_eql, r_neq, r_add, r_sub, r_min2, r_max2, r_min3, r_max3, r_fa, r_iaS, r_iaA, r_ex2a, r_ex2b, r_ex3a, r_ex3b, r_ex3c, r_nc, r_keepE, Nat.zero_add, Nat.add_zero, Nat.mul_one, Int.toNat_natCast, toNat_sub1, toNat_add1, decide_true, decide_false, Bool.not_true, Bool.not_false, if_true, if_false, Bool.false_eq_true, reduceCtorEq, hlt']
      exact ⟨-1, rfl, by rw [hn]; decide, hk⟩
    have hlt' : (i : Int) < (l.length : Int) := by omega
    obtain ⟨b, off, _, e, _, hc⟩ := (hr.kp hk).at (i := i) (x := l.getD i false) (by rw [List.getElem?_eq_getElem hlt, getD_lt _ _ _ hlt])
    cases e
    have hc0 := hc 0 _ rfl
    simp only [Nat.mul_one, Nat.add_zero] at hc0
    simp (disch := omega) only [r_ln, r_pick, r_pickT, r_pickF, r_condT, r_condF, r_gdTT, r_gdFF, r_gdTF, r_gdFT, r_gqTT, r_gqFF, r_gqTF, r_gqFT, r_not, r_lss, r_leq, r_gtr, r_geq, r_eql, r_neq, r_add, r_sub, r_min2, r_max2, r_min3, r_max3, r_fa, r_iaS, r_iaA, r_ex2a, r_ex2b, r_ex3a, r_ex3b, r_ex3c, r_nc, r_keepE, Nat.zero_add, Nat.add_zero, Nat.mul_one, Int.toNat_natCast, toNat_sub1, toNat_add1, decide_true, decide_false, Bool.not_true, Bool.not_false, if_true, if_false, Bool.false_eq_true, reduceCtorEq, decide_eq_true hlt', r_ld hc0]
    refine r_eqlB ?_
    have htk : l.take (i + 1) = l.take i ++ [l.getD i false] := by rw [take_succ' _ _ hlt, getD_lt _ _ _ hlt]
    cases hp : l.getD i false with
    | true =>
      simp (disch := omega) only [r_ln, r_pick, r_pickT, r_pickF, r_condT, r_condF, r_gdTT, r_gdFF, r_gdTF, r_gdFT, r_gqTT, r_gqFF, r_gqTF, r_gqFT, r_not, r_lss, r_leq, r_gtr, r_geq, r_eql, r_neq, r_add, r_sub, r_min2, r_max2, r_min3, r_max3, r_fa, r_iaS, r_iaA, r_ex2a, r_ex2b, r_ex3a, r_ex3b, r_ex3c, r_nc, r_keepE, Nat.zero_add, Nat.add_zero, Nat.mul_one, Int.toNat_natCast, toNat_sub1, toNat_add1, decide_true, decide_false, Bool.not_true, Bool.not_false, if_true, if_false, Bool.false_eq_true, reduceCtorEq, beq_self_eq_true]
      refine ⟨i, rfl, ?_, hk⟩
      have : l.any id = true := List.any_eq_true.2 ⟨true, by rw [← hp]; exact getD_mem hlt, rfl⟩
      rw [this]
      exact decide_eq_true (by omega)
    | false =>
      have e : (true == false) = false := rfl
      simp (disch := omega) only [r_ln, r_pick, r_pickT, r_pickF, r_condT, r_condF, r_gdTT, r_gdFF, r_gdTF, r_gdFT, r_gqTT, r_gqFF, r_gqTF, r_gqFT, r_not, r_lss, r_leq, r_gtr, r_geq, r_eql, r_neq, r_add, r_sub, r_min2, r_max2, r_min3, r_max3, r_fa, r_iaS, r_iaA, r_ex2a, r_ex2b, r_ex3a, r_ex3b, r_ex3c, r_nc, r_keepE, Nat.zero_add, Nat.add_zero, Nat.mul_one, Int.toNat_natCast, toNat_sub1, toNat_add1, decide_true, decide_false, Bool.not_true, Bool.not_false, if_true, if_false, Bool.false_eq_true, reduceCtorEq, e]
      exact ⟨⟨i + 1, by omega, by go_num, by rw [htk, List.any_append, hn, hp]; rfl, hk⟩, by simp only [intOf]; omega⟩
  refine lift81 ?_
  unfold S81
  refine r_use fok108 hidx rfl ?_
  rintro _ w1 ⟨n, rfl, hn, k1⟩
  refine ⟨_, rfl, ?_⟩
  simp only [r_ln, r_pick, r_pickT, r_pickF, r_condT, r_condF, r_gdTT, r_gdFF, r_gdTF, r_gdFT, r_gqTT, r_gqFF, r_gqTF, r_gqFT, r_not, r_lss, r_leq, r_gtr, r_geq, r_eql, r_neq, r_add, r_sub, r_min2, r_max2, r_min3, r_max3, r_fa, r_iaS, r_iaA, r_ex2a, r_ex2b, r_ex3a, r_ex3b, r_ex3c, r_nc, r_keepE, Nat.zero_add, Nat.add_zero, Nat.mul_one, Int.toNat_natCast, toNat_sub1, toNat_add1, decide_true, decide_false, Bool.not_true, Bool.not_false, if_true, if_false, Bool.false_eq_true, reduceCtorEq, hn]
  exact ⟨by first | rfl | trivial, k1⟩

end Go.Proofs.Ytgalbokmgffhkaa

/- Rows, plainly: what is found, in order, without twins, is what the specification lists. -/
namespace Go.Proofs.Ytgalbokmgffhkaa
open Go.Wg

/-! ### ascending lists -/
theorem asc_eq : ∀ {a b : List Int}, a.Pairwise (· < ·) → b.Pairwise (· < ·) → (∀ x, x ∈ a ↔ x ∈ b) → a = b
  | [], [], _, _, _ => rfl
  | [], y :: b, _, _, h => absurd ((h y).2 (by simp)) (by simp)
  | x :: a, [], _, _, h => absurd ((h x).1 (by simp)) (by simp)
  | x :: a, y :: b, ha, hb, h => by
    have ha' := List.pairwise_cons.1 ha
    have hb' := List.pairwise_cons.1 hb
    have hxy : x = y := by
      rcases List.mem_cons.1 ((h x).1 (by simp)) with e | e
      · exact e
      · rcases List.mem_cons.1 ((h y).2 (by simp)) with e' | e'
        · exact e'.symm
        · have := hb'.1 x e
          have := ha'.1 y e'
          omega
    subst hxy
    rw [asc_eq ha'.2 hb'.2 fun z => ?_]
    constructor
    · intro hz
      rcases List.mem_cons.1 ((h z).1 (by simp [hz])) with e | e
      · have := ha'.1 z hz
        omega
      · exact e
    · intro hz
      rcases List.mem_cons.1 ((h z).2 (by simp [hz])) with e | e
      · have := hb'.1 z hz
        omega
      · exact e

/-- Without twins in a row. -/
def ddA : Int → List Int → List Int
  | _, [] => []
  | p, y :: l => if y = p then ddA p l else y :: ddA y l
theorem ddA_mem {p : Int} : ∀ {l : List Int} {p : Int} {x : Int}, x ∈ ddA p l → x ∈ l
  | y :: l, p, x, h => by
    rw [ddA] at h
    split at h
    · exact List.mem_cons_of_mem _ (ddA_mem (p := p) h)
    · rcases List.mem_cons.1 h with e | e
      · rw [e]; simp
      · exact List.mem_cons_of_mem _ (ddA_mem (p := p) e)

section
open Go.Lib
theorem keeps_head (x : Int) (l : List Int) : keeps (x :: l).toArray 0 = true := by simp [keeps]
theorem comp_mem {zs : List Int} (x : Int) : x ∈ compact zs ↔ x ∈ zs := by
  unfold compact compactUpTo
  simp only [List.mem_map, List.mem_filter, List.mem_range]
  constructor
  · rintro ⟨j, ⟨hj, _⟩, rfl⟩
    have : zs.toArray[j]! = zs[j] := by simp [hj]
    rw [this]
    exact List.getElem_mem hj
  · intro hx
    -- the first place that holds it
    have hlt := List.idxOf_lt_length_iff.2 hx
    have hg : zs[zs.idxOf x] = x := List.getElem_idxOf hlt
    refine ⟨zs.idxOf x, ⟨hlt, ?_⟩, by simp [hlt, hg]⟩
    unfold keeps
    rw [decide_eq_true_eq]
    by_cases h0 : zs.idxOf x = 0
    · exact .inl h0
    · right
      have hlt' : zs.idxOf x - 1 < zs.length := by omega
      have e1 : zs.toArray[zs.idxOf x]! = x := by simp [hlt, hg]
      have e2 : zs.toArray[zs.idxOf x - 1]! = zs[zs.idxOf x - 1] := by simp [hlt']
      rw [e1, e2]
      intro e
      have hb := List.not_of_lt_findIdx (p := fun y => y == x) (xs := zs) (i := zs.idxOf x - 1) (by show _ < zs.idxOf x; omega)
      simp at hb
      exact hb e.symm
theorem comp_asc {zs : List Int} (hz : zs.Pairwise (· ≤ ·)) : (compact zs).Pairwise (· < ·) := by
  unfold compact compactUpTo
  rw [List.pairwise_map]
  have hr : ((List.range zs.length).filter (keeps zs.toArray)).Pairwise (· < ·) := List.Pairwise.filter _ (List.pairwise_lt_range)
  refine List.Pairwise.imp_of_mem ?_ hr
  intro i j hi hj hij
  simp only [List.mem_filter, List.mem_range] at hi hj
  have e1 : zs.toArray[i]! = zs[i]'hi.1 := by simp [hi.1]
  have e2 : zs.toArray[j]! = zs[j]'hj.1 := by simp [hj.1]
  have hj1 : j - 1 < zs.length := by omega
  have e3 : zs.toArray[j - 1]! = zs[j - 1]'hj1 := by simp [hj1]
  have hk := hj.2
  unfold keeps at hk
  rw [decide_eq_true_eq, e2, e3] at hk
  rw [e1, e2]
  have hpw := List.pairwise_iff_getElem.1 hz
  have h1 : zs[i]'hi.1 ≤ zs[j - 1]'hj1 := by
    by_cases e : i = j - 1
    · subst e; exact Int.le_refl _
    · exact hpw i (j - 1) hi.1 hj1 (by omega)
  have h2 := hpw (j - 1) j hj1 hj.1 (by omega)
  rcases hk with h | h
  · omega
  · omega
end

/-! ### colours and their number -/
theorem code_push' (c : List Int) (x : Int) : code (c ++ [x]) = code c * 8 + x := code_push c x
theorem colsL_code : ∀ (n : Nat) (c : List Int), c.length = n → (∀ x ∈ c, 0 ≤ x ∧ x ≤ 7) → colsL n (code c) = c
  | 0, c, h, _ => by
    have : c = [] := List.length_eq_zero_iff.1 h
    subst this; rfl
  | n + 1, c, h, hc => by
    have hne : c ≠ [] := fun e => by rw [e] at h; simp at h
    have hsplit := List.dropLast_concat_getLast hne
    have hx := hc (c.getLast hne) (List.getLast_mem hne)
    have hd : ∀ x ∈ c.dropLast, 0 ≤ x ∧ x ≤ 7 := fun x hx => hc x (List.dropLast_subset _ hx)
    have hl : c.dropLast.length = n := by simp; omega
    have hcode : code c = code c.dropLast * 8 + c.getLast hne := by
      conv => lhs; rw [← hsplit]
      exact code_push _ _
    rw [colsL, hcode]
    have e1 : (code c.dropLast * 8 + c.getLast hne) / 8 = code c.dropLast := by omega
    have e2 : (code c.dropLast * 8 + c.getLast hne) % 8 = c.getLast hne := by omega
    rw [e1, e2, colsL_code n _ hl hd]
    exact hsplit

/-- The specification's lists come in order. -/
theorem rfrom_asc {l : List Tile} {nn : Option (List Int)} : ∀ (k : Nat) (s : List Int) (e : Nat), (∀ x ∈ s, 0 ≤ x ∧ x ≤ 7) → ((rfrom l nn k s e).map code).Pairwise (· < ·) ∧ ∀ r ∈ rfrom l nn k s e, code s * 8 ^ k ≤ code r ∧ code r < (code s + 1) * 8 ^ k
  | 0, s, e, _ => by
    refine ⟨by simp [rfrom], fun r hr => ?_⟩
    simp [rfrom] at hr
    rw [hr]
    simp
    omega
  | k + 1, s, e, hs => by
    have hp : (0 : Int) < 8 ^ k := Int.pow_pos (by omega)
    have one : ∀ c, c < 8 → ∀ x ∈ s ++ [((c : Nat) : Int)], 0 ≤ x ∧ x ≤ 7 := fun c hc x hx => by
      rcases List.mem_append.1 hx with h | h
      · exact hs x h
      · simp at h; omega
    have part : ∀ c, c < 8 → ∀ r ∈ (if nextE nn s.length e c l = 0 then [] else rfrom l nn k (s ++ [(c : Int)]) (nextE nn s.length e c l)), (code s * 8 + c) * 8 ^ k ≤ code r ∧ code r < (code s * 8 + c + 1) * 8 ^ k := fun c hc r hr => by
      split at hr
      · cases hr
      · have := (rfrom_asc (l := l) (nn := nn) k (s ++ [(c : Int)]) (nextE nn s.length e c l) (one c hc)).2 r hr
        rwa [code_push] at this
    have partAsc : ∀ c, c < 8 → ((if nextE nn s.length e c l = 0 then [] else rfrom l nn k (s ++ [(c : Int)]) (nextE nn s.length e c l)).map code).Pairwise (· < ·) := fun c hc => by
      split
      · simp
      · exact (rfrom_asc (l := l) (nn := nn) k (s ++ [(c : Int)]) (nextE nn s.length e c l) (one c hc)).1
    have pre : ∀ n, n ≤ 8 → (((List.range n).flatMap fun c => if nextE nn s.length e c l = 0 then [] else rfrom l nn k (s ++ [(c : Int)]) (nextE nn s.length e c l)).map code).Pairwise (· < ·) ∧ ∀ r ∈ (List.range n).flatMap (fun c => if nextE nn s.length e c l = 0 then [] else rfrom l nn k (s ++ [(c : Int)]) (nextE nn s.length e c l)), code s * 8 * 8 ^ k ≤ code r ∧ code r < (code s * 8 + n) * 8 ^ k := by
      intro n
      induction n with
      | zero => intro _; simp
      | succ n ih =>
        intro hn
        obtain ⟨i1, i2⟩ := ih (by omega)
        rw [List.range_succ, List.flatMap_append]
        simp only [List.flatMap_cons, List.flatMap_nil, List.append_nil]
        have hn8 : n < 8 := by omega
        refine ⟨?_, fun r hr => ?_⟩
        · rw [List.map_append, List.pairwise_append]
          refine ⟨i1, partAsc n hn8, fun a ha b hb => ?_⟩
          obtain ⟨r, hr, rfl⟩ := List.mem_map.1 ha
          obtain ⟨q, hq, rfl⟩ := List.mem_map.1 hb
          have h1 := (i2 r hr).2
          have h2 := (part n hn8 q hq).1
          omega
        · have e1 : (code s * 8 + ((n + 1 : Nat) : Int)) * 8 ^ k = (code s * 8 + n) * 8 ^ k + 8 ^ k := by
            rw [show (code s * 8 + ((n + 1 : Nat) : Int)) = (code s * 8 + n) + 1 by omega, Int.add_mul _ 1, Int.one_mul]
          have e2 : (code s * 8 + n + 1) * 8 ^ k = (code s * 8 + n) * 8 ^ k + 8 ^ k := by rw [Int.add_mul _ 1, Int.one_mul]
          have e3 : (code s * 8 + (n : Int)) * 8 ^ k = code s * 8 * 8 ^ k + n * 8 ^ k := Int.add_mul _ _ _
          have e4 : 0 ≤ (n : Int) * 8 ^ k := Int.mul_nonneg (by omega) (by omega)
          rcases List.mem_append.1 hr with h | h
          · have := i2 r h
            rw [e1]
            omega
          · have := part n hn8 r h
            rw [e1]
            rw [e2] at this
            omega
    obtain ⟨p1, p2⟩ := pre 8 (by omega)
    refine ⟨p1, fun r hr => ?_⟩
    have := p2 r hr
    have e1 : (8 : Int) ^ (k + 1) = 8 * 8 ^ k := by rw [Int.pow_succ, Int.mul_comm]
    rw [e1, ← Int.mul_assoc, ← Int.mul_assoc, Int.add_mul, Int.one_mul]
    exact ⟨this.1, by have := this.2; simpa using this⟩

/-- What the program finds. -/
def foundL (L : List Line) (c : Int) : List Int := (L.filter fun x => decide (x.2.1 = c)).map fun x => x.2.2.1

theorem rows_eq {l : List Tile} (hl : ∀ t ∈ l, colsB t = true) {n : List Int} (hn : ∀ x ∈ n, 0 ≤ x ∧ x ≤ 7) :
    (Go.Lib.compact ((foundL (linesL l n.length) (code n)).mergeSort fun x y => decide (x ≤ y))).map (colsL n.length) = rfrom l (some n) n.length [] 255 := by
  have hrow : ∀ s ∈ rfrom l (some n) n.length [] 255, s.length = n.length ∧ ∀ x ∈ s, 0 ≤ x ∧ x ≤ 7 := fun s hs => by
    obtain ⟨r, hr, _, rfl⟩ := (mem_under hl).1 hs
    obtain ⟨h1, h2, _⟩ := mem_rowsL.1 hr
    refine ⟨by simp [souths, h1], fun x hx => ?_⟩
    simp only [souths, List.mem_map] at hx
    obtain ⟨i, hi, rfl⟩ := hx
    exact (cols_range (hl (tl l i) (by unfold tl; exact getD_mem (h2 i hi)))).2.2.1
  have key : Go.Lib.compact ((foundL (linesL l n.length) (code n)).mergeSort fun x y => decide (x ≤ y)) = (rfrom l (some n) n.length [] 255).map code := by
    refine asc_eq (comp_asc ?_) (rfrom_asc n.length [] 255 (by simp)).1 fun x => ?_
    · have := List.pairwise_mergeSort (le := fun x y : Int => decide (x ≤ y)) (fun a b c h1 h2 => by simp only [decide_eq_true_eq] at *; omega) (fun a b => by simp only [Bool.or_eq_true, decide_eq_true_eq]; omega) (foundL (linesL l n.length) (code n))
      exact this.imp fun h => of_decide_eq_true h
    · rw [comp_mem, List.mem_mergeSort]
      simp only [foundL, List.mem_map, List.mem_filter, decide_eq_true_eq, linesL]
      constructor
      · rintro ⟨_, ⟨⟨r, hr, rfl⟩, hc⟩, rfl⟩
        obtain ⟨h1, h2, _⟩ := mem_rowsL.1 hr
        have hnr : norths l r = n := by
          refine code_inj (by simp [norths, h1]) (fun x hx => ?_) hn hc
          simp only [norths, List.mem_map] at hx
          obtain ⟨i, hi, rfl⟩ := hx
          exact (cols_range (hl (tl l i) (by unfold tl; exact getD_mem (h2 i hi)))).1
        exact ⟨souths l r, (mem_under hl).2 ⟨r, hr, hnr, rfl⟩, rfl⟩
      · rintro ⟨s, hs, rfl⟩
        obtain ⟨r, hr, hnr, rfl⟩ := (mem_under hl).1 hs
        exact ⟨lineOf l r, ⟨⟨r, hr, rfl⟩, by show code (norths l r) = _; rw [hnr]⟩, rfl⟩
  rw [key, List.map_map]
  conv => rhs; rw [← List.map_id (rfrom l (some n) n.length [] 255)]
  refine List.map_congr_left fun s hs => ?_
  obtain ⟨h1, h2⟩ := hrow s hs
  exact colsL_code n.length s h1 h2

end Go.Proofs.Ytgalbokmgffhkaa

/- Products, plainly: the program's tiles and the specification's. No program. -/
namespace Go.Proofs.Ytgalbokmgffhkaa
open Go.Wg

/-- A tile of one set above one of another. -/
def pairT (s t : Tile) : Tile := (tN s, tE s * 8 + tE t, tS t, tW s * 8 + tW t)
def under1 (b : List Tile) (s : Tile) : List Tile := (b.filter fun t => decide (tS s = tN t)).map (pairT s)
/-- All of them, twins too. -/
def allP (a b : List Tile) : List Tile := a.flatMap (under1 b)
/-- Each once, where it comes first. -/
def addU (acc : List Tile) (u : Tile) : List Tile := if u ∈ acc then acc else acc ++ [u]
def once (l : List Tile) : List Tile := l.foldl addU []
def ends (l : List Tile) : List Int := l.flatMap fun u => [tE u, tW u]

theorem once_append (l m : List Tile) : once (l ++ m) = m.foldl addU (once l) := List.foldl_append ..
theorem fold_mem {l : List Tile} : ∀ {acc : List Tile} {u : Tile}, u ∈ l.foldl addU acc ↔ u ∈ acc ∨ u ∈ l := by
  induction l with
  | nil => intro acc u; simp
  | cons x l ih =>
    intro acc u
    rw [List.foldl_cons, ih]
    unfold addU
    split
    · rename_i h
      simp only [List.mem_cons]
      constructor
      · rintro (h1 | h1)
        · exact .inl h1
        · exact .inr (.inr h1)
      · rintro (h1 | rfl | h1)
        · exact .inl h1
        · exact .inl h
        · exact .inr h1
    · simp only [List.mem_append, List.mem_cons, List.not_mem_nil, or_false, or_assoc]
theorem mem_once {l : List Tile} {u : Tile} : u ∈ once l ↔ u ∈ l := by simp [once, fold_mem]

theorem fold_map (f : Tile → Tile) : ∀ (l acc : List Tile), (∀ x ∈ acc ++ l, ∀ y ∈ acc ++ l, f x = f y → x = y) → (l.map f).foldl addU (acc.map f) = (l.foldl addU acc).map f
  | [], acc, _ => rfl
  | x :: l, acc, h => by
    rw [List.map_cons, List.foldl_cons, List.foldl_cons]
    have hmem : f x ∈ acc.map f ↔ x ∈ acc := by
      constructor
      · intro hx
        obtain ⟨y, hy, e⟩ := List.mem_map.1 hx
        have := h y (by simp [hy]) x (by simp) e
        rw [← this]; exact hy
      · exact fun hx => List.mem_map_of_mem hx
    have e : addU (acc.map f) (f x) = (addU acc x).map f := by
      unfold addU
      by_cases hx : x ∈ acc
      · rw [if_pos hx, if_pos (hmem.2 hx)]
      · rw [if_neg hx, if_neg (fun h => hx (hmem.1 h)), List.map_append]; rfl
    rw [e]
    refine fold_map f l (addU acc x) fun y hy z hz => h y ?_ z ?_
    · unfold addU at hy
      split at hy
      · rcases List.mem_append.1 hy with h1 | h1
        · simp [h1]
        · simp [h1]
      · simp at hy; simp [hy]
    · unfold addU at hz
      split at hz
      · rcases List.mem_append.1 hz with h1 | h1
        · simp [h1]
        · simp [h1]
      · simp at hz; simp [hz]
/-- What makes no two tiles one, makes no twins. -/
theorem once_map {f : Tile → Tile} {l : List Tile} (h : ∀ x ∈ l, ∀ y ∈ l, f x = f y → x = y) : once (l.map f) = (once l).map f := by
  have := fold_map f l [] (by simpa using h)
  simpa [once] using this

/-! ### the colours in use -/
def usedB (l : List Tile) (c : Nat) : Bool := l.any fun u => decide (tE u = (c : Int)) || decide (tW u = (c : Int))
theorem usedB_iff {l : List Tile} {c : Nat} : usedB l c = true ↔ ∃ u ∈ l, tE u = (c : Int) ∨ tW u = (c : Int) := by
  simp [usedB, List.any_eq_true]
def cnt (l : List Tile) (i : Nat) : Nat := ((List.range i).filter (usedB l)).length
def codesP (l : List Tile) : List Int := ((List.range 64).filter (usedB l)).map fun c : Nat => (c : Int)
theorem codesP_len (l : List Tile) : (codesP l).length = cnt l 64 := by simp [codesP, cnt]
theorem cnt_succ (l : List Tile) (i : Nat) : cnt l (i + 1) = cnt l i + if usedB l i = true then 1 else 0 := by
  unfold cnt
  rw [List.range_succ, List.filter_append, List.length_append]
  congr 1
  by_cases h : usedB l i = true
  · simp [h]
  · simp [h]
theorem cnt_le (l : List Tile) (i : Nat) : cnt l i ≤ i := by
  have := List.length_filter_le (usedB l) (List.range i)
  simpa [cnt] using this
theorem cnt_mono (l : List Tile) {i j : Nat} (h : i ≤ j) : cnt l i ≤ cnt l j := by
  induction j with
  | zero => have : i = 0 := by omega
            subst this; exact Nat.le_refl _
  | succ j ih =>
    rw [cnt_succ]
    by_cases e : i = j + 1
    · rw [e, cnt_succ]; exact Nat.le_refl _
    · have := ih (by omega)
      omega
theorem cnt_lt (l : List Tile) {i j : Nat} (h : i < j) (hu : usedB l i = true) : cnt l i < cnt l j := by
  have h1 := cnt_mono l (show i + 1 ≤ j by omega)
  rw [cnt_succ, if_pos hu] at h1
  omega

/-- Well coloured pairs. -/
def pairOk (l : List Tile) : Prop := ∀ u ∈ l, (0 ≤ tE u ∧ tE u < 64) ∧ 0 ≤ tW u ∧ tW u < 64
theorem allP_ok {a b : List Tile} (ha : ∀ t ∈ a, colsB t = true) (hb : ∀ t ∈ b, colsB t = true) : pairOk (allP a b) := by
  intro u hu
  simp only [allP, List.mem_flatMap, under1, List.mem_map, List.mem_filter] at hu
  obtain ⟨s, hs, t, ⟨ht, _⟩, rfl⟩ := hu
  have h1 := cols_range (ha s hs)
  have h2 := cols_range (hb t ht)
  show (0 ≤ tE s * 8 + tE t ∧ tE s * 8 + tE t < 64) ∧ 0 ≤ tW s * 8 + tW t ∧ tW s * 8 + tW t < 64
  omega

theorem mem_codes {l : List Tile} (h : pairOk l) {c : Int} : c ∈ codesP l ↔ ∃ u ∈ l, tE u = c ∨ tW u = c := by
  simp only [codesP, List.mem_map, List.mem_filter, List.mem_range]
  constructor
  · rintro ⟨n, ⟨_, hu⟩, rfl⟩
    exact usedB_iff.1 hu
  · rintro ⟨u, hu, hc⟩
    have := h u hu
    refine ⟨c.toNat, ⟨by omega, usedB_iff.2 ⟨u, hu, ?_⟩⟩, by omega⟩
    rcases hc with rfl | rfl
    · left; omega
    · right; omega
theorem codes_asc (l : List Tile) : (codesP l).Pairwise (· < ·) := by
  unfold codesP
  rw [List.pairwise_map]
  have hr : ((List.range 64).filter (usedB l)).Pairwise (· < ·) := List.Pairwise.filter _ List.pairwise_lt_range
  exact hr.imp fun h => by omega
/-- Where a colour stands among those in use. -/
theorem idx_codes {l : List Tile} {c : Nat} (hc : c < 64) (hu : usedB l c = true) : idxI (codesP l) (c : Int) = cnt l c := by
  have hsplit : List.range 64 = List.range c ++ c :: (List.range (64 - c - 1)).map (fun i => c + 1 + i) := by
    have e : 64 = c + (1 + (64 - c - 1)) := by omega
    conv => lhs; rw [e, List.range_add, List.range_add]
    simp [Nat.add_assoc]
  have hform : codesP l = (((List.range c).filter (usedB l)).map fun c : Nat => (c : Int)) ++ (c : Int) :: ((((List.range (64 - c - 1)).map (fun i => c + 1 + i)).filter (usedB l)).map fun c : Nat => (c : Int)) := by
    rw [codesP, hsplit, List.filter_append, List.filter_cons, if_pos hu, List.map_append, List.map_cons]
  have hlen : (((List.range c).filter (usedB l)).map fun c : Nat => (c : Int)).length = cnt l c := by simp [cnt]
  refine idx_first ?_ ?_
  · rw [hform, List.getElem?_append_right (by rw [hlen]; exact Nat.le_refl _), hlen]
    simp
  · rw [hform, List.take_append_of_le_length (by rw [hlen]; exact Nat.le_refl _)]
    intro hm
    have hm := List.mem_of_mem_take hm
    simp only [List.mem_map, List.mem_filter, List.mem_range] at hm
    obtain ⟨n, ⟨hn, _⟩, e⟩ := hm
    omega

def renC (cs : List Int) (t : Tile) : Tile := (tN t, idxI cs (tE t), tS t, idxI cs (tW t))
/-- By the specification's numbers. -/
def renS (l : List Tile) (t : Tile) : Tile := (tN t, (cnt l (tE t).toNat : Nat), tS t, (cnt l (tW t).toNat : Nat))
theorem ren_eq {l : List Tile} (h : pairOk l) {t : Tile} (ht : t ∈ l) : renC (codesP l) t = renS l t := by
  have hp := h t ht
  have e1 : idxI (codesP l) (tE t) = cnt l (tE t).toNat := by
    have := idx_codes (l := l) (c := (tE t).toNat) (by omega) (usedB_iff.2 ⟨t, ht, .inl (by omega)⟩)
    rwa [show (((tE t).toNat : Nat) : Int) = tE t by omega] at this
  have e2 : idxI (codesP l) (tW t) = cnt l (tW t).toNat := by
    have := idx_codes (l := l) (c := (tW t).toNat) (by omega) (usedB_iff.2 ⟨t, ht, .inr (by omega)⟩)
    rwa [show (((tW t).toNat : Nat) : Int) = tW t by omega] at this
  rw [renC, renS, e1, e2]
theorem cnt_inj {l : List Tile} {i j : Nat} (hi : usedB l i = true) (hj : usedB l j = true) (h : cnt l i = cnt l j) : i = j := by
  rcases Nat.lt_trichotomy i j with h1 | h1 | h1
  · have := cnt_lt l h1 hi; omega
  · exact h1
  · have := cnt_lt l h1 hj; omega
theorem renS_inj {l : List Tile} (h : pairOk l) : ∀ x ∈ l, ∀ y ∈ l, renS l x = renS l y → x = y := by
  intro x hx y hy e
  have px := h x hx
  have py := h y hy
  simp only [renS, Prod.mk.injEq] at e
  obtain ⟨e1, e2, e3, e4⟩ := e
  have u1 : usedB l (tE x).toNat = true := usedB_iff.2 ⟨x, hx, .inl (by omega)⟩
  have u2 : usedB l (tE y).toNat = true := usedB_iff.2 ⟨y, hy, .inl (by omega)⟩
  have u3 : usedB l (tW x).toNat = true := usedB_iff.2 ⟨x, hx, .inr (by omega)⟩
  have u4 : usedB l (tW y).toNat = true := usedB_iff.2 ⟨y, hy, .inr (by omega)⟩
  have g1 := cnt_inj u1 u2 (by omega)
  have g2 := cnt_inj u3 u4 (by omega)
  have f2 : tE x = tE y := by omega
  have f4 : tW x = tW y := by omega
  exact Prod.ext e1 (Prod.ext f2 (Prod.ext e3 f4))

/-- What Product returns. -/
def prodF (l : List Tile) : Bool := decide (16 < (once l).length) || decide (8 < cnt l 64)
def prodT (l : List Tile) : List Tile := (once l).map (renC (codesP l))
theorem prod_spec {l : List Tile} (h : pairOk l) : once (l.map (renS l)) = prodT l := by
  rw [once_map (renS_inj h), prodT]
  refine List.map_congr_left fun t ht => (ren_eq h (mem_once.1 ht)).symm
/-- The program's list of colours is the list of the colours in use. -/
theorem comp_ends {l : List Tile} (h : pairOk l) : Go.Lib.compact ((ends (once l)).mergeSort fun x y => decide (x ≤ y)) = codesP l := by
  refine asc_eq (comp_asc ?_) (codes_asc l) fun x => ?_
  · have := List.pairwise_mergeSort (le := fun x y : Int => decide (x ≤ y)) (fun a b c h1 h2 => by simp only [decide_eq_true_eq] at *; omega) (fun a b => by simp only [Bool.or_eq_true, decide_eq_true_eq]; omega) (ends (once l))
    exact this.imp fun h => of_decide_eq_true h
  · rw [comp_mem, List.mem_mergeSort, mem_codes h]
    simp only [ends, List.mem_flatMap, mem_once]
    constructor
    · rintro ⟨u, hu, hx⟩
      simp at hx
      exact ⟨u, hu, by rcases hx with h | h <;> simp [h]⟩
    · rintro ⟨u, hu, hx⟩
      exact ⟨u, hu, by rcases hx with h | h <;> simp [h]⟩

theorem once_len_le (l : List Tile) : (once l).length ≤ l.length := by
  have key : ∀ (l acc : List Tile), (l.foldl addU acc).length ≤ acc.length + l.length := by
    intro l
    induction l with
    | nil => intro acc; simp
    | cons x l ih =>
      intro acc
      rw [List.foldl_cons]
      have := ih (addU acc x)
      have h2 : (addU acc x).length ≤ acc.length + 1 := by unfold addU; split <;> simp
      simp only [List.length_cons]
      omega
  simpa [once] using key l []
theorem allP_len {a b : List Tile} : (allP a b).length ≤ a.length * b.length := by
  unfold allP
  induction a with
  | nil => simp
  | cons s a ih =>
    rw [List.flatMap_cons, List.length_append, List.length_cons, Nat.add_mul, Nat.one_mul]
    have : (under1 b s).length ≤ b.length := by rw [under1, List.length_map]; exact List.length_filter_le _ _
    omega
theorem ends_len (l : List Tile) : (ends l).length = 2 * l.length := by
  unfold ends
  induction l with
  | nil => rfl
  | cons x l ih => rw [List.flatMap_cons, List.length_append, ih]; simp; omega

end Go.Proofs.Ytgalbokmgffhkaa
