/- Texts of my own, merged by program: N6 Sf Said. -/
import Derived.Test.YtaephdjmpmbfpaaM18
import Derived.Test.YtaephdjmpmbfpaaM11
import Derived.Test.YtaephdjmpmbfpaaM02
import Derived.ProofKit
import Derived.OpenShut
set_option linter.all false
/- Contract: Corners of the specification. -/
namespace Go.Proofs.Ytaephdjmpmbfpaa
open Go.Lf Go.RowKit Go.Hp

theorem put2_put2 (h : List (List Int)) {i j : Nat} (x y : Int) (hi : i < h.length) : put2 (put2 h i j x) i j y = put2 h i j y := by
  have e : (put2 h i j x).getD i [] = (h.getD i []).set j x := by rw [put2_row h i j i x hi, if_pos rfl]
  unfold put2 at e ⊢
  rw [e, List.set_set, List.set_set]
theorem put2_self {A B : Nat} {h : List (List Int)} (hs : Sized A B h) {i j : Nat} (hi : i < A) (hj : j < B) : put2 h i j (hat h i j) = h :=
  heap_ext (put2_sized hs hi _) hs fun a b ha hb => by
    rw [put2_hat h i j a b _ (by rw [hs.1]; exact hi) (by rw [hs.2 i hi]; exact hj)]
    split
    · rename_i e
      rw [e.1, e.2]
    · rfl

theorem added_iff {A B C : Nat} {h : List (List Int)} (hh : IsHeap A B C h) {i j : Nat} (hi : i < A) (hj : j < B) : IsHeap A B C (put2 h i j (hat h i j + 1)) ↔ addB C h (i, j) = true := by
  have hs := sized_of hh
  have hat' : ∀ k l, hat (put2 h i j (hat h i j + 1)) k l = if k = i ∧ l = j then hat h i j + 1 else hat h k l := fun k l => put2_hat h i j k l _ (by rw [hs.1]; exact hi) (by rw [hs.2 i hi]; exact hj)
  have hlen := put2_length h i j (hat h i j + 1)
  have hl := hs.1
  have hp0 := hh.pos i j (by omega) (by omega)
  unfold addB
  simp only [decide_eq_true_eq]
  constructor
  · intro g
    refine ⟨?_, ?_, ?_⟩
    · have := g.top i j (by omega) (by omega)
      rw [hat', if_pos ⟨rfl, rfl⟩] at this
      omega
    · by_cases e : j = 0
      · exact .inl e
      · right
        have := g.left i (j - 1) (by omega) (by omega)
        rw [show j - 1 + 1 = j by omega, hat', hat', if_pos ⟨rfl, rfl⟩, if_neg (by omega)] at this
        omega
    · by_cases e : i = 0
      · exact .inl e
      · right
        have := g.up (i - 1) j (by omega) (by omega)
        rw [show i - 1 + 1 = i by omega, hat', hat', if_pos ⟨rfl, rfl⟩, if_neg (by omega)] at this
        omega
  · rintro ⟨h1, h2, h3⟩
    refine ⟨by rw [hlen]; exact hh.len, fun k hk => by rw [put2_len _ _ _ _ _ (by omega)]; exact hh.row k (by omega), fun k l hk hl => ?_, fun k l hk hl => ?_, fun k l hk hl => ?_, fun k l hk hl => ?_⟩
    · rw [hat']
      have := hh.pos k l (by omega) hl
      split <;> omega
    · rw [hat']
      have := hh.top k l (by omega) hl
      split <;> omega
    · rw [hat', hat']
      have := hh.left k l (by omega) hl
      by_cases e1 : k = i ∧ l + 1 = j
      · rw [if_pos e1, if_neg (by omega)]
        obtain ⟨rfl, rfl⟩ := e1
        rcases h2 with h2 | h2
        · omega
        · rw [show l + 1 - 1 = l by omega] at h2; omega
      · rw [if_neg e1]
        by_cases e2 : k = i ∧ l = j
        · rw [if_pos e2]
          obtain ⟨rfl, rfl⟩ := e2
          omega
        · rw [if_neg e2]; exact this
    · rw [hat', hat']
      have := hh.up k l (by omega) hl
      by_cases e1 : k + 1 = i ∧ l = j
      · rw [if_pos e1, if_neg (by omega)]
        obtain ⟨rfl, rfl⟩ := e1
        rcases h3 with h3 | h3
        · omega
        · rw [show k + 1 - 1 = k by omega] at h3; omega
      · rw [if_neg e1]
        by_cases e2 : k = i ∧ l = j
        · rw [if_pos e2]
          obtain ⟨rfl, rfl⟩ := e2
          omega
        · rw [if_neg e2]; exact this

theorem taken_iff {A B C : Nat} {h : List (List Int)} (hh : IsHeap A B C h) {i j : Nat} (hi : i < A) (hj : j < B) : IsHeap A B C (put2 h i j (hat h i j - 1)) ↔ takeB A B h (i, j) = true := by
  have hs := sized_of hh
  have hat' : ∀ k l, hat (put2 h i j (hat h i j - 1)) k l = if k = i ∧ l = j then hat h i j - 1 else hat h k l := fun k l => put2_hat h i j k l _ (by rw [hs.1]; exact hi) (by rw [hs.2 i hi]; exact hj)
  have hlen := put2_length h i j (hat h i j - 1)
  have hl := hs.1
  constructor
  · intro g
    unfold takeB
    simp only [decide_eq_true_eq]
    refine ⟨?_, ?_, ?_⟩
    · have := g.pos i j (by omega) (by omega)
      rw [hat', if_pos ⟨rfl, rfl⟩] at this
      omega
    · by_cases e : j + 1 = B
      · exact .inl e
      · right
        have := g.left i j (by omega) (by omega)
        rw [hat', hat', if_neg (by omega), if_pos ⟨rfl, rfl⟩] at this
        omega
    · by_cases e : i + 1 = A
      · exact .inl e
      · right
        have := g.up i j (by omega) (by omega)
        rw [hat', hat', if_neg (by omega), if_pos ⟨rfl, rfl⟩] at this
        omega
  · intro g
    refine (taken_heap hh (mem_takeL.2 ⟨⟨hi, hj⟩, ?_⟩)).1
    simpa [takeB] using g

theorem heapOk_eq {A B C : Int} {h : List (List Int)} {x : Bool} (e : IsHeap A B C h ↔ x = true) : heapOk A B C h = x := by
  rw [Bool.eq_iff_iff, heapOk_iff, e]

set_option maxRecDepth 100000 in
set_option maxHeartbeats 1000000 in
theorem refcorners_calls (A B C : Int) (v : Value) (h : List (List Int)) (w : World) (hr : RdRows w v h) :
    Calls Try.prog 44 #[boxV A B C, v] w fun e w' => ∃ v8 v9 err, e = .returned (.tuple #[v8, v9, .int .i64 err]) ∧ Kp w w' ∧ CornRes A B C h w w' v8 v9 err := by
  refine lift44 ?_
  unfold S44
  refine r_box fun b w1 hbw hsz hb hk => ?_
  rw [r_ldRow (n := 3) hb rfl]
  refine r_use fok62 (good_calls A B C w1) rfl ?_
  rintro _ w2 ⟨rfl, k2⟩
  refine ⟨_, rfl, ?_⟩
  have hk2 := Kp.trans hk k2
  have h20 : ¬ ((2 : Int) = 0) := by decide
  by_cases hv : validB A B C = true
  case neg =>
    have hv' : validB A B C = false := by simpa using hv
    have he : heapErr A B C h = 2 := by unfold heapErr; rw [if_neg fun e => hv e.1]
    simp (disch := omega) only [r_ln, r_pick, r_pickT, r_pickF, r_condT, r_condF, r_gdTT, r_gdFF, r_gdTF, r_gdFT, r_gqTT, r_gqFF, r_gqTF, r_gqFT, r_not, r_lss, r_leq, r_gtr, r_geq, r_eql, r_neq, r_add, r_sub, r_min2, r_max2, r_min3, r_max3, r_fa, r_iaS, r_iaA, r_ex2a, r_ex2b, r_ex3a, r_ex3b, r_ex3c, r_nc, r_keepE, Nat.zero_add, Nat.add_zero, Nat.mul_one, Int.toNat_natCast, toNat_sub1, toNat_add1, decide_true, decide_false, Bool.not_true, Bool.not_false, if_true, if_false, Bool.false_eq_true, reduceCtorEq, hv']
    exact ⟨nilS, nilS, 2, rfl, hk2, he.symm, by rw [if_neg h20]; exact ⟨rfl, rfl⟩⟩
  have hb2 := block_below hb k2
  simp (disch := omega) only [r_ln, r_pick, r_pickT, r_pickF, r_condT, r_condF, r_gdTT, r_gdFF, r_gdTF, r_gdFT, r_gqTT, r_gqFF, r_gqTF, r_gqFT, r_not, r_lss, r_leq, r_gtr, r_geq, r_eql, r_neq, r_add, r_sub, r_min2, r_max2, r_min3, r_max3, r_fa, r_iaS, r_iaA, r_ex2a, r_ex2b, r_ex3a, r_ex3b, r_ex3c, r_nc, r_keepE, Nat.zero_add, Nat.add_zero, Nat.mul_one, Int.toNat_natCast, toNat_sub1, toNat_add1, decide_true, decide_false, Bool.not_true, Bool.not_false, if_true, if_false, Bool.false_eq_true, reduceCtorEq, hv, r_ldRow (n := 3) hb2 rfl]
  refine r_use fok15 (in_calls A B C v h w2 (hr.below hk2)) rfl ?_
  rintro _ w3 ⟨rfl, k3⟩
  refine ⟨_, rfl, ?_⟩
  have hk3 := Kp.trans hk2 k3
  by_cases ho : heapOk A B C h = true
  case neg =>
    have ho' : heapOk A B C h = false := by simpa using ho
    have he : heapErr A B C h = 2 := by unfold heapErr; rw [if_neg fun e => ho e.2]
    simp (disch := omega) only [r_ln, r_pick, r_pickT, r_pickF, r_condT, r_condF, r_gdTT, r_gdFF, r_gdTF, r_gdFT, r_gqTT, r_gqFF, r_gqTF, r_gqFT, r_not, r_lss, r_leq, r_gtr, r_geq, r_eql, r_neq, r_add, r_sub, r_min2, r_max2, r_min3, r_max3, r_fa, r_iaS, r_iaA, r_ex2a, r_ex2b, r_ex3a, r_ex3b, r_ex3c, r_nc, r_keepE, Nat.zero_add, Nat.add_zero, Nat.mul_one, Int.toNat_natCast, toNat_sub1, toNat_add1, decide_true, decide_false, Bool.not_true, Bool.not_false, if_true, if_false, Bool.false_eq_true, reduceCtorEq, ho']
    exact ⟨nilS, nilS, 2, rfl, hk3, he.symm, by rw [if_neg h20]; exact ⟨rfl, rfl⟩⟩
  have he : heapErr A B C h = 0 := by unfold heapErr; rw [if_pos ⟨hv, ho⟩]
  obtain ⟨a, b', c, rfl, rfl, rfl, hA, hB, hC, hh⟩ := isHeap_of he
  have hs := sized_of hh
  have hb3 := block_below hb2 k3
  have hl1 := hs.1
  have hab : a * b' ≤ 16 := Nat.mul_le_mul hA.2 hB.2
  simp (disch := omega) only [r_ln, r_pick, r_pickT, r_pickF, r_condT, r_condF, r_gdTT, r_gdFF, r_gdTF, r_gdFT, r_gqTT, r_gqFF, r_gqTF, r_gqFT, r_not, r_lss, r_leq, r_gtr, r_geq, r_eql, r_neq, r_add, r_sub, r_min2, r_max2, r_min3, r_max3, r_fa, r_iaS, r_iaA, r_ex2a, r_ex2b, r_ex3a, r_ex3b, r_ex3c, r_nc, r_keepE, Nat.zero_add, Nat.add_zero, Nat.mul_one, Int.toNat_natCast, toNat_sub1, toNat_add1, decide_true, decide_false, Bool.not_true, Bool.not_false, if_true, if_false, Bool.false_eq_true, reduceCtorEq, ho]
  refine r_use fok22 (copyN_calls v h w3 (hr.below hk3) (by omega) (by omega) (fun i hi => by have := hs.2 i (by omega); omega)) rfl ?_
  rintro _ w4 ⟨vo, rfl, k4, g, bs, hown, hg, hbs⟩
  refine ⟨_, rfl, ?_⟩
  have hk4 := Kp.trans hk3 k4
  have hb4 := block_below hb3 k4
  have hsk3 := hk3.size
  have hsk4 := k4.size
  have glt : g < w4.heap.size := by obtain ⟨_, _, _, q, _⟩ := hown.outer; exact block_lt q
  have blt : ∀ q, q < a → bs q < w4.heap.size := fun q hq => by obtain ⟨_, q, _⟩ := hown.rows q (by omega); exact block_lt q
  have bge : ∀ q, q < a → w3.heap.size ≤ bs q := fun q hq => hbs q (by omega)
  have hblt := block_lt hb3
  have toKp : ∀ {w' : World}, Chg (fun k => (∃ q, q < a ∧ k = bs q) ∨ w4.heap.size ≤ k) w4 w' → Kp w w' := fun hc => Kp.of_chg hk4 hc fun k hk => by
    rcases hk with ⟨q, hq, rfl⟩ | hk
    · have := bge q hq; omega
    · omega
  have boxAt : ∀ {w' : World}, Chg (fun k => (∃ q, q < a ∧ k = bs q) ∨ w4.heap.size ≤ k) w4 w' → w'.heap[b]? = some (.cells (boxV a b' c).cells 25 (0, 0)) := fun hc => hc.at hb4 fun hk => by
    have := block_lt hb4
    rcases hk with ⟨q, hq, e⟩ | hk
    · have := bge q hq; omega
    · omega
  refine ⟨fun t7 t8 t10 wr => ∃ i : Nat, i ≤ a ∧ t10 = .int .i64 i ∧ Chg (fun k => (∃ q, q < a ∧ k = bs q) ∨ w4.heap.size ≤ k) w4 wr ∧ OwnRows wr vo g bs h ∧
      CellsAt w4.heap.size wr t7 ((pl b' (i * b')).filter (addB c h)) ∧ CellsAt w4.heap.size wr t8 ((pl b' (i * b')).filter (takeB a b' h)) ∧ Apart t7 t8, fun _ _ t10 _ => a - (intOf t10).toNat,
    ⟨0, by omega, rfl, Chg.refl _ _, hown, by rw [Nat.zero_mul]; exact CellsAt.nil _ _, by rw [Nat.zero_mul]; exact CellsAt.nil _ _, .inl rfl⟩, ?_⟩
  rintro _ t7 t8 _ wr ⟨i, hi, rfl, hcr, hor, h7, h8, hap⟩
  obtain ⟨c0, c1, c2⟩ := box3 (boxAt hcr)
  by_cases hlt : i < a
  case neg =>
    have hlt' : ¬ (i : Int) < (a : Int) := by omega
    have e : i = a := by omega
    subst e
    simp (disch := omega) only [r_ln, r_pick, r_pickT, r_pickF, r_condT, r_condF, r_gdTT, r_gdFF, r_gdTF, r_gdFT, r_gqTT, r_gqFF, r_gqTF, r_gqFT, r_not, r_lss, r_leq, r_gtr, r_geq, r_eql, r_neq, r_add, r_sub, r_min2, r_max2, r_min3, r_max3, r_fa, r_iaS, r_iaA, r_ex2a, r_ex2b, r_ex3a, r_ex3b, r_ex3c, r_nc, r_keepE, Nat.zero_add, Nat.add_zero, Nat.mul_one, Int.toNat_natCast, toNat_sub1, toNat_add1, decide_true, decide_false, Bool.not_true, Bool.not_false, if_true, if_false, Bool.false_eq_true, reduceCtorEq, r_ld c0, hlt']
    refine ⟨t7, t8, 0, rfl, toKp hcr, he.symm, ?_⟩
    simp only [if_true, Int.toNat_natCast]
    have wk : ∀ {v : Value} {P : List (Nat × Nat)}, CellsAt w4.heap.size wr v P → CellsAt w.heap.size wr v P := fun ho => ⟨ho.1, by
      rcases ho.2 with h | ⟨g, cap, cur, r1, r2, r3⟩
      · exact .inl h
      · exact .inr ⟨g, cap, cur, r1, by have := hk4.size; omega, r3⟩⟩
    exact ⟨wk h7, wk h8⟩
  have hlt' : (i : Int) < (a : Int) := by omega
  simp (disch := omega) only [r_ln, r_pick, r_pickT, r_pickF, r_condT, r_condF, r_gdTT, r_gdFF, r_gdTF, r_gdFT, r_gqTT, r_gqFF, r_gqTF, r_gqFT, r_not, r_lss, r_leq, r_gtr, r_geq, r_eql, r_neq, r_add, r_sub, r_min2, r_max2, r_min3, r_max3, r_fa, r_iaS, r_iaA, r_ex2a, r_ex2b, r_ex3a, r_ex3b, r_ex3c, r_nc, r_keepE, Nat.zero_add, Nat.add_zero, Nat.mul_one, Int.toNat_natCast, toNat_sub1, toNat_add1, decide_true, decide_false, Bool.not_true, Bool.not_false, if_true, if_false, Bool.false_eq_true, reduceCtorEq, r_ld c0, hlt']
  refine ⟨fun t7 t8 t11 wq => ∃ j : Nat, j ≤ b' ∧ t11 = .int .i64 j ∧ Chg (fun k => (∃ q, q < a ∧ k = bs q) ∨ w4.heap.size ≤ k) w4 wq ∧ OwnRows wq vo g bs h ∧
      CellsAt w4.heap.size wq t7 ((pl b' (i * b' + j)).filter (addB c h)) ∧ CellsAt w4.heap.size wq t8 ((pl b' (i * b' + j)).filter (takeB a b' h)) ∧ Apart t7 t8, fun _ _ t11 _ => b' - (intOf t11).toNat,
    ⟨0, by omega, rfl, hcr, hor, h7, h8, hap⟩, ?_⟩
  rintro _ t7 t8 _ wq ⟨j, hj, rfl, hcq, hoq, h7, h8, hap⟩
  obtain ⟨c0, c1, c2⟩ := box3 (boxAt hcq)
  by_cases hjl : j < b'
  case neg =>
    have hjl' : ¬ (j : Int) < (b' : Int) := by omega
    have e : j = b' := by omega
    subst e
    have em : i * j + j = (i + 1) * j := by rw [Nat.add_mul, Nat.one_mul]
    rw [em] at h7 h8
    simp (disch := omega) only [r_ln, r_pick, r_pickT, r_pickF, r_condT, r_condF, r_gdTT, r_gdFF, r_gdTF, r_gdFT, r_gqTT, r_gqFF, r_gqTF, r_gqFT, r_not, r_lss, r_leq, r_gtr, r_geq, r_eql, r_neq, r_add, r_sub, r_min2, r_max2, r_min3, r_max3, r_fa, r_iaS, r_iaA, r_ex2a, r_ex2b, r_ex3a, r_ex3b, r_ex3c, r_nc, r_keepE, Nat.zero_add, Nat.add_zero, Nat.mul_one, Int.toNat_natCast, toNat_sub1, toNat_add1, decide_true, decide_false, Bool.not_true, Bool.not_false, if_true, if_false, Bool.false_eq_true, reduceCtorEq, r_ld c1, hjl']
    exact ⟨⟨i + 1, by omega, by go_num, hcq, hoq, h7, h8, hap⟩, by simp only [intOf]; omega⟩
  have hjl' : (j : Int) < (b' : Int) := by omega
  have hrl := hs.2 i hlt
  have p1 := hh.pos i j (by omega) (by omega)
  have p2 := hh.top i j (by omega) (by omega)
  have hpl := place_lt hlt hjl
  have hf7 := List.length_filter_le (addB c h) (pl b' (i * b' + j))
  have hf8 := List.length_filter_le (takeB a b' h) (pl b' (i * b' + j))
  rw [pl_length] at hf7 hf8
  have hpush7 := filter_push (f := addB c h) (P := pl b' (i * b' + j)) (x := (i, j))
  have hpush8 := filter_push (f := takeB a b' h) (P := pl b' (i * b' + j)) (x := (i, j))
  rw [← pl_succ hjl] at hpush7 hpush8
  have hne7 : ∀ {wx : World} {t : Value} {P : List (Nat × Nat)}, CellsAt w4.heap.size wx t P → ∀ k, t.ownBlock = some k → ¬ k = bs i := fun hC k hk e => by
    have := (hC.block hk).1
    have := blt i hlt
    omega
  have hil : i < h.length := by omega
  -- one more
  obtain ⟨cap, cc, hvo, hgc, hslot⟩ := hoq.slot (i := i) hil
  obtain ⟨hxs, hfz⟩ := hslot j (by omega)
  have ehat : (h.getD i []).getD j 0 = hat h i j := rfl
  rw [ehat] at hxs
  rw [hvo]
  simp (disch := omega) only [r_ln, r_pick, r_pickT, r_pickF, r_condT, r_condF, r_gdTT, r_gdFF, r_gdTF, r_gdFT, r_gqTT, r_gqFF, r_gqTF, r_gqFT, r_not, r_lss, r_leq, r_gtr, r_geq, r_eql, r_neq, r_add, r_sub, r_min2, r_max2, r_min3, r_max3, r_fa, r_iaS, r_iaA, r_ex2a, r_ex2b, r_ex3a, r_ex3b, r_ex3c, r_nc, r_keepE, Nat.zero_add, Nat.add_zero, Nat.mul_one, Int.toNat_natCast, toNat_sub1, toNat_add1, decide_true, decide_false, Bool.not_true, Bool.not_false, if_true, if_false, Bool.false_eq_true, reduceCtorEq, r_ld c1, hjl', r_ld hgc, r_ld hxs]
  rw [st3 hxs hfz, ← hvo]
  have hset := hoq.set (i := i) (j := j) hil (by omega) (hat h i j + 1)
  have hcs : Chg (fun k => k = bs i) wq (wq.setCell ⟨bs i, j, none⟩ (.int .i64 (hat h i j + 1))) := Chg.setCell _ _ rfl
  generalize wq.setCell ⟨bs i, j, none⟩ (.int .i64 (hat h i j + 1)) = x1 at *
  have hc1 := hcq.trans (hcs.mono (S' := fun k => (∃ q, q < a ∧ k = bs q) ∨ w4.heap.size ≤ k) fun k _ e => .inl ⟨i, hlt, e⟩)
  have h71 : CellsAt w4.heap.size x1 t7 _ := owns_chg h7 hcs (hne7 h7)
  have h81 : CellsAt w4.heap.size x1 t8 _ := owns_chg h8 hcs (hne7 h8)
  rw [r_ldRow (n := 3) (boxAt hc1) rfl]
  refine r_use fok15 (in_calls a b' c vo _ x1 hset.rd) rfl ?_
  rintro _ x2 ⟨rfl, k12⟩
  refine ⟨_, rfl, ?_⟩
  rw [heapOk_eq (added_iff hh hlt hjl)]
  have hc2 := hc1.trans (Chg.of_kp (S := fun k => (∃ q, q < a ∧ k = bs q) ∨ w4.heap.size ≤ k) k12)
  have ho2 := hset.kp k12
  have h72 := h71.kp k12
  have h82 := h81.kp k12
  refine r_join1 (fun t7 w' => Chg (fun k => (∃ q, q < a ∧ k = bs q) ∨ w4.heap.size ≤ k) w4 w' ∧ OwnRows w' vo g bs (put2 h i j (hat h i j + 1)) ∧ CellsAt w4.heap.size w' t7 ((pl b' (i * b' + j + 1)).filter (addB c h)) ∧ CellsAt w4.heap.size w' t8 ((pl b' (i * b' + j)).filter (takeB a b' h)) ∧ Apart t7 t8) ?_ ?_
  rotate_left
  · intro kk hkk
    by_cases hadd : addB c h (i, j) = true
    · rw [if_pos hadd] at hpush7
      rw [hadd, r_condT, bd35]
      refine r_pushCell h72 h82 hap (by omega) hc2.size fun v' w' g1 g2 g3 g4 => ?_
      exact hkk _ _ ⟨hc2.trans (g4.mono fun k _ hk => .inr hk), ho2.chg g4 (by omega) (fun q hq => by rw [put2_length] at hq; have := blt q (by omega); omega), by rw [hpush7]; exact g1, g2, g3⟩
    · have hadd' : addB c h (i, j) = false := by simpa using hadd
      rw [if_neg hadd] at hpush7
      rw [hadd', r_condF]
      exact hkk _ _ ⟨hc2, ho2, by rw [hpush7]; exact h72, h82, hap⟩
  rintro t7b x3 ⟨hc3, ho3, h73, h83, hap3⟩
  -- two less
  have hl3 : (put2 h i j (hat h i j + 1)).length = a := by rw [put2_length]; exact hl1
  have hlr3 : ((put2 h i j (hat h i j + 1)).getD i []).length = b' := by rw [put2_len _ _ _ _ _ hil]; exact hrl
  obtain ⟨cap, cc, hvo, hgc, hslot⟩ := ho3.slot (i := i) (by omega)
  obtain ⟨hxs, hfz⟩ := hslot j (by omega)
  have ehat : ((put2 h i j (hat h i j + 1)).getD i []).getD j 0 = hat h i j + 1 := by
    show hat (put2 h i j (hat h i j + 1)) i j = _
    rw [put2_hat h i j i j _ hil (by omega), if_pos ⟨rfl, rfl⟩]
  rw [ehat] at hxs
  rw [hl3] at hvo
  rw [hlr3] at hgc
  rw [hvo]
  simp (disch := omega) only [r_ln, r_pick, r_pickT, r_pickF, r_condT, r_condF, r_gdTT, r_gdFF, r_gdTF, r_gdFT, r_gqTT, r_gqFF, r_gqTF, r_gqFT, r_not, r_lss, r_leq, r_gtr, r_geq, r_eql, r_neq, r_add, r_sub, r_min2, r_max2, r_min3, r_max3, r_fa, r_iaS, r_iaA, r_ex2a, r_ex2b, r_ex3a, r_ex3b, r_ex3c, r_nc, r_keepE, Nat.zero_add, Nat.add_zero, Nat.mul_one, Int.toNat_natCast, toNat_sub1, toNat_add1, decide_true, decide_false, Bool.not_true, Bool.not_false, if_true, if_false, Bool.false_eq_true, reduceCtorEq, r_ld hgc, r_ld hxs]
  rw [st3 hxs hfz, ← hvo]
  have e1 : hat h i j + 1 - 2 = hat h i j - 1 := by omega
  rw [e1]
  have hset := ho3.set (i := i) (j := j) (by omega) (by omega) (hat h i j - 1)
  rw [put2_put2 h _ _ hil] at hset
  have hcs : Chg (fun k => k = bs i) x3 (x3.setCell ⟨bs i, j, none⟩ (.int .i64 (hat h i j - 1))) := Chg.setCell _ _ rfl
  generalize x3.setCell ⟨bs i, j, none⟩ (.int .i64 (hat h i j - 1)) = x4 at *
  have hc4 := hc3.trans (hcs.mono (S' := fun k => (∃ q, q < a ∧ k = bs q) ∨ w4.heap.size ≤ k) fun k _ e => .inl ⟨i, hlt, e⟩)
  have h74 : CellsAt w4.heap.size x4 t7b _ := owns_chg h73 hcs (hne7 h73)
  have h84 : CellsAt w4.heap.size x4 t8 _ := owns_chg h83 hcs (hne7 h83)
  rw [r_ldRow (n := 3) (boxAt hc4) rfl]
  refine r_use fok15 (in_calls a b' c vo _ x4 hset.rd) rfl ?_
  rintro _ x5 ⟨rfl, k45⟩
  refine ⟨_, rfl, ?_⟩
  rw [heapOk_eq (taken_iff hh hlt hjl)]
  have hc5 := hc4.trans (Chg.of_kp (S := fun k => (∃ q, q < a ∧ k = bs q) ∨ w4.heap.size ≤ k) k45)
  have ho5 := hset.kp k45
  have h75 := h74.kp k45
  have h85 := h84.kp k45
  refine r_join1 (fun t8 w' => Chg (fun k => (∃ q, q < a ∧ k = bs q) ∨ w4.heap.size ≤ k) w4 w' ∧ OwnRows w' vo g bs (put2 h i j (hat h i j - 1)) ∧ CellsAt w4.heap.size w' t7b ((pl b' (i * b' + j + 1)).filter (addB c h)) ∧ CellsAt w4.heap.size w' t8 ((pl b' (i * b' + j + 1)).filter (takeB a b' h)) ∧ Apart t7b t8) ?_ ?_
  rotate_left
  · intro kk hkk
    by_cases htk : takeB a b' h (i, j) = true
    · rw [if_pos htk] at hpush8
      rw [htk, r_condT, bd35]
      refine r_pushCell h85 h75 hap3.symm (by omega) hc5.size fun v' w' g1 g2 g3 g4 => ?_
      exact hkk _ _ ⟨hc5.trans (g4.mono fun k _ hk => .inr hk), ho5.chg g4 (by omega) (fun q hq => by rw [put2_length] at hq; have := blt q (by omega); omega), g2, by rw [hpush8]; exact g1, g3.symm⟩
    · have htk' : takeB a b' h (i, j) = false := by simpa using htk
      rw [if_neg htk] at hpush8
      rw [htk', r_condF]
      exact hkk _ _ ⟨hc5, ho5, h75, by rw [hpush8]; exact h85, hap3⟩
  rintro t8b x6 ⟨hc6, ho6, h76, h86, hap6⟩
  have hl6 : (put2 h i j (hat h i j - 1)).length = a := by rw [put2_length]; exact hl1
  have hlr6 : ((put2 h i j (hat h i j - 1)).getD i []).length = b' := by rw [put2_len _ _ _ _ _ hil]; exact hrl
  obtain ⟨cap, cc, hvo, hgc, hslot⟩ := ho6.slot (i := i) (by omega)
  obtain ⟨hxs, hfz⟩ := hslot j (by omega)
  have ehat : ((put2 h i j (hat h i j - 1)).getD i []).getD j 0 = hat h i j - 1 := by
    show hat (put2 h i j (hat h i j - 1)) i j = _
    rw [put2_hat h i j i j _ hil (by omega), if_pos ⟨rfl, rfl⟩]
  rw [ehat] at hxs
  rw [hl6] at hvo
  rw [hlr6] at hgc
  rw [hvo]
  simp (disch := omega) only [r_ln, r_pick, r_pickT, r_pickF, r_condT, r_condF, r_gdTT, r_gdFF, r_gdTF, r_gdFT, r_gqTT, r_gqFF, r_gqTF, r_gqFT, r_not, r_lss, r_leq, r_gtr, r_geq, r_eql, r_neq, r_add, r_sub, r_min2, r_max2, r_min3, r_max3, r_fa, r_iaS, r_iaA, r_ex2a, r_ex2b, r_ex3a, r_ex3b, r_ex3c, r_nc, r_keepE, Nat.zero_add, Nat.add_zero, Nat.mul_one, Int.toNat_natCast, toNat_sub1, toNat_add1, decide_true, decide_false, Bool.not_true, Bool.not_false, if_true, if_false, Bool.false_eq_true, reduceCtorEq, r_ld hgc, r_ld hxs]
  rw [st3 hxs hfz, ← hvo]
  have e1 : hat h i j - 1 + 1 = hat h i j := by omega
  rw [e1]
  have hset := ho6.set (i := i) (j := j) (by omega) (by omega) (hat h i j)
  rw [put2_put2 h _ _ hil, put2_self hs hlt hjl] at hset
  have hcs : Chg (fun k => k = bs i) x6 (x6.setCell ⟨bs i, j, none⟩ (.int .i64 (hat h i j))) := Chg.setCell _ _ rfl
  generalize x6.setCell ⟨bs i, j, none⟩ (.int .i64 (hat h i j)) = x7 at *
  have hc7 := hc6.trans (hcs.mono (S' := fun k => (∃ q, q < a ∧ k = bs q) ∨ w4.heap.size ≤ k) fun k _ e => .inl ⟨i, hlt, e⟩)
  try simp (disch := omega) only [r_ln, r_pick, r_pickT, r_pickF, r_condT, r_condF, r_gdTT, r_gdFF, r_gdTF, r_gdFT, r_gqTT, r_gqFF, r_gqTF, r_gqFT, r_not, r_lss, r_leq, r_gtr, r_geq, r_eql, r_neq, r_add, r_sub, r_min2, r_max2, r_min3, r_max3, r_fa, r_iaS, r_iaA, r_ex2a, r_ex2b, r_ex3a, r_ex3b, r_ex3c, r_nc, r_keepE, Nat.zero_add, Nat.add_zero, Nat.mul_one, Int.toNat_natCast, toNat_sub1, toNat_add1, decide_true, decide_false, Bool.not_true, Bool.not_false, if_true, if_false, Bool.false_eq_true, reduceCtorEq]
  exact ⟨⟨j + 1, by omega, by go_num, hc7, hset, owns_chg h76 hcs (hne7 h76), owns_chg h86 hcs (hne7 h86), hap6⟩, by simp only [intOf]; omega⟩

end Go.Proofs.Ytaephdjmpmbfpaa

/- Lifted texts, printed by program (gen.py): what each function's code asks. The ties are by the kernel. -/
namespace Go.Proofs.Ytaephdjmpmbfpaa
open Go.Lf Go.RowKit

def S30 (t0 : Value) (w : World) (R : Ending → World → Prop) : Prop :=
  Loop1 (.int .i64 0) w fun _ t3 w next =>
    ln1 t0 fun t6 =>
    binQ Try.prog w .lss 3 false t3 t6 fun t7 =>
    condW t7 (
      binQ Try.prog w .geq 3 true t3 (.int .i64 10) fun t11 =>
      gd t11 false (fun k => k t0 w) w fun t13 w =>
      gd t11 false (fun k => k t3 w) w fun t14 w =>
      gd t11 false (fun k => iaS 1 t13 t14 fun v => k v w) w fun t15 w =>
      gd t11 false (fun k => ld1 w t15 fun v => k v w) w fun t16 w =>
      gd t11 false (fun k => ln1 t16 fun v => k v w) w fun t17 w =>
      gd t11 false (fun k => binQ Try.prog w .gtr 3 true t17 (.int .i64 10) fun v => k v w) w fun t18 w =>
      pickQ t11 (.bool true) t18 fun t19 =>
      condW t19 (
        R (.returned (.bool false)) w
      ) (
        binQ Try.prog w .add 3 true t3 (.int .i64 1) fun t9 =>
        next t9 w
      )
    ) (
      R (.returned (.bool true)) w
    )

def A30 : Ann where
  live := fun
    | 0 => [3]
    | _ => []
  wr := fun
    | 0 => fun i => (Nat.ble 2 i && Nat.ble i 19)
    | _ => fun _ => false
  sched := fun _ => .done

set_option maxRecDepth 100000 in
theorem ok30 : (codeOk Try.f30.ntmps A30 (Try.f30.body.getD .skip) 0 && Nat.ble 1 Try.f30.ntmps) = true := by kernel_rfl
set_option maxRecDepth 100000 in
theorem lift30 {t0 : Value} {w : World} {R : Ending → World → Prop} (h : S30 t0 w R) : Calls Try.prog 30 #[t0] w R :=
  calls_of_cw (fn := Try.f30) (c := Try.f30.body.getD .skip) A30 mixes Try.func30 (by kernel_rfl) ok30
    ((by kernel_rfl : (S30 t0 w R) = cw Try.prog A30 (Try.f30.body.getD .skip) 0 (bodyQ Try.prog Try.f30 R) (frOf #[t0]) w).mp h)

def S31 (t0 t1 : Value) (w : World) (R : Ending → World → Prop) : Prop :=
  boxW 25 t0 w fun t2 w =>
  ldN 3 w t2 fun t6 =>
  callW Try.prog (.func (.func 58) #[] #[]) [t6] w fun t7 w =>
  unQ .not t7 fun t8 =>
  condW t8 (
    R (.returned (.tuple #[(.bool false), (.int .i64 2)])) w
  ) (
    ldN 3 w t2 fun t9 =>
    callW Try.prog (.func (.func 67) #[] #[]) [t9, t1] w fun t11 w =>
    R (.returned (.tuple #[t11, (.int .i64 0)])) w
  )

def A31 : Ann where
  live := fun _ => []
  wr := fun _ _ => false
  sched := fun _ => .done

set_option maxRecDepth 100000 in
theorem ok31 : (codeOk Try.f31.ntmps A31 (Try.f31.body.getD .skip) 0 && Nat.ble 2 Try.f31.ntmps) = true := by kernel_rfl
set_option maxRecDepth 100000 in
theorem lift31 {t0 t1 : Value} {w : World} {R : Ending → World → Prop} (h : S31 t0 t1 w R) : Calls Try.prog 31 #[t0, t1] w R :=
  calls_of_cw (fn := Try.f31) (c := Try.f31.body.getD .skip) A31 mixes Try.func31 (by kernel_rfl) ok31
    ((by kernel_rfl : (S31 t0 t1 w R) = cw Try.prog A31 (Try.f31.body.getD .skip) 0 (bodyQ Try.prog Try.f31 R) (frOf #[t0, t1]) w).mp h)

def S32 (t0 t1 : Value) (w : World) (R : Ending → World → Prop) : Prop :=
  boxW 25 t0 w fun t2 w =>
  ldN 3 w t2 fun t6 =>
  callW Try.prog (.func (.func 62) #[] #[]) [t6] w fun t7 w =>
  unQ .not t7 fun t8 =>
  condW t8 (
    R (.returned (.tuple #[(.bool false), (.int .i64 2)])) w
  ) (
    ldN 3 w t2 fun t9 =>
    callW Try.prog (.func (.func 15) #[] #[]) [t9, t1] w fun t11 w =>
    R (.returned (.tuple #[t11, (.int .i64 0)])) w
  )

def A32 : Ann where
  live := fun _ => []
  wr := fun _ _ => false
  sched := fun _ => .done

set_option maxRecDepth 100000 in
theorem ok32 : (codeOk Try.f32.ntmps A32 (Try.f32.body.getD .skip) 0 && Nat.ble 2 Try.f32.ntmps) = true := by kernel_rfl
set_option maxRecDepth 100000 in
theorem lift32 {t0 t1 : Value} {w : World} {R : Ending → World → Prop} (h : S32 t0 t1 w R) : Calls Try.prog 32 #[t0, t1] w R :=
  calls_of_cw (fn := Try.f32) (c := Try.f32.body.getD .skip) A32 mixes Try.func32 (by kernel_rfl) ok32
    ((by kernel_rfl : (S32 t0 t1 w R) = cw Try.prog A32 (Try.f32.body.getD .skip) 0 (bodyQ Try.prog Try.f32 R) (frOf #[t0, t1]) w).mp h)

def S33 (t0 t1 : Value) (w : World) (R : Ending → World → Prop) : Prop :=
  boxW 25 t0 w fun t2 w =>
  ldN 3 w t2 fun t8 =>
  callW Try.prog (.func (.func 62) #[] #[]) [t8] w fun t9 w =>
  unQ .not t9 fun t10 =>
  gd t10 false (fun k => ldN 3 w t2 fun v => k v w) w fun t12 w =>
  gd t10 false (fun k => k t1 w) w fun t13 w =>
  gd t10 false (fun k => callW Try.prog (.func (.func 15) #[] #[]) [t12, t13] w k) w fun t14 w =>
  gd t10 false (fun k => unQ .not t14 fun v => k v w) w fun t15 w =>
  pickQ t10 (.bool true) t15 fun t16 =>
  condW t16 (
    R (.returned (.tuple #[(.int .i64 0), (.int .i64 2)])) w
  ) (
    ldN 3 w t2 fun t17 =>
    callW Try.prog (.func (.func 66) #[] #[]) [t17] w fun t18 w =>
    Loop1 (.int .i64 0) w fun _ t6 w next =>
      callW Try.prog (.func (.func 68) #[] #[]) [t18, t1] w fun t21 w =>
      condW t21 (
        binQ Try.prog w .add 3 true t6 (.int .i64 1) fun t23 =>
        ldN 3 w t2 fun t24 =>
        callW Try.prog (.func (.func 23) #[] #[]) [t24, t18] w fun t26 w =>
        next t23 w
      ) (
        R (.returned (.tuple #[t6, (.int .i64 0)])) w
      )
  )

def A33 : Ann where
  live := fun
    | 0 => [6]
    | _ => []
  wr := fun
    | 0 => fun i => Nat.beq i 6 || (Nat.ble 19 i && Nat.ble i 26)
    | _ => fun _ => false
  sched := fun _ => .done

set_option maxRecDepth 100000 in
theorem ok33 : (codeOk Try.f33.ntmps A33 (Try.f33.body.getD .skip) 0 && Nat.ble 2 Try.f33.ntmps) = true := by kernel_rfl
set_option maxRecDepth 100000 in
theorem lift33 {t0 t1 : Value} {w : World} {R : Ending → World → Prop} (h : S33 t0 t1 w R) : Calls Try.prog 33 #[t0, t1] w R :=
  calls_of_cw (fn := Try.f33) (c := Try.f33.body.getD .skip) A33 mixes Try.func33 (by kernel_rfl) ok33
    ((by kernel_rfl : (S33 t0 t1 w R) = cw Try.prog A33 (Try.f33.body.getD .skip) 0 (bodyQ Try.prog Try.f33 R) (frOf #[t0, t1]) w).mp h)

def S68 (t0 t1 : Value) (w : World) (R : Ending → World → Prop) : Prop :=
  Loop1 (.int .i64 0) w fun _ t5 w next =>
    ln1 t0 fun t9 =>
    binQ Try.prog w .lss 3 false t5 t9 fun t10 =>
    condW t10 (
      Loop1 (.int .i64 0) w fun _ t6 w next_2 =>
        iaS 1 t0 t5 fun t16 =>
        ld1 w t16 fun t17 =>
        ln1 t17 fun t18 =>
        binQ Try.prog w .lss 3 false t6 t18 fun t19 =>
        condW t19 (
          Drew w fun w =>
          iaS 1 t0 t5 fun t24 =>
          ld1 w t24 fun t25 =>
          iaS 1 t25 t6 fun t27 =>
          ld1 w t27 fun t28 =>
          iaS 1 t1 t5 fun t31 =>
          ld1 w t31 fun t32 =>
          iaS 1 t32 t6 fun t34 =>
          ld1 w t34 fun t35 =>
          binQ Try.prog w .neq 3 false t28 t35 fun t36 =>
          condW t36 (
            Drew w fun w =>
            iaS 1 t0 t5 fun t39 =>
            ld1 w t39 fun t40 =>
            iaS 1 t40 t6 fun t42 =>
            ld1 w t42 fun t43 =>
            iaS 1 t1 t5 fun t46 =>
            ld1 w t46 fun t47 =>
            iaS 1 t47 t6 fun t49 =>
            ld1 w t49 fun t50 =>
            binQ Try.prog w .lss 3 false t43 t50 fun t51 =>
            R (.returned t51) w
          ) (
            binQ Try.prog w .add 3 true t6 (.int .i64 1) fun t21 =>
            next_2 t21 w
          )
        ) (
          binQ Try.prog w .add 3 true t5 (.int .i64 1) fun t12 =>
          next t12 w
        )
    ) (
      R (.returned (.bool false)) w
    )

def A68 : Ann where
  live := fun
    | 0 => [5]
    | 2 => [6]
    | _ => []
  wr := fun
    | 0 => fun i => (Nat.ble 4 i && Nat.ble i 51)
    | 2 => fun i => Nat.beq i 4 || Nat.beq i 6 || (Nat.ble 13 i && Nat.ble i 51)
    | _ => fun _ => false
  sched := fun
    | 7 => (.take 0 (.take 1 (.take 2 (.take 3 (.take 4 (.take 5 (.take 6 (.take 7 (.take 8 (.take 9 (.take 10 (.take 11 (.take 12 (.take 13 (.take 14 .done)))))))))))))))
    | 8 => (.take 0 (.take 1 (.take 2 (.take 3 (.take 4 (.take 5 (.take 6 (.take 7 (.take 8 (.take 9 (.take 10 (.take 11 (.take 12 (.take 13 (.take 14 (.take 15 .done))))))))))))))))
    | _ => .done

set_option maxRecDepth 100000 in
theorem ok68 : (codeOk Try.f68.ntmps A68 (Try.f68.body.getD .skip) 0 && Nat.ble 2 Try.f68.ntmps) = true := by kernel_rfl
set_option maxRecDepth 100000 in
theorem lift68 {t0 t1 : Value} {w : World} {R : Ending → World → Prop} (h : S68 t0 t1 w R) : Calls Try.prog 68 #[t0, t1] w R :=
  calls_of_cw (fn := Try.f68) (c := Try.f68.body.getD .skip) A68 mixes Try.func68 (by kernel_rfl) ok68
    ((by kernel_rfl : (S68 t0 t1 w R) = cw Try.prog A68 (Try.f68.body.getD .skip) 0 (bodyQ Try.prog Try.f68 R) (frOf #[t0, t1]) w).mp h)

def S6 (t0 t1 t2 : Value) (w : World) (R : Ending → World → Prop) : Prop :=
  boxW 25 t0 w fun t3 w =>
  callW Try.prog (.func (.func 30) #[] #[]) [t1] w fun t21 w =>
  unQ .not t21 fun t22 =>
  condW t22 (
    callW Try.prog (.func (.func 17) #[] #[]) [] w fun t23 w =>
    R (.returned t23) w
  ) (
    callW Try.prog (.func (.func 22) #[] #[]) [t1] w fun t25 w =>
    ldN 3 w t3 fun t27 =>
    callW Try.prog (.func (.func 31) #[] #[]) [t27, t25] w fun t29 w =>
    exQ t29 0 fun t30 =>
    exQ t29 1 fun t31 =>
    ldN 3 w t3 fun t33 =>
    callW Try.prog (.func (.func 32) #[] #[]) [t33, t1] w fun t35 w =>
    exQ t35 0 fun t36 =>
    exQ t35 1 fun t37 =>
    binQ Try.prog w .neq 4 false t30 t36 fun t40 =>
    gd t40 false (fun k => k t31 w) w fun t42 w =>
    gd t40 false (fun k => k t37 w) w fun t43 w =>
    gd t40 false (fun k => binQ Try.prog w .neq 31 false t42 t43 fun v => k v w) w fun t44 w =>
    pickQ t40 (.bool true) t44 fun t45 =>
    condW t45 (
      R (.returned (.bool false)) w
    ) (
      ldN 3 w t3 fun t47 =>
      callW Try.prog (.func (.func 18) #[] #[]) [t47, t25] w fun t49 w =>
      exQ t49 0 fun t50 =>
      exQ t49 1 fun t51 =>
      ldN 3 w t3 fun t53 =>
      callW Try.prog (.func (.func 33) #[] #[]) [t53, t1] w fun t55 w =>
      exQ t55 0 fun t56 =>
      exQ t55 1 fun t57 =>
      binQ Try.prog w .neq 3 false t50 t56 fun t60 =>
      gd t60 false (fun k => k t51 w) w fun t62 w =>
      gd t60 false (fun k => k t57 w) w fun t63 w =>
      gd t60 false (fun k => binQ Try.prog w .neq 31 false t62 t63 fun v => k v w) w fun t64 w =>
      pickQ t60 (.bool true) t64 fun t65 =>
      gd t65 false (fun k => k t25 w) w fun t67 w =>
      gd t65 false (fun k => k t1 w) w fun t68 w =>
      gd t65 false (fun k => callW Try.prog (.func (.func 20) #[] #[]) [t67, t68] w k) w fun t69 w =>
      gd t65 false (fun k => unQ .not t69 fun v => k v w) w fun t70 w =>
      pickQ t65 (.bool true) t70 fun t71 =>
      condW t71 (
        R (.returned (.bool false)) w
      ) (
        ldN 3 w t3 fun t73 =>
        callW Try.prog (.func (.func 34) #[] #[]) [t73, t2] w fun t75 w =>
        exQ t75 0 fun t76 =>
        exQ t75 1 fun t77 =>
        Loop1 (.int .i64 0) w fun _ t15 w next =>
          binQ Try.prog w .lss 3 true t15 (.int .i64 2) fun t79 =>
          condW t79 (
            ldN 3 w t3 fun t83 =>
            callW Try.prog (.func (.func 19) #[] #[]) [t83, t2] w fun t85 w =>
            exQ t85 0 fun t86 =>
            exQ t85 1 fun t87 =>
            binQ Try.prog w .neq 31 false t87 t77 fun t90 =>
            gd t90 false (fun k => k t86 w) w fun t92 w =>
            gd t90 false (fun k => k t76 w) w fun t93 w =>
            gd t90 false (fun k => callW Try.prog (.func (.func 20) #[] #[]) [t92, t93] w k) w fun t94 w =>
            gd t90 false (fun k => unQ .not t94 fun v => k v w) w fun t95 w =>
            pickQ t90 (.bool true) t95 fun t96 =>
            condW t96 (
              R (.returned (.bool false)) w
            ) (
              Loop1 (.int .i64 0) w fun _ t18 w next_2 =>
                ln1 t86 fun t99 =>
                binQ Try.prog w .lss 3 false t18 t99 fun t100 =>
                condW t100 (
                  Loop1 (.int .i64 0) w fun _ t19 w next_3 =>
                    iaS 1 t86 t18 fun t106 =>
                    ld1 w t106 fun t107 =>
                    ln1 t107 fun t108 =>
                    binQ Try.prog w .lss 3 false t19 t108 fun t109 =>
                    condW t109 (
                      iaS 1 t86 t18 fun t114 =>
                      ld1 w t114 fun t115 =>
                      iaS 1 t115 t19 fun t117 =>
                      stW Try.prog 3 t117 (.int .i64 9) w fun w =>
                      binQ Try.prog w .add 3 true t19 (.int .i64 1) fun t111 =>
                      next_3 t111 w
                    ) (
                      binQ Try.prog w .add 3 true t18 (.int .i64 1) fun t102 =>
                      next_2 t102 w
                    )
                ) (
                  binQ Try.prog w .add 3 true t15 (.int .i64 1) fun t81 =>
                  next t81 w
                )
            )
          ) (
            callW Try.prog (.func (.func 17) #[] #[]) [] w fun t118 w =>
            R (.returned t118) w
          )
      )
    )
  )

def A6 : Ann where
  live := fun
    | 0 => [15]
    | 2 => [18]
    | 4 => [19]
    | _ => []
  wr := fun
    | 0 => fun i => Nat.beq i 6 || (Nat.ble 15 i && Nat.ble i 19) || (Nat.ble 78 i && Nat.ble i 117)
    | 2 => fun i => (Nat.ble 18 i && Nat.ble i 19) || (Nat.ble 97 i && Nat.ble i 117)
    | 4 => fun i => Nat.beq i 19 || (Nat.ble 103 i && Nat.ble i 117)
    | _ => fun _ => false
  sched := fun _ => .done

set_option maxRecDepth 100000 in
theorem ok6 : (codeOk Try.f6.ntmps A6 (Try.f6.body.getD .skip) 0 && Nat.ble 3 Try.f6.ntmps) = true := by kernel_rfl
set_option maxRecDepth 100000 in
theorem lift6 {t0 t1 t2 : Value} {w : World} {R : Ending → World → Prop} (h : S6 t0 t1 t2 w R) : Calls Try.prog 6 #[t0, t1, t2] w R :=
  calls_of_cw (fn := Try.f6) (c := Try.f6.body.getD .skip) A6 mixes Try.func6 (by kernel_rfl) ok6
    ((by kernel_rfl : (S6 t0 t1 t2 w R) = cw Try.prog A6 (Try.f6.body.getD .skip) 0 (bodyQ Try.prog Try.f6 R) (frOf #[t0, t1, t2]) w).mp h)

theorem fok30 : fnOk Try.prog 30 = true := by kernel_rfl
theorem fok31 : fnOk Try.prog 31 = true := by kernel_rfl
theorem fok32 : fnOk Try.prog 32 = true := by kernel_rfl
theorem fok33 : fnOk Try.prog 33 = true := by kernel_rfl
theorem fok68 : fnOk Try.prog 68 = true := by kernel_rfl
theorem fok6 : fnOk Try.prog 6 = true := by kernel_rfl
end Go.Proofs.Ytaephdjmpmbfpaa

/- From a contract that a law returns true to the given statement. -/
namespace Go.Proofs.Ytaephdjmpmbfpaa
open Go.ChangeShapes Go.WideShapes Go.ChangeAt Go.RowKit Go.Lf

theorem own : ownKnob Try.prog.godebug = none := by kernel_rfl
theorem laid : laidOutB Try.prog = true := by kernel_rfl
theorem und4 : Try.prog.underlying 4 = some .bool := by kernel_rfl

section
variable {H : Type} {enc : TypeId × Value → H}

theorem below_trodAll {P : Program} (hl : laidOutB P = true) {W W' : World} (hb : Below W.heap.size W W') (ts : List TypeId) : ∀ {vs : List Value} {ds : List (DataW H)} {p : List MemPlace},
    (ts.all fun t => P.readableRec t && Nat.blt t P.types.size) = true → DataW.TrodAll enc P W 0 (fun _ => true) true ts vs ds p → (∀ x ∈ p, x.block < W.heap.size) →
      DataW.TrodAll enc P W' 0 (fun b => decide (b < W.heap.size)) true ts vs ds p := by
  induction ts with
  | nil =>
    intro vs ds p _ h _
    obtain ⟨rfl, rfl, rfl⟩ := trodAll_nil h
    exact trodAll_mk0
  | cons t ts ih =>
    intro vs ds p hr h hlt
    obtain ⟨v, vs', d, ds', p0, q0, rfl, rfl, rfl, h0, r0⟩ := trodAll_cons h
    simp only [List.all_cons, Bool.and_eq_true, Nat.blt_eq] at hr
    exact trodAll_cons_mk (Below.trod hl hr.1.1 hr.1.2 h0 hb fun x hx => hlt x (by simp [hx])) (ih (by simpa using hr.2) r0 fun x hx => hlt x (by simp [hx]))

theorem trodAll_length {P : Program} {W : World} {base : Nat} {sp : Nat → Bool} {hd : Bool} (ts : List TypeId) : ∀ {vs : List Value} {ds : List (DataW H)} {p : List MemPlace}, DataW.TrodAll enc P W base sp hd ts vs ds p → vs.length = ts.length ∧ ds.length = ts.length := by
  induction ts with
  | nil =>
    intro vs ds p h
    obtain ⟨rfl, rfl, rfl⟩ := trodAll_nil h
    exact ⟨rfl, rfl⟩
  | cons t ts ih =>
    intro vs ds p h
    obtain ⟨v, vs', d, ds', p0, q0, rfl, rfl, rfl, h0, r0⟩ := trodAll_cons h
    have := ih r0
    simp only [List.length_cons]
    omega

set_option maxRecDepth 100000 in
theorem law_lifted {s : ChangeSpec} {conds : List PathCond} {f : FuncId} {fn : Func} {os : Os} (started : os.Started) (hvars : s.vars = []) (noInit : Try.prog.inits.idxOf? f = none) (hfn : Try.prog.funcs[f]? = some fn)
    (hres : fn.resultTypes = #[4]) (hread : (fn.params.toList.all fun t => Try.prog.readableRec t && Nat.blt t Try.prog.types.size) = true)
    (hspec : ∀ ds : List (DataW H), ds.length = fn.params.toList.length → (s.fn H ds).results = [.lit (.bool true)] ∧ (s.fn H ds).args = ds ∧ (s.fn H ds).vars = [])
    (wit : ∃ (w : World) (tape : Tape) (i : Input), w.os = os ∧ (w.forCall tape i).Shaped Try.prog ∧ i.vars = [] ∧ Input.okWide Try.prog (w.forCall tape i) .any w.heap.size f i ∧
      s.pre6 enc Try.prog fn conds false (w.forCall tape i).memory i.args ∧ ({} : Assume).holds Try.prog (lone (Frame.enter Try.prog f i.args .normal) [] (w.forCall tape i)))
    (walk : ∀ (W : World) (base : Nat) (args : Array Value) (ds : List (DataW H)) (p : List MemPlace), (∀ (j : Nat) t v, fn.params[j]? = some t → args[j]? = some v → Value.okWide Try.prog W .any base t v) →
      DataW.TrodAll enc Try.prog W 0 (fun _ => true) true fn.params.toList args.toList ds p → Calls Try.prog f args W fun e W' => e = .returned (.bool true) ∧ Kp W W') :
    ReturnsInHanded {} Try.checked os f .any (s.pre6 enc Try.prog fn conds false) (s.post enc Try.prog fn false true false false) := by
  refine returnsInHanded_of_change (C := Try.checked) own started noInit hfn wit ?_
  intro W base args ds gs before hval hW hcnd _
  have hW' := hW
  obtain ⟨p, q, hA, hV, rfl, _, _⟩ := hW
  rw [hvars] at hV
  obtain ⟨rfl, rfl⟩ := trodVars_none hV
  have hlt : ∀ x ∈ p, x.block < W.heap.size := fun x hx => hW'.lt x (by simp [hx])
  have hlen := (trodAll_length _ hA).2
  obtain ⟨g1, g2, g3⟩ := hspec ds hlen
  refine (walk W base args ds p hval hA).mono fun e W' ⟨he, hk⟩ => ?_
  subst he
  refine ⟨_, rfl, ds, [], p ++ [], [], p, [], hW', ?_, ?_, ?_, hk.frame _, fun h => by cases h⟩
  · rw [List.append_nil, g1, hres]
    exact trodAll_mk1 (shut_bool und4 _)
  · rw [List.append_nil, g2]
    exact below_trodAll laid hk _ hread hA hlt
  · rw [List.append_nil, g3, hvars]
    rfl

end

theorem wf_u8 {n : Int} (h : (Lit.int .u8 n).wf = true) : ∃ k : Nat, n = k ∧ k ≤ 255 := by
  have e1 : IntKind.u8.min = 0 := by decide
  have e2 : IntKind.u8.max = 255 := by decide
  simp [Lit.wf, e1, e2] at h
  exact ⟨n.toNat, by omega, by omega⟩
theorem wf_u32 {n : Int} (h : (Lit.int .u32 n).wf = true) : ∃ k : Nat, n = k ∧ k ≤ 4294967295 := by
  have e1 : IntKind.u32.min = 0 := by decide
  have e2 : IntKind.u32.max = 4294967295 := by decide
  simp [Lit.wf, e1, e2] at h
  exact ⟨n.toNat, by omega, by omega⟩
theorem wf_i64 {n : Int} (h : (Lit.int .i64 n).wf = true) : -9223372036854775808 ≤ n ∧ n ≤ 9223372036854775807 := by
  have e1 : IntKind.i64.min = -9223372036854775808 := by decide
  have e2 : IntKind.i64.max = 9223372036854775807 := by decide
  simpa [Lit.wf, e1, e2] using h

theorem und3 : Try.prog.underlying 3 = some (.int .i64) := by kernel_rfl
theorem und5 : Try.prog.underlying 5 = some (.int .u8) := by kernel_rfl

end Go.Proofs.Ytaephdjmpmbfpaa
