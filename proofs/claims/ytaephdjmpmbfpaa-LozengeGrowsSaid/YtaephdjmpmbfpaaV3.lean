/- Contracts: Volumes of program and specification, Count of the specification, numbers. -/
import Derived.Test.YtaephdjmpmbfpaaV2
import Derived.Test.YtaephdjmpmbfpaaLift6
set_option linter.all false
namespace Go.Proofs.Ytaephdjmpmbfpaa
open Go.Lf Go.RowKit Go.Hp

/-- What Volumes hands back. -/
def VolRes (A B C : Int) (w' : World) (v : Value) (err : Int) : Prop :=
  if validB A B C = true then RdInts w' v (volL (A.toNat * B.toNat * C.toNat + 1) (heaps A.toNat B.toNat C)) ∧ err = 0 else v = nilS ∧ err = 2

theorem clone_rd {w' : World} {b c : Nat} {cur : Array Value} {l : List Int} (hb : w'.heap[b]? = some (.cells cur 3 (0, 0))) (hl : l.length ≤ 1000000) (hr : ∀ j, j < l.length → cur[j]? = some (.int .i64 (l.getD j 0))) : RdInts w' (.slice (some ⟨b, 0, none⟩) l.length c) l :=
  ⟨_, c, rfl, by omega, fun _ => ⟨b, 0, rfl, fun i hi => by rw [Nat.zero_add, cell_row hb]; exact hr i hi⟩⟩

set_option maxRecDepth 100000 in
theorem volumes_calls (A B C : Int) (w : World) : Calls Try.prog 27 #[boxV A B C] w fun e w' => ∃ v err, e = .returned (.tuple #[v, .int .i64 err]) ∧ Kp w w' ∧ VolRes A B C w' v err := by
  refine lift27 ?_
  unfold S27
  refine r_box fun b w1 hbw hsz hb hk => ?_
  simp (disch := omega) only [r_ln, r_pick, r_pickT, r_pickF, r_condT, r_condF, r_gdTT, r_gdFF, r_gdTF, r_gdFT, r_gqTT, r_gqFF, r_gqTF, r_gqFT, r_not, r_lss, r_leq, r_gtr, r_geq, r_eql, r_neq, r_add, r_sub, r_min2, r_max2, r_min3, r_max3, r_fa, r_iaS, r_iaA, r_ex2a, r_ex2b, r_ex3a, r_ex3b, r_ex3c, r_nc, r_keepE, Nat.zero_add, Nat.add_zero, Nat.mul_one, Int.toNat_natCast, toNat_sub1, toNat_add1, decide_true, decide_false, Bool.not_true, Bool.not_false, if_true, if_false, Bool.false_eq_true, reduceCtorEq, r_ldRow (n := 3) hb rfl]
  refine r_use fok58 (valid_calls A B C w1) rfl ?_
  rintro e w2 ⟨rfl, hk2⟩
  refine ⟨_, rfl, ?_⟩
  have hkw2 := Kp.trans hk hk2
  have hb2 := block_below hb hk2
  by_cases hv : validB A B C = true
  case neg =>
    have hv' : validB A B C = false := by simpa using hv
    simp (disch := omega) only [r_ln, r_pick, r_pickT, r_pickF, r_condT, r_condF, r_gdTT, r_gdFF, r_gdTF, r_gdFT, r_gqTT, r_gqFF, r_gqTF, r_gqFT, r_not, r_lss, r_leq, r_gtr, r_geq, r_eql, r_neq, r_add, r_sub, r_min2, r_max2, r_min3, r_max3, r_fa, r_iaS, r_iaA, r_ex2a, r_ex2b, r_ex3a, r_ex3b, r_ex3c, r_nc, r_keepE, Nat.zero_add, Nat.add_zero, Nat.mul_one, Int.toNat_natCast, toNat_sub1, toNat_add1, decide_true, decide_false, Bool.not_true, Bool.not_false, if_true, if_false, Bool.false_eq_true, reduceCtorEq, hv']
    exact ⟨nilS, 2, rfl, hkw2, by simp [VolRes, hv']⟩
  obtain ⟨a, b', c, rfl, rfl, rfl, h1, h2, h3, hb4, h5, h6⟩ := validB_nat hv
  simp (disch := omega) only [hv, r_not, Bool.not_true, r_condF]
  refine r_drew fun y0 hk0 _ => ?_
  have hkw0 := Kp.trans hkw2 hk0
  have hby0 := block_below hb2 hk0
  refine r_join2 (fun t2 t3 w' => t3 = .int .i64 0 ∧ Kp w w' ∧ RdInts w' t2 (volL (a * b' * c + 1) (heaps a b' c))) ?_ ?_
  · rintro t2 _ w' ⟨rfl, x1, x2⟩
    refine ⟨t2, 0, rfl, x1, ?_⟩
    simp only [VolRes, hv, if_true, Int.toNat_natCast]
    exact ⟨x2, trivial⟩
  intro kk hkk
  obtain ⟨c0, c1, c2⟩ := box3 hby0
  have htl : (topRow b' (c : Int)).length = 4 := topRow_length hb4
  have hgood := top_good (B := b') (C := (c : Int)) hb4 (by omega)
  have hab : a * b' * c ≤ 64 := Nat.mul_le_mul (Nat.mul_le_mul h2 hb4) h6
  have fin : ∀ (w' : World) (m : Nat), Kp y0 w' → y0.heap.size ≤ m → w'.heap[m]? = some (.map #[] 0) →
      callW Try.prog (.func (.func 65) #[] #[]) [boxV a b' c, placeV a (topRow b' c), .map (some m)] w' fun t14 w => callW Try.prog (.func (.func 59) #[] #[]) [t14] w fun t15 w => kk t15 (.int .i64 0) w := by
    intro w' m x1 hm0 hm
    refine r_use fok65 (sized_calls a b' c m hb4 h6 a (topRow b' c) (fun _ => False) w' h2 hgood (fun k h => h.elim) ⟨#[], 0, hm, by simp⟩) rfl ?_
    rintro _ w5 ⟨v5, rfl, hv5, _, hc5⟩
    refine ⟨_, rfl, ?_⟩
    have hlen := sized_length b' c hb4 a _ hgood
    have hrd := hv5.rd (by omega)
    rw [sized_volL hb4 a _ hgood] at hrd hlen
    rw [show allE b' a (topRow b' (c : Int)) = heaps a b' c from rfl] at hrd hlen
    refine r_use fok59 (clone_calls v5 _ w5 hrd (by omega) (by omega)) rfl ?_
    rintro _ w6 ⟨b6, c6, cur, rfl, k6, hb6, hg6, hr6⟩
    refine ⟨_, rfl, ?_⟩
    exact hkk _ _ _ ⟨rfl, Kp.trans (Kp.of_chg (Kp.trans hkw0 x1) hc5 fun i e => by have := hkw0.size; omega) k6, clone_rd hg6 (by omega) hr6⟩
  simp (disch := omega) only [r_ln, r_pick, r_pickT, r_pickF, r_condT, r_condF, r_gdTT, r_gdFF, r_gdTF, r_gdFT, r_gqTT, r_gqFF, r_gqTF, r_gqFT, r_not, r_lss, r_leq, r_gtr, r_geq, r_eql, r_neq, r_add, r_sub, r_min2, r_max2, r_min3, r_max3, r_fa, r_iaS, r_iaA, r_ex2a, r_ex2b, r_ex3a, r_ex3b, r_ex3c, r_nc, r_keepE, Nat.zero_add, Nat.add_zero, Nat.mul_one, Int.toNat_natCast, toNat_sub1, toNat_add1, decide_true, decide_false, Bool.not_true, Bool.not_false, if_true, if_false, Bool.false_eq_true, reduceCtorEq, r_ldRow (n := 3) hby0 rfl, r_ld c0]
  refine ⟨?_, ?_, trivial⟩
  · refine r_use fok53 (top_calls a c b' y0 hb4) rfl ?_
    rintro _ y1 ⟨rfl, x1⟩
    refine ⟨_, rfl, x1, ?_⟩
    dsimp only
    rw [bd88 _ htl]
    refine r_mm fun m y2 hm s2 g2 x2 => ⟨x2, ?_⟩
    exact fin y2 m (Kp.trans x1 x2) (by have := Below.size x1; omega) g2
  · refine r_mm fun m y1 hm s1 g1 x1 => ⟨x1, ?_⟩
    refine r_use fok53 (top_calls a c b' y1 hb4) rfl ?_
    rintro _ y2 ⟨rfl, x2⟩
    refine ⟨_, rfl, x2, ?_⟩
    dsimp only
    rw [bd88 _ htl]
    exact fin y2 m (Kp.trans x1 x2) (by omega) (block_below g1 x2)

theorem heaps_vol {A B C : Nat} (hB : B ≤ 4) {h : List (List Int)} (hm : h ∈ heaps A B C) : 0 ≤ volM h ∧ volM h < ((A * B * C + 1 : Nat) : Int) := by
  have := vol_range hB A _ (top_good hB (by omega)) h hm
  omega

theorem heaps_entries {A B C : Nat} (hB0 : 0 < B) (hB : B ≤ 4) (hC : C ≤ 4) {h : List (List Int)} (hm : h ∈ heaps A B C) : ∀ l ∈ h, ∀ x ∈ l, 0 ≤ x ∧ x ≤ 1000000 := by
  have hok := heapOk_iff.1 ((heapOk_mem (A := A) hB0 hB).2 hm)
  have hs := heaps_sized hB hm
  intro l hl x hx
  obtain ⟨i, hi, rfl⟩ := List.getElem_of_mem hl
  obtain ⟨j, hj, rfl⟩ := List.getElem_of_mem hx
  have hl2 := hs.2 i (by rw [← hs.1]; exact hi)
  rw [getD_lt _ _ _ hi] at hl2
  have g1 := hok.pos i j hi (by omega)
  have g2 := hok.top i j hi (by omega)
  unfold hat at g1 g2
  rw [getD_lt _ _ _ hi, getD_lt _ _ _ hj] at g1 g2
  omega

set_option maxRecDepth 100000 in
theorem refvolumes_calls (A B C : Int) (w : World) : Calls Try.prog 28 #[boxV A B C] w fun e w' => ∃ v err, e = .returned (.tuple #[v, .int .i64 err]) ∧ Kp w w' ∧ VolRes A B C w' v err := by
  refine lift28 ?_
  unfold S28
  refine r_box fun b w1 hbw hsz hb hk => ?_
  simp (disch := omega) only [r_ln, r_pick, r_pickT, r_pickF, r_condT, r_condF, r_gdTT, r_gdFF, r_gdTF, r_gdFT, r_gqTT, r_gqFF, r_gqTF, r_gqFT, r_not, r_lss, r_leq, r_gtr, r_geq, r_eql, r_neq, r_add, r_sub, r_min2, r_max2, r_min3, r_max3, r_fa, r_iaS, r_iaA, r_ex2a, r_ex2b, r_ex3a, r_ex3b, r_ex3c, r_nc, r_keepE, Nat.zero_add, Nat.add_zero, Nat.mul_one, Int.toNat_natCast, toNat_sub1, toNat_add1, decide_true, decide_false, Bool.not_true, Bool.not_false, if_true, if_false, Bool.false_eq_true, reduceCtorEq, r_ldRow (n := 3) hb rfl]
  refine r_use fok62 (good_calls A B C w1) rfl ?_
  rintro e w2 ⟨rfl, hk2⟩
  refine ⟨_, rfl, ?_⟩
  have hkw2 := Kp.trans hk hk2
  have hb2 := block_below hb hk2
  by_cases hv : validB A B C = true
  case neg =>
    have hv' : validB A B C = false := by simpa using hv
    simp (disch := omega) only [r_ln, r_pick, r_pickT, r_pickF, r_condT, r_condF, r_gdTT, r_gdFF, r_gdTF, r_gdFT, r_gqTT, r_gqFF, r_gqTF, r_gqFT, r_not, r_lss, r_leq, r_gtr, r_geq, r_eql, r_neq, r_add, r_sub, r_min2, r_max2, r_min3, r_max3, r_fa, r_iaS, r_iaA, r_ex2a, r_ex2b, r_ex3a, r_ex3b, r_ex3c, r_nc, r_keepE, Nat.zero_add, Nat.add_zero, Nat.mul_one, Int.toNat_natCast, toNat_sub1, toNat_add1, decide_true, decide_false, Bool.not_true, Bool.not_false, if_true, if_false, Bool.false_eq_true, reduceCtorEq, hv']
    exact ⟨nilS, 2, rfl, hkw2, by simp [VolRes, hv']⟩
  obtain ⟨a, b', c, rfl, rfl, rfl, h1, h2, h3, hb4, h5, h6⟩ := validB_nat hv
  obtain ⟨c0, c1, c2⟩ := box3 hb2
  have hab1 : a * b' ≤ 16 := Nat.mul_le_mul h2 hb4
  have hab : a * b' * c ≤ 64 := Nat.mul_le_mul hab1 h6
  simp (disch := omega) only [r_ln, r_pick, r_pickT, r_pickF, r_condT, r_condF, r_gdTT, r_gdFF, r_gdTF, r_gdFT, r_gqTT, r_gqFF, r_gqTF, r_gqFT, r_not, r_lss, r_leq, r_gtr, r_geq, r_eql, r_neq, r_add, r_sub, r_min2, r_max2, r_min3, r_max3, r_fa, r_iaS, r_iaA, r_ex2a, r_ex2b, r_ex3a, r_ex3b, r_ex3c, r_nc, r_keepE, Nat.zero_add, Nat.add_zero, Nat.mul_one, Int.toNat_natCast, toNat_sub1, toNat_add1, decide_true, decide_false, Bool.not_true, Bool.not_false, if_true, if_false, Bool.false_eq_true, reduceCtorEq, hv, r_ld c0, r_ld c1, r_ld c2, r_mulN]
  have eN : ((a * b' * c : Nat) : Int) + 1 = ((a * b' * c + 1 : Nat) : Int) := by omega
  rw [eN]
  refine mk36 (by omega) ?_
  have k3 : Kp w2 (w2.alloc (.cells (Array.replicate (a * b' * c + 1) (.int .i64 0)) 3)) := below_alloc _
  have g3 := heap_alloc_new w2 (.cells (Array.replicate (a * b' * c + 1) (.int .i64 0)) 3)
  have s3 : (w2.alloc (.cells (Array.replicate (a * b' * c + 1) (.int .i64 0)) 3)).heap.size = w2.heap.size + 1 := by show (w2.heap.push _).size = _; simp
  generalize w2.alloc (.cells (Array.replicate (a * b' * c + 1) (.int .i64 0)) 3) = w3 at *
  rw [zeros_cells] at g3
  have hb3 := block_below hb2 k3
  rw [r_ldRow (n := 3) hb3 rfl]
  refine r_use fok66 (empty_calls a b' c w3 (by omega) (by omega) (by omega)) rfl ?_
  rintro e w4 ⟨v, rfl, k4, g, bs, ho, hg, hbs⟩
  refine ⟨_, rfl, ?_⟩
  have g4 := block_below g3 k4
  have cz := row_cell (j := 0) g4 (by simp)
  have ez : (List.replicate (a * b' * c + 1) (0 : Int)).getD 0 0 = 0 := by simp [List.getD_eq_getElem?_getD]
  rw [ez] at cz
  simp (disch := omega) only [r_ln, r_pick, r_pickT, r_pickF, r_condT, r_condF, r_gdTT, r_gdFF, r_gdTF, r_gdFT, r_gqTT, r_gqFF, r_gqTF, r_gqFT, r_not, r_lss, r_leq, r_gtr, r_geq, r_eql, r_neq, r_add, r_sub, r_min2, r_max2, r_min3, r_max3, r_fa, r_iaS, r_iaA, r_ex2a, r_ex2b, r_ex3a, r_ex3b, r_ex3c, r_nc, r_keepE, Nat.zero_add, Nat.add_zero, Nat.mul_one, Int.toNat_natCast, toNat_sub1, toNat_add1, decide_true, decide_false, Bool.not_true, Bool.not_false, if_true, if_false, Bool.false_eq_true, reduceCtorEq, Int.toNat_zero, r_ld cz]
  rw [st3 cz (frozen_row g4)]
  have g5 := row_set (j := 0) (x := 0 + 1) g4 rfl
  have hc5 : Chg (fun k => k = w2.heap.size) w4 (w4.setCell ⟨w2.heap.size, 0, none⟩ (.int .i64 (0 + 1))) := Chg.setCell _ _ rfl
  generalize w4.setCell ⟨w2.heap.size, 0, none⟩ (.int .i64 (0 + 1)) = w5 at *
  have hlz : (zeros a b').length = a := by simp [zeros]
  have hbnew : ∀ i, i < a → w3.heap.size ≤ bs i := fun i hi => hbs i (by simpa using hi)
  have h0get : (heaps a b' (c : Int))[0]? = some (zeros a b') := by rw [← iterN_heaps (by omega) hb4 (by omega)]; rfl
  have hz0 := heaps_vol (A := a) (C := c) hb4 (List.mem_of_getElem? h0get)
  have hvz : volM (zeros a b') = 0 := by
    unfold volM zeros
    have e1 : (List.replicate b' (0 : Int)).sum = 0 := by
      induction b' with
      | zero => rfl
      | succ n _ => simp
    rw [List.map_replicate, e1]
    simp
  have hinit : (List.replicate (a * b' * c + 1) (0 : Int)).set 0 (0 + 1) = volL (a * b' * c + 1) ((heaps a b' c).take 1) := by
    have e0 : (heaps a b' (c : Int)).take 1 = [] ++ [zeros a b'] := by
      rw [List.take_one, ← List.head?_eq_getElem?] at *
      simp [h0get]
    rw [e0, ← volL_push hz0, hvz]
    have e1 : volL (a * b' * c + 1) [] = List.replicate (a * b' * c + 1) 0 := by
      refine List.ext_getElem (by simp [volL]) fun k x1 x2 => ?_
      simp [volL, volC_nil]
    rw [e1]
    simp [List.getD_eq_getElem?_getD]
  rw [hinit] at g5
  have hon : OwnRows w5 v g bs (zeros a b') := ho.chg hc5 (by omega) fun i hi e => by have := hbs i hi; omega
  have hks : w.heap.size ≤ w2.heap.size := hkw2.size
  refine loop0_ghost (fun n wr => ∃ (i : Nat) (h : List (List Int)), n + i = (heaps a b' c).length ∧ (heaps a b' (c : Int))[i]? = some h ∧ OwnRows wr v g bs h ∧ Chg (fun k => k = w2.heap.size ∨ ∃ q, q < a ∧ k = bs q) w4 wr ∧
      wr.heap[w2.heap.size]? = some (.cells (intCells (volL (a * b' * c + 1) ((heaps a b' c).take (i + 1)))).toArray 3 (0, 0))) (heaps a b' c).length
    ⟨0, zeros a b', rfl, h0get, hon, hc5.mono fun _ _ h => .inl h, g5⟩ ?_
  rintro _ n wr next ⟨i, h, hni, hih, hoh, hch, hgo⟩ hnext
  have hmem := List.mem_of_getElem? hih
  obtain ⟨hsz4, hnn4⟩ := heaps_nonneg (by omega) hb4 (by omega) hih
  have hbr := hch.at (block_below hb3 k4) fun h => by
    have := block_lt hb2
    rcases h with h | ⟨q, hq, h⟩
    · omega
    · have := hbnew q hq; omega
  have hkwr : Kp w wr := Kp.of_chg (Kp.trans hkw2 (Kp.trans k3 k4)) hch fun k h => by
    rcases h with h | ⟨q, hq, h⟩
    · omega
    · have := hbnew q hq; omega
  rw [r_ldRow (n := 3) hbr rfl]
  refine r_use fok23 (next_calls a b' c v g bs h wr (by omega) (by omega) (by omega) (by omega) hoh hsz4 hnn4) rfl ?_
  rintro e w6 ⟨rfl, ho6, hc6⟩
  refine ⟨_, rfl, ?_⟩
  rw [hsz4.1] at hc6
  have hne : ¬ (∃ q, q < a ∧ w2.heap.size = bs q) := fun ⟨q, hq, e⟩ => by have := hbnew q hq; omega
  have hgo6 := hc6.at hgo hne
  have hkw6 : Kp w w6 := Kp.of_chg hkwr hc6 fun k ⟨q, hq, e⟩ => by have := hbnew q hq; omega
  rw [next_place (by omega) hb4 (by omega) hih] at ho6 ⊢
  cases hnx : (heaps a b' (c : Int))[i + 1]? with
  | none =>
    simp (disch := omega) only [r_ln, r_pick, r_pickT, r_pickF, r_condT, r_condF, r_gdTT, r_gdFF, r_gdTF, r_gdFT, r_gqTT, r_gqFF, r_gqTF, r_gqFT, r_not, r_lss, r_leq, r_gtr, r_geq, r_eql, r_neq, r_add, r_sub, r_min2, r_max2, r_min3, r_max3, r_fa, r_iaS, r_iaA, r_ex2a, r_ex2b, r_ex3a, r_ex3b, r_ex3c, r_nc, r_keepE, Nat.zero_add, Nat.add_zero, Nat.mul_one, Int.toNat_natCast, toNat_sub1, toNat_add1, decide_true, decide_false, Bool.not_true, Bool.not_false, if_true, if_false, Bool.false_eq_true, reduceCtorEq, Option.isSome_none]
    refine ⟨_, 0, rfl, hkw6, ?_⟩
    simp only [VolRes, hv, if_true, Int.toNat_natCast]
    refine ⟨?_, trivial⟩
    have hl := List.getElem?_eq_none_iff.1 hnx
    rw [List.take_of_length_le hl] at hgo6
    refine ⟨_, _, by rw [volL_length], by rw [volL_length]; omega, fun _ => ⟨w2.heap.size, 0, rfl, fun k hk' => by rw [Nat.zero_add]; exact row_cell hgo6 hk'⟩⟩
  | some h' =>
    rw [hnx] at ho6
    simp (disch := omega) only [r_ln, r_pick, r_pickT, r_pickF, r_condT, r_condF, r_gdTT, r_gdFF, r_gdTF, r_gdFT, r_gqTT, r_gqFF, r_gqTF, r_gqFT, r_not, r_lss, r_leq, r_gtr, r_geq, r_eql, r_neq, r_add, r_sub, r_min2, r_max2, r_min3, r_max3, r_fa, r_iaS, r_iaA, r_ex2a, r_ex2b, r_ex3a, r_ex3b, r_ex3c, r_nc, r_keepE, Nat.zero_add, Nat.add_zero, Nat.mul_one, Int.toNat_natCast, toNat_sub1, toNat_add1, decide_true, decide_false, Bool.not_true, Bool.not_false, if_true, if_false, Bool.false_eq_true, reduceCtorEq, Option.isSome_some]
    have hmem' := List.mem_of_getElem? hnx
    have hsz' := heaps_sized hb4 hmem'
    refine r_use fok13 (volume_calls v h' w6 ho6.rd (by rw [hsz'.1]; omega) (fun q hq => by rw [hsz'.2 q (by rw [← hsz'.1]; exact hq)]; omega) (heaps_entries (by omega) hb4 h6 hmem')) rfl ?_
    rintro _ w7 ⟨rfl, k7⟩
    refine ⟨_, rfl, ?_⟩
    have hgo7 := block_below hgo6 k7
    obtain ⟨v0, v1⟩ := heaps_vol (A := a) (C := c) hb4 hmem'
    have hvl := volL_length (a * b' * c + 1) ((heaps a b' (c : Int)).take (i + 1))
    have cv := row_cell (j := (volM h').toNat) hgo7 (by rw [hvl]; omega)
    have hcnt := volC_le ((heaps a b' (c : Int)).take (i + 1)) ((volM h').toNat : Nat)
    have hcn0 := volC_nonneg ((heaps a b' (c : Int)).take (i + 1)) ((volM h').toNat : Nat)
    have hsm := heaps_small (A := a) (B := b') (C := c) h2 hb4 (by omega)
    have hgd : (volL (a * b' * c + 1) ((heaps a b' (c : Int)).take (i + 1))).getD (volM h').toNat 0 = volC ((heaps a b' (c : Int)).take (i + 1)) ((volM h').toNat : Nat) := volL_getD (by omega)
    have htl : ((heaps a b' (c : Int)).take (i + 1)).length ≤ (heaps a b' (c : Int)).length := by rw [List.length_take]; omega
    simp (disch := omega) only [r_ln, r_pick, r_pickT, r_pickF, r_condT, r_condF, r_gdTT, r_gdFF, r_gdTF, r_gdFT, r_gqTT, r_gqFF, r_gqTF, r_gqFT, r_not, r_lss, r_leq, r_gtr, r_geq, r_eql, r_neq, r_add, r_sub, r_min2, r_max2, r_min3, r_max3, r_fa, r_iaS, r_iaA, r_ex2a, r_ex2b, r_ex3a, r_ex3b, r_ex3c, r_nc, r_keepE, Nat.zero_add, Nat.add_zero, Nat.mul_one, Int.toNat_natCast, toNat_sub1, toNat_add1, decide_true, decide_false, Bool.not_true, Bool.not_false, if_true, if_false, Bool.false_eq_true, reduceCtorEq, r_ld cv]
    rw [st3 cv (frozen_row hgo7)]
    have hset := row_set (j := (volM h').toNat) (x := (volL (a * b' * c + 1) ((heaps a b' (c : Int)).take (i + 1))).getD (volM h').toNat 0 + 1) hgo7 rfl
    rw [volL_push ⟨v0, v1⟩] at hset
    have hlt : i + 1 < (heaps a b' (c : Int)).length := (List.getElem?_eq_some_iff.1 hnx).1
    have etk : (heaps a b' (c : Int)).take (i + 1) ++ [h'] = (heaps a b' (c : Int)).take (i + 1 + 1) := by
      rw [take_succ' _ _ hlt]
      congr 2
      exact (List.getElem?_eq_some_iff.1 hnx).2.symm
    rw [etk] at hset
    have hc8 : Chg (fun k => k = w2.heap.size) w7 (w7.setCell ⟨w2.heap.size, (volM h').toNat, none⟩ (.int .i64 ((volL (a * b' * c + 1) ((heaps a b' (c : Int)).take (i + 1))).getD (volM h').toNat 0 + 1))) := Chg.setCell _ _ rfl
    refine hnext _ (n - 1) (by omega) ⟨i + 1, h', by omega, hnx, (ho6.kp k7).chg hc8 (by omega) fun q hq e => ?_, ((hch.trans (hc6.mono fun _ _ h => .inr h)).trans (Chg.of_kp k7)).trans (hc8.mono fun _ _ h => .inl h), hset⟩
    have := hbnew q (by rw [← hsz'.1]; exact hq); omega

set_option maxRecDepth 100000 in
theorem refcount_calls (A B C : Int) (w : World) : Calls Try.prog 24 #[boxV A B C] w fun e w' => e = .returned (.tuple #[.int .i64 (countN A B C), .int .i64 (boxErr A B C)]) ∧ Kp w w' := by
  refine lift24 ?_
  unfold S24
  refine r_box fun b w1 hbw hsz hb hk => ?_
  rw [r_ldRow (n := 3) hb rfl]
  refine r_use fok28 (refvolumes_calls A B C w1) rfl ?_
  rintro e w2 ⟨v, err, rfl, k2, hres⟩
  refine ⟨_, rfl, ?_⟩
  simp only [r_ex2a, r_ex2b]
  obtain ⟨l, hl, hr, hsum, herr, hb0⟩ : ∃ l : List Int, l.length ≤ 1000 ∧ RdInts w2 v l ∧ l.sum = countN A B C ∧ err = boxErr A B C ∧ ∀ x ∈ l, 0 ≤ x ∧ x ≤ 152587890625 := by
    unfold VolRes at hres
    by_cases hv : validB A B C = true
    · rw [if_pos hv] at hres
      obtain ⟨a, b', c, rfl, rfl, rfl, h1, h2, h3, hb4, h5, h6⟩ := validB_nat hv
      simp only [Int.toNat_natCast] at hres
      obtain ⟨hc1, hc2⟩ := heaps_count (A := a) (B := b') (C := c) (by omega) (by omega) (by omega)
      have hab1 : a * b' ≤ 16 := Nat.mul_le_mul h2 hb4
      have hab : a * b' * c ≤ 64 := Nat.mul_le_mul hab1 h6
      refine ⟨_, by rw [volL_length]; omega, hres.1, ?_, ?_, fun x hx => ?_⟩
      · rw [hc1, volC_sum fun t ht => heaps_vol hb4 ht]
      · rw [hres.2, hc2]
      · simp only [volL, List.mem_map] at hx
        obtain ⟨q, _, rfl⟩ := hx
        have := volC_nonneg (heaps a b' (c : Int)) q
        have := volC_le (heaps a b' (c : Int)) q
        have := heaps_small (A := a) (B := b') (C := c) h2 hb4 (by omega)
        omega
    · rw [if_neg hv] at hres
      refine ⟨[], by simp, ?_, by simp [countN, hv], by simp [boxErr, hv, hres.2], by simp⟩
      rw [hres.1]
      exact ⟨none, 0, rfl, by simp, fun h => absurd h (by simp)⟩
  obtain ⟨a1, c1, rfl, _⟩ := hr.len
  refine ⟨fun t6 t7 wr => ∃ i : Nat, i ≤ l.length ∧ t7 = .int .i64 i ∧ t6 = .int .i64 (l.take i).sum ∧ w2 = wr, fun _ t7 _ => l.length - (intOf t7).toNat, ⟨0, by omega, rfl, by simp, rfl⟩, ?_⟩
  rintro _ _ _ _ ⟨i, hi, rfl, rfl, rfl⟩
  have hts : ∀ i, 0 ≤ (l.take i).sum ∧ (l.take i).sum ≤ 152587890625000 := fun i => by
    have := sum_le (M := 152587890625) (l.take i) fun x hx => hb0 x (List.mem_of_mem_take hx)
    have h3 : (l.take i).length ≤ 1000 := by rw [List.length_take]; omega
    omega
  by_cases hlt : i < l.length
  case neg =>
    have hlt' : ¬ (i : Int) < (l.length : Int) := by omega
    have e : i = l.length := by omega
    subst e
    simp (disch := omega) only [r_ln, r_pick, r_pickT, r_pickF, r_condT, r_condF, r_gdTT, r_gdFF, r_gdTF, r_gdFT, r_gqTT, r_gqFF, r_gqTF, r_gqFT, r_not, r_lss, r_leq, r_gtr, r_geq, r_eql, r_neq, r_add, r_sub, r_min2, r_max2, r_min3, r_max3, r_fa, r_iaS, r_iaA, r_ex2a, r_ex2b, r_ex3a, r_ex3b, r_ex3c, r_nc, r_keepE, Nat.zero_add, Nat.add_zero, Nat.mul_one, Int.toNat_natCast, toNat_sub1, toNat_add1, decide_true, decide_false, Bool.not_true, Bool.not_false, if_true, if_false, Bool.false_eq_true, reduceCtorEq, hlt']
    rw [List.take_length, hsum, herr]
    exact ⟨rfl, Kp.trans hk k2⟩
  have hlt' : (i : Int) < (l.length : Int) := by omega
  obtain ⟨x1, y1, _, e1, hx1⟩ := hr.at hlt
  cases e1
  have s0 := hts i
  have s1 := hts (i + 1)
  rw [sum_takeI_succ hlt] at s1
  simp (disch := omega) only [r_ln, r_pick, r_pickT, r_pickF, r_condT, r_condF, r_gdTT, r_gdFF, r_gdTF, r_gdFT, r_gqTT, r_gqFF, r_gqTF, r_gqFT, r_not, r_lss, r_leq, r_gtr, r_geq, r_eql, r_neq, r_add, r_sub, r_min2, r_max2, r_min3, r_max3, r_fa, r_iaS, r_iaA, r_ex2a, r_ex2b, r_ex3a, r_ex3b, r_ex3c, r_nc, r_keepE, Nat.zero_add, Nat.add_zero, Nat.mul_one, Int.toNat_natCast, toNat_sub1, toNat_add1, decide_true, decide_false, Bool.not_true, Bool.not_false, if_true, if_false, Bool.false_eq_true, reduceCtorEq, hlt', r_ld hx1]
  exact ⟨⟨i + 1, by omega, by go_num, by rw [sum_takeI_succ hlt], trivial⟩, by simp only [intOf]; omega⟩

set_option maxRecDepth 100000 in
theorem numbers_calls (v1 v2 : Value) (l1 l2 : List Int) (w : World) (hr1 : RdInts w v1 l1) (hr2 : RdInts w v2 l2) : Calls Try.prog 29 #[v1, v2] w fun e w' => e = .returned (.bool (decide (l1 = l2))) ∧ Kp w w' := by
  obtain ⟨a1, c1, rfl, hl1⟩ := hr1.len
  obtain ⟨a2, c2, rfl, hl2⟩ := hr2.len
  refine lift29 ?_
  unfold S29
  by_cases hne : (l1.length : Int) = l2.length
  case neg =>
    simp (disch := omega) only [r_ln, r_pick, r_pickT, r_pickF, r_condT, r_condF, r_gdTT, r_gdFF, r_gdTF, r_gdFT, r_gqTT, r_gqFF, r_gqTF, r_gqFT, r_not, r_lss, r_leq, r_gtr, r_geq, r_eql, r_neq, r_add, r_sub, r_min2, r_max2, r_min3, r_max3, r_fa, r_iaS, r_iaA, r_ex2a, r_ex2b, r_ex3a, r_ex3b, r_ex3c, r_nc, r_keepE, Nat.zero_add, Nat.add_zero, Nat.mul_one, Int.toNat_natCast, toNat_sub1, toNat_add1, decide_true, decide_false, Bool.not_true, Bool.not_false, if_true, if_false, Bool.false_eq_true, reduceCtorEq, hne]
    exact ⟨ret_bool (decide_eq_false (fun e => hne (by rw [e]))).symm, Kp.refl _⟩
  simp (disch := omega) only [r_ln, r_pick, r_pickT, r_pickF, r_condT, r_condF, r_gdTT, r_gdFF, r_gdTF, r_gdFT, r_gqTT, r_gqFF, r_gqTF, r_gqFT, r_not, r_lss, r_leq, r_gtr, r_geq, r_eql, r_neq, r_add, r_sub, r_min2, r_max2, r_min3, r_max3, r_fa, r_iaS, r_iaA, r_ex2a, r_ex2b, r_ex3a, r_ex3b, r_ex3c, r_nc, r_keepE, Nat.zero_add, Nat.add_zero, Nat.mul_one, Int.toNat_natCast, toNat_sub1, toNat_add1, decide_true, decide_false, Bool.not_true, Bool.not_false, if_true, if_false, Bool.false_eq_true, reduceCtorEq, hne]
  refine ⟨fun t5 wr => ∃ i : Nat, i ≤ l1.length ∧ t5 = .int .i64 i ∧ Kp w wr ∧ ∀ k, k < i → l1.getD k 0 = l2.getD k 0, fun t5 _ => l1.length - (intOf t5).toNat, ⟨0, by omega, rfl, Kp.refl _, by omega⟩, ?_⟩
  rintro _ _ wr ⟨i, hi, rfl, hk, hprev⟩
  by_cases hlt : i < l1.length
  case neg =>
    have hlt' : ¬ (i : Int) < (l2.length : Int) := by omega
    simp (disch := omega) only [r_ln, r_pick, r_pickT, r_pickF, r_condT, r_condF, r_gdTT, r_gdFF, r_gdTF, r_gdFT, r_gqTT, r_gqFF, r_gqTF, r_gqFT, r_not, r_lss, r_leq, r_gtr, r_geq, r_eql, r_neq, r_add, r_sub, r_min2, r_max2, r_min3, r_max3, r_fa, r_iaS, r_iaA, r_ex2a, r_ex2b, r_ex3a, r_ex3b, r_ex3c, r_nc, r_keepE, Nat.zero_add, Nat.add_zero, Nat.mul_one, Int.toNat_natCast, toNat_sub1, toNat_add1, decide_true, decide_false, Bool.not_true, Bool.not_false, if_true, if_false, Bool.false_eq_true, reduceCtorEq, hlt']
    refine ⟨ret_bool (decide_eq_true ?_).symm, hk⟩
    refine List.ext_getElem (by omega) fun k x1 x2 => ?_
    have := hprev k (by omega)
    rwa [getD_lt _ _ _ x1, getD_lt _ _ _ x2] at this
  have hlt' : (i : Int) < (l2.length : Int) := by omega
  simp (disch := omega) only [r_ln, r_pick, r_pickT, r_pickF, r_condT, r_condF, r_gdTT, r_gdFF, r_gdTF, r_gdFT, r_gqTT, r_gqFF, r_gqTF, r_gqFT, r_not, r_lss, r_leq, r_gtr, r_geq, r_eql, r_neq, r_add, r_sub, r_min2, r_max2, r_min3, r_max3, r_fa, r_iaS, r_iaA, r_ex2a, r_ex2b, r_ex3a, r_ex3b, r_ex3c, r_nc, r_keepE, Nat.zero_add, Nat.add_zero, Nat.mul_one, Int.toNat_natCast, toNat_sub1, toNat_add1, decide_true, decide_false, Bool.not_true, Bool.not_false, if_true, if_false, Bool.false_eq_true, reduceCtorEq, hlt']
  refine r_drew fun wa hka _ => ?_
  obtain ⟨x1, y1, _, e1, hx1⟩ := (hr1.below (Kp.trans hk hka)).at hlt
  cases e1
  obtain ⟨x2, y2, _, e2, hx2⟩ := (hr2.below (Kp.trans hk hka)).at (j := i) (by omega)
  cases e2
  by_cases he : l1.getD i 0 = l2.getD i 0
  · simp (disch := omega) only [r_ln, r_pick, r_pickT, r_pickF, r_condT, r_condF, r_gdTT, r_gdFF, r_gdTF, r_gdFT, r_gqTT, r_gqFF, r_gqTF, r_gqFT, r_not, r_lss, r_leq, r_gtr, r_geq, r_eql, r_neq, r_add, r_sub, r_min2, r_max2, r_min3, r_max3, r_fa, r_iaS, r_iaA, r_ex2a, r_ex2b, r_ex3a, r_ex3b, r_ex3c, r_nc, r_keepE, Nat.zero_add, Nat.add_zero, Nat.mul_one, Int.toNat_natCast, toNat_sub1, toNat_add1, decide_true, decide_false, Bool.not_true, Bool.not_false, if_true, if_false, Bool.false_eq_true, reduceCtorEq, r_ld hx1, r_ld hx2, he]
    refine ⟨⟨i + 1, by omega, by go_num, Kp.trans hk hka, fun k hk' => ?_⟩, by simp only [intOf]; omega⟩
    by_cases hki : k < i
    · exact hprev k hki
    · have : k = i := by omega
      subst this; exact he
  · simp (disch := omega) only [r_ln, r_pick, r_pickT, r_pickF, r_condT, r_condF, r_gdTT, r_gdFF, r_gdTF, r_gdFT, r_gqTT, r_gqFF, r_gqTF, r_gqFT, r_not, r_lss, r_leq, r_gtr, r_geq, r_eql, r_neq, r_add, r_sub, r_min2, r_max2, r_min3, r_max3, r_fa, r_iaS, r_iaA, r_ex2a, r_ex2b, r_ex3a, r_ex3b, r_ex3c, r_nc, r_keepE, Nat.zero_add, Nat.add_zero, Nat.mul_one, Int.toNat_natCast, toNat_sub1, toNat_add1, decide_true, decide_false, Bool.not_true, Bool.not_false, if_true, if_false, Bool.false_eq_true, reduceCtorEq, r_ld hx1, r_ld hx2, he]
    exact ⟨ret_bool (decide_eq_false (fun e => he (by rw [e]))).symm, Kp.trans hk hka⟩

set_option maxRecDepth 100000 in
theorem counts_calls (A B C : Int) (w : World) : Calls Try.prog 5 #[boxV A B C] w fun e w' => e = .returned (.bool true) ∧ Kp w w' := by
  refine lift5 ?_
  unfold S5
  refine r_box fun b w1 hbw hsz hb hk => ?_
  rw [r_ldRow (n := 3) hb rfl]
  refine r_use fok21 (countf_calls A B C w1) rfl ?_
  rintro _ w2 ⟨rfl, k2⟩
  refine ⟨_, rfl, ?_⟩
  have h2 := block_below hb k2
  simp only [r_ex2a, r_ex2b]
  rw [r_ldRow (n := 3) h2 rfl]
  refine r_use fok24 (refcount_calls A B C w2) rfl ?_
  rintro _ w3 ⟨rfl, k3⟩
  refine ⟨_, rfl, ?_⟩
  have h3 := block_below h2 k3
  simp (disch := omega) only [r_ln, r_pick, r_pickT, r_pickF, r_condT, r_condF, r_gdTT, r_gdFF, r_gdTF, r_gdFT, r_gqTT, r_gqFF, r_gqTF, r_gqFT, r_not, r_lss, r_leq, r_gtr, r_geq, r_eql, r_neq, r_add, r_sub, r_min2, r_max2, r_min3, r_max3, r_fa, r_iaS, r_iaA, r_ex2a, r_ex2b, r_ex3a, r_ex3b, r_ex3c, r_nc, r_keepE, Nat.zero_add, Nat.add_zero, Nat.mul_one, Int.toNat_natCast, toNat_sub1, toNat_add1, decide_true, decide_false, Bool.not_true, Bool.not_false, if_true, if_false, Bool.false_eq_true, reduceCtorEq, r_ldRow (n := 3) h3 rfl]
  refine r_use fok25 (paths_calls A B C w3) rfl ?_
  rintro _ w4 ⟨rfl, k4⟩
  refine ⟨_, rfl, ?_⟩
  have h4 := block_below h3 k4
  simp (disch := omega) only [r_ln, r_pick, r_pickT, r_pickF, r_condT, r_condF, r_gdTT, r_gdFF, r_gdTF, r_gdFT, r_gqTT, r_gqFF, r_gqTF, r_gqFT, r_not, r_lss, r_leq, r_gtr, r_geq, r_eql, r_neq, r_add, r_sub, r_min2, r_max2, r_min3, r_max3, r_fa, r_iaS, r_iaA, r_ex2a, r_ex2b, r_ex3a, r_ex3b, r_ex3c, r_nc, r_keepE, Nat.zero_add, Nat.add_zero, Nat.mul_one, Int.toNat_natCast, toNat_sub1, toNat_add1, decide_true, decide_false, Bool.not_true, Bool.not_false, if_true, if_false, Bool.false_eq_true, reduceCtorEq, r_ldRow (n := 3) h4 rfl]
  refine r_use fok26 (refpaths_calls A B C w4) rfl ?_
  rintro _ w5 ⟨rfl, k5⟩
  refine ⟨_, rfl, ?_⟩
  have h5 := block_below h4 k5
  simp (disch := omega) only [r_ln, r_pick, r_pickT, r_pickF, r_condT, r_condF, r_gdTT, r_gdFF, r_gdTF, r_gdFT, r_gqTT, r_gqFF, r_gqTF, r_gqFT, r_not, r_lss, r_leq, r_gtr, r_geq, r_eql, r_neq, r_add, r_sub, r_min2, r_max2, r_min3, r_max3, r_fa, r_iaS, r_iaA, r_ex2a, r_ex2b, r_ex3a, r_ex3b, r_ex3c, r_nc, r_keepE, Nat.zero_add, Nat.add_zero, Nat.mul_one, Int.toNat_natCast, toNat_sub1, toNat_add1, decide_true, decide_false, Bool.not_true, Bool.not_false, if_true, if_false, Bool.false_eq_true, reduceCtorEq, r_ldRow (n := 3) h5 rfl]
  refine r_use fok27 (volumes_calls A B C w5) rfl ?_
  rintro _ w6 ⟨v6, err6, rfl, k6, hres6⟩
  refine ⟨_, rfl, ?_⟩
  have h6 := block_below h5 k6
  simp (disch := omega) only [r_ln, r_pick, r_pickT, r_pickF, r_condT, r_condF, r_gdTT, r_gdFF, r_gdTF, r_gdFT, r_gqTT, r_gqFF, r_gqTF, r_gqFT, r_not, r_lss, r_leq, r_gtr, r_geq, r_eql, r_neq, r_add, r_sub, r_min2, r_max2, r_min3, r_max3, r_fa, r_iaS, r_iaA, r_ex2a, r_ex2b, r_ex3a, r_ex3b, r_ex3c, r_nc, r_keepE, Nat.zero_add, Nat.add_zero, Nat.mul_one, Int.toNat_natCast, toNat_sub1, toNat_add1, decide_true, decide_false, Bool.not_true, Bool.not_false, if_true, if_false, Bool.false_eq_true, reduceCtorEq, r_ldRow (n := 3) h6 rfl]
  refine r_use fok28 (refvolumes_calls A B C w6) rfl ?_
  rintro _ w7 ⟨v7, err7, rfl, k7, hres7⟩
  refine ⟨_, rfl, ?_⟩
  simp (disch := omega) only [r_ln, r_pick, r_pickT, r_pickF, r_condT, r_condF, r_gdTT, r_gdFF, r_gdTF, r_gdFT, r_gqTT, r_gqFF, r_gqTF, r_gqFT, r_not, r_lss, r_leq, r_gtr, r_geq, r_eql, r_neq, r_add, r_sub, r_min2, r_max2, r_min3, r_max3, r_fa, r_iaS, r_iaA, r_ex2a, r_ex2b, r_ex3a, r_ex3b, r_ex3c, r_nc, r_keepE, Nat.zero_add, Nat.add_zero, Nat.mul_one, Int.toNat_natCast, toNat_sub1, toNat_add1, decide_true, decide_false, Bool.not_true, Bool.not_false, if_true, if_false, Bool.false_eq_true, reduceCtorEq]
  obtain ⟨l, hr6, hr7, he⟩ : ∃ l : List Int, RdInts w6 v6 l ∧ RdInts w7 v7 l ∧ err6 = err7 := by
    unfold VolRes at hres6 hres7
    by_cases hv : validB A B C = true
    · rw [if_pos hv] at hres6 hres7
      exact ⟨_, hres6.1, hres7.1, by rw [hres6.2, hres7.2]⟩
    · rw [if_neg hv] at hres6 hres7
      refine ⟨[], ?_, ?_, by rw [hres6.2, hres7.2]⟩
      · rw [hres6.1]; exact ⟨none, 0, rfl, by simp, fun h => absurd h (by simp)⟩
      · rw [hres7.1]; exact ⟨none, 0, rfl, by simp, fun h => absurd h (by simp)⟩
  subst he
  refine r_use fok29 (numbers_calls v6 v7 l l w7 (hr6.below k7) hr7) rfl ?_
  rintro _ w8 ⟨rfl, k8⟩
  refine ⟨_, rfl, ?_⟩
  simp (disch := omega) only [r_ln, r_pick, r_pickT, r_pickF, r_condT, r_condF, r_gdTT, r_gdFF, r_gdTF, r_gdFT, r_gqTT, r_gqFF, r_gqTF, r_gqFT, r_not, r_lss, r_leq, r_gtr, r_geq, r_eql, r_neq, r_add, r_sub, r_min2, r_max2, r_min3, r_max3, r_fa, r_iaS, r_iaA, r_ex2a, r_ex2b, r_ex3a, r_ex3b, r_ex3c, r_nc, r_keepE, Nat.zero_add, Nat.add_zero, Nat.mul_one, Int.toNat_natCast, toNat_sub1, toNat_add1, decide_true, decide_false, Bool.not_true, Bool.not_false, if_true, if_false, Bool.false_eq_true, reduceCtorEq]
  refine r_use fok17 (alive_calls w8) rfl ?_
  rintro _ w9 ⟨rfl, k9⟩
  refine ⟨_, rfl, ?_⟩
  simp (disch := omega) only [r_ln, r_pick, r_pickT, r_pickF, r_condT, r_condF, r_gdTT, r_gdFF, r_gdTF, r_gdFT, r_gqTT, r_gqFF, r_gqTF, r_gqFT, r_not, r_lss, r_leq, r_gtr, r_geq, r_eql, r_neq, r_add, r_sub, r_min2, r_max2, r_min3, r_max3, r_fa, r_iaS, r_iaA, r_ex2a, r_ex2b, r_ex3a, r_ex3b, r_ex3c, r_nc, r_keepE, Nat.zero_add, Nat.add_zero, Nat.mul_one, Int.toNat_natCast, toNat_sub1, toNat_add1, decide_true, decide_false, Bool.not_true, Bool.not_false, if_true, if_false, Bool.false_eq_true, reduceCtorEq]
  exact ⟨trivial, Kp.trans hk (Kp.trans (Kp.trans k2 (Kp.trans k3 k4)) (Kp.trans (Kp.trans k5 (Kp.trans k6 k7)) (Kp.trans k8 k9)))⟩

end Go.Proofs.Ytaephdjmpmbfpaa
