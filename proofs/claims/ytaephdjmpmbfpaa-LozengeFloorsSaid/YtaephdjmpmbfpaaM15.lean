/- Texts of my own, merged by program: V3 Y2 Sh. -/
import Derived.Test.YtaephdjmpmbfpaaM14
import Derived.Test.YtaephdjmpmbfpaaM13
import Derived.Test.YtaephdjmpmbfpaaM02
set_option linter.all false
/- Contracts: Volumes of program and specification, Count of the specification, numbers. -/
namespace Go.Proofs.Ytaephdjmpmbfpaa
open Go.Lf Go.RowKit Go.Hp

/-- What Volumes hands back. -/
def VolRes (A B C : Int) (w' : World) (v : Value) (err : Int) : Prop :=
  if validB A B C = true then RdInts w' v (volL (A.toNat * B.toNat * C.toNat + 1) (heaps A.toNat B.toNat C)) ∧ err = 0 else v = nilS ∧ err = 2

theorem clone_rd {w' : World} {b c : Nat} {cur : Array Value} {l : List Int} (hb : w'.heap[b]? = some (.cells cur 3 (0, 0))) (hl : l.length ≤ 1000000) (hr : ∀ j, j < l.length → cur[j]? = some (.int .i64 (l.getD j 0))) : RdInts w' (.slice (some ⟨b, 0, none⟩) l.length c) l :=
  ⟨_, c, rfl, by omega, fun _ => ⟨b, 0, rfl, fun i hi => by rw [Nat.zero_add, cell_row hb]; exact hr i hi⟩⟩

set_option maxRecDepth 100000 in
theorem volumes_calls (A B C : Int) (w : World) : Calls Try.prog 27 #[boxV A B C] w fun e w' => ∃ v err, e = .returned (.tuple #[v, .int .i64 err]) ∧ Kp w w' ∧ VolRes A B C w' v err := by
  refine lift27 ?_
  unfold S27
  refine r_box fun b w1 hbw hsz hb hk => ?_
  simp (disch := omega) only [r_ln, r_pick, r_pickT, r_pickF, r_condT, r_condF, r_gdTT, r_gdFF, r_gdTF, r_gdFT, r_gqTT, r_gqFF, r_gqTF, r_gqFT, r_not, r_lss, r_leq, r_gtr, r_geq, r_eql, r_neq, r_add, r_sub, r_min2, r_max2, r_min3, r_max3, r_fa, r_iaS, r_iaA, r_ex2a, r_ex2b, r_ex3a, r_ex3b, r_ex3c, r_nc, r_keepE, Nat.zero_add, Nat.add_zero, Nat.mul_one, Int.toNat_natCast, toNat_sub1, toNat_add1, decide_true, decide_false, Bool.not_true, Bool.not_false, if_true, if_false, Bool.false_eq_true, reduceCtorEq, r_ldRow (n := 3) hb rfl]
  refine r_use fok58 (valid_calls A B C w1) rfl ?_
  rintro e w2 ⟨rfl, hk2⟩
  refine ⟨_, rfl, ?_⟩
  have hkw2 := Kp.trans hk hk2
  have hb2 := block_below hb hk2
  by_cases hv : validB A B C = true
  case neg =>
    have hv' : validB A B C = false := by simpa using hv
    simp (disch := omega) only [r_ln, r_pick, r_pickT, r_pickF, r_condT, r_condF, r_gdTT, r_gdFF, r_gdTF, r_gdFT, r_gqTT, r_gqFF, r_gqTF, r_gqFT, r_not, r_lss, r_leq, r_gtr, r_geq, r_eql, r_neq, r_add, r_sub, r_min2, r_max2, r_min3, r_max3, r_fa, r_iaS, r_iaA, r_ex2a, r_ex2b, r_ex3a, r_ex3b, r_ex3c, r_nc, r_keepE, Nat.zero_add, Nat.add_zero, Nat.mul_one, Int.toNat_natCast, toNat_sub1, toNat_add1, decide_true, decide_false, Bool.not_true, Bool.not_false, if_true, if_false, Bool.false_eq_true, reduceCtorEq, hv']
    exact ⟨nilS, 2, rfl, hkw2, by simp [VolRes, hv']⟩
  obtain ⟨a, b', c, rfl, rfl, rfl, h1, h2, h3, hb4, h5, h6⟩ := validB_nat hv
  simp (disch := omega) only [hv, r_not, Bool.not_true, r_condF]
  refine r_drew fun y0 hk0 _ => ?_
  have hkw0 := Kp.trans hkw2 hk0
  have hby0 := block_below hb2 hk0
  refine r_join2 (fun t2 t3 w' => t3 = .int .i64 0 ∧ Kp w w' ∧ RdInts w' t2 (volL (a * b' * c + 1) (heaps a b' c))) ?_ ?_
  · rintro t2 _ w' ⟨rfl, x1, x2⟩
    refine ⟨t2, 0, rfl, x1, ?_⟩
    simp only [VolRes, hv, if_true, Int.toNat_natCast]
    exact ⟨x2, trivial⟩
  intro kk hkk
  obtain ⟨c0, c1, c2⟩ := box3 hby0
  have htl : (topRow b' (c : Int)).length = 4 := topRow_length hb4
  have hgood := top_good (B := b') (C := (c : Int)) hb4 (by omega)
  have hab : a * b' * c ≤ 64 := Nat.mul_le_mul (Nat.mul_le_mul h2 hb4) h6
  have fin : ∀ (w' : World) (m : Nat), Kp y0 w' → y0.heap.size ≤ m → w'.heap[m]? = some (.map #[] 0) →
      callW Try.prog (.func (.func 65) #[] #[]) [boxV a b' c, placeV a (topRow b' c), .map (some m)] w' fun t14 w => callW Try.prog (.func (.func 59) #[] #[]) [t14] w fun t15 w => kk t15 (.int .i64 0) w := by
    intro w' m x1 hm0 hm
    refine r_use fok65 (sized_calls a b' c m hb4 h6 a (topRow b' c) (fun _ => False) w' h2 hgood (fun k h => h.elim) ⟨#[], 0, hm, by simp⟩) rfl ?_
    rintro _ w5 ⟨v5, rfl, hv5, _, hc5⟩
    refine ⟨_, rfl, ?_⟩
    have hlen := sized_length b' c hb4 a _ hgood
    have hrd := hv5.rd (by omega)
    rw [sized_volL hb4 a _ hgood] at hrd hlen
    rw [show allE b' a (topRow b' (c : Int)) = heaps a b' c from rfl] at hrd hlen
    refine r_use fok59 (clone_calls v5 _ w5 hrd (by omega) (by omega)) rfl ?_
    rintro _ w6 ⟨b6, c6, cur, rfl, k6, hb6, hg6, hr6⟩
    refine ⟨_, rfl, ?_⟩
    exact hkk _ _ _ ⟨rfl, Kp.trans (Kp.of_chg (Kp.trans hkw0 x1) hc5 fun i e => by have := hkw0.size; omega) k6, clone_rd hg6 (by omega) hr6⟩
  simp (disch := omega) only [r_ln, r_pick, r_pickT, r_pickF, r_condT, r_condF, r_gdTT, r_gdFF, r_gdTF, r_gdFT, r_gqTT, r_gqFF, r_gqTF, r_gqFT, r_not, r_lss, r_leq, r_gtr, r_geq, r_eql, r_neq, r_add, r_sub, r_min2, r_max2, r_min3, r_max3, r_fa, r_iaS, r_iaA, r_ex2a, r_ex2b, r_ex3a, r_ex3b, r_ex3c, r_nc, r_keepE, Nat.zero_add, Nat.add_zero, Nat.mul_one, Int.toNat_natCast, toNat_sub1, toNat_add1, decide_true, decide_false, Bool.not_true, Bool.not_false, if_true, if_false, Bool.false_eq_true, reduceCtorEq, r_ldRow (n := 3) hby0 rfl, r_ld c0]
  refine ⟨?_, ?_, trivial⟩
  · refine r_use fok53 (top_calls a c b' y0 hb4) rfl ?_
    rintro _ y1 ⟨rfl, x1⟩
    refine ⟨_, rfl, x1, ?_⟩
    dsimp only
    rw [bd88 _ htl]
    refine r_mm fun m y2 hm s2 g2 x2 => ⟨x2, ?_⟩
    exact fin y2 m (Kp.trans x1 x2) (by have := Below.size x1; omega) g2
  · refine r_mm fun m y1 hm s1 g1 x1 => ⟨x1, ?_⟩
    refine r_use fok53 (top_calls a c b' y1 hb4) rfl ?_
    rintro _ y2 ⟨rfl, x2⟩
    refine ⟨_, rfl, x2, ?_⟩
    dsimp only
    rw [bd88 _ htl]
    exact fin y2 m (Kp.trans x1 x2) (by omega) (block_below g1 x2)

theorem heaps_vol {A B C : Nat} (hB : B ≤ 4) {h : List (List Int)} (hm : h ∈ heaps A B C) : 0 ≤ volM h ∧ volM h < ((A * B * C + 1 : Nat) : Int) := by
  have := vol_range hB A _ (top_good hB (by omega)) h hm
  omega

theorem heaps_entries {A B C : Nat} (hB0 : 0 < B) (hB : B ≤ 4) (hC : C ≤ 4) {h : List (List Int)} (hm : h ∈ heaps A B C) : ∀ l ∈ h, ∀ x ∈ l, 0 ≤ x ∧ x ≤ 1000000 := by
  have hok := heapOk_iff.1 ((heapOk_mem (A := A) hB0 hB).2 hm)
  have hs := heaps_sized hB hm
  intro l hl x hx
  obtain ⟨i, hi, rfl⟩ := List.getElem_of_mem hl
  obtain ⟨j, hj, rfl⟩ := List.getElem_of_mem hx
  have hl2 := hs.2 i (by rw [← hs.1]; exact hi)
  rw [getD_lt _ _ _ hi] at hl2
  have g1 := hok.pos i j hi (by omega)
  have g2 := hok.top i j hi (by omega)
  unfold hat at g1 g2
  rw [getD_lt _ _ _ hi, getD_lt _ _ _ hj] at g1 g2
  omega

set_option maxRecDepth 100000 in
theorem refvolumes_calls (A B C : Int) (w : World) : Calls Try.prog 28 #[boxV A B C] w fun e w' => ∃ v err, e = .returned (.tuple #[v, .int .i64 err]) ∧ Kp w w' ∧ VolRes A B C w' v err := by
  refine lift28 ?_
  unfold S28
  refine r_box fun b w1 hbw hsz hb hk => ?_
  simp (disch := omega) only [r_ln, r_pick, r_pickT, r_pickF, r_condT, r_condF, r_gdTT, r_gdFF, r_gdTF, r_gdFT, r_gqTT, r_gqFF, r_gqTF, r_gqFT, r_not, r_lss, r_leq, r_gtr, r_geq, r_eql, r_neq, r_add, r_sub, r_min2, r_max2, r_min3, r_max3, r_fa, r_iaS, r_iaA, r_ex2a, r_ex2b, r_ex3a, r_ex3b, r_ex3c, r_nc, r_keepE, Nat.zero_add, Nat.add_zero, Nat.mul_one, Int.toNat_natCast, toNat_sub1, toNat_add1, decide_true, decide_false, Bool.not_true, Bool.not_false, if_true, if_false, Bool.false_eq_true, reduceCtorEq, r_ldRow (n := 3) hb rfl]
  refine r_use fok62 (good_calls A B C w1) rfl ?_
  rintro e w2 ⟨rfl, hk2⟩
  refine ⟨_, rfl, ?_⟩
  have hkw2 := Kp.trans hk hk2
  have hb2 := block_below hb hk2
  by_cases hv : validB A B C = true
  case neg =>
    have hv' : validB A B C = false := by simpa using hv
    simp (disch := omega) only [r_ln, r_pick, r_pickT, r_pickF, r_condT, r_condF, r_gdTT, r_gdFF, r_gdTF, r_gdFT, r_gqTT, r_gqFF, r_gqTF, r_gqFT, r_not, r_lss, r_leq, r_gtr, r_geq, r_eql, r_neq, r_add, r_sub, r_min2, r_max2, r_min3, r_max3, r_fa, r_iaS, r_iaA, r_ex2a, r_ex2b, r_ex3a, r_ex3b, r_ex3c, r_nc, r_keepE, Nat.zero_add, Nat.add_zero, Nat.mul_one, Int.toNat_natCast, toNat_sub1, toNat_add1, decide_true, decide_false, Bool.not_true, Bool.not_false, if_true, if_false, Bool.false_eq_true, reduceCtorEq, hv']
    exact ⟨nilS, 2, rfl, hkw2, by simp [VolRes, hv']⟩
  obtain ⟨a, b', c, rfl, rfl, rfl, h1, h2, h3, hb4, h5, h6⟩ := validB_nat hv
  obtain ⟨c0, c1, c2⟩ := box3 hb2
  have hab1 : a * b' ≤ 16 := Nat.mul_le_mul h2 hb4
  have hab : a * b' * c ≤ 64 := Nat.mul_le_mul hab1 h6
  simp (disch := omega) only [r_ln, r_pick, r_pickT, r_pickF, r_condT, r_condF, r_gdTT, r_gdFF, r_gdTF, r_gdFT, r_gqTT, r_gqFF, r_gqTF, r_gqFT, r_not, r_lss, r_leq, r_gtr, r_geq, r_eql, r_neq, r_add, r_sub, r_min2, r_max2, r_min3, r_max3, r_fa, r_iaS, r_iaA, r_ex2a, r_ex2b, r_ex3a, r_ex3b, r_ex3c, r_nc, r_keepE, Nat.zero_add, Nat.add_zero, Nat.mul_one, Int.toNat_natCast, toNat_sub1, toNat_add1, decide_true, decide_false, Bool.not_true, Bool.not_false, if_true, if_false, Bool.false_eq_true, reduceCtorEq, hv, r_ld c0, r_ld c1, r_ld c2, r_mulN]
  have eN : ((a * b' * c : Nat) : Int) + 1 = ((a * b' * c + 1 : Nat) : Int) := by omega
  rw [eN]
  refine mk36 (by omega) ?_
  have k3 : Kp w2 (w2.alloc (.cells (Array.replicate (a * b' * c + 1) (.int .i64 0)) 3)) := below_alloc _
  have g3 := heap_alloc_new w2 (.cells (Array.replicate (a * b' * c + 1) (.int .i64 0)) 3)
  have s3 : (w2.alloc (.cells (Array.replicate (a * b' * c + 1) (.int .i64 0)) 3)).heap.size = w2.heap.size + 1 := by show (w2.heap.push _).size = _; simp
  generalize w2.alloc (.cells (Array.replicate (a * b' * c + 1) (.int .i64 0)) 3) = w3 at *
  rw [zeros_cells] at g3
  have hb3 := block_below hb2 k3
  rw [r_ldRow (n := 3) hb3 rfl]
  refine r_use fok66 (empty_calls a b' c w3 (by omega) (by omega) (by omega)) rfl ?_
  rintro e w4 ⟨v, rfl, k4, g, bs, ho, hg, hbs⟩
  refine ⟨_, rfl, ?_⟩
  have g4 := block_below g3 k4
  have cz := row_cell (j := 0) g4 (by simp)
  have ez : (List.replicate (a * b' * c + 1) (0 : Int)).getD 0 0 = 0 := by simp [List.getD_eq_getElem?_getD]
  rw [ez] at cz
  simp (disch := omega) only [r_ln, r_pick, r_pickT, r_pickF, r_condT, r_condF, r_gdTT, r_gdFF, r_gdTF, r_gdFT, r_gqTT, r_gqFF, r_gqTF, r_gqFT, r_not, r_lss, r_leq, r_gtr, r_geq, r_eql, r_neq, r_add, r_sub, r_min2, r_max2, r_min3, r_max3, r_fa, r_iaS, r_iaA, r_ex2a, r_ex2b, r_ex3a, r_ex3b, r_ex3c, r_nc, r_keepE, Nat.zero_add, Nat.add_zero, Nat.mul_one, Int.toNat_natCast, toNat_sub1, toNat_add1, decide_true, decide_false, Bool.not_true, Bool.not_false, if_true, if_false, Bool.false_eq_true, reduceCtorEq, Int.toNat_zero, r_ld cz]
  rw [st3 cz (frozen_row g4)]
  have g5 := row_set (j := 0) (x := 0 + 1) g4 rfl
  have hc5 : Chg (fun k => k = w2.heap.size) w4 (w4.setCell ⟨w2.heap.size, 0, none⟩ (.int .i64 (0 + 1))) := Chg.setCell _ _ rfl
  generalize w4.setCell ⟨w2.heap.size, 0, none⟩ (.int .i64 (0 + 1)) = w5 at *
  have hlz : (zeros a b').length = a := by simp [zeros]
  have hbnew : ∀ i, i < a → w3.heap.size ≤ bs i := fun i hi => hbs i (by simpa using hi)
  have h0get : (heaps a b' (c : Int))[0]? = some (zeros a b') := by rw [← iterN_heaps (by omega) hb4 (by omega)]; rfl
  have hz0 := heaps_vol (A := a) (C := c) hb4 (List.mem_of_getElem? h0get)
  have hvz : volM (zeros a b') = 0 := by
    unfold volM zeros
    have e1 : (List.replicate b' (0 : Int)).sum = 0 := by
      induction b' with
      | zero => rfl
      | succ n _ => simp
    rw [List.map_replicate, e1]
    simp
  have hinit : (List.replicate (a * b' * c + 1) (0 : Int)).set 0 (0 + 1) = volL (a * b' * c + 1) ((heaps a b' c).take 1) := by
    have e0 : (heaps a b' (c : Int)).take 1 = [] ++ [zeros a b'] := by
      rw [List.take_one, ← List.head?_eq_getElem?] at *
      simp [h0get]
    rw [e0, ← volL_push hz0, hvz]
    have e1 : volL (a * b' * c + 1) [] = List.replicate (a * b' * c + 1) 0 := by
      refine List.ext_getElem (by simp [volL]) fun k x1 x2 => ?_
      simp [volL, volC_nil]
    rw [e1]
    simp [List.getD_eq_getElem?_getD]
  rw [hinit] at g5
  have hon : OwnRows w5 v g bs (zeros a b') := ho.chg hc5 (by omega) fun i hi e => by have := hbs i hi; omega
  have hks : w.heap.size ≤ w2.heap.size := hkw2.size
  refine loop0_ghost (fun n wr => ∃ (i : Nat) (h : List (List Int)), n + i = (heaps a b' c).length ∧ (heaps a b' (c : Int))[i]? = some h ∧ OwnRows wr v g bs h ∧ Chg (fun k => k = w2.heap.size ∨ ∃ q, q < a ∧ k = bs q) w4 wr ∧
      wr.heap[w2.heap.size]? = some (.cells (intCells (volL (a * b' * c + 1) ((heaps a b' c).take (i + 1)))).toArray 3 (0, 0))) (heaps a b' c).length
    ⟨0, zeros a b', rfl, h0get, hon, hc5.mono fun _ _ h => .inl h, g5⟩ ?_
  rintro _ n wr next ⟨i, h, hni, hih, hoh, hch, hgo⟩ hnext
  have hmem := List.mem_of_getElem? hih
  obtain ⟨hsz4, hnn4⟩ := heaps_nonneg (by omega) hb4 (by omega) hih
  have hbr := hch.at (block_below hb3 k4) fun h => by
    have := block_lt hb2
    rcases h with h | ⟨q, hq, h⟩
    · omega
    · have := hbnew q hq; omega
  have hkwr : Kp w wr := Kp.of_chg (Kp.trans hkw2 (Kp.trans k3 k4)) hch fun k h => by
    rcases h with h | ⟨q, hq, h⟩
    · omega
    · have := hbnew q hq; omega
  rw [r_ldRow (n := 3) hbr rfl]
  refine r_use fok23 (next_calls a b' c v g bs h wr (by omega) (by omega) (by omega) (by omega) hoh hsz4 hnn4) rfl ?_
  rintro e w6 ⟨rfl, ho6, hc6⟩
  refine ⟨_, rfl, ?_⟩
  rw [hsz4.1] at hc6
  have hne : ¬ (∃ q, q < a ∧ w2.heap.size = bs q) := fun ⟨q, hq, e⟩ => by have := hbnew q hq; omega
  have hgo6 := hc6.at hgo hne
  have hkw6 : Kp w w6 := Kp.of_chg hkwr hc6 fun k ⟨q, hq, e⟩ => by have := hbnew q hq; omega
  rw [next_place (by omega) hb4 (by omega) hih] at ho6 ⊢
  cases hnx : (heaps a b' (c : Int))[i + 1]? with
  | none =>
    simp (disch := omega) only [r_ln, r_pick, r_pickT, r_pickF, r_condT, r_condF, r_gdTT, r_gdFF, r_gdTF, r_gdFT, r_gqTT, r_gqFF, r_gqTF, r_gqFT, r_not, r_lss, r_leq, r_gtr, r_geq, r_eql, r_neq, r_add, r_sub, r_min2, r_max2, r_min3, r_max3, r_fa, r_iaS, r_iaA, r_ex2a, r_ex2b, r_ex3a, r_ex3b, r_ex3c, r_nc, r_keepE, Nat.zero_add, Nat.add_zero, Nat.mul_one, Int.toNat_natCast, toNat_sub1, toNat_add1, decide_true, decide_false, Bool.not_true, Bool.not_false, if_true, if_false, Bool.false_eq_true, reduceCtorEq, Option.isSome_none]
    refine ⟨_, 0, rfl, hkw6, ?_⟩
    simp only [VolRes, hv, if_true, Int.toNat_natCast]
    refine ⟨?_, trivial⟩
    have hl := List.getElem?_eq_none_iff.1 hnx
    rw [List.take_of_length_le hl] at hgo6
    refine ⟨_, _, by rw [volL_length], by rw [volL_length]; omega, fun _ => ⟨w2.heap.size, 0, rfl, fun k hk' => by rw [Nat.zero_add]; exact row_cell hgo6 hk'⟩⟩
  | some h' =>
    rw [hnx] at ho6
    simp (disch := omega) only [r_ln, r_pick, r_pickT, r_pickF, r_condT, r_condF, r_gdTT, r_gdFF, r_gdTF, r_gdFT, r_gqTT, r_gqFF, r_gqTF, r_gqFT, r_not, r_lss, r_leq, r_gtr, r_geq, r_eql, r_neq, r_add, r_sub, r_min2, r_max2, r_min3, r_max3, r_fa, r_iaS, r_iaA, r_ex2a, r_ex2b, r_ex3a, r_ex3b, r_ex3c, r_nc, r_keepE, Nat.zero_add, Nat.add_zero, Nat.mul_one, Int.toNat_natCast, toNat_sub1, toNat_add1, decide_true, decide_false, Bool.not_true, Bool.not_false, if_true, if_false, Bool.false_eq_true, reduceCtorEq, Option.isSome_some]
    have hmem' := List.mem_of_getElem? hnx
    have hsz' := heaps_sized hb4 hmem'
    refine r_use fok13 (volume_calls v h' w6 ho6.rd (by rw [hsz'.1]; omega) (fun q hq => by rw [hsz'.2 q (by rw [← hsz'.1]; exact hq)]; omega) (heaps_entries (by omega) hb4 h6 hmem')) rfl ?_
    rintro _ w7 ⟨rfl, k7⟩
    refine ⟨_, rfl, ?_⟩
    have hgo7 := block_below hgo6 k7
    obtain ⟨v0, v1⟩ := heaps_vol (A := a) (C := c) hb4 hmem'
    have hvl := volL_length (a * b' * c + 1) ((heaps a b' (c : Int)).take (i + 1))
    have cv := row_cell (j := (volM h').toNat) hgo7 (by rw [hvl]; omega)
    have hcnt := volC_le ((heaps a b' (c : Int)).take (i + 1)) ((volM h').toNat : Nat)
    have hcn0 := volC_nonneg ((heaps a b' (c : Int)).take (i + 1)) ((volM h').toNat : Nat)
    have hsm := heaps_small (A := a) (B := b') (C := c) h2 hb4 (by omega)
    have hgd : (volL (a * b' * c + 1) ((heaps a b' (c : Int)).take (i + 1))).getD (volM h').toNat 0 = volC ((heaps a b' (c : Int)).take (i + 1)) ((volM h').toNat : Nat) := volL_getD (by omega)
    have htl : ((heaps a b' (c : Int)).take (i + 1)).length ≤ (heaps a b' (c : Int)).length := by rw [List.length_take]; omega
    simp (disch := omega) only [r_ln, r_pick, r_pickT, r_pickF, r_condT, r_condF, r_gdTT, r_gdFF, r_gdTF, r_gdFT, r_gqTT, r_gqFF, r_gqTF, r_gqFT, r_not, r_lss, r_leq, r_gtr, r_geq, r_eql, r_neq, r_add, r_sub, r_min2, r_max2, r_min3, r_max3, r_fa, r_iaS, r_iaA, r_ex2a, r_ex2b, r_ex3a, r_ex3b, r_ex3c, r_nc, r_keepE, Nat.zero_add, Nat.add_zero, Nat.mul_one, Int.toNat_natCast, toNat_sub1, toNat_add1, decide_true, decide_false, Bool.not_true, Bool.not_false, if_true, if_false, Bool.false_eq_true, reduceCtorEq, r_ld cv]
    rw [st3 cv (frozen_row hgo7)]
    have hset := row_set (j := (volM h').toNat) (x := (volL (a * b' * c + 1) ((heaps a b' (c : Int)).take (i + 1))).getD (volM h').toNat 0 + 1) hgo7 rfl
    rw [volL_push ⟨v0, v1⟩] at hset
    have hlt : i + 1 < (heaps a b' (c : Int)).length := (List.getElem?_eq_some_iff.1 hnx).1
    have etk : (heaps a b' (c : Int)).take (i + 1) ++ [h'] = (heaps a b' (c : Int)).take (i + 1 + 1) := by
      rw [take_succ' _ _ hlt]
      congr 2
      exact (List.getElem?_eq_some_iff.1 hnx).2.symm
    rw [etk] at hset
    have hc8 : Chg (fun k => k = w2.heap.size) w7 (w7.setCell ⟨w2.heap.size, (volM h').toNat, none⟩ (.int .i64 ((volL (a * b' * c + 1) ((heaps a b' (c : Int)).take (i + 1))).getD (volM h').toNat 0 + 1))) := Chg.setCell _ _ rfl
    refine hnext _ (n - 1) (by omega) ⟨i + 1, h', by omega, hnx, (ho6.kp k7).chg hc8 (by omega) fun q hq e => ?_, ((hch.trans (hc6.mono fun _ _ h => .inr h)).trans (Chg.of_kp k7)).trans (hc8.mono fun _ _ h => .inl h), hset⟩
    have := hbnew q (by rw [← hsz'.1]; exact hq); omega

set_option maxRecDepth 100000 in
theorem refcount_calls (A B C : Int) (w : World) : Calls Try.prog 24 #[boxV A B C] w fun e w' => e = .returned (.tuple #[.int .i64 (countN A B C), .int .i64 (boxErr A B C)]) ∧ Kp w w' := by
  refine lift24 ?_
  unfold S24
  refine r_box fun b w1 hbw hsz hb hk => ?_
  rw [r_ldRow (n := 3) hb rfl]
  refine r_use fok28 (refvolumes_calls A B C w1) rfl ?_
  rintro e w2 ⟨v, err, rfl, k2, hres⟩
  refine ⟨_, rfl, ?_⟩
  simp only [r_ex2a, r_ex2b]
  obtain ⟨l, hl, hr, hsum, herr, hb0⟩ : ∃ l : List Int, l.length ≤ 1000 ∧ RdInts w2 v l ∧ l.sum = countN A B C ∧ err = boxErr A B C ∧ ∀ x ∈ l, 0 ≤ x ∧ x ≤ 152587890625 := by
    unfold VolRes at hres
    by_cases hv : validB A B C = true
    · rw [if_pos hv] at hres
      obtain ⟨a, b', c, rfl, rfl, rfl, h1, h2, h3, hb4, h5, h6⟩ := validB_nat hv
      simp only [Int.toNat_natCast] at hres
      obtain ⟨hc1, hc2⟩ := heaps_count (A := a) (B := b') (C := c) (by omega) (by omega) (by omega)
      have hab1 : a * b' ≤ 16 := Nat.mul_le_mul h2 hb4
      have hab : a * b' * c ≤ 64 := Nat.mul_le_mul hab1 h6
      refine ⟨_, by rw [volL_length]; omega, hres.1, ?_, ?_, fun x hx => ?_⟩
      · rw [hc1, volC_sum fun t ht => heaps_vol hb4 ht]
      · rw [hres.2, hc2]
      · simp only [volL, List.mem_map] at hx
        obtain ⟨q, _, rfl⟩ := hx
        have := volC_nonneg (heaps a b' (c : Int)) q
        have := volC_le (heaps a b' (c : Int)) q
        have := heaps_small (A := a) (B := b') (C := c) h2 hb4 (by omega)
        omega
    · rw [if_neg hv] at hres
      refine ⟨[], by simp, ?_, by simp [countN, hv], by simp [boxErr, hv, hres.2], by simp⟩
      rw [hres.1]
      exact ⟨none, 0, rfl, by simp, fun h => absurd h (by simp)⟩
  obtain ⟨a1, c1, rfl, _⟩ := hr.len
  refine ⟨fun t6 t7 wr => ∃ i : Nat, i ≤ l.length ∧ t7 = .int .i64 i ∧ t6 = .int .i64 (l.take i).sum ∧ w2 = wr, fun _ t7 _ => l.length - (intOf t7).toNat, ⟨0, by omega, rfl, by simp, rfl⟩, ?_⟩
  rintro _ _ _ _ ⟨i, hi, rfl, rfl, rfl⟩
  have hts : ∀ i, 0 ≤ (l.take i).sum ∧ (l.take i).sum ≤ 152587890625000 := fun i => by
    have := sum_le (M := 152587890625) (l.take i) fun x hx => hb0 x (List.mem_of_mem_take hx)
    have h3 : (l.take i).length ≤ 1000 := by rw [List.length_take]; omega
    omega
  by_cases hlt : i < l.length
  case neg =>
    have hlt' : ¬ (i : Int) < (l.length : Int) := by omega
    have e : i = l.length := by omega
    subst e
    simp (disch := omega) only [r_ln, r_pick, r_pickT, r_pickF, r_condT, r_condF, r_gdTT, r_gdFF, r_gdTF, r_gdFT, r_gqTT, r_gqFF, r_gqTF, r_gqFT, r_not, r_lss, r_leq, r_gtr, r_geq, r_eql, r_neq, r_add, r_sub, r_min2, r_max2, r_min3, r_max3, r_fa, r_iaS, r_iaA, r_ex2a, r_ex2b, r_ex3a, r_ex3b, r_ex3c, r_nc, r_keepE, Nat.zero_add, Nat.add_zero, Nat.mul_one, Int.toNat_natCast, toNat_sub1, toNat_add1, decide_true, decide_false, Bool.not_true, Bool.not_false, if_true, if_false, Bool.false_eq_true, reduceCtorEq, hlt']
    rw [List.take_length, hsum, herr]
    exact ⟨rfl, Kp.trans hk k2⟩
  have hlt' : (i : Int) < (l.length : Int) := by omega
  obtain ⟨x1, y1, _, e1, hx1⟩ := hr.at hlt
  cases e1
  have s0 := hts i
  have s1 := hts (i + 1)
  rw [sum_takeI_succ hlt] at s1
  simp (disch := omega) only [r_ln, r_pick, r_pickT, r_pickF, r_condT, r_condF, r_gdTT, r_gdFF, r_gdTF, r_gdFT, r_gqTT, r_gqFF, r_gqTF, r_gqFT, r_not, r_lss, r_leq, r_gtr, r_geq, r_eql, r_neq, r_add, r_sub, r_min2, r_max2, r_min3, r_max3, r_fa, r_iaS, r_iaA, r_ex2a, r_ex2b, r_ex3a, r_ex3b, r_ex3c, r_nc, r_keepE, Nat.zero_add, Nat.add_zero, Nat.mul_one, Int.toNat_natCast, toNat_sub1, toNat_add1, decide_true, decide_false, Bool.not_true, Bool.not_false, if_true, if_false, Bool.false_eq_true, reduceCtorEq, hlt', r_ld hx1]
  exact ⟨⟨i + 1, by omega, by go_num, by rw [sum_takeI_succ hlt], trivial⟩, by simp only [intOf]; omega⟩

set_option maxRecDepth 100000 in
theorem numbers_calls (v1 v2 : Value) (l1 l2 : List Int) (w : World) (hr1 : RdInts w v1 l1) (hr2 : RdInts w v2 l2) : Calls Try.prog 29 #[v1, v2] w fun e w' => e = .returned (.bool (decide (l1 = l2))) ∧ Kp w w' := by
  obtain ⟨a1, c1, rfl, hl1⟩ := hr1.len
  obtain ⟨a2, c2, rfl, hl2⟩ := hr2.len
  refine lift29 ?_
  unfold S29
  by_cases hne : (l1.length : Int) = l2.length
  case neg =>
    simp (disch := omega) only [r_ln, r_pick, r_pickT, r_pickF, r_condT, r_condF, r_gdTT, r_gdFF, r_gdTF, r_gdFT, r_gqTT, r_gqFF, r_gqTF, r_gqFT, r_not, r_lss, r_leq, r_gtr, r_geq, r_eql, r_neq, r_add, r_sub, r_min2, r_max2, r_min3, r_max3, r_fa, r_iaS, r_iaA, r_ex2a, r_ex2b, r_ex3a, r_ex3b, r_ex3c, r_nc, r_keepE, Nat.zero_add, Nat.add_zero, Nat.mul_one, Int.toNat_natCast, toNat_sub1, toNat_add1, decide_true, decide_false, Bool.not_true, Bool.not_false, if_true, if_false, Bool.false_eq_true, reduceCtorEq, hne]
    exact ⟨ret_bool (decide_eq_false (fun e => hne (by rw [e]))).symm, Kp.refl _⟩
  simp (disch := omega) only [r_ln, r_pick, r_pickT, r_pickF, r_condT, r_condF, r_gdTT, r_gdFF, r_gdTF, r_gdFT, r_gqTT, r_gqFF, r_gqTF, r_gqFT, r_not, r_lss, r_leq, r_gtr, r_geq, r_eql, r_neq, r_add, r_sub, r_min2, r_max2, r_min3, r_max3, r_fa, r_iaS, r_iaA, r_ex2a, r_ex2b, r_ex3a, r_ex3b, r_ex3c, r_nc, r_keepE, Nat.zero_add, Nat.add_zero, Nat.mul_one, Int.toNat_natCast, toNat_sub1, toNat_add1, decide_true, decide_false, Bool.not_true, Bool.not_false, if_true, if_false, Bool.false_eq_true, reduceCtorEq, hne]
  refine ⟨fun t5 wr => ∃ i : Nat, i ≤ l1.length ∧ t5 = .int .i64 i ∧ Kp w wr ∧ ∀ k, k < i → l1.getD k 0 = l2.getD k 0, fun t5 _ => l1.length - (intOf t5).toNat, ⟨0, by omega, rfl, Kp.refl _, by omega⟩, ?_⟩
  rintro _ _ wr ⟨i, hi, rfl, hk, hprev⟩
  by_cases hlt : i < l1.length
  case neg =>
    have hlt' : ¬ (i : Int) < (l2.length : Int) := by omega
    simp (disch := omega) only [r_ln, r_pick, r_pickT, r_pickF, r_condT, r_condF, r_gdTT, r_gdFF, r_gdTF, r_gdFT, r_gqTT, r_gqFF, r_gqTF, r_gqFT, r_not, r_lss, r_leq, r_gtr, r_geq, r_eql, r_neq, r_add, r_sub, r_min2, r_max2, r_min3, r_max3, r_fa, r_iaS, r_iaA, r_ex2a, r_ex2b, r_ex3a, r_ex3b, r_ex3c, r_nc, r_keepE, Nat.zero_add, Nat.add_zero, Nat.mul_one, Int.toNat_natCast, toNat_sub1, toNat_add1, decide_true, decide_false, Bool.not_true, Bool.not_false, if_true, if_false, Bool.false_eq_true, reduceCtorEq, hlt']
    refine ⟨ret_bool (decide_eq_true ?_).symm, hk⟩
    refine List.ext_getElem (by omega) fun k x1 x2 => ?_
    have := hprev k (by omega)
    rwa [getD_lt _ _ _ x1, getD_lt _ _ _ x2] at this
  have hlt' : (i : Int) < (l2.length : Int) := by omega
  simp (disch := omega) only [r_ln, r_pick, r_pickT, r_pickF, r_condT, r_condF, r_gdTT, r_gdFF, r_gdTF, r_gdFT, r_gqTT, r_gqFF, r_gqTF, r_gqFT, r_not, r_lss, r_leq, r_gtr, r_geq, r_eql, r_neq, r_add, r_sub, r_min2, r_max2, r_min3, r_max3, r_fa, r_iaS, r_iaA, r_ex2a, r_ex2b, r_ex3a, r_ex3b, r_ex3c, r_nc, r_keepE, Nat.zero_add, Nat.add_zero, Nat.mul_one, Int.toNat_natCast, toNat_sub1, toNat_add1, decide_true, decide_false, Bool.not_true, Bool.not_false, if_true, if_false, Bool.false_eq_true, reduceCtorEq, hlt']
  refine r_drew fun wa hka _ => ?_
  obtain ⟨x1, y1, _, e1, hx1⟩ := (hr1.below (Kp.trans hk hka)).at hlt
  cases e1
  obtain ⟨x2, y2, _, e2, hx2⟩ := (hr2.below (Kp.trans hk hka)).at (j := i) (by omega)
  cases e2
  by_cases he : l1.getD i 0 = l2.getD i 0
  · simp (disch := omega) only [r_ln, r_pick, r_pickT, r_pickF, r_condT, r_condF, r_gdTT, r_gdFF, r_gdTF, r_gdFT, r_gqTT, r_gqFF, r_gqTF, r_gqFT, r_not, r_lss, r_leq, r_gtr, r_geq, r_eql, r_neq, r_add, r_sub, r_min2, r_max2, r_min3, r_max3, r_fa, r_iaS, r_iaA, r_ex2a, r_ex2b, r_ex3a, r_ex3b, r_ex3c, r_nc, r_keepE, Nat.zero_add, Nat.add_zero, Nat.mul_one, Int.toNat_natCast, toNat_sub1, toNat_add1, decide_true, decide_false, Bool.not_true, Bool.not_false, if_true, if_false, Bool.false_eq_true, reduceCtorEq, r_ld hx1, r_ld hx2, he]
    refine ⟨⟨i + 1, by omega, by go_num, Kp.trans hk hka, fun k hk' => ?_⟩, by simp only [intOf]; omega⟩
    by_cases hki : k < i
    · exact hprev k hki
    · have : k = i := by omega
      subst this; exact he
  · simp (disch := omega) only [r_ln, r_pick, r_pickT, r_pickF, r_condT, r_condF, r_gdTT, r_gdFF, r_gdTF, r_gdFT, r_gqTT, r_gqFF, r_gqTF, r_gqFT, r_not, r_lss, r_leq, r_gtr, r_geq, r_eql, r_neq, r_add, r_sub, r_min2, r_max2, r_min3, r_max3, r_fa, r_iaS, r_iaA, r_ex2a, r_ex2b, r_ex3a, r_ex3b, r_ex3c, r_nc, r_keepE, Nat.zero_add, Nat.add_zero, Nat.mul_one, Int.toNat_natCast, toNat_sub1, toNat_add1, decide_true, decide_false, Bool.not_true, Bool.not_false, if_true, if_false, Bool.false_eq_true, reduceCtorEq, r_ld hx1, r_ld hx2, he]
    exact ⟨ret_bool (decide_eq_false (fun e => he (by rw [e]))).symm, Kp.trans hk hka⟩

set_option maxRecDepth 100000 in
theorem counts_calls (A B C : Int) (w : World) : Calls Try.prog 5 #[boxV A B C] w fun e w' => e = .returned (.bool true) ∧ Kp w w' := by
  refine lift5 ?_
  unfold S5
  refine r_box fun b w1 hbw hsz hb hk => ?_
  rw [r_ldRow (n := 3) hb rfl]
  refine r_use fok21 (countf_calls A B C w1) rfl ?_
  rintro _ w2 ⟨rfl, k2⟩
  refine ⟨_, rfl, ?_⟩
  have h2 := block_below hb k2
  simp only [r_ex2a, r_ex2b]
  rw [r_ldRow (n := 3) h2 rfl]
  refine r_use fok24 (refcount_calls A B C w2) rfl ?_
  rintro _ w3 ⟨rfl, k3⟩
  refine ⟨_, rfl, ?_⟩
  have h3 := block_below h2 k3
  simp (disch := omega) only [r_ln, r_pick, r_pickT, r_pickF, r_condT, r_condF, r_gdTT, r_gdFF, r_gdTF, r_gdFT, r_gqTT, r_gqFF, r_gqTF, r_gqFT, r_not, r_lss, r_leq, r_gtr, r_geq, r_eql, r_neq, r_add, r_sub, r_min2, r_max2, r_min3, r_max3, r_fa, r_iaS, r_iaA, r_ex2a, r_ex2b, r_ex3a, r_ex3b, r_ex3c, r_nc, r_keepE, Nat.zero_add, Nat.add_zero, Nat.mul_one, Int.toNat_natCast, toNat_sub1, toNat_add1, decide_true, decide_false, Bool.not_true, Bool.not_false, if_true, if_false, Bool.false_eq_true, reduceCtorEq, r_ldRow (n := 3) h3 rfl]
  refine r_use fok25 (paths_calls A B C w3) rfl ?_
  rintro _ w4 ⟨rfl, k4⟩
  refine ⟨_, rfl, ?_⟩
  have h4 := block_below h3 k4
  simp (disch := omega) only [r_ln, r_pick, r_pickT, r_pickF, r_condT, r_condF, r_gdTT, r_gdFF, r_gdTF, r_gdFT, r_gqTT, r_gqFF, r_gqTF, r_gqFT, r_not, r_lss, r_leq, r_gtr, r_geq, r_eql, r_neq, r_add, r_sub, r_min2, r_max2, r_min3, r_max3, r_fa, r_iaS, r_iaA, r_ex2a, r_ex2b, r_ex3a, r_ex3b, r_ex3c, r_nc, r_keepE, Nat.zero_add, Nat.add_zero, Nat.mul_one, Int.toNat_natCast, toNat_sub1, toNat_add1, decide_true, decide_false, Bool.not_true, Bool.not_false, if_true, if_false, Bool.false_eq_true, reduceCtorEq, r_ldRow (n := 3) h4 rfl]
  refine r_use fok26 (refpaths_calls A B C w4) rfl ?_
  rintro _ w5 ⟨rfl, k5⟩
  refine ⟨_, rfl, ?_⟩
  have h5 := block_below h4 k5
  simp (disch := omega) only [r_ln, r_pick, r_pickT, r_pickF, r_condT, r_condF, r_gdTT, r_gdFF, r_gdTF, r_gdFT, r_gqTT, r_gqFF, r_gqTF, r_gqFT, r_not, r_lss, r_leq, r_gtr, r_geq, r_eql, r_neq, r_add, r_sub, r_min2, r_max2, r_min3, r_max3, r_fa, r_iaS, r_iaA, r_ex2a, r_ex2b, r_ex3a, r_ex3b, r_ex3c, r_nc, r_keepE, Nat.zero_add, Nat.add_zero, Nat.mul_one, Int.toNat_natCast, toNat_sub1, toNat_add1, decide_true, decide_false, Bool.not_true, Bool.not_false, if_true, if_false, Bool.false_eq_true, reduceCtorEq, r_ldRow (n := 3) h5 rfl]
  refine r_use fok27 (volumes_calls A B C w5) rfl ?_
  rintro _ w6 ⟨v6, err6, rfl, k6, hres6⟩
  refine ⟨_, rfl, ?_⟩
  have h6 := block_below h5 k6
  simp (disch := omega) only [r_ln, r_pick, r_pickT, r_pickF, r_condT, r_condF, r_gdTT, r_gdFF, r_gdTF, r_gdFT, r_gqTT, r_gqFF, r_gqTF, r_gqFT, r_not, r_lss, r_leq, r_gtr, r_geq, r_eql, r_neq, r_add, r_sub, r_min2, r_max2, r_min3, r_max3, r_fa, r_iaS, r_iaA, r_ex2a, r_ex2b, r_ex3a, r_ex3b, r_ex3c, r_nc, r_keepE, Nat.zero_add, Nat.add_zero, Nat.mul_one, Int.toNat_natCast, toNat_sub1, toNat_add1, decide_true, decide_false, Bool.not_true, Bool.not_false, if_true, if_false, Bool.false_eq_true, reduceCtorEq, r_ldRow (n := 3) h6 rfl]
  refine r_use fok28 (refvolumes_calls A B C w6) rfl ?_
  rintro _ w7 ⟨v7, err7, rfl, k7, hres7⟩
  refine ⟨_, rfl, ?_⟩
  simp (disch := omega) only [r_ln, r_pick, r_pickT, r_pickF, r_condT, r_condF, r_gdTT, r_gdFF, r_gdTF, r_gdFT, r_gqTT, r_gqFF, r_gqTF, r_gqFT, r_not, r_lss, r_leq, r_gtr, r_geq, r_eql, r_neq, r_add, r_sub, r_min2, r_max2, r_min3, r_max3, r_fa, r_iaS, r_iaA, r_ex2a, r_ex2b, r_ex3a, r_ex3b, r_ex3c, r_nc, r_keepE, Nat.zero_add, Nat.add_zero, Nat.mul_one, Int.toNat_natCast, toNat_sub1, toNat_add1, decide_true, decide_false, Bool.not_true, Bool.not_false, if_true, if_false, Bool.false_eq_true, reduceCtorEq]
  obtain ⟨l, hr6, hr7, he⟩ : ∃ l : List Int, RdInts w6 v6 l ∧ RdInts w7 v7 l ∧ err6 = err7 := by
    unfold VolRes at hres6 hres7
    by_cases hv : validB A B C = true
    · rw [if_pos hv] at hres6 hres7
      exact ⟨_, hres6.1, hres7.1, by rw [hres6.2, hres7.2]⟩
    · rw [if_neg hv] at hres6 hres7
      refine ⟨[], ?_, ?_, by rw [hres6.2, hres7.2]⟩
      · rw [hres6.1]; exact ⟨none, 0, rfl, by simp, fun h => absurd h (by simp)⟩
      · rw [hres7.1]; exact ⟨none, 0, rfl, by simp, fun h => absurd h (by simp)⟩
  subst he
  refine r_use fok29 (numbers_calls v6 v7 l l w7 (hr6.below k7) hr7) rfl ?_
  rintro _ w8 ⟨rfl, k8⟩
  refine ⟨_, rfl, ?_⟩
  simp (disch := omega) only [r_ln, r_pick, r_pickT, r_pickF, r_condT, r_condF, r_gdTT, r_gdFF, r_gdTF, r_gdFT, r_gqTT, r_gqFF, r_gqTF, r_gqFT, r_not, r_lss, r_leq, r_gtr, r_geq, r_eql, r_neq, r_add, r_sub, r_min2, r_max2, r_min3, r_max3, r_fa, r_iaS, r_iaA, r_ex2a, r_ex2b, r_ex3a, r_ex3b, r_ex3c, r_nc, r_keepE, Nat.zero_add, Nat.add_zero, Nat.mul_one, Int.toNat_natCast, toNat_sub1, toNat_add1, decide_true, decide_false, Bool.not_true, Bool.not_false, if_true, if_false, Bool.false_eq_true, reduceCtorEq]
  refine r_use fok17 (alive_calls w8) rfl ?_
  rintro _ w9 ⟨rfl, k9⟩
  refine ⟨_, rfl, ?_⟩
  simp (disch := omega) only [r_ln, r_pick, r_pickT, r_pickF, r_condT, r_condF, r_gdTT, r_gdFF, r_gdTF, r_gdFT, r_gqTT, r_gqFF, r_gqTF, r_gqFT, r_not, r_lss, r_leq, r_gtr, r_geq, r_eql, r_neq, r_add, r_sub, r_min2, r_max2, r_min3, r_max3, r_fa, r_iaS, r_iaA, r_ex2a, r_ex2b, r_ex3a, r_ex3b, r_ex3c, r_nc, r_keepE, Nat.zero_add, Nat.add_zero, Nat.mul_one, Int.toNat_natCast, toNat_sub1, toNat_add1, decide_true, decide_false, Bool.not_true, Bool.not_false, if_true, if_false, Bool.false_eq_true, reduceCtorEq]
  exact ⟨trivial, Kp.trans hk (Kp.trans (Kp.trans k2 (Kp.trans k3 k4)) (Kp.trans (Kp.trans k5 (Kp.trans k6 k7)) (Kp.trans k8 k9)))⟩

end Go.Proofs.Ytaephdjmpmbfpaa

/- Contract: LozengeSymmetries. -/
namespace Go.Proofs.Ytaephdjmpmbfpaa
open Go.Lf Go.RowKit Go.Hp

theorem heapErr_of {a b c : Nat} {h : List (List Int)} (ha : 1 ≤ a ∧ a ≤ 4) (hb : 1 ≤ b ∧ b ≤ 4) (hc : 1 ≤ c ∧ c ≤ 4) (hh : IsHeap a b c h) : heapErr a b c h = 0 := by
  unfold heapErr
  rw [if_pos ⟨by simp [validB]; omega, heapOk_iff.2 hh⟩]

theorem chgRes_new {A B C : Int} {h R : List (List Int)} {w w' : World} {v : Value} {err : Int} (he : heapErr A B C h = 0) (h1 : ChgRes A B C h R w w' v err) : NewRows w w' v R ∧ err = 0 := by
  obtain ⟨rfl, h2⟩ := h1
  rw [if_pos he] at h2
  exact ⟨h2, he⟩

theorem heap_entries {a b c : Nat} {h : List (List Int)} (ha : 1 ≤ a ∧ a ≤ 4) (hb : 1 ≤ b ∧ b ≤ 4) (hc : 1 ≤ c ∧ c ≤ 4) (hh : IsHeap a b c h) : ∀ l ∈ h, ∀ x ∈ l, 0 ≤ x ∧ x ≤ 1000000 :=
  heaps_entries (A := a) (C := c) (by omega) hb.2 hc.2 ((heapOk_mem (A := a) (by omega) hb.2).1 (heapOk_iff.2 hh))

theorem vol_calls {a b c : Nat} {v : Value} {h : List (List Int)} {w : World} (ha : 1 ≤ a ∧ a ≤ 4) (hb : 1 ≤ b ∧ b ≤ 4) (hc : 1 ≤ c ∧ c ≤ 4) (hh : IsHeap a b c h) (hr : RdRows w v h) :
    Calls Try.prog 13 #[v] w fun e w' => e = .returned (.int .i64 (volM h)) ∧ Kp w w' := by
  have hs := sized_of hh
  exact volume_calls v h w hr (by rw [hs.1]; omega) (fun i hi => by rw [hs.2 i (by rw [← hs.1]; exact hi)]; omega) (heap_entries ha hb hc hh)

theorem vol_small {a b c : Nat} {h : List (List Int)} (ha : 1 ≤ a ∧ a ≤ 4) (hb : 1 ≤ b ∧ b ≤ 4) (hc : 1 ≤ c ∧ c ≤ 4) (hh : IsHeap a b c h) : 0 ≤ volM h ∧ volM h ≤ 64 := by
  have h1 := heaps_vol (A := a) (C := c) hb.2 ((heapOk_mem (A := a) (by omega) hb.2).1 (heapOk_iff.2 hh))
  have h2 : a * b * c ≤ 64 := Nat.mul_le_mul (Nat.mul_le_mul ha.2 hb.2) hc.2
  omega

set_option maxRecDepth 100000 in
theorem sym_calls (a b c r : Nat) (w : World) (ha : a ≤ 255) (hb : b ≤ 255) (hc : c ≤ 255) (hr : r ≤ 4294967295) :
    Calls Try.prog 8 #[.int .u8 a, .int .u8 b, .int .u8 c, .int .u32 r] w fun e w' => e = .returned (.bool true) ∧ Kp w w' := by
  refine lift8 ?_
  unfold S8
  refine r_use fok12 (boxed_calls a b c r w ha hb hc hr) rfl ?_
  rintro _ w1 ⟨v, rfl, k1, hnew⟩
  refine ⟨_, rfl, ?_⟩
  have hok := heapOf_ok a b c r
  have hA := side_range a
  have hB := side_range b
  have hC := side_range c
  generalize side a = A at *
  generalize side b = B at *
  generalize side c = C at *
  generalize heapOf a b c r = h at *
  have hh := heapOk_iff.1 hok
  have hs := sized_of hh
  simp only [r_ex2a, r_ex2b]
  refine r_box fun b9 w2 e9 s9 h9 k2 => ?_
  refine r_stAll (n := 3) (ty := 25) (by kernel_rfl) rfl (by intro u hu; simp [Value.cells] at hu; rcases hu with rfl | rfl | rfl <;> rfl) h9 rfl fun w3 c3 s3 h3 => ?_
  have k3 : Kp w1 w3 := Kp.of_chg k2 c3 fun i e => by omega
  refine r_drew fun w4 k4 _ => ?_
  have h4 := block_below h3 k4
  have k14 := Kp.trans k3 k4
  refine r_join2 (fun t11 t12 w' => ∃ b11 b12, t11 = ptrV b11 ∧ t12 = ptrV b12 ∧ Kp w4 w' ∧ w'.heap[b11]? = some (.cells (boxV C A B).cells 25 (0, 0)) ∧ w'.heap[b12]? = some (.cells (boxV B C A).cells 25 (0, 0))) ?_ ?_
  rotate_left
  · intro kk hkk
    obtain ⟨c0, c1, c2⟩ := box3 h4
    obtain ⟨X, hX⟩ : ∃ X : Nat → Prop, X = fun k => w4.heap.size ≤ k := ⟨_, rfl⟩
    refine ⟨X, ?_⟩
    have h4lt := block_lt h4
    have nX : ¬ X b9 := by rw [hX]; exact fun h => absurd h (by omega)
    have e2 : (⟨b9, 0 + 2, none⟩ : Addr) = ⟨b9, 2, none⟩ := rfl
    simp (disch := omega) only [r_ln, r_pick, r_pickT, r_pickF, r_condT, r_condF, r_gdTT, r_gdFF, r_gdTF, r_gdFT, r_gqTT, r_gqFF, r_gqTF, r_gqFT, r_not, r_lss, r_leq, r_gtr, r_geq, r_eql, r_neq, r_add, r_sub, r_min2, r_max2, r_min3, r_max3, r_fa, r_iaS, r_iaA, r_ex2a, r_ex2b, r_ex3a, r_ex3b, r_ex3c, r_nc, r_keepE, Nat.zero_add, Nat.add_zero, Nat.mul_one, Int.toNat_natCast, toNat_sub1, toNat_add1, decide_true, decide_false, Bool.not_true, Bool.not_false, if_true, if_false, Bool.false_eq_true, reduceCtorEq, r_tx, r_txl (X := X) c0 nX, r_txl (X := X) c1 nX, r_txl (X := X) c2 nX, bd25']
    refine ⟨?_, ?_, trivial⟩
    · refine r_box fun b11 w5 e5 s5 h5 k5 => ⟨BX.of_below k5, ?_⟩
      refine r_box fun b12 w6 e6 s6 h6 k6 => ⟨BX.of_below k6, ?_⟩
      refine r_stAll (n := 3) (ty := 25) (by kernel_rfl) rfl (by intro u hu; simp [Value.cells] at hu; rcases hu with rfl | rfl | rfl <;> rfl) (block_below h5 k6) rfl fun w7 c7 s7 h7 => ?_
      refine ⟨BX.of_chg (c7.mono fun k _ e => by rw [hX]; dsimp only; omega), ?_⟩
      refine r_stAll (n := 3) (ty := 25) (by kernel_rfl) rfl (by intro u hu; simp [Value.cells] at hu; rcases hu with rfl | rfl | rfl <;> rfl) (c7.at h6 (by omega)) rfl fun w8 c8 s8 h8 => ?_
      exact hkk _ _ _ ⟨b11, b12, rfl, rfl, Kp.of_chg (Kp.of_chg (Kp.trans k5 k6) c7 fun i e => by omega) c8 fun i e => by omega, c8.at h7 (by omega), h8⟩
    · refine r_box fun b12 w5 e5 s5 h5 k5 => ⟨BX.of_below k5, ?_⟩
      refine r_box fun b11 w6 e6 s6 h6 k6 => ⟨BX.of_below k6, ?_⟩
      refine r_stAll (n := 3) (ty := 25) (by kernel_rfl) rfl (by intro u hu; simp [Value.cells] at hu; rcases hu with rfl | rfl | rfl <;> rfl) h6 rfl fun w7 c7 s7 h7 => ?_
      refine ⟨BX.of_chg (c7.mono fun k _ e => by rw [hX]; dsimp only; omega), ?_⟩
      refine r_stAll (n := 3) (ty := 25) (by kernel_rfl) rfl (by intro u hu; simp [Value.cells] at hu; rcases hu with rfl | rfl | rfl <;> rfl) (c7.at (block_below h5 k6) (by omega)) rfl fun w8 c8 s8 h8 => ?_
      exact hkk _ _ _ ⟨b11, b12, rfl, rfl, Kp.of_chg (Kp.of_chg (Kp.trans k5 k6) c7 fun i e => by omega) c8 fun i e => by omega, c8.at h7 (by omega), h8⟩
  rintro _ _ x0 ⟨b11, b12, rfl, rfl, y0, h11, h12⟩
  have p0 := block_below h4 y0
  have k10 := Kp.trans k14 y0
  have hr0 := hnew.rd.below k10
  have herr := heapErr_of hA hB hC hh
  refine r_use fok13 (vol_calls hA hB hC hh hr0) rfl ?_
  rintro _ x1 ⟨rfl, y1⟩
  refine ⟨_, rfl, ?_⟩
  have p1 := block_below p0 y1
  have hr1 := hr0.below y1
  rw [r_ldRow (n := 3) p1 rfl]
  refine r_use fok36 (complement_calls A B C v h x1 hr1) rfl ?_
  rintro _ x2 ⟨vm, em, rfl, y2, c_hm⟩
  refine ⟨_, rfl, ?_⟩
  obtain ⟨hm, rfl⟩ := chgRes_new herr c_hm
  simp only [Int.toNat_natCast] at hm
  have hhm := comp_heap hh
  have p2 := block_below p1 y2
  simp only [r_ex2a, r_ex2b]
  rw [r_ldRow (n := 3) p2 rfl]
  refine r_use fok36 (complement_calls A B C vm _ x2 hm.rd) rfl ?_
  rintro _ x3 ⟨vk, ek, rfl, y3, c_hkk⟩
  refine ⟨_, rfl, ?_⟩
  obtain ⟨hkk, rfl⟩ := chgRes_new (heapErr_of hA hB hC hhm) c_hkk
  simp only [Int.toNat_natCast] at hkk
  rw [comp_comp hs] at hkk
  have p3 := block_below p2 y3
  simp only [r_ex2a, r_ex2b]
  rw [r_ldRow (n := 3) p3 rfl]
  refine r_use fok37 (transpose_calls A B C v h x3 (hr1.below (Kp.trans y2 y3))) rfl ?_
  rintro _ x4 ⟨vt, et, rfl, y4, c_ht⟩
  refine ⟨_, rfl, ?_⟩
  obtain ⟨ht, rfl⟩ := chgRes_new herr c_ht
  simp only [Int.toNat_natCast] at ht
  have hht := trans_heap hh
  have p4 := block_below p3 y4
  obtain ⟨c0, c1, c2⟩ := box3 p4
  simp only [r_ln, r_pick, r_pickT, r_pickF, r_condT, r_condF, r_gdTT, r_gdFF, r_gdTF, r_gdFT, r_gqTT, r_gqFF, r_gqTF, r_gqFT, r_not, r_lss, r_leq, r_gtr, r_geq, r_eql, r_neq, r_add, r_sub, r_min2, r_max2, r_min3, r_max3, r_fa, r_iaS, r_iaA, r_ex2a, r_ex2b, r_ex3a, r_ex3b, r_ex3c, r_nc, r_keepE, Nat.zero_add, Nat.add_zero, Nat.mul_one, Int.toNat_natCast, toNat_sub1, toNat_add1, decide_true, decide_false, Bool.not_true, Bool.not_false, if_true, if_false, Bool.false_eq_true, reduceCtorEq, r_ld c0, r_ld c1, r_ld c2, bd25']
  refine r_use fok37 (transpose_calls B A C vt _ x4 ht.rd) rfl ?_
  rintro _ x5 ⟨vu, eu, rfl, y5, c_hu⟩
  refine ⟨_, rfl, ?_⟩
  obtain ⟨hu, rfl⟩ := chgRes_new (heapErr_of hB hA hC hht) c_hu
  simp only [Int.toNat_natCast] at hu
  rw [trans_trans hs] at hu
  have p5 := block_below p4 y5
  simp only [r_ex2a, r_ex2b]
  refine r_drew fun x6 y6 _ => ?_
  have p6 := block_below p5 y6
  have y26 : Kp x2 x6 := Kp.trans (Kp.trans y3 y4) (Kp.trans y5 y6)
  have hr6 := hr1.below (Kp.trans y2 y26)
  simp (disch := omega) only [r_ln, r_pick, r_pickT, r_pickF, r_condT, r_condF, r_gdTT, r_gdFF, r_gdTF, r_gdFT, r_gqTT, r_gqFF, r_gqTF, r_gqFT, r_not, r_lss, r_leq, r_gtr, r_geq, r_eql, r_neq, r_add, r_sub, r_min2, r_max2, r_min3, r_max3, r_fa, r_iaS, r_iaA, r_ex2a, r_ex2b, r_ex3a, r_ex3b, r_ex3c, r_nc, r_keepE, Nat.zero_add, Nat.add_zero, Nat.mul_one, Int.toNat_natCast, toNat_sub1, toNat_add1, decide_true, decide_false, Bool.not_true, Bool.not_false, if_true, if_false, Bool.false_eq_true, reduceCtorEq]
  refine r_use fok20 (same_calls vk v h h x6 (hkk.rd.below (Kp.trans y4 (Kp.trans y5 y6))) hr6) rfl ?_
  rintro _ x7 ⟨rfl, y7⟩
  refine ⟨_, rfl, ?_⟩
  simp (disch := omega) only [r_ln, r_pick, r_pickT, r_pickF, r_condT, r_condF, r_gdTT, r_gdFF, r_gdTF, r_gdFT, r_gqTT, r_gqFF, r_gqTF, r_gqFT, r_not, r_lss, r_leq, r_gtr, r_geq, r_eql, r_neq, r_add, r_sub, r_min2, r_max2, r_min3, r_max3, r_fa, r_iaS, r_iaA, r_ex2a, r_ex2b, r_ex3a, r_ex3b, r_ex3c, r_nc, r_keepE, Nat.zero_add, Nat.add_zero, Nat.mul_one, Int.toNat_natCast, toNat_sub1, toNat_add1, decide_true, decide_false, Bool.not_true, Bool.not_false, if_true, if_false, Bool.false_eq_true, reduceCtorEq]
  refine r_use fok20 (same_calls vu v h h x7 (hu.rd.below (Kp.trans y6 y7)) (hr6.below y7)) rfl ?_
  rintro _ x8 ⟨rfl, y8⟩
  refine ⟨_, rfl, y8, ?_⟩
  have p8 := block_below p6 (Kp.trans y7 y8)
  obtain ⟨c0, c1, c2⟩ := box3 p8
  have hvs := vol_small hA hB hC hh
  have hab1 : A * B ≤ 16 := Nat.mul_le_mul hA.2 hB.2
  have hab : A * B * C ≤ 64 := Nat.mul_le_mul hab1 hC.2
  simp (disch := omega) only [r_ln, r_pick, r_pickT, r_pickF, r_condT, r_condF, r_gdTT, r_gdFF, r_gdTF, r_gdFT, r_gqTT, r_gqFF, r_gqTF, r_gqFT, r_not, r_lss, r_leq, r_gtr, r_geq, r_eql, r_neq, r_add, r_sub, r_min2, r_max2, r_min3, r_max3, r_fa, r_iaS, r_iaA, r_ex2a, r_ex2b, r_ex3a, r_ex3b, r_ex3c, r_nc, r_keepE, Nat.zero_add, Nat.add_zero, Nat.mul_one, Int.toNat_natCast, toNat_sub1, toNat_add1, decide_true, decide_false, Bool.not_true, Bool.not_false, if_true, if_false, Bool.false_eq_true, reduceCtorEq, r_ld c0, r_ld c1, r_ld c2, r_mulN]
  refine r_use fok13 (vol_calls hA hB hC hhm (hm.rd.below (Kp.trans y26 (Kp.trans y7 y8)))) rfl ?_
  rintro _ x9 ⟨rfl, y9⟩
  refine ⟨_, rfl, y9, ?_⟩
  rw [comp_vol hs]
  simp (disch := omega) only [r_ln, r_pick, r_pickT, r_pickF, r_condT, r_condF, r_gdTT, r_gdFF, r_gdTF, r_gdFT, r_gqTT, r_gqFF, r_gqTF, r_gqFT, r_not, r_lss, r_leq, r_gtr, r_geq, r_eql, r_neq, r_add, r_sub, r_min2, r_max2, r_min3, r_max3, r_fa, r_iaS, r_iaA, r_ex2a, r_ex2b, r_ex3a, r_ex3b, r_ex3c, r_nc, r_keepE, Nat.zero_add, Nat.add_zero, Nat.mul_one, Int.toNat_natCast, toNat_sub1, toNat_add1, decide_true, decide_false, Bool.not_true, Bool.not_false, if_true, if_false, Bool.false_eq_true, reduceCtorEq]
  have y49 : Kp x4 x9 := Kp.trans (Kp.trans y5 y6) (Kp.trans y7 (Kp.trans y8 y9))
  refine r_use fok13 (vol_calls hB hA hC hht (ht.rd.below y49)) rfl ?_
  rintro _ x10 ⟨rfl, y10⟩
  refine ⟨_, rfl, y10, ?_⟩
  rw [trans_vol hs]
  have p10 := block_below p8 (Kp.trans y9 y10)
  simp (disch := omega) only [r_ln, r_pick, r_pickT, r_pickF, r_condT, r_condF, r_gdTT, r_gdFF, r_gdTF, r_gdFT, r_gqTT, r_gqFF, r_gqTF, r_gqFT, r_not, r_lss, r_leq, r_gtr, r_geq, r_eql, r_neq, r_add, r_sub, r_min2, r_max2, r_min3, r_max3, r_fa, r_iaS, r_iaA, r_ex2a, r_ex2b, r_ex3a, r_ex3b, r_ex3c, r_nc, r_keepE, Nat.zero_add, Nat.add_zero, Nat.mul_one, Int.toNat_natCast, toNat_sub1, toNat_add1, decide_true, decide_false, Bool.not_true, Bool.not_false, if_true, if_false, Bool.false_eq_true, reduceCtorEq, r_ldRow (n := 3) p10 rfl]
  have hr10 := hr6.below (Kp.trans y7 (Kp.trans y8 (Kp.trans y9 y10)))
  have y010 : Kp x0 x10 := Kp.trans y1 (Kp.trans (Kp.trans y2 y26) (Kp.trans y7 (Kp.trans y8 (Kp.trans y9 y10))))
  refine r_use fok38 (turnf_calls A B C v h x10 hr10) rfl ?_
  rintro _ z1 ⟨vo, eo, rfl, u1, c_ho⟩
  refine ⟨_, rfl, ?_⟩
  obtain ⟨ho, rfl⟩ := chgRes_new herr c_ho
  simp only [Int.toNat_natCast] at ho
  have hho := turn_heap hh
  have h11' := block_below h11 (Kp.trans y010 u1)
  simp only [r_ex2a, r_ex2b]
  rw [r_ldRow (n := 3) h11' rfl]
  refine r_use fok38 (turnf_calls C A B vo _ z1 ho.rd) rfl ?_
  rintro _ z2 ⟨vp, ep, rfl, u2, c_hp⟩
  refine ⟨_, rfl, ?_⟩
  obtain ⟨hp, rfl⟩ := chgRes_new (heapErr_of hC hA hB hho) c_hp
  simp only [Int.toNat_natCast] at hp
  have hhp := turn_heap hho
  have h12' := block_below h12 (Kp.trans y010 (Kp.trans u1 u2))
  simp only [r_ex2a, r_ex2b]
  rw [r_ldRow (n := 3) h12' rfl]
  refine r_use fok38 (turnf_calls B C A vp _ z2 hp.rd) rfl ?_
  rintro _ z3 ⟨vq, eq, rfl, u3, c_hq⟩
  refine ⟨_, rfl, ?_⟩
  obtain ⟨hq, rfl⟩ := chgRes_new (heapErr_of hB hC hA hhp) c_hq
  simp only [Int.toNat_natCast] at hq
  rw [turn_turn hh] at hq
  simp (disch := omega) only [r_ln, r_pick, r_pickT, r_pickF, r_condT, r_condF, r_gdTT, r_gdFF, r_gdTF, r_gdFT, r_gqTT, r_gqFF, r_gqTF, r_gqFT, r_not, r_lss, r_leq, r_gtr, r_geq, r_eql, r_neq, r_add, r_sub, r_min2, r_max2, r_min3, r_max3, r_fa, r_iaS, r_iaA, r_ex2a, r_ex2b, r_ex3a, r_ex3b, r_ex3c, r_nc, r_keepE, Nat.zero_add, Nat.add_zero, Nat.mul_one, Int.toNat_natCast, toNat_sub1, toNat_add1, decide_true, decide_false, Bool.not_true, Bool.not_false, if_true, if_false, Bool.false_eq_true, reduceCtorEq]
  refine r_use fok20 (same_calls vq v h h z3 hq.rd (hr10.below (Kp.trans u1 (Kp.trans u2 u3)))) rfl ?_
  rintro _ z4 ⟨rfl, u4⟩
  refine ⟨_, rfl, ?_⟩
  simp (disch := omega) only [r_ln, r_pick, r_pickT, r_pickF, r_condT, r_condF, r_gdTT, r_gdFF, r_gdTF, r_gdFT, r_gqTT, r_gqFF, r_gqTF, r_gqFT, r_not, r_lss, r_leq, r_gtr, r_geq, r_eql, r_neq, r_add, r_sub, r_min2, r_max2, r_min3, r_max3, r_fa, r_iaS, r_iaA, r_ex2a, r_ex2b, r_ex3a, r_ex3b, r_ex3c, r_nc, r_keepE, Nat.zero_add, Nat.add_zero, Nat.mul_one, Int.toNat_natCast, toNat_sub1, toNat_add1, decide_true, decide_false, Bool.not_true, Bool.not_false, if_true, if_false, Bool.false_eq_true, reduceCtorEq]
  refine r_use fok13 (vol_calls hC hA hB hho (ho.rd.below (Kp.trans u2 (Kp.trans u3 u4)))) rfl ?_
  rintro _ z5 ⟨rfl, u5⟩
  refine ⟨_, rfl, ?_⟩
  rw [turn_vol hh]
  simp (disch := omega) only [r_ln, r_pick, r_pickT, r_pickF, r_condT, r_condF, r_gdTT, r_gdFF, r_gdTF, r_gdFT, r_gqTT, r_gqFF, r_gqTF, r_gqFT, r_not, r_lss, r_leq, r_gtr, r_geq, r_eql, r_neq, r_add, r_sub, r_min2, r_max2, r_min3, r_max3, r_fa, r_iaS, r_iaA, r_ex2a, r_ex2b, r_ex3a, r_ex3b, r_ex3c, r_nc, r_keepE, Nat.zero_add, Nat.add_zero, Nat.mul_one, Int.toNat_natCast, toNat_sub1, toNat_add1, decide_true, decide_false, Bool.not_true, Bool.not_false, if_true, if_false, Bool.false_eq_true, reduceCtorEq]
  refine r_use fok13 (vol_calls hB hC hA hhp (hp.rd.below (Kp.trans u3 (Kp.trans u4 u5)))) rfl ?_
  rintro _ z6 ⟨rfl, u6⟩
  refine ⟨_, rfl, ?_⟩
  rw [turn_vol hho, turn_vol hh]
  simp (disch := omega) only [r_ln, r_pick, r_pickT, r_pickF, r_condT, r_condF, r_gdTT, r_gdFF, r_gdTF, r_gdFT, r_gqTT, r_gqFF, r_gqTF, r_gqFT, r_not, r_lss, r_leq, r_gtr, r_geq, r_eql, r_neq, r_add, r_sub, r_min2, r_max2, r_min3, r_max3, r_fa, r_iaS, r_iaA, r_ex2a, r_ex2b, r_ex3a, r_ex3b, r_ex3c, r_nc, r_keepE, Nat.zero_add, Nat.add_zero, Nat.mul_one, Int.toNat_natCast, toNat_sub1, toNat_add1, decide_true, decide_false, Bool.not_true, Bool.not_false, if_true, if_false, Bool.false_eq_true, reduceCtorEq]
  refine r_use fok17 (alive_calls z6) rfl ?_
  rintro _ z7 ⟨rfl, u7⟩
  refine ⟨_, rfl, ?_⟩
  simp (disch := omega) only [r_ln, r_pick, r_pickT, r_pickF, r_condT, r_condF, r_gdTT, r_gdFF, r_gdTF, r_gdFT, r_gqTT, r_gqFF, r_gqTF, r_gqFT, r_not, r_lss, r_leq, r_gtr, r_geq, r_eql, r_neq, r_add, r_sub, r_min2, r_max2, r_min3, r_max3, r_fa, r_iaS, r_iaA, r_ex2a, r_ex2b, r_ex3a, r_ex3b, r_ex3c, r_nc, r_keepE, Nat.zero_add, Nat.add_zero, Nat.mul_one, Int.toNat_natCast, toNat_sub1, toNat_add1, decide_true, decide_false, Bool.not_true, Bool.not_false, if_true, if_false, Bool.false_eq_true, reduceCtorEq]
  exact ⟨trivial, Kp.trans k1 (Kp.trans k10 (Kp.trans y010 (Kp.trans (Kp.trans u1 u2) (Kp.trans (Kp.trans u3 u4) (Kp.trans u5 (Kp.trans u6 u7))))))⟩

end Go.Proofs.Ytaephdjmpmbfpaa

/- Lifted texts, printed by program (gen.py): what each function's code asks. The ties are by the kernel. -/
namespace Go.Proofs.Ytaephdjmpmbfpaa
open Go.Lf Go.RowKit

def S14 (t0 t1 : Value) (w : World) (R : Ending → World → Prop) : Prop :=
  boxW 25 t0 w fun t2 w =>
  ldN 3 w t2 fun t14 =>
  callW Try.prog (.func (.func 47) #[] #[]) [t14, t1] w fun t16 w =>
  binQ Try.prog w .neq 31 true t16 (.int .i64 0) fun t18 =>
  condW t18 (
    R (.returned (.tuple #[(.slice none 0 0), (.slice none 0 0), t16])) w
  ) (
    ln1 t1 fun t21 =>
    Loop3 (.slice none 0 0) (.slice none 0 0) (.int .i64 0) w fun _ t8 t9 t22 w next =>
      binQ Try.prog w .lss 3 false t22 t21 fun t23 =>
      condW t23 (
        iaS 1 t1 t22 fun t25 =>
        ld1 w t25 fun t26 =>
        ln1 t26 fun t28 =>
        Loop3 t8 t9 (.int .i64 0) w fun _ t8_2 t9_2 t29 w next_2 =>
          binQ Try.prog w .lss 3 false t29 t28 fun t30 =>
          condW t30 (
            iaS 1 t26 t29 fun t32 =>
            ld1 w t32 fun t33 =>
            Join (fun (k_2 : Value → World → Prop) =>
              fa1 t2 2 fun t35 =>
              ld1 w t35 fun t36 =>
              binQ Try.prog w .lss 3 false t33 t36 fun t37 =>
              gd t37 true (fun k => k t29 w) w fun t39 w =>
              gd t37 true (fun k => binQ Try.prog w .eql 3 true t39 (.int .i64 0) fun v => k v w) w fun t40 w =>
              gd t37 true (fun k => k t40 w) w fun t41 w =>
              gd t41 false (fun k => k t26 w) w fun t42 w =>
              gd t41 false (fun k => k t29 w) w fun t43 w =>
              gd t41 false (fun k => binQ Try.prog w .sub 3 true t43 (.int .i64 1) fun v => k v w) w fun t44 w =>
              gd t41 false (fun k => iaS 1 t42 t44 fun v => k v w) w fun t45 w =>
              gd t41 false (fun k => ld1 w t45 fun v => k v w) w fun t46 w =>
              gd t41 false (fun k => k t33 w) w fun t47 w =>
              gd t41 false (fun k => binQ Try.prog w .gtr 3 false t46 t47 fun v => k v w) w fun t48 w =>
              gd t37 true (fun k => pickQ t41 (.bool true) t48 fun v => k v w) w fun t49 w =>
              pickQ t37 t49 (.bool false) fun t50 =>
              gd t50 true (fun k => k t22 w) w fun t52 w =>
              gd t50 true (fun k => binQ Try.prog w .eql 3 true t52 (.int .i64 0) fun v => k v w) w fun t53 w =>
              gd t50 true (fun k => k t53 w) w fun t54 w =>
              gd t54 false (fun k => k t1 w) w fun t55 w =>
              gd t54 false (fun k => k t22 w) w fun t56 w =>
              gd t54 false (fun k => binQ Try.prog w .sub 3 true t56 (.int .i64 1) fun v => k v w) w fun t57 w =>
              gd t54 false (fun k => iaS 1 t55 t57 fun v => k v w) w fun t58 w =>
              gd t54 false (fun k => ld1 w t58 fun v => k v w) w fun t59 w =>
              gd t54 false (fun k => k t29 w) w fun t60 w =>
              gd t54 false (fun k => iaS 1 t59 t60 fun v => k v w) w fun t61 w =>
              gd t54 false (fun k => ld1 w t61 fun v => k v w) w fun t62 w =>
              gd t54 false (fun k => k t33 w) w fun t63 w =>
              gd t54 false (fun k => binQ Try.prog w .gtr 3 false t62 t63 fun v => k v w) w fun t64 w =>
              gd t50 true (fun k => pickQ t54 (.bool true) t64 fun v => k v w) w fun t65 w =>
              pickQ t50 t65 (.bool false) fun t66 =>
              k_2 t66 w
            ) fun t66_2 w =>
            Join (fun (k_5 : Value → World → Prop) =>
              condW t66_2 (
                bdQ Try.prog 35 [(0, t29), (1, t22)] fun t70 =>
                bsW Try.prog 30 1 [(0, t70)] w fun t71 w =>
                semW Try.prog (apS [30, 30] 30 [t8_2, t71]) w fun t72 w =>
                k_5 t72 w
              ) (
                k_5 t8_2 w
              )
            ) fun t8_3 w =>
            Join (fun (k_6 : Value → World → Prop) =>
              binQ Try.prog w .gtr 3 true t33 (.int .i64 0) fun t74_2 =>
              gd t74_2 true (fun k => k t29 w) w fun t76_2 w =>
              gd t74_2 true (fun k => fa1 t2 1 fun v => k v w) w fun t77_2 w =>
              gd t74_2 true (fun k => ld1 w t77_2 fun v => k v w) w fun t78_2 w =>
              gd t74_2 true (fun k => binQ Try.prog w .sub 3 true t78_2 (.int .i64 1) fun v => k v w) w fun t79_2 w =>
              gd t74_2 true (fun k => binQ Try.prog w .eql 3 false t76_2 t79_2 fun v => k v w) w fun t80_2 w =>
              gd t74_2 true (fun k => k t80_2 w) w fun t81_2 w =>
              gd t81_2 false (fun k => k t26 w) w fun t82_2 w =>
              gd t81_2 false (fun k => k t29 w) w fun t83_2 w =>
              gd t81_2 false (fun k => binQ Try.prog w .add 3 true t83_2 (.int .i64 1) fun v => k v w) w fun t84_2 w =>
              gd t81_2 false (fun k => iaS 1 t82_2 t84_2 fun v => k v w) w fun t85_2 w =>
              gd t81_2 false (fun k => ld1 w t85_2 fun v => k v w) w fun t86_2 w =>
              gd t81_2 false (fun k => k t33 w) w fun t87_2 w =>
              gd t81_2 false (fun k => binQ Try.prog w .lss 3 false t86_2 t87_2 fun v => k v w) w fun t88_2 w =>
              gd t74_2 true (fun k => pickQ t81_2 (.bool true) t88_2 fun v => k v w) w fun t89_2 w =>
              pickQ t74_2 t89_2 (.bool false) fun t90_2 =>
              gd t90_2 true (fun k => k t22 w) w fun t92_2 w =>
              gd t90_2 true (fun k => fa1 t2 0 fun v => k v w) w fun t93_2 w =>
              gd t90_2 true (fun k => ld1 w t93_2 fun v => k v w) w fun t94_2 w =>
              gd t90_2 true (fun k => binQ Try.prog w .sub 3 true t94_2 (.int .i64 1) fun v => k v w) w fun t95_2 w =>
              gd t90_2 true (fun k => binQ Try.prog w .eql 3 false t92_2 t95_2 fun v => k v w) w fun t96_2 w =>
              gd t90_2 true (fun k => k t96_2 w) w fun t97_2 w =>
              gd t97_2 false (fun k => k t1 w) w fun t98_2 w =>
              gd t97_2 false (fun k => k t22 w) w fun t99_2 w =>
              gd t97_2 false (fun k => binQ Try.prog w .add 3 true t99_2 (.int .i64 1) fun v => k v w) w fun t100_2 w =>
              gd t97_2 false (fun k => iaS 1 t98_2 t100_2 fun v => k v w) w fun t101_2 w =>
              gd t97_2 false (fun k => ld1 w t101_2 fun v => k v w) w fun t102_2 w =>
              gd t97_2 false (fun k => k t29 w) w fun t103_2 w =>
              gd t97_2 false (fun k => iaS 1 t102_2 t103_2 fun v => k v w) w fun t104_2 w =>
              gd t97_2 false (fun k => ld1 w t104_2 fun v => k v w) w fun t105_2 w =>
              gd t97_2 false (fun k => k t33 w) w fun t106_2 w =>
              gd t97_2 false (fun k => binQ Try.prog w .lss 3 false t105_2 t106_2 fun v => k v w) w fun t107_2 w =>
              gd t90_2 true (fun k => pickQ t97_2 (.bool true) t107_2 fun v => k v w) w fun t108_2 w =>
              pickQ t90_2 t108_2 (.bool false) fun t109_3 =>
              k_6 t109_3 w
            ) fun t109_4 w =>
            Join (fun (k_7 : Value → World → Prop) =>
              condW t109_4 (
                bdQ Try.prog 35 [(0, t29), (1, t22)] fun t113_2 =>
                bsW Try.prog 30 1 [(0, t113_2)] w fun t114_2 w =>
                semW Try.prog (apS [30, 30] 30 [t9_2, t114_2]) w fun t115_2 w =>
                k_7 t115_2 w
              ) (
                k_7 t9_2 w
              )
            ) fun t9_4 w =>
            binQ Try.prog w .add 3 true t29 (.int .i64 1) fun t116_4 =>
            next_2 t8_3 t9_4 t116_4 w
          ) (
            binQ Try.prog w .add 3 true t22 (.int .i64 1) fun t117 =>
            next t8_2 t9_2 t117 w
          )
      ) (
        R (.returned (.tuple #[t8, t9, (.int .i64 0)])) w
      )
  )

def A14 : Ann where
  live := fun
    | 0 => [8, 9, 22]
    | 2 => [8, 9, 29]
    | _ => []
  wr := fun
    | 0 => fun i => (Nat.ble 8 i && Nat.ble i 13) || (Nat.ble 22 i && Nat.ble i 117)
    | 2 => fun i => (Nat.ble 8 i && Nat.ble i 9) || (Nat.ble 12 i && Nat.ble i 13) || (Nat.ble 29 i && Nat.ble i 116)
    | _ => fun _ => false
  sched := fun _ => .done

set_option maxRecDepth 100000 in
theorem ok14 : (codeOk Try.f14.ntmps A14 (Try.f14.body.getD .skip) 0 && Nat.ble 2 Try.f14.ntmps) = true := by kernel_rfl
set_option maxRecDepth 100000 in
theorem lift14 {t0 t1 : Value} {w : World} {R : Ending → World → Prop} (h : S14 t0 t1 w R) : Calls Try.prog 14 #[t0, t1] w R :=
  calls_of_cw (fn := Try.f14) (c := Try.f14.body.getD .skip) A14 mixes Try.func14 (by kernel_rfl) ok14
    ((by kernel_rfl : (S14 t0 t1 w R) = cw Try.prog A14 (Try.f14.body.getD .skip) 0 (bodyQ Try.prog Try.f14 R) (frOf #[t0, t1]) w).mp h)

def S39 (t0 t1 : Value) (w : World) (R : Ending → World → Prop) : Prop :=
  boxW 25 t0 w fun t2 w =>
  boxW 3 t1 w fun t3 w =>
  Join (fun (k_2 : Value → World → Prop) =>
    ldN 3 w t2 fun t7 =>
    callW Try.prog (.func (.func 58) #[] #[]) [t7] w fun t8 w =>
    unQ .not t8 fun t9 =>
    gd t9 false (fun k => ld1 w t3 fun v => k v w) w fun t11 w =>
    gd t9 false (fun k => binQ Try.prog w .lss 3 true t11 (.int .i64 0) fun v => k v w) w fun t12 w =>
    pickQ t9 (.bool true) t12 fun t13 =>
    gd t13 false (fun k => ld1 w t3 fun v => k v w) w fun t15 w =>
    gd t13 false (fun k => binQ Try.prog w .gtr 3 true t15 (.int .i64 4) fun v => k v w) w fun t16 w =>
    pickQ t13 (.bool true) t16 fun t17 =>
    gd t17 false (fun k => ld1 w t3 fun v => k v w) w fun t19 w =>
    gd t17 false (fun k => binQ Try.prog w .eql 3 true t19 (.int .i64 2) fun v => k v w) w fun t20 w =>
    gd t17 false (fun k => k t20 w) w fun t21 w =>
    gd t21 false (fun k => ld1 w t3 fun v => k v w) w fun t22 w =>
    gd t21 false (fun k => binQ Try.prog w .eql 3 true t22 (.int .i64 4) fun v => k v w) w fun t23 w =>
    gd t17 false (fun k => pickQ t21 (.bool true) t23 fun v => k v w) w fun t24 w =>
    gd t17 false (fun k => k t24 w) w fun t25 w =>
    gd t25 true (fun k => fa1 t2 0 fun v => k v w) w fun t26 w =>
    gd t25 true (fun k => ld1 w t26 fun v => k v w) w fun t27 w =>
    gd t25 true (fun k => fa1 t2 1 fun v => k v w) w fun t28 w =>
    gd t25 true (fun k => ld1 w t28 fun v => k v w) w fun t29 w =>
    gd t25 true (fun k => binQ Try.prog w .neq 3 false t27 t29 fun v => k v w) w fun t30 w =>
    gd t17 false (fun k => pickQ t25 t30 (.bool false) fun v => k v w) w fun t31 w =>
    pickQ t17 (.bool true) t31 fun t32 =>
    gd t32 false (fun k => ld1 w t3 fun v => k v w) w fun t34 w =>
    gd t32 false (fun k => binQ Try.prog w .eql 3 true t34 (.int .i64 3) fun v => k v w) w fun t35 w =>
    gd t32 false (fun k => k t35 w) w fun t36 w =>
    gd t36 true (fun k => fa1 t2 0 fun v => k v w) w fun t37 w =>
    gd t36 true (fun k => ld1 w t37 fun v => k v w) w fun t38 w =>
    gd t36 true (fun k => fa1 t2 1 fun v => k v w) w fun t39 w =>
    gd t36 true (fun k => ld1 w t39 fun v => k v w) w fun t40 w =>
    gd t36 true (fun k => binQ Try.prog w .neq 3 false t38 t40 fun v => k v w) w fun t41 w =>
    gd t36 true (fun k => k t41 w) w fun t42 w =>
    gd t42 false (fun k => fa1 t2 1 fun v => k v w) w fun t43 w =>
    gd t42 false (fun k => ld1 w t43 fun v => k v w) w fun t44 w =>
    gd t42 false (fun k => fa1 t2 2 fun v => k v w) w fun t45 w =>
    gd t42 false (fun k => ld1 w t45 fun v => k v w) w fun t46 w =>
    gd t42 false (fun k => binQ Try.prog w .neq 3 false t44 t46 fun v => k v w) w fun t47 w =>
    gd t36 true (fun k => pickQ t42 (.bool true) t47 fun v => k v w) w fun t48 w =>
    gd t32 false (fun k => pickQ t36 t48 (.bool false) fun v => k v w) w fun t49 w =>
    pickQ t32 (.bool true) t49 fun t50 =>
    k_2 t50 w
  ) fun t50_2 w =>
  condW t50_2 (
    R (.returned (.tuple #[(.int .i64 0), (.int .i64 2)])) w
  ) (
    boxW 3 (.int .i64 0) w fun t6 w =>
    stW Try.prog 3 t6 (.int .i64 0) w fun w =>
    ldN 3 w t2 fun t51 =>
    callW Try.prog (.func (.func 73) #[] #[]) [t51, (.func (.func 74) #[] #[t2, t3, t6])] w fun t53 w =>
    ld1 w t6 fun t54 =>
    R (.returned (.tuple #[t54, (.int .i64 0)])) w
  )

def A39 : Ann where
  live := fun _ => []
  wr := fun _ _ => false
  sched := fun _ => .done

set_option maxRecDepth 100000 in
theorem ok39 : (codeOk Try.f39.ntmps A39 (Try.f39.body.getD .skip) 0 && Nat.ble 2 Try.f39.ntmps) = true := by kernel_rfl
set_option maxRecDepth 100000 in
theorem lift39 {t0 t1 : Value} {w : World} {R : Ending → World → Prop} (h : S39 t0 t1 w R) : Calls Try.prog 39 #[t0, t1] w R :=
  calls_of_cw (fn := Try.f39) (c := Try.f39.body.getD .skip) A39 mixes Try.func39 (by kernel_rfl) ok39
    ((by kernel_rfl : (S39 t0 t1 w R) = cw Try.prog A39 (Try.f39.body.getD .skip) 0 (bodyQ Try.prog Try.f39 R) (frOf #[t0, t1]) w).mp h)

def S40 (t0 t1 : Value) (w : World) (R : Ending → World → Prop) : Prop :=
  boxW 25 t0 w fun t2 w =>
  Join (fun (k_2 : Value → World → Prop) =>
    ldN 3 w t2 fun t9 =>
    callW Try.prog (.func (.func 62) #[] #[]) [t9] w fun t10 w =>
    unQ .not t10 fun t11 =>
    gd t11 false (fun k => k t1 w) w fun t13 w =>
    gd t11 false (fun k => binQ Try.prog w .lss 3 true t13 (.int .i64 0) fun v => k v w) w fun t14 w =>
    pickQ t11 (.bool true) t14 fun t15 =>
    gd t15 false (fun k => k t1 w) w fun t17 w =>
    gd t15 false (fun k => binQ Try.prog w .gtr 3 true t17 (.int .i64 4) fun v => k v w) w fun t18 w =>
    pickQ t15 (.bool true) t18 fun t19 =>
    gd t19 false (fun k => k t1 w) w fun t21 w =>
    gd t19 false (fun k => binQ Try.prog w .eql 3 true t21 (.int .i64 2) fun v => k v w) w fun t22 w =>
    gd t19 false (fun k => k t22 w) w fun t23 w =>
    gd t23 false (fun k => k t1 w) w fun t24 w =>
    gd t23 false (fun k => binQ Try.prog w .eql 3 true t24 (.int .i64 4) fun v => k v w) w fun t25 w =>
    gd t19 false (fun k => pickQ t23 (.bool true) t25 fun v => k v w) w fun t26 w =>
    gd t19 false (fun k => k t26 w) w fun t27 w =>
    gd t27 true (fun k => fa1 t2 0 fun v => k v w) w fun t28 w =>
    gd t27 true (fun k => ld1 w t28 fun v => k v w) w fun t29 w =>
    gd t27 true (fun k => fa1 t2 1 fun v => k v w) w fun t30 w =>
    gd t27 true (fun k => ld1 w t30 fun v => k v w) w fun t31 w =>
    gd t27 true (fun k => binQ Try.prog w .neq 3 false t29 t31 fun v => k v w) w fun t32 w =>
    gd t19 false (fun k => pickQ t27 t32 (.bool false) fun v => k v w) w fun t33 w =>
    pickQ t19 (.bool true) t33 fun t34 =>
    gd t34 false (fun k => k t1 w) w fun t36 w =>
    gd t34 false (fun k => binQ Try.prog w .eql 3 true t36 (.int .i64 3) fun v => k v w) w fun t37 w =>
    gd t34 false (fun k => k t37 w) w fun t38 w =>
    gd t38 true (fun k => fa1 t2 0 fun v => k v w) w fun t39 w =>
    gd t38 true (fun k => ld1 w t39 fun v => k v w) w fun t40 w =>
    gd t38 true (fun k => fa1 t2 1 fun v => k v w) w fun t41 w =>
    gd t38 true (fun k => ld1 w t41 fun v => k v w) w fun t42 w =>
    gd t38 true (fun k => binQ Try.prog w .neq 3 false t40 t42 fun v => k v w) w fun t43 w =>
    gd t38 true (fun k => k t43 w) w fun t44 w =>
    gd t44 false (fun k => fa1 t2 1 fun v => k v w) w fun t45 w =>
    gd t44 false (fun k => ld1 w t45 fun v => k v w) w fun t46 w =>
    gd t44 false (fun k => fa1 t2 2 fun v => k v w) w fun t47 w =>
    gd t44 false (fun k => ld1 w t47 fun v => k v w) w fun t48 w =>
    gd t44 false (fun k => binQ Try.prog w .neq 3 false t46 t48 fun v => k v w) w fun t49 w =>
    gd t38 true (fun k => pickQ t44 (.bool true) t49 fun v => k v w) w fun t50 w =>
    gd t34 false (fun k => pickQ t38 t50 (.bool false) fun v => k v w) w fun t51 w =>
    pickQ t34 (.bool true) t51 fun t52 =>
    k_2 t52 w
  ) fun t52_2 w =>
  condW t52_2 (
    R (.returned (.tuple #[(.int .i64 0), (.int .i64 2)])) w
  ) (
    ldN 3 w t2 fun t53 =>
    callW Try.prog (.func (.func 66) #[] #[]) [t53] w fun t54 w =>
    Loop2 (.int .i64 0) (.bool true) w fun _ t6 t8 w next =>
      condW t8 (
        ldN 3 w t2 fun t59 =>
        callW Try.prog (.func (.func 16) #[] #[]) [t59, t54, t1] w fun t62 w =>
        callW Try.prog (.func (.func 20) #[] #[]) [t62, t54] w fun t64 w =>
        Join (fun (k_3 : Value → World → Prop) =>
          condW t64 (
            binQ Try.prog w .add 3 true t6 (.int .i64 1) fun t66 =>
            k_3 t66 w
          ) (
            k_3 t6 w
          )
        ) fun t6_2 w =>
        ldN 3 w t2 fun t56_2 =>
        callW Try.prog (.func (.func 23) #[] #[]) [t56_2, t54] w fun t58_2 w =>
        next t6_2 t58_2 w
      ) (
        R (.returned (.tuple #[t6, (.int .i64 0)])) w
      )
  )

def A40 : Ann where
  live := fun
    | 0 => [6, 8]
    | _ => []
  wr := fun
    | 0 => fun i => Nat.beq i 6 || Nat.beq i 8 || (Nat.ble 55 i && Nat.ble i 66)
    | _ => fun _ => false
  sched := fun _ => .done

set_option maxRecDepth 100000 in
theorem ok40 : (codeOk Try.f40.ntmps A40 (Try.f40.body.getD .skip) 0 && Nat.ble 2 Try.f40.ntmps) = true := by kernel_rfl
set_option maxRecDepth 100000 in
theorem lift40 {t0 t1 : Value} {w : World} {R : Ending → World → Prop} (h : S40 t0 t1 w R) : Calls Try.prog 40 #[t0, t1] w R :=
  calls_of_cw (fn := Try.f40) (c := Try.f40.body.getD .skip) A40 mixes Try.func40 (by kernel_rfl) ok40
    ((by kernel_rfl : (S40 t0 t1 w R) = cw Try.prog A40 (Try.f40.body.getD .skip) 0 (bodyQ Try.prog Try.f40 R) (frOf #[t0, t1]) w).mp h)

def S9 (t0 t1 : Value) (w : World) (R : Ending → World → Prop) : Prop :=
  boxW 25 t0 w fun t2 w =>
  ldN 3 w t2 fun t10 =>
  callW Try.prog (.func (.func 39) #[] #[]) [t10, t1] w fun t12 w =>
  exQ t12 0 fun t13 =>
  exQ t12 1 fun t14 =>
  ldN 3 w t2 fun t16 =>
  callW Try.prog (.func (.func 40) #[] #[]) [t16, t1] w fun t18 w =>
  exQ t18 0 fun t19 =>
  exQ t18 1 fun t20 =>
  binQ Try.prog w .eql 3 false t13 t19 fun t23 =>
  gd t23 true (fun k => k t14 w) w fun t25 w =>
  gd t23 true (fun k => k t20 w) w fun t26 w =>
  gd t23 true (fun k => binQ Try.prog w .eql 31 false t25 t26 fun v => k v w) w fun t27 w =>
  pickQ t23 t27 (.bool false) fun t28 =>
  gd t28 true (fun k => callW Try.prog (.func (.func 17) #[] #[]) [] w k) w fun t30 w =>
  pickQ t28 t30 (.bool false) fun t31 =>
  R (.returned t31) w

def A9 : Ann where
  live := fun _ => []
  wr := fun _ _ => false
  sched := fun _ => .done

set_option maxRecDepth 100000 in
theorem ok9 : (codeOk Try.f9.ntmps A9 (Try.f9.body.getD .skip) 0 && Nat.ble 2 Try.f9.ntmps) = true := by kernel_rfl
set_option maxRecDepth 100000 in
theorem lift9 {t0 t1 : Value} {w : World} {R : Ending → World → Prop} (h : S9 t0 t1 w R) : Calls Try.prog 9 #[t0, t1] w R :=
  calls_of_cw (fn := Try.f9) (c := Try.f9.body.getD .skip) A9 mixes Try.func9 (by kernel_rfl) ok9
    ((by kernel_rfl : (S9 t0 t1 w R) = cw Try.prog A9 (Try.f9.body.getD .skip) 0 (bodyQ Try.prog Try.f9 R) (frOf #[t0, t1]) w).mp h)

def S73 (t0 t1 : Value) (w : World) (R : Ending → World → Prop) : Prop :=
  boxW 25 t0 w fun t2 w =>
  boxW 97 t1 w fun t3 w =>
  fa1 t2 0 fun t6 =>
  ld1 w t6 fun t7 =>
  mkW Try.prog 83 t7 t7 w fun t8 w =>
  boxW 83 (.slice none 0 0) w fun t4 w =>
  stW Try.prog 83 t4 t8 w fun w =>
  boxW 107 .nilFunc w fun t5 w =>
  stW Try.prog 107 t5 (.func (.func 90) #[] #[t2, t3, t4, t5]) w fun w =>
  Drew w fun w =>
  ld1 w t5 fun t10 =>
  ldN 3 w t2 fun t11 =>
  callW Try.prog (.func (.func 53) #[] #[]) [t11] w <| keepB w fun t12 w =>
  callW Try.prog t10 [(.int .i64 0), t12] w fun t13 w =>
  R (.returned (.tuple #[])) w

def A73 : Ann where
  live := fun _ => []
  wr := fun _ _ => false
  sched := fun
    | 4 => (.take 0 (.take 1 (.eff 2 (.bar 3 .done))))
    | _ => .done

set_option maxRecDepth 100000 in
theorem ok73 : (codeOk Try.f73.ntmps A73 (Try.f73.body.getD .skip) 0 && Nat.ble 2 Try.f73.ntmps) = true := by kernel_rfl
set_option maxRecDepth 100000 in
theorem lift73 {t0 t1 : Value} {w : World} {R : Ending → World → Prop} (h : S73 t0 t1 w R) : Calls Try.prog 73 #[t0, t1] w R :=
  calls_of_cw (fn := Try.f73) (c := Try.f73.body.getD .skip) A73 mixes Try.func73 (by kernel_rfl) ok73
    ((by kernel_rfl : (S73 t0 t1 w R) = cw Try.prog A73 (Try.f73.body.getD .skip) 0 (bodyQ Try.prog Try.f73 R) (frOf #[t0, t1]) w).mp h)

def S74 (t0 t1 t2 t3 : Value) (w : World) (R : Ending → World → Prop) : Prop :=
  boxW 83 t0 w fun t4 w =>
  ldN 3 w t1 fun t6 =>
  ld1 w t4 fun t7 =>
  callW Try.prog (.func (.func 75) #[] #[]) [t6, t7, (.func (.func 76) #[] #[t2, t1, t4])] w fun t9 w =>
  condW t9 (
    ld1 w t3 fun t11 =>
    binQ Try.prog w .add 3 true t11 (.int .i64 1) fun t12 =>
    stW Try.prog 3 t3 t12 w fun w =>
    R (.returned (.tuple #[])) w
  ) (
    R (.returned (.tuple #[])) w
  )

def A74 : Ann where
  live := fun _ => []
  wr := fun _ _ => false
  sched := fun _ => .done

set_option maxRecDepth 100000 in
theorem ok74 : (codeOk Try.f74.ntmps A74 (Try.f74.body.getD .skip) 0 && Nat.ble 4 Try.f74.ntmps) = true := by kernel_rfl
set_option maxRecDepth 100000 in
theorem lift74 {t0 t1 t2 t3 : Value} {w : World} {R : Ending → World → Prop} (h : S74 t0 t1 t2 t3 w R) : Calls Try.prog 74 #[t0, t1, t2, t3] w R :=
  calls_of_cw (fn := Try.f74) (c := Try.f74.body.getD .skip) A74 mixes Try.func74 (by kernel_rfl) ok74
    ((by kernel_rfl : (S74 t0 t1 t2 t3 w R) = cw Try.prog A74 (Try.f74.body.getD .skip) 0 (bodyQ Try.prog Try.f74 R) (frOf #[t0, t1, t2, t3]) w).mp h)

def S75 (t0 t1 t2 : Value) (w : World) (R : Ending → World → Prop) : Prop :=
  boxW 25 t0 w fun t3 w =>
  fa1 t3 0 fun t9 =>
  ld1 w t9 fun t10 =>
  Loop1 (.int .i64 0) w fun _ t11 w next =>
    binQ Try.prog w .lss 3 false t11 t10 fun t12 =>
    condW t12 (
      fa1 t3 1 fun t14 =>
      ld1 w t14 fun t15 =>
      Loop1 (.int .i64 0) w fun _ t16 w next_2 =>
        binQ Try.prog w .lss 3 false t16 t15 fun t17 =>
        condW t17 (
          Drew w fun w =>
          iaS 4 t1 t11 fun t22 =>
          iaA 4 1 t22 t16 fun t23 =>
          ld1 w t23 fun t24 =>
          callW Try.prog t2 [t11, t16] w <| keepB w fun t28 w =>
          binQ Try.prog w .neq 3 false t24 t28 fun t29 =>
          condW t29 (
            R (.returned (.bool false)) w
          ) (
            binQ Try.prog w .add 3 true t16 (.int .i64 1) fun t30 =>
            next_2 t30 w
          )
        ) (
          binQ Try.prog w .add 3 true t11 (.int .i64 1) fun t31 =>
          next t31 w
        )
    ) (
      R (.returned (.bool true)) w
    )

def A75 : Ann where
  live := fun
    | 0 => [11]
    | 2 => [16]
    | _ => []
  wr := fun
    | 0 => fun i => (Nat.ble 6 i && Nat.ble i 8) || (Nat.ble 11 i && Nat.ble i 31)
    | 2 => fun i => Nat.beq i 6 || Nat.beq i 8 || (Nat.ble 16 i && Nat.ble i 30)
    | _ => fun _ => false
  sched := fun
    | 7 => (.take 0 (.take 1 (.take 2 (.take 3 (.take 4 (.take 5 (.take 6 (.take 7 (.take 8 (.eff 9 (.take 10 .done)))))))))))
    | _ => .done

set_option maxRecDepth 100000 in
theorem ok75 : (codeOk Try.f75.ntmps A75 (Try.f75.body.getD .skip) 0 && Nat.ble 3 Try.f75.ntmps) = true := by kernel_rfl
set_option maxRecDepth 100000 in
theorem lift75 {t0 t1 t2 : Value} {w : World} {R : Ending → World → Prop} (h : S75 t0 t1 t2 w R) : Calls Try.prog 75 #[t0, t1, t2] w R :=
  calls_of_cw (fn := Try.f75) (c := Try.f75.body.getD .skip) A75 mixes Try.func75 (by kernel_rfl) ok75
    ((by kernel_rfl : (S75 t0 t1 t2 w R) = cw Try.prog A75 (Try.f75.body.getD .skip) 0 (bodyQ Try.prog Try.f75 R) (frOf #[t0, t1, t2]) w).mp h)

def S76 (t0 t1 t2 t3 t4 : Value) (w : World) (R : Ending → World → Prop) : Prop :=
  ld1 w t2 fun t8 =>
  binQ Try.prog w .eql 3 true t8 (.int .i64 1) fun t10 =>
  condW t10 (
    Drew w fun w =>
    fa1 t3 2 fun t11 =>
    ld1 w t11 fun t12 =>
    ld1 w t4 fun t13 =>
    fa1 t3 0 fun t14 =>
    ld1 w t14 fun t15 =>
    binQ Try.prog w .sub 3 true t15 (.int .i64 1) fun t16 =>
    binQ Try.prog w .sub 3 false t16 t0 fun t18 =>
    fa1 t3 1 fun t19 =>
    ld1 w t19 fun t20 =>
    binQ Try.prog w .sub 3 true t20 (.int .i64 1) fun t21 =>
    binQ Try.prog w .sub 3 false t21 t1 fun t23 =>
    iaS 4 t13 t18 fun t24 =>
    iaA 4 1 t24 t23 fun t25 =>
    ld1 w t25 fun t26 =>
    binQ Try.prog w .sub 3 false t12 t26 fun t27 =>
    R (.returned t27) w
  ) (
    binQ Try.prog w .eql 3 true t8 (.int .i64 2) fun t29 =>
    condW t29 (
      ld1 w t4 fun t30 =>
      iaS 4 t30 t1 fun t33 =>
      iaA 4 1 t33 t0 fun t34 =>
      ld1 w t34 fun t35 =>
      R (.returned t35) w
    ) (
      binQ Try.prog w .eql 3 true t8 (.int .i64 3) fun t37 =>
      condW t37 (
        Drew w fun w =>
        ld1 w t4 fun t38 =>
        iaS 4 t38 t1 fun t40 =>
        fa1 t3 1 fun t41 =>
        ld1 w t41 fun t42 =>
        slA 4 1 t40 none (some t42) fun t43 =>
        callW Try.prog (.func (.func 77) #[] #[]) [t43, t0] w fun t45 w =>
        R (.returned t45) w
      ) (
        binQ Try.prog w .eql 3 true t8 (.int .i64 4) fun t47 =>
        condW t47 (
          Drew w fun w =>
          fa1 t3 2 fun t48 =>
          ld1 w t48 fun t49 =>
          ld1 w t4 fun t50 =>
          fa1 t3 1 fun t51 =>
          ld1 w t51 fun t52 =>
          binQ Try.prog w .sub 3 true t52 (.int .i64 1) fun t53 =>
          binQ Try.prog w .sub 3 false t53 t1 fun t55 =>
          fa1 t3 0 fun t56 =>
          ld1 w t56 fun t57 =>
          binQ Try.prog w .sub 3 true t57 (.int .i64 1) fun t58 =>
          binQ Try.prog w .sub 3 false t58 t0 fun t60 =>
          iaS 4 t50 t55 fun t61 =>
          iaA 4 1 t61 t60 fun t62 =>
          ld1 w t62 fun t63 =>
          binQ Try.prog w .sub 3 false t49 t63 fun t64 =>
          R (.returned t64) w
        ) (
          ld1 w t4 fun t65 =>
          iaS 4 t65 t0 fun t68 =>
          iaA 4 1 t68 t1 fun t69 =>
          ld1 w t69 fun t70 =>
          R (.returned t70) w
        )
      )
    )
  )

def A76 : Ann where
  live := fun _ => []
  wr := fun _ _ => false
  sched := fun
    | 3 => (.take 0 (.take 1 (.take 2 (.take 3 (.take 4 (.take 5 (.take 6 (.take 7 (.take 8 (.take 9 (.take 10 (.take 11 (.take 12 (.take 13 (.take 14 (.take 15 (.take 16 (.take 17 .done))))))))))))))))))
    | 7 => (.take 0 (.take 1 (.take 2 (.take 3 (.take 4 (.take 5 (.take 6 (.bar 7 (.take 8 .done)))))))))
    | 9 => (.take 0 (.take 1 (.take 2 (.take 3 (.take 4 (.take 5 (.take 6 (.take 7 (.take 8 (.take 9 (.take 10 (.take 11 (.take 12 (.take 13 (.take 14 (.take 15 (.take 16 (.take 17 .done))))))))))))))))))
    | _ => .done

set_option maxRecDepth 100000 in
theorem ok76 : (codeOk Try.f76.ntmps A76 (Try.f76.body.getD .skip) 0 && Nat.ble 5 Try.f76.ntmps) = true := by kernel_rfl
set_option maxRecDepth 100000 in
theorem lift76 {t0 t1 t2 t3 t4 : Value} {w : World} {R : Ending → World → Prop} (h : S76 t0 t1 t2 t3 t4 w R) : Calls Try.prog 76 #[t0, t1, t2, t3, t4] w R :=
  calls_of_cw (fn := Try.f76) (c := Try.f76.body.getD .skip) A76 mixes Try.func76 (by kernel_rfl) ok76
    ((by kernel_rfl : (S76 t0 t1 t2 t3 t4 w R) = cw Try.prog A76 (Try.f76.body.getD .skip) 0 (bodyQ Try.prog Try.f76 R) (frOf #[t0, t1, t2, t3, t4]) w).mp h)

def S90 (t0 t1 t2 t3 t4 t5 : Value) (w : World) (R : Ending → World → Prop) : Prop :=
  boxW 80 t1 w fun t7 w =>
  fa1 t2 0 fun t11 =>
  ld1 w t11 fun t12 =>
  binQ Try.prog w .eql 3 false t0 t12 fun t13 =>
  condW t13 (
    ld1 w t3 fun t14 =>
    ld1 w t4 fun t15 =>
    callW Try.prog t14 [t15] w fun t16 w =>
    R (.returned (.tuple #[])) w
  ) (
    ldN 3 w t2 fun t17 =>
    ldN 4 w t7 fun t18 =>
    callW Try.prog (.func (.func 55) #[] #[]) [t17, t18] w fun t19 w =>
    ln1 t19 fun t20 =>
    Loop1 (.int .i64 0) w fun _ t21 w next =>
      binQ Try.prog w .lss 3 false t21 t20 fun t22 =>
      condW t22 (
        iaS 4 t19 t21 fun t23 =>
        ldN 4 w t23 fun t24 =>
        boxW 80 (.agg #[(.int .i64 0), (.int .i64 0), (.int .i64 0), (.int .i64 0)]) w fun t9 w =>
        stW Try.prog 80 t9 t24 w fun w =>
        ld1 w t4 fun t25 =>
        ldN 4 w t9 fun t27 =>
        iaS 4 t25 t0 fun t28 =>
        stW Try.prog 80 t28 t27 w fun w =>
        ld1 w t5 fun t29 =>
        binQ Try.prog w .add 3 true t0 (.int .i64 1) fun t31 =>
        ldN 4 w t9 fun t32 =>
        callW Try.prog t29 [t31, t32] w fun t33 w =>
        binQ Try.prog w .add 3 true t21 (.int .i64 1) fun t34 =>
        next t34 w
      ) (
        R (.returned (.tuple #[])) w
      )
  )

def A90 : Ann where
  live := fun
    | 0 => [21]
    | _ => []
  wr := fun
    | 0 => fun i => Nat.beq i 9 || (Nat.ble 21 i && Nat.ble i 34)
    | _ => fun _ => false
  sched := fun _ => .done

set_option maxRecDepth 100000 in
theorem ok90 : (codeOk Try.f90.ntmps A90 (Try.f90.body.getD .skip) 0 && Nat.ble 6 Try.f90.ntmps) = true := by kernel_rfl
set_option maxRecDepth 100000 in
theorem lift90 {t0 t1 t2 t3 t4 t5 : Value} {w : World} {R : Ending → World → Prop} (h : S90 t0 t1 t2 t3 t4 t5 w R) : Calls Try.prog 90 #[t0, t1, t2, t3, t4, t5] w R :=
  calls_of_cw (fn := Try.f90) (c := Try.f90.body.getD .skip) A90 mixes Try.func90 (by kernel_rfl) ok90
    ((by kernel_rfl : (S90 t0 t1 t2 t3 t4 t5 w R) = cw Try.prog A90 (Try.f90.body.getD .skip) 0 (bodyQ Try.prog Try.f90 R) (frOf #[t0, t1, t2, t3, t4, t5]) w).mp h)

def S50 (t0 t1 : Value) (w : World) (R : Ending → World → Prop) : Prop :=
  boxW 25 t0 w fun t2 w =>
  fa1 t2 1 fun t8 =>
  ld1 w t8 fun t9 =>
  fa1 t2 0 fun t10 =>
  ld1 w t10 fun t11 =>
  fa1 t2 2 fun t12 =>
  ld1 w t12 fun t13 =>
  bdQ Try.prog 25 [(0, t9), (1, t11), (2, t13)] fun t14 =>
  callW Try.prog (.func (.func 66) #[] #[]) [t14] w fun t15 w =>
  Loop1 (.int .i64 0) w fun _ t6 w next =>
    fa1 t2 0 fun t17 =>
    ld1 w t17 fun t18 =>
    binQ Try.prog w .lss 3 false t6 t18 fun t19 =>
    condW t19 (
      Loop1 (.int .i64 0) w fun _ t7 w next_2 =>
        fa1 t2 1 fun t23 =>
        ld1 w t23 fun t24 =>
        binQ Try.prog w .lss 3 false t7 t24 fun t25 =>
        condW t25 (
          Drew w fun w =>
          iaS 1 t15 t7 fun t30 =>
          ld1 w t30 fun t31 =>
          iaS 1 t1 t6 fun t35 =>
          ld1 w t35 fun t36 =>
          iaS 1 t36 t7 fun t38 =>
          ld1 w t38 fun t39 =>
          iaS 1 t31 t6 fun t40 =>
          stW Try.prog 3 t40 t39 w fun w =>
          binQ Try.prog w .add 3 true t7 (.int .i64 1) fun t27 =>
          next_2 t27 w
        ) (
          binQ Try.prog w .add 3 true t6 (.int .i64 1) fun t21 =>
          next t21 w
        )
    ) (
      R (.returned t15) w
    )

def A50 : Ann where
  live := fun
    | 0 => [6]
    | 2 => [7]
    | _ => []
  wr := fun
    | 0 => fun i => (Nat.ble 6 i && Nat.ble i 7) || (Nat.ble 16 i && Nat.ble i 40)
    | 2 => fun i => Nat.beq i 7 || (Nat.ble 22 i && Nat.ble i 40)
    | _ => fun _ => false
  sched := fun
    | 8 => (.take 0 (.take 1 (.take 2 (.take 3 (.take 4 (.take 5 (.take 6 (.take 7 (.take 8 (.take 9 (.take 10 (.take 11 (.take 12 (.bar 13 .done))))))))))))))
    | _ => .done

set_option maxRecDepth 100000 in
theorem ok50 : (codeOk Try.f50.ntmps A50 (Try.f50.body.getD .skip) 0 && Nat.ble 2 Try.f50.ntmps) = true := by kernel_rfl
set_option maxRecDepth 100000 in
theorem lift50 {t0 t1 : Value} {w : World} {R : Ending → World → Prop} (h : S50 t0 t1 w R) : Calls Try.prog 50 #[t0, t1] w R :=
  calls_of_cw (fn := Try.f50) (c := Try.f50.body.getD .skip) A50 mixes Try.func50 (by kernel_rfl) ok50
    ((by kernel_rfl : (S50 t0 t1 w R) = cw Try.prog A50 (Try.f50.body.getD .skip) 0 (bodyQ Try.prog Try.f50 R) (frOf #[t0, t1]) w).mp h)

def S51 (t0 t1 : Value) (w : World) (R : Ending → World → Prop) : Prop :=
  boxW 25 t0 w fun t2 w =>
  fa1 t2 2 fun t8 =>
  ld1 w t8 fun t9 =>
  fa1 t2 0 fun t10 =>
  ld1 w t10 fun t11 =>
  fa1 t2 1 fun t12 =>
  ld1 w t12 fun t13 =>
  bdQ Try.prog 25 [(0, t9), (1, t11), (2, t13)] fun t14 =>
  callW Try.prog (.func (.func 66) #[] #[]) [t14] w fun t15 w =>
  Loop1 (.int .i64 0) w fun _ t6 w next =>
    fa1 t2 2 fun t17 =>
    ld1 w t17 fun t18 =>
    binQ Try.prog w .lss 3 false t6 t18 fun t19 =>
    condW t19 (
      Loop1 (.int .i64 0) w fun _ t7 w next_2 =>
        fa1 t2 0 fun t23 =>
        ld1 w t23 fun t24 =>
        binQ Try.prog w .lss 3 false t7 t24 fun t25 =>
        condW t25 (
          Drew w fun w =>
          iaS 1 t15 t6 fun t30 =>
          ld1 w t30 fun t31 =>
          iaS 1 t1 t7 fun t35 =>
          ld1 w t35 fun t36 =>
          callW Try.prog (.func (.func 82) #[] #[]) [t36, t6] w <| keepB w fun t38 w =>
          iaS 1 t31 t7 fun t39 =>
          stW Try.prog 3 t39 t38 w fun w =>
          binQ Try.prog w .add 3 true t7 (.int .i64 1) fun t27 =>
          next_2 t27 w
        ) (
          binQ Try.prog w .add 3 true t6 (.int .i64 1) fun t21 =>
          next t21 w
        )
    ) (
      R (.returned t15) w
    )

def A51 : Ann where
  live := fun
    | 0 => [6]
    | 2 => [7]
    | _ => []
  wr := fun
    | 0 => fun i => (Nat.ble 6 i && Nat.ble i 7) || (Nat.ble 16 i && Nat.ble i 39)
    | 2 => fun i => Nat.beq i 7 || (Nat.ble 22 i && Nat.ble i 39)
    | _ => fun _ => false
  sched := fun
    | 8 => (.take 0 (.take 1 (.take 2 (.take 3 (.take 4 (.take 5 (.take 6 (.take 7 (.take 8 (.take 9 (.eff 10 (.take 11 (.bar 12 .done)))))))))))))
    | _ => .done

set_option maxRecDepth 100000 in
theorem ok51 : (codeOk Try.f51.ntmps A51 (Try.f51.body.getD .skip) 0 && Nat.ble 2 Try.f51.ntmps) = true := by kernel_rfl
set_option maxRecDepth 100000 in
theorem lift51 {t0 t1 : Value} {w : World} {R : Ending → World → Prop} (h : S51 t0 t1 w R) : Calls Try.prog 51 #[t0, t1] w R :=
  calls_of_cw (fn := Try.f51) (c := Try.f51.body.getD .skip) A51 mixes Try.func51 (by kernel_rfl) ok51
    ((by kernel_rfl : (S51 t0 t1 w R) = cw Try.prog A51 (Try.f51.body.getD .skip) 0 (bodyQ Try.prog Try.f51 R) (frOf #[t0, t1]) w).mp h)

def S82 (t0 t1 : Value) (w : World) (R : Ending → World → Prop) : Prop :=
  Loop2 (.int .i64 0) (.int .i64 0) w fun _ t5 t6 w next =>
    ln1 t0 fun t9 =>
    binQ Try.prog w .lss 3 false t6 t9 fun t10 =>
    condW t10 (
      iaS 1 t0 t6 fun t15 =>
      ld1 w t15 fun t16 =>
      binQ Try.prog w .gtr 3 false t16 t1 fun t18 =>
      Join (fun (k_2 : Value → World → Prop) =>
        condW t18 (
          binQ Try.prog w .add 3 true t5 (.int .i64 1) fun t20 =>
          k_2 t20 w
        ) (
          k_2 t5 w
        )
      ) fun t5_2 w =>
      binQ Try.prog w .add 3 true t6 (.int .i64 1) fun t12_2 =>
      next t5_2 t12_2 w
    ) (
      R (.returned t5) w
    )

def A82 : Ann where
  live := fun
    | 0 => [5, 6]
    | _ => []
  wr := fun
    | 0 => fun i => (Nat.ble 5 i && Nat.ble i 20)
    | _ => fun _ => false
  sched := fun _ => .done

set_option maxRecDepth 100000 in
theorem ok82 : (codeOk Try.f82.ntmps A82 (Try.f82.body.getD .skip) 0 && Nat.ble 2 Try.f82.ntmps) = true := by kernel_rfl
set_option maxRecDepth 100000 in
theorem lift82 {t0 t1 : Value} {w : World} {R : Ending → World → Prop} (h : S82 t0 t1 w R) : Calls Try.prog 82 #[t0, t1] w R :=
  calls_of_cw (fn := Try.f82) (c := Try.f82.body.getD .skip) A82 mixes Try.func82 (by kernel_rfl) ok82
    ((by kernel_rfl : (S82 t0 t1 w R) = cw Try.prog A82 (Try.f82.body.getD .skip) 0 (bodyQ Try.prog Try.f82 R) (frOf #[t0, t1]) w).mp h)

theorem fok14 : fnOk Try.prog 14 = true := by kernel_rfl
theorem fok39 : fnOk Try.prog 39 = true := by kernel_rfl
theorem fok40 : fnOk Try.prog 40 = true := by kernel_rfl
theorem fok9 : fnOk Try.prog 9 = true := by kernel_rfl
theorem fok73 : fnOk Try.prog 73 = true := by kernel_rfl
theorem fok74 : fnOk Try.prog 74 = true := by kernel_rfl
theorem fok75 : fnOk Try.prog 75 = true := by kernel_rfl
theorem fok76 : fnOk Try.prog 76 = true := by kernel_rfl
theorem fok90 : fnOk Try.prog 90 = true := by kernel_rfl
theorem fok50 : fnOk Try.prog 50 = true := by kernel_rfl
theorem fok51 : fnOk Try.prog 51 = true := by kernel_rfl
theorem fok82 : fnOk Try.prog 82 = true := by kernel_rfl
end Go.Proofs.Ytaephdjmpmbfpaa
