/- Contract: LozengeGrows. -/
import Derived.Test.YtaephdjmpmbfpaaK2
import Derived.Test.YtaephdjmpmbfpaaR1
import Derived.Test.YtaephdjmpmbfpaaAlive
import Derived.Test.YtaephdjmpmbfpaaOpens
set_option linter.all false
namespace Go.Proofs.Ytaephdjmpmbfpaa
open Go.ChangeShapes Go.WideShapes Go.ChangeAt Go.RowKit Go.Lf Go.Deep Go.Hp

/-- The slice v reads as bytes. -/
def RdB (w : World) (v : Value) (l : List Nat) : Prop :=
  ∃ a cap, v = .slice a l.length cap ∧ (0 < l.length → ∃ b off, a = some ⟨b, off, none⟩ ∧ ∀ i, i < l.length → w.cell? ⟨b, off + i, none⟩ = some (.int .u8 (l.getD i 0 : Nat))) ∧ ∀ x ∈ l, x ≤ 255

theorem RdB.below {w w' : World} {v : Value} {l : List Nat} (h : RdB w v l) (k : Kp w w') : RdB w' v l := by
  obtain ⟨a, cap, h1, h2, h3⟩ := h
  exact ⟨a, cap, h1, fun h0 => let ⟨b, off, e, hc⟩ := h2 h0; ⟨b, off, e, fun i hi => cell_later k (hc i hi)⟩, h3⟩

theorem und23 : Try.prog.underlying 23 = some (.slice 5) := by kernel_rfl

set_option maxRecDepth 100000 in
theorem open_bytes {H : Type} {enc : TypeId × Value → H} {W : World} {base : Nat} {v : Value} {d : DataW H} {p : List MemPlace} (hv : Value.okWide Try.prog W .any base 23 v) (h : DataW.Trod enc Try.prog W 0 (fun _ => true) true 23 v d p) : ∃ l, RdB W v l := by
  obtain ⟨a0, n0, c0, rfl⟩ := okWide_slice und23 hv
  obtain ⟨fuel, hf⟩ := h
  have e5 : Try.prog.cellsOf 5 = 1 := by kernel_rfl
  rcases open_slice1 und23 e5 hf with ⟨hcs, _⟩ | ⟨a, len, cap, m, n, V, D, Pl, hcs, _, hl, _, hm, _, hx⟩
  · simp [Value.cells] at hcs
    obtain ⟨rfl, rfl, rfl⟩ := hcs
    exact ⟨[], none, 0, rfl, fun h => absurd h (by simp), fun _ h => by simp at h⟩
  · simp [Value.cells] at hcs
    obtain ⟨rfl, rfl, rfl⟩ := hcs
    simp only [if_true] at hm
    have hm' := hm.symm
    subst hm'
    have key : ∀ i, i < c0 → ∃ k : Nat, V i = .int .u8 k ∧ k ≤ 255 := fun i hi => by
      obtain ⟨_, ht⟩ := hx i hi
      obtain ⟨n, e, _, hw⟩ := DataW.trod_int und5 ht
      obtain ⟨k, rfl, hk⟩ := wf_u8 hw
      simp at e
      exact ⟨k, e, hk⟩
    let N : Nat → Nat := fun i => (intOf (V i)).toNat
    have hN : ∀ i, i < c0 → V i = .int .u8 (N i : Nat) ∧ N i ≤ 255 := fun i hi => by
      obtain ⟨k, e, hk⟩ := key i hi
      show V i = .int .u8 ((intOf (V i)).toNat : Nat) ∧ (intOf (V i)).toNat ≤ 255
      rw [e]
      simp [intOf, hk]
    refine ⟨(List.range n0).map N, some a, c0, by simp, fun h0 => ?_, fun x hx => ?_⟩
    · simp only [List.length_map, List.length_range] at h0 ⊢
      obtain ⟨b, off, spot⟩ := a
      have hspot : spot = none := by simpa [Addr.add] using World.cell?_spot (hx 0 (by omega)).1
      subst hspot
      refine ⟨b, off, rfl, fun i hi => ?_⟩
      have := (hx i (by omega)).1
      rw [r_addr] at this
      rw [this, (hN i (by omega)).1]
      simp [List.getD_eq_getElem?_getD, hi]
    · simp only [List.mem_map, List.mem_range] at hx
      obtain ⟨i, hi, rfl⟩ := hx
      exact (hN i (by omega)).2

set_option maxRecDepth 100000 in
theorem grows_calls (a b c r : Nat) (v4 : Value) (picks : List Nat) (w : World) (ha : a ≤ 255) (hb : b ≤ 255) (hc : c ≤ 255) (hr : r ≤ 4294967295) (hp : RdB w v4 picks) :
    Calls Try.prog 3 #[.int .u8 a, .int .u8 b, .int .u8 c, .int .u32 r, v4] w fun e w' => e = .returned (.bool true) ∧ Kp w w' := by
  refine lift3 ?_
  obtain ⟨pa, pcap, rfl, hpc, hpb⟩ := hp
  unfold S3
  refine r_use fok12 (boxed_calls a b c r w ha hb hc hr) rfl ?_
  rintro _ w1 ⟨v, rfl, k1, g, bs, hown, hg, hbs⟩
  refine ⟨_, rfl, ?_⟩
  have hok := heapOf_ok a b c r
  have hA := side_range a
  have hB := side_range b
  have hC := side_range c
  generalize side a = A at *
  generalize side b = B at *
  generalize side c = C at *
  generalize heapOf a b c r = h at *
  have hh := heapOk_iff.1 hok
  have hs := sized_of hh
  have hbs' : ∀ i, i < A → w.heap.size ≤ bs i := fun i hi => hbs i (by rw [hs.1]; exact hi)
  simp only [r_ex2a, r_ex2b]
  refine r_box fun b9 w2 e9 s9 h9 k2 => ?_
  refine r_stAll (n := 3) (ty := 25) (by kernel_rfl) rfl (by intro u hu; simp [Value.cells] at hu; rcases hu with rfl | rfl | rfl <;> rfl) h9 rfl fun w3 c3 s3 h3 => ?_
  have k3 : Kp w1 w3 := Kp.of_chg k2 c3 fun i e => by omega
  have hown3 := hown.kp k3
  have hgl1 : g < w1.heap.size := by obtain ⟨_, _, _, q, _⟩ := hown.outer; exact block_lt q
  have hbl1 : ∀ i, i < A → bs i < w1.heap.size := fun i hi => by obtain ⟨_, q, _⟩ := hown.rows i (by rw [hs.1]; exact hi); exact block_lt q
  have n9 : ∀ i, i < A → bs i ≠ b9 := fun i hi => by have := hbl1 i hi; omega
  have hk1 := k1.size
  refine r_use fok13 (vol_calls hA hB hC hh hown3.rd) rfl ?_
  rintro _ w4 ⟨rfl, k4⟩
  refine ⟨_, rfl, ?_⟩
  have h4 := block_below h3 k4
  have k04 : Kp w w4 := Kp.trans k1 (Kp.trans k3 k4)
  have hv0 := vol_small hA hB hC hh
  refine ⟨fun t13 wr => ∃ h' : List (List Int), t13 = .int .i64 (volM h') ∧ IsHeap A B C h' ∧ OwnRows wr v g bs h' ∧ wr.heap[b9]? = some (.cells (boxV A B C).cells 25 (0, 0)) ∧ Kp w wr,
    fun t13 _ => (intOf t13).toNat, ⟨h, rfl, hh, hown3.kp k4, h4, k04⟩, ?_⟩
  rintro _ _ wr ⟨h', rfl, hh', ho, h9r, kr⟩
  have hvs := vol_small hA hB hC hh'
  have hs' := sized_of hh'
  have herr := heapErr_of hA hB hC hh'
  by_cases hpos : 0 < volM h'
  case neg =>
    have hz : volM h' = 0 := by omega
    simp (disch := omega) only [r_ln, r_pick, r_pickT, r_pickF, r_condT, r_condF, r_gdTT, r_gdFF, r_gdTF, r_gdFT, r_gqTT, r_gqFF, r_gqTF, r_gqFT, r_not, r_lss, r_leq, r_gtr, r_geq, r_eql, r_neq, r_add, r_sub, r_min2, r_max2, r_min3, r_max3, r_fa, r_iaS, r_iaA, r_ex2a, r_ex2b, r_ex3a, r_ex3b, r_ex3c, r_nc, r_keepE, Nat.zero_add, Nat.add_zero, Nat.mul_one, Int.toNat_natCast, toNat_sub1, toNat_add1, decide_true, decide_false, Bool.not_true, Bool.not_false, if_true, if_false, Bool.false_eq_true, reduceCtorEq, hpos, r_ldRow (n := 3) h9r rfl]
    refine r_use fok14 (corners_calls A B C v h' wr ho.rd) rfl ?_
    rintro _ x1 ⟨u8, u9, err, rfl, y1, hc1⟩
    refine ⟨_, rfl, ?_⟩
    obtain ⟨he1, hc1⟩ := hc1
    rw [herr] at he1
    subst he1
    rw [if_pos rfl] at hc1
    obtain ⟨_, hc1⟩ := hc1
    simp only [Int.toNat_natCast] at hc1
    rw [takeL_zero hh' hz] at hc1
    have p1 := block_below h9r y1
    simp only [r_ln, r_pick, r_pickT, r_pickF, r_condT, r_condF, r_gdTT, r_gdFF, r_gdTF, r_gdFT, r_gqTT, r_gqFF, r_gqTF, r_gqFT, r_not, r_lss, r_leq, r_gtr, r_geq, r_eql, r_neq, r_add, r_sub, r_min2, r_max2, r_min3, r_max3, r_fa, r_iaS, r_iaA, r_ex2a, r_ex2b, r_ex3a, r_ex3b, r_ex3c, r_nc, r_keepE, Nat.zero_add, Nat.add_zero, Nat.mul_one, Int.toNat_natCast, toNat_sub1, toNat_add1, decide_true, decide_false, Bool.not_true, Bool.not_false, if_true, if_false, Bool.false_eq_true, reduceCtorEq, r_ldRow (n := 3) p1 rfl]
    refine r_use fok16 (changedR_calls hh' hA hB hC v 1 x1 (ho.rd.below y1)) rfl ?_
    rintro _ x2 ⟨vf, rfl, y2, hf⟩
    refine ⟨_, rfl, ?_⟩
    have p2 := block_below p1 y2
    have ech : chM A B C h' 1 = compM A B C h' := rfl
    rw [ech] at hf
    have hhf := comp_heap hh'
    simp only [r_ln, r_pick, r_pickT, r_pickF, r_condT, r_condF, r_gdTT, r_gdFF, r_gdTF, r_gdFT, r_gqTT, r_gqFF, r_gqTF, r_gqFT, r_not, r_lss, r_leq, r_gtr, r_geq, r_eql, r_neq, r_add, r_sub, r_min2, r_max2, r_min3, r_max3, r_fa, r_iaS, r_iaA, r_ex2a, r_ex2b, r_ex3a, r_ex3b, r_ex3c, r_nc, r_keepE, Nat.zero_add, Nat.add_zero, Nat.mul_one, Int.toNat_natCast, toNat_sub1, toNat_add1, decide_true, decide_false, Bool.not_true, Bool.not_false, if_true, if_false, Bool.false_eq_true, reduceCtorEq, r_ldRow (n := 3) p2 rfl]
    refine r_use fok14 (corners_calls A B C vf _ x2 hf) rfl ?_
    rintro _ x3 ⟨z8, z9, err, rfl, y3, hc2⟩
    refine ⟨_, rfl, ?_⟩
    obtain ⟨he2, hc2⟩ := hc2
    rw [heapErr_of hA hB hC hhf] at he2
    subst he2
    rw [if_pos rfl] at hc2
    obtain ⟨hc2, _⟩ := hc2
    simp only [Int.toNat_natCast] at hc2
    rw [addL_full hh' hz] at hc2
    obtain ⟨ua, uc, rfl⟩ := hc1.len
    obtain ⟨za, zc, rfl⟩ := hc2.len
    have e0 : ((List.length ([] : List (Nat × Nat)) : Nat) : Int) = 0 := rfl
    simp (disch := omega) only [r_ln, r_pick, r_pickT, r_pickF, r_condT, r_condF, r_gdTT, r_gdFF, r_gdTF, r_gdFT, r_gqTT, r_gqFF, r_gqTF, r_gqFT, r_not, r_lss, r_leq, r_gtr, r_geq, r_eql, r_neq, r_add, r_sub, r_min2, r_max2, r_min3, r_max3, r_fa, r_iaS, r_iaA, r_ex2a, r_ex2b, r_ex3a, r_ex3b, r_ex3c, r_nc, r_keepE, Nat.zero_add, Nat.add_zero, Nat.mul_one, Int.toNat_natCast, toNat_sub1, toNat_add1, decide_true, decide_false, Bool.not_true, Bool.not_false, if_true, if_false, Bool.false_eq_true, reduceCtorEq, e0, decide_eq_true (rfl : (0 : Int) = 0)]
    refine r_use fok17 (alive_calls x3) rfl ?_
    rintro _ x4 ⟨rfl, y4⟩
    refine ⟨_, rfl, ?_⟩
    simp (disch := omega) only [r_ln, r_pick, r_pickT, r_pickF, r_condT, r_condF, r_gdTT, r_gdFF, r_gdTF, r_gdFT, r_gqTT, r_gqFF, r_gqTF, r_gqFT, r_not, r_lss, r_leq, r_gtr, r_geq, r_eql, r_neq, r_add, r_sub, r_min2, r_max2, r_min3, r_max3, r_fa, r_iaS, r_iaA, r_ex2a, r_ex2b, r_ex3a, r_ex3b, r_ex3c, r_nc, r_keepE, Nat.zero_add, Nat.add_zero, Nat.mul_one, Int.toNat_natCast, toNat_sub1, toNat_add1, decide_true, decide_false, Bool.not_true, Bool.not_false, if_true, if_false, Bool.false_eq_true, reduceCtorEq]
    exact ⟨trivial, Kp.trans kr (Kp.trans (Kp.trans y1 y2) (Kp.trans y3 y4))⟩
  simp (disch := omega) only [r_ln, r_pick, r_pickT, r_pickF, r_condT, r_condF, r_gdTT, r_gdFF, r_gdTF, r_gdFT, r_gqTT, r_gqFF, r_gqTF, r_gqFT, r_not, r_lss, r_leq, r_gtr, r_geq, r_eql, r_neq, r_add, r_sub, r_min2, r_max2, r_min3, r_max3, r_fa, r_iaS, r_iaA, r_ex2a, r_ex2b, r_ex3a, r_ex3b, r_ex3c, r_nc, r_keepE, Nat.zero_add, Nat.add_zero, Nat.mul_one, Int.toNat_natCast, toNat_sub1, toNat_add1, decide_true, decide_false, Bool.not_true, Bool.not_false, if_true, if_false, Bool.false_eq_true, reduceCtorEq, hpos, r_ldRow (n := 3) h9r rfl]
  refine r_use fok14 (corners_calls A B C v h' wr ho.rd) rfl ?_
  rintro _ x1 ⟨u8, u9, err, rfl, y1, hc1⟩
  refine ⟨_, rfl, ?_⟩
  obtain ⟨he1, hc1⟩ := hc1
  rw [herr] at he1
  subst he1
  rw [if_pos rfl] at hc1
  obtain ⟨_, hc1⟩ := hc1
  simp only [Int.toNat_natCast] at hc1
  have hne := takeL_ne hh' hpos
  have hmem : ∀ p, p ∈ takeL A B h' → (p.1 < A ∧ p.2 < B) ∧ 0 < hat h' p.1 p.2 := fun ⟨i, j⟩ hm => by
    obtain ⟨q1, q2, _⟩ := mem_takeL.1 hm
    exact ⟨q1, q2⟩
  have htk : ∀ p, p ∈ takeL A B h' → IsHeap A B C (put2 h' p.1 p.2 (hat h' p.1 p.2 - 1)) ∧ p ∈ addL A B C (put2 h' p.1 p.2 (hat h' p.1 p.2 - 1)) := fun ⟨i, j⟩ hm => taken_heap hh' hm
  have hlen : (takeL A B h').length ≤ 16 := by
    have h1 := List.length_filter_le (takeB A B h') (pl B (A * B))
    rw [pl_length] at h1
    have : A * B ≤ 16 := Nat.mul_le_mul hA.2 hB.2
    unfold takeL
    omega
  generalize takeL A B h' = T at *
  have hT0 : 0 < T.length := List.length_pos_iff.2 hne
  obtain ⟨p0, hp0⟩ : ∃ p, T[0]? = some p := ⟨_, List.getElem?_eq_getElem hT0⟩
  obtain ⟨gT, cT, rfl, _, hrd0⟩ := hc1.at hp0
  have hT0' : ¬ (T.length : Int) = 0 := by omega
  have hrd00 : ∀ K : Value → Prop, ldN 2 x1 (.pointer (some ⟨gT, 0, none⟩)) K = K (.agg #[.int .i64 (p0.2 : Nat), .int .i64 (p0.1 : Nat)]) := fun K => by simpa using hrd0 K
  simp (disch := omega) only [r_ln, r_pick, r_pickT, r_pickF, r_condT, r_condF, r_gdTT, r_gdFF, r_gdTF, r_gdFT, r_gqTT, r_gqFF, r_gqTF, r_gqFT, r_not, r_lss, r_leq, r_gtr, r_geq, r_eql, r_neq, r_add, r_sub, r_min2, r_max2, r_min3, r_max3, r_fa, r_iaS, r_iaA, r_ex2a, r_ex2b, r_ex3a, r_ex3b, r_ex3c, r_nc, r_keepE, Nat.zero_add, Nat.add_zero, Nat.mul_one, Int.toNat_natCast, toNat_sub1, toNat_add1, decide_true, decide_false, Bool.not_true, Bool.not_false, if_true, if_false, Bool.false_eq_true, reduceCtorEq, hT0', Int.toNat_zero, Nat.zero_mul, hrd00]
  refine r_box fun b17 x2 e17 s17 h17 y2 => ?_
  refine r_stAll (n := 2) (ty := 35) (by kernel_rfl) rfl (by intro u hu; simp [Value.cells] at hu; rcases hu with rfl | rfl <;> rfl) h17 rfl fun x3 c17 s17' h17' => ?_
  have y3 : Kp x1 x3 := Kp.of_chg y2 c17 fun i e => by omega
  have y13 := Kp.trans y1 y3
  have hsz1 := y1.size
  have hszr := kr.size
  refine r_join0 (fun w' => ∃ p, p ∈ T ∧ w'.heap[b17]? = some (.cells #[.int .i64 (p.2 : Nat), .int .i64 (p.1 : Nat)] 35 (0, 0)) ∧ Kp wr w') ?_ ?_
  rotate_left
  · intro kk hkk
    by_cases hlt : volM h' < (picks.length : Int)
    · obtain ⟨pb, po, rfl, hpcell⟩ := hpc (by omega)
      have hcell := cell_later (Kp.trans kr y13) (hpcell (volM h').toNat (by omega))
      have hmx : picks.getD (volM h').toNat 0 ≤ 255 := by
        rw [getD_lt _ _ _ (by omega)]
        exact hpb _ (List.getElem_mem _)
      generalize picks.getD (volM h').toNat 0 = x at *
      have hq : x % T.length < T.length := Nat.mod_lt _ hT0
      obtain ⟨pq, hpq⟩ : ∃ p, T[x % T.length]? = some p := ⟨_, List.getElem?_eq_getElem hq⟩
      obtain ⟨gT', cT', eT, _, hrdq⟩ := (hc1.kp y3).at hpq
      cases eT
      simp (disch := omega) only [r_ln, r_pick, r_pickT, r_pickF, r_condT, r_condF, r_gdTT, r_gdFF, r_gdTF, r_gdFT, r_gqTT, r_gqFF, r_gqTF, r_gqFT, r_not, r_lss, r_leq, r_gtr, r_geq, r_eql, r_neq, r_add, r_sub, r_min2, r_max2, r_min3, r_max3, r_fa, r_iaS, r_iaA, r_ex2a, r_ex2b, r_ex3a, r_ex3b, r_ex3c, r_nc, r_keepE, Nat.zero_add, Nat.add_zero, Nat.mul_one, Int.toNat_natCast, toNat_sub1, toNat_add1, decide_true, decide_false, Bool.not_true, Bool.not_false, if_true, if_false, Bool.false_eq_true, reduceCtorEq, decide_eq_true hlt, r_ld hcell, r_cv]
      rw [IntWalk.i64_in _ (by omega), r_remN _ _ hT0]
      simp (disch := omega) only [r_ln, r_pick, r_pickT, r_pickF, r_condT, r_condF, r_gdTT, r_gdFF, r_gdTF, r_gdFT, r_gqTT, r_gqFF, r_gqTF, r_gqFT, r_not, r_lss, r_leq, r_gtr, r_geq, r_eql, r_neq, r_add, r_sub, r_min2, r_max2, r_min3, r_max3, r_fa, r_iaS, r_iaA, r_ex2a, r_ex2b, r_ex3a, r_ex3b, r_ex3c, r_nc, r_keepE, Nat.zero_add, Nat.add_zero, Nat.mul_one, Int.toNat_natCast, toNat_sub1, toNat_add1, decide_true, decide_false, Bool.not_true, Bool.not_false, if_true, if_false, Bool.false_eq_true, reduceCtorEq, hrdq]
      refine r_stAll (n := 2) (ty := 35) (by kernel_rfl) rfl (by intro u hu; simp [Value.cells] at hu; rcases hu with rfl | rfl <;> rfl) h17' rfl fun x4 c4 s4 h4' => ?_
      exact hkk _ ⟨pq, List.mem_of_getElem? hpq, h4', Kp.of_chg y13 c4 fun i e => by omega⟩
    · simp (disch := omega) only [r_ln, r_pick, r_pickT, r_pickF, r_condT, r_condF, r_gdTT, r_gdFF, r_gdTF, r_gdFT, r_gqTT, r_gqFF, r_gqTF, r_gqFT, r_not, r_lss, r_leq, r_gtr, r_geq, r_eql, r_neq, r_add, r_sub, r_min2, r_max2, r_min3, r_max3, r_fa, r_iaS, r_iaA, r_ex2a, r_ex2b, r_ex3a, r_ex3b, r_ex3c, r_nc, r_keepE, Nat.zero_add, Nat.add_zero, Nat.mul_one, Int.toNat_natCast, toNat_sub1, toNat_add1, decide_true, decide_false, Bool.not_true, Bool.not_false, if_true, if_false, Bool.false_eq_true, reduceCtorEq, hlt]
      exact hkk _ ⟨p0, List.mem_of_getElem? hp0, h17', y13⟩
  rintro x4 ⟨⟨i, j⟩, hpT, h17b, y4⟩
  obtain ⟨⟨hi, hj⟩, hpos'⟩ := hmem _ hpT
  obtain ⟨hh2, hadd⟩ := htk _ hpT
  dsimp only at hi hj hpos' hh2 hadd h17b
  have p4 := block_below h9r y4
  obtain ⟨c0, c1, c2⟩ := box3 p4
  have d0 : x4.cell? ⟨b17, 0, none⟩ = some (.int .i64 (j : Nat)) := by rw [cell_row h17b]; rfl
  have d1 : x4.cell? ⟨b17, 1, none⟩ = some (.int .i64 (i : Nat)) := by rw [cell_row h17b]; rfl
  have q1 : ¬ (i : Int) < 0 := by omega
  have q2 : ¬ (A : Int) ≤ (i : Int) := by omega
  have q3 : ¬ (j : Int) < 0 := by omega
  have q4 : ¬ (B : Int) ≤ (j : Int) := by omega
  simp (disch := omega) only [r_ln, r_pick, r_pickT, r_pickF, r_condT, r_condF, r_gdTT, r_gdFF, r_gdTF, r_gdFT, r_gqTT, r_gqFF, r_gqTF, r_gqFT, r_not, r_lss, r_leq, r_gtr, r_geq, r_eql, r_neq, r_add, r_sub, r_min2, r_max2, r_min3, r_max3, r_fa, r_iaS, r_iaA, r_ex2a, r_ex2b, r_ex3a, r_ex3b, r_ex3c, r_nc, r_keepE, Nat.zero_add, Nat.add_zero, Nat.mul_one, Int.toNat_natCast, toNat_sub1, toNat_add1, decide_true, decide_false, Bool.not_true, Bool.not_false, if_true, if_false, Bool.false_eq_true, reduceCtorEq, r_ld d0, r_ld d1, r_ld c0, r_ld c1, q1, q2, q3, q4]
  refine r_drew fun x5 y5 _ => ?_
  have y45 := Kp.trans y4 y5
  have h17c := block_below h17b y5
  have p5 := block_below p4 y5
  have d0 : x5.cell? ⟨b17, 0, none⟩ = some (.int .i64 (j : Nat)) := by rw [cell_row h17c]; rfl
  have d1 : x5.cell? ⟨b17, 1, none⟩ = some (.int .i64 (i : Nat)) := by rw [cell_row h17c]; rfl
  have hox := ho.kp y45
  have hl2 := hs'.1
  have hrl2 := hs'.2 i hi
  obtain ⟨cap, cc, hvo, hgc, hslot⟩ := hox.slot (i := i) (by omega)
  obtain ⟨hxs, hfz⟩ := hslot j (by omega)
  have ehat : (h'.getD i []).getD j 0 = hat h' i j := rfl
  rw [ehat] at hxs
  have htop := hh'.top i j (by omega) (by omega)
  rw [hvo]
  simp (disch := omega) only [r_ln, r_pick, r_pickT, r_pickF, r_condT, r_condF, r_gdTT, r_gdFF, r_gdTF, r_gdFT, r_gqTT, r_gqFF, r_gqTF, r_gqFT, r_not, r_lss, r_leq, r_gtr, r_geq, r_eql, r_neq, r_add, r_sub, r_min2, r_max2, r_min3, r_max3, r_fa, r_iaS, r_iaA, r_ex2a, r_ex2b, r_ex3a, r_ex3b, r_ex3c, r_nc, r_keepE, Nat.zero_add, Nat.add_zero, Nat.mul_one, Int.toNat_natCast, toNat_sub1, toNat_add1, decide_true, decide_false, Bool.not_true, Bool.not_false, if_true, if_false, Bool.false_eq_true, reduceCtorEq, r_ld d0, r_ld d1, r_ld hgc, r_ld hxs]
  rw [st3 hxs hfz, ← hvo]
  have hset := hox.set (i := i) (j := j) (by omega) (by omega) (hat h' i j - 1)
  have hcs : Chg (fun k => k = bs i) x5 (x5.setCell ⟨bs i, j, none⟩ (.int .i64 (hat h' i j - 1))) := Chg.setCell _ _ rfl
  generalize x5.setCell ⟨bs i, j, none⟩ (.int .i64 (hat h' i j - 1)) = x6 at *
  have k16 : Kp w x6 := Kp.of_chg (Kp.trans kr y45) hcs fun k e => by have := hbs' i hi; omega
  have p6 := hcs.at p5 (Ne.symm (n9 i hi))
  have k34 := k3.size
  have hb17 : b17 ≠ bs i := by
    have := hbl1 i hi
    have := block_lt h9r
    omega
  have h17d := hcs.at h17c hb17
  simp only [r_ln, r_pick, r_pickT, r_pickF, r_condT, r_condF, r_gdTT, r_gdFF, r_gdTF, r_gdFT, r_gqTT, r_gqFF, r_gqTF, r_gqFT, r_not, r_lss, r_leq, r_gtr, r_geq, r_eql, r_neq, r_add, r_sub, r_min2, r_max2, r_min3, r_max3, r_fa, r_iaS, r_iaA, r_ex2a, r_ex2b, r_ex3a, r_ex3b, r_ex3c, r_nc, r_keepE, Nat.zero_add, Nat.add_zero, Nat.mul_one, Int.toNat_natCast, toNat_sub1, toNat_add1, decide_true, decide_false, Bool.not_true, Bool.not_false, if_true, if_false, Bool.false_eq_true, reduceCtorEq, r_ldRow (n := 3) p6 rfl]
  refine r_use fok14 (corners_calls A B C v _ x6 hset.rd) rfl ?_
  rintro _ x7 ⟨z8, z9, err, rfl, y7, hc2⟩
  refine ⟨_, rfl, ?_⟩
  obtain ⟨he2, hc2⟩ := hc2
  rw [heapErr_of hA hB hC hh2] at he2
  subst he2
  rw [if_pos rfl] at hc2
  obtain ⟨hc2, _⟩ := hc2
  simp only [Int.toNat_natCast] at hc2
  have hvol := vol_put2 hs' hi hj (hat h' i j - 1)
  have hadl : (addL A B C (put2 h' i j (hat h' i j - 1))).length ≤ 16 := by
    have h1 := List.length_filter_le (addB C (put2 h' i j (hat h' i j - 1))) (pl B (A * B))
    rw [pl_length] at h1
    have : A * B ≤ 16 := Nat.mul_le_mul hA.2 hB.2
    unfold addL
    omega
  generalize addL A B C (put2 h' i j (hat h' i j - 1)) = D at *
  generalize put2 h' i j (hat h' i j - 1) = h2 at *
  obtain ⟨za, zc, rfl⟩ := hc2.len
  simp only [r_ln, r_pick, r_pickT, r_pickF, r_condT, r_condF, r_gdTT, r_gdFF, r_gdTF, r_gdFT, r_gqTT, r_gqFF, r_gqTF, r_gqFT, r_not, r_lss, r_leq, r_gtr, r_geq, r_eql, r_neq, r_add, r_sub, r_min2, r_max2, r_min3, r_max3, r_fa, r_iaS, r_iaA, r_ex2a, r_ex2b, r_ex3a, r_ex3b, r_ex3c, r_nc, r_keepE, Nat.zero_add, Nat.add_zero, Nat.mul_one, Int.toNat_natCast, toNat_sub1, toNat_add1, decide_true, decide_false, Bool.not_true, Bool.not_false, if_true, if_false, Bool.false_eq_true, reduceCtorEq]
  refine ⟨fun t20 t21 wq => ∃ q : Nat, q ≤ D.length ∧ t21 = .int .i64 q ∧ t20 = .bool (decide ((i, j) ∈ D.take q)) ∧ Kp x7 wq, fun _ t21 _ => D.length - (intOf t21).toNat,
    ⟨0, by omega, rfl, by simp, Kp.refl _⟩, ?_⟩
  rintro _ _ _ wq ⟨q, hq, rfl, rfl, yq⟩
  by_cases hql : q < D.length
  case neg =>
    have hql' : ¬ (q : Int) < (D.length : Int) := by omega
    have hmm : (i, j) ∈ D.take q := by rw [List.take_of_length_le (by omega)]; exact hadd
    have pq := block_below p6 (Kp.trans y7 yq)
    simp (disch := omega) only [r_ln, r_pick, r_pickT, r_pickF, r_condT, r_condF, r_gdTT, r_gdFF, r_gdTF, r_gdFT, r_gqTT, r_gqFF, r_gqTF, r_gqFT, r_not, r_lss, r_leq, r_gtr, r_geq, r_eql, r_neq, r_add, r_sub, r_min2, r_max2, r_min3, r_max3, r_fa, r_iaS, r_iaA, r_ex2a, r_ex2b, r_ex3a, r_ex3b, r_ex3c, r_nc, r_keepE, Nat.zero_add, Nat.add_zero, Nat.mul_one, Int.toNat_natCast, toNat_sub1, toNat_add1, decide_true, decide_false, Bool.not_true, Bool.not_false, if_true, if_false, Bool.false_eq_true, reduceCtorEq, hql', decide_eq_true hmm, r_ldRow (n := 3) pq rfl]
    have hoq := hset.kp (Kp.trans y7 yq)
    refine r_use fok15 (in_calls A B C v h2 wq hoq.rd) rfl ?_
    rintro _ x8 ⟨rfl, y8⟩
    refine ⟨_, rfl, ?_⟩
    rw [heapOk_iff.2 hh2]
    simp (disch := omega) only [r_ln, r_pick, r_pickT, r_pickF, r_condT, r_condF, r_gdTT, r_gdFF, r_gdTF, r_gdFT, r_gqTT, r_gqFF, r_gqTF, r_gqFT, r_not, r_lss, r_leq, r_gtr, r_geq, r_eql, r_neq, r_add, r_sub, r_min2, r_max2, r_min3, r_max3, r_fa, r_iaS, r_iaA, r_ex2a, r_ex2b, r_ex3a, r_ex3b, r_ex3c, r_nc, r_keepE, Nat.zero_add, Nat.add_zero, Nat.mul_one, Int.toNat_natCast, toNat_sub1, toNat_add1, decide_true, decide_false, Bool.not_true, Bool.not_false, if_true, if_false, Bool.false_eq_true, reduceCtorEq]
    refine ⟨⟨h2, by rw [hvol]; congr 1; omega, hh2, hoq.kp y8, block_below pq y8, Kp.trans k16 (Kp.trans y7 (Kp.trans yq y8))⟩, by simp only [intOf]; omega⟩
  have hql' : (q : Int) < (D.length : Int) := by omega
  simp (disch := omega) only [r_ln, r_pick, r_pickT, r_pickF, r_condT, r_condF, r_gdTT, r_gdFF, r_gdTF, r_gdFT, r_gqTT, r_gqFF, r_gqTF, r_gqFT, r_not, r_lss, r_leq, r_gtr, r_geq, r_eql, r_neq, r_add, r_sub, r_min2, r_max2, r_min3, r_max3, r_fa, r_iaS, r_iaA, r_ex2a, r_ex2b, r_ex3a, r_ex3b, r_ex3c, r_nc, r_keepE, Nat.zero_add, Nat.add_zero, Nat.mul_one, Int.toNat_natCast, toNat_sub1, toNat_add1, decide_true, decide_false, Bool.not_true, Bool.not_false, if_true, if_false, Bool.false_eq_true, reduceCtorEq, decide_eq_true hql']
  refine r_drew fun wz yz _ => ?_
  have yqz := Kp.trans yq yz
  obtain ⟨d, hd⟩ : ∃ d, D[q]? = some d := ⟨_, List.getElem?_eq_getElem hql⟩
  obtain ⟨gD, cD, eD, _, hrd⟩ := (hc2.kp yqz).at hd
  cases eD
  have h17z := block_below h17d (Kp.trans y7 yqz)
  have htake : D.take (q + 1) = D.take q ++ [d] := by
    rw [List.take_succ, hd]; rfl
  by_cases hin : (i, j) ∈ D.take q
  · have hin' : (i, j) ∈ D.take (q + 1) := by rw [htake]; exact List.mem_append_left _ hin
    simp (disch := omega) only [r_ln, r_pick, r_pickT, r_pickF, r_condT, r_condF, r_gdTT, r_gdFF, r_gdTF, r_gdFT, r_gqTT, r_gqFF, r_gqTF, r_gqFT, r_not, r_lss, r_leq, r_gtr, r_geq, r_eql, r_neq, r_add, r_sub, r_min2, r_max2, r_min3, r_max3, r_fa, r_iaS, r_iaA, r_ex2a, r_ex2b, r_ex3a, r_ex3b, r_ex3c, r_nc, r_keepE, Nat.zero_add, Nat.add_zero, Nat.mul_one, Int.toNat_natCast, toNat_sub1, toNat_add1, decide_true, decide_false, Bool.not_true, Bool.not_false, if_true, if_false, Bool.false_eq_true, reduceCtorEq, decide_eq_true hin]
    exact ⟨⟨q + 1, by omega, by go_num, by rw [decide_eq_true hin'], yqz⟩, by simp only [intOf]; omega⟩
  · simp (disch := omega) only [r_ln, r_pick, r_pickT, r_pickF, r_condT, r_condF, r_gdTT, r_gdFF, r_gdTF, r_gdFT, r_gqTT, r_gqFF, r_gqTF, r_gqFT, r_not, r_lss, r_leq, r_gtr, r_geq, r_eql, r_neq, r_add, r_sub, r_min2, r_max2, r_min3, r_max3, r_fa, r_iaS, r_iaA, r_ex2a, r_ex2b, r_ex3a, r_ex3b, r_ex3c, r_nc, r_keepE, Nat.zero_add, Nat.add_zero, Nat.mul_one, Int.toNat_natCast, toNat_sub1, toNat_add1, decide_true, decide_false, Bool.not_true, Bool.not_false, if_true, if_false, Bool.false_eq_true, reduceCtorEq, decide_eq_false hin, hrd, r_ldRow (n := 2) h17z rfl, r_eq35]
    refine ⟨⟨q + 1, by omega, by go_num, ?_, yqz⟩, by simp only [intOf]; omega⟩
    congr 1
    rw [htake]
    obtain ⟨d1, d2⟩ := d
    rw [Bool.eq_iff_iff]
    simp [hin]
    omega

end Go.Proofs.Ytaephdjmpmbfpaa
