/- Texts of my own, merged by program: Opens W1 W2. -/
import Derived.Test.YtaephdjmpmbfpaaM19
import Derived.Deep.Matrix
import Derived.Deep.Strs
import Derived.Test.YtaephdjmpmbfpaaM12
import Derived.Test.YtaephdjmpmbfpaaM14
import Derived.Test.YtaephdjmpmbfpaaM11
set_option linter.all false
/- What arguments read as: boxes, lists of lists of integers. -/
namespace Go.Proofs.Ytaephdjmpmbfpaa
open Go.ChangeShapes Go.WideShapes Go.ChangeAt Go.RowKit Go.Lf Go.Deep

/-- The slice v reads as l, of whatever length. -/
def RdI (w : World) (v : Value) (l : List Int) : Prop :=
  ∃ a cap, v = .slice a l.length cap ∧ (0 < l.length → ∃ b off, a = some ⟨b, off, none⟩ ∧ ∀ i, i < l.length → w.cell? ⟨b, off + i, none⟩ = some (.int .i64 (l.getD i 0)))
/-- The slice v reads as the lists h, of whatever length. -/
def RdR (w : World) (v : Value) (h : List (List Int)) : Prop :=
  ∃ a cap, ∃ vs : Nat → Value, v = .slice a h.length cap ∧ (0 < h.length → ∃ b off, a = some ⟨b, off, none⟩ ∧ ∀ i, i < h.length → w.cell? ⟨b, off + i, none⟩ = some (vs i)) ∧ ∀ i, i < h.length → RdI w (vs i) (h.getD i [])

theorem RdI.small {w : World} {v : Value} {l : List Int} (h : RdI w v l) (hl : l.length ≤ 1000000) : RdInts w v l :=
  let ⟨a, cap, h1, h2⟩ := h; ⟨a, cap, h1, by omega, h2⟩
theorem RdR.small {w : World} {v : Value} {h : List (List Int)} (hr : RdR w v h) (hl : h.length ≤ 1000000) (hr2 : ∀ i, i < h.length → (h.getD i []).length ≤ 1000000) : RdRows w v h :=
  let ⟨a, cap, vs, h1, h2, h3⟩ := hr; ⟨a, cap, vs, h1, by omega, h2, fun i hi => (h3 i hi).small (hr2 i hi)⟩

section
variable {H : Type} {enc : TypeId × Value → H}

set_option maxRecDepth 100000 in
theorem open_box {W : World} {base : Nat} {v : Value} {d : DataW H} {p : List MemPlace} (hv : Value.okWide Try.prog W .any base 25 v) (h : DataW.Trod enc Try.prog W 0 (fun _ => true) true 25 v d p) : ∃ A B C : Int, v = boxV A B C := by
  obtain ⟨cs, rfl, hsz⟩ := okWide_struct Try.underlying25 hv
  obtain ⟨fuel, hf⟩ := h
  obtain ⟨y0, y1, y2, n, _, _, h0, h1, h2⟩ := trod_struct3 Try.underlying25 hf
  obtain ⟨A, hA, _⟩ := DataW.trod_int und3 h0
  obtain ⟨B, hB, _⟩ := DataW.trod_int und3 h1
  obtain ⟨C, hC, _⟩ := DataW.trod_int und3 h2
  have e3 : Try.prog.cellsOf 3 = 1 := by kernel_rfl
  have e25 : Try.prog.cellsOf 25 = 3 := by kernel_rfl
  rw [e25] at hsz
  simp only [e3, Value.cells] at hA hB hC
  refine ⟨A, B, C, ?_⟩
  obtain ⟨l⟩ := cs
  match l, hsz with
  | [x, y, z], _ =>
    simp at hA hB hC
    subst hA; subst hB; subst hC; rfl

theorem und26 : Try.prog.underlying 26 = some (.slice 36) := by kernel_rfl
theorem und36 : Try.prog.underlying 36 = some (.slice 3) := by kernel_rfl
theorem cellsOf36 : Try.prog.cellsOf 36 = 1 := by kernel_rfl
theorem cellsOf3 : Try.prog.cellsOf 3 = 1 := by kernel_rfl

set_option maxRecDepth 100000 in
theorem open_rows {W : World} {base : Nat} {v : Value} {d : DataW H} {p : List MemPlace} (hv : Value.okWide Try.prog W .any base 26 v) (h : DataW.Trod enc Try.prog W 0 (fun _ => true) true 26 v d p) : ∃ l, RdR W v l := by
  obtain ⟨a0, n0, c0, rfl⟩ := okWide_slice und26 hv
  obtain ⟨fuel, hf⟩ := h
  rcases open_int_rows und26 und36 und3 cellsOf36 cellsOf3 hf with ⟨hcs, _⟩ | ⟨a, len, cap, A, L, C, Z, hcs, _, hl, _, _, hx⟩
  · simp [Value.cells] at hcs
    obtain ⟨rfl, rfl, rfl⟩ := hcs
    exact ⟨[], none, 0, fun _ => undef, rfl, fun h => absurd h (by simp), fun i hi => absurd hi (by simp)⟩
  · simp [Value.cells] at hcs
    obtain ⟨rfl, rfl, rfl⟩ := hcs
    refine ⟨(List.range n0).map fun r => (Z r).take (L r), some a, c0, fun r => .slice (A r) (L r) (C r), by simp, fun h0 => ?_, fun i hi => ?_⟩
    · simp only [List.length_map, List.length_range] at h0 ⊢
      obtain ⟨b, off, spot⟩ := a
      have hspot : spot = none := by simpa [Addr.add] using World.cell?_spot (hx 0 (by omega)).1
      subst hspot
      refine ⟨b, off, rfl, fun i hi => ?_⟩
      have := (hx i (by omega)).1
      rwa [r_addr] at this
    · simp only [List.length_map, List.length_range] at hi
      obtain ⟨_, g1, _, g3, _, _, g6⟩ := hx i (by omega)
      have e : ((List.range n0).map fun r => (Z r).take (L r)).getD i [] = (Z i).take (L i) := by simp [List.getD_eq_getElem?_getD, hi]
      rw [e]
      have el : ((Z i).take (L i)).length = L i := by rw [List.length_take]; omega
      refine ⟨A i, C i, by rw [el], fun h0 => ?_⟩
      rw [el] at h0 ⊢
      cases hA : A i with
      | none =>
        have := (hx i (by omega)).2.2.2.2.2.1 hA
        omega
      | some a' =>
        obtain ⟨_, hcell⟩ := g6 a' hA
        obtain ⟨b, off, spot⟩ := a'
        have hspot : spot = none := by simpa [Addr.add] using World.cell?_spot (hcell 0 (by omega))
        subst hspot
        refine ⟨b, off, rfl, fun j hj => ?_⟩
        have := hcell j (by omega)
        rw [r_addr] at this
        rw [this]
        simp [List.getD_eq_getElem?_getD, List.getElem?_take, hj]

end

end Go.Proofs.Ytaephdjmpmbfpaa

/- Contracts: few, Is of program and specification, Copy, less, Rank of the specification. -/
namespace Go.Proofs.Ytaephdjmpmbfpaa
open Go.Lf Go.RowKit Go.Hp

theorem RdI.kp {w w' : World} {v : Value} {l : List Int} (h : RdI w v l) (hk : Kp w w') : RdI w' v l := by
  obtain ⟨a, cap, h1, h2⟩ := h
  refine ⟨a, cap, h1, fun h0 => ?_⟩
  obtain ⟨b, off, h3, h4⟩ := h2 h0
  exact ⟨b, off, h3, fun i hi => cell_later hk (h4 i hi)⟩
theorem RdR.kp {w w' : World} {v : Value} {h : List (List Int)} (hr : RdR w v h) (hk : Kp w w') : RdR w' v h := by
  obtain ⟨a, cap, vs, h1, h2, h3⟩ := hr
  refine ⟨a, cap, vs, h1, fun h0 => ?_, fun i hi => (h3 i hi).kp hk⟩
  obtain ⟨b, off, h4, h5⟩ := h2 h0
  exact ⟨b, off, h4, fun i hi => cell_later hk (h5 i hi)⟩

/-- Few enough numbers for a statement. -/
def Few (h : List (List Int)) : Prop := h.length ≤ 10 ∧ ∀ i, i < h.length → (h.getD i []).length ≤ 10
theorem Few.rows {w : World} {v : Value} {h : List (List Int)} (hf : Few h) (hr : RdR w v h) : RdRows w v h := hr.small (by have := hf.1; omega) fun i hi => by have := hf.2 i hi; omega

set_option maxRecDepth 100000 in
theorem few_calls (v : Value) (h : List (List Int)) (w : World) (hr : RdR w v h) : Calls Try.prog 30 #[v] w fun e w' => ∃ b, e = .returned (.bool b) ∧ (b = true → Few h) ∧ w = w' := by
  obtain ⟨a, cap, vs, rfl, hc, hrow⟩ := hr
  refine lift30 ?_
  unfold S30
  refine ⟨fun t3 wr => ∃ i : Nat, i ≤ h.length ∧ i ≤ 10 ∧ t3 = .int .i64 i ∧ w = wr ∧ ∀ k, k < i → (h.getD k []).length ≤ 10, fun t3 _ => h.length - (intOf t3).toNat, ⟨0, by omega, by omega, rfl, rfl, by omega⟩, ?_⟩
  rintro _ _ _ ⟨i, hi, hi10, rfl, rfl, hprev⟩
  by_cases hlt : i < h.length
  case neg =>
    have hlt' : ¬ (i : Int) < (h.length : Int) := by omega
    simp (disch := omega) only [r_ln, r_pick, r_pickT, r_pickF, r_condT, r_condF, r_gdTT, r_gdFF, r_gdTF, r_gdFT, r_gqTT, r_gqFF, r_gqTF, r_gqFT, r_not, r_lss, r_leq, r_gtr, r_geq, r_eql, r_neq, r_add, r_sub, r_min2, r_max2, r_min3, r_max3, r_fa, r_iaS, r_iaA, r_ex2a, r_ex2b, r_ex3a, r_ex3b, r_ex3c, r_nc, r_keepE, Nat.zero_add, Nat.add_zero, Nat.mul_one, Int.toNat_natCast, toNat_sub1, toNat_add1, decide_true, decide_false, Bool.not_true, Bool.not_false, if_true, if_false, Bool.false_eq_true, reduceCtorEq, hlt']
    exact ⟨true, rfl, (fun _ => ⟨by omega, fun k hk => hprev k (by omega)⟩), trivial⟩
  have hlt' : (i : Int) < (h.length : Int) := by omega
  obtain ⟨b, off, rfl, hcell⟩ := hc (by omega)
  obtain ⟨ra, rc, hv, _⟩ := hrow i hlt
  have hci := hcell i hlt
  rw [hv] at hci
  by_cases h10 : 10 ≤ i
  · have h10' : (10 : Int) ≤ i := by omega
    simp (disch := omega) only [r_ln, r_pick, r_pickT, r_pickF, r_condT, r_condF, r_gdTT, r_gdFF, r_gdTF, r_gdFT, r_gqTT, r_gqFF, r_gqTF, r_gqFT, r_not, r_lss, r_leq, r_gtr, r_geq, r_eql, r_neq, r_add, r_sub, r_min2, r_max2, r_min3, r_max3, r_fa, r_iaS, r_iaA, r_ex2a, r_ex2b, r_ex3a, r_ex3b, r_ex3c, r_nc, r_keepE, Nat.zero_add, Nat.add_zero, Nat.mul_one, Int.toNat_natCast, toNat_sub1, toNat_add1, decide_true, decide_false, Bool.not_true, Bool.not_false, if_true, if_false, Bool.false_eq_true, reduceCtorEq, hlt', h10']
    exact ⟨false, rfl, (fun h => absurd h (by decide)), trivial⟩
  have h10' : ¬ (10 : Int) ≤ i := by omega
  by_cases hl : 10 < (h.getD i []).length
  · have hl' : (10 : Int) < ((h.getD i []).length : Int) := by omega
    simp (disch := omega) only [r_ln, r_pick, r_pickT, r_pickF, r_condT, r_condF, r_gdTT, r_gdFF, r_gdTF, r_gdFT, r_gqTT, r_gqFF, r_gqTF, r_gqFT, r_not, r_lss, r_leq, r_gtr, r_geq, r_eql, r_neq, r_add, r_sub, r_min2, r_max2, r_min3, r_max3, r_fa, r_iaS, r_iaA, r_ex2a, r_ex2b, r_ex3a, r_ex3b, r_ex3c, r_nc, r_keepE, Nat.zero_add, Nat.add_zero, Nat.mul_one, Int.toNat_natCast, toNat_sub1, toNat_add1, decide_true, decide_false, Bool.not_true, Bool.not_false, if_true, if_false, Bool.false_eq_true, reduceCtorEq, hlt', h10', r_ld hci, hl']
    exact ⟨false, rfl, (fun h => absurd h (by decide)), trivial⟩
  have hl' : ¬ (10 : Int) < ((h.getD i []).length : Int) := by omega
  simp (disch := omega) only [r_ln, r_pick, r_pickT, r_pickF, r_condT, r_condF, r_gdTT, r_gdFF, r_gdTF, r_gdFT, r_gqTT, r_gqFF, r_gqTF, r_gqFT, r_not, r_lss, r_leq, r_gtr, r_geq, r_eql, r_neq, r_add, r_sub, r_min2, r_max2, r_min3, r_max3, r_fa, r_iaS, r_iaA, r_ex2a, r_ex2b, r_ex3a, r_ex3b, r_ex3c, r_nc, r_keepE, Nat.zero_add, Nat.add_zero, Nat.mul_one, Int.toNat_natCast, toNat_sub1, toNat_add1, decide_true, decide_false, Bool.not_true, Bool.not_false, if_true, if_false, Bool.false_eq_true, reduceCtorEq, hlt', h10', r_ld hci, hl']
  refine ⟨⟨i + 1, by omega, by omega, by go_num, trivial, fun k hk => ?_⟩, by simp only [intOf]; omega⟩
  by_cases hki : k < i
  · exact hprev k hki
  · have : k = i := by omega
    subst this; omega

/-- What Is hands back. -/
def isRes (A B C : Int) (h : List (List Int)) : Value := .tuple #[.bool (validB A B C && heapOk A B C h), .int .i64 (boxErr A B C)]

theorem isf_calls (A B C : Int) (v : Value) (h : List (List Int)) (w : World) (hr : RdRows w v h) : Calls Try.prog 31 #[boxV A B C, v] w fun e w' => e = .returned (isRes A B C h) ∧ Kp w w' := by
  refine lift31 ?_
  unfold S31
  refine r_box fun b w1 hbw hsz hb hk => ?_
  simp (disch := omega) only [r_ln, r_pick, r_pickT, r_pickF, r_condT, r_condF, r_gdTT, r_gdFF, r_gdTF, r_gdFT, r_gqTT, r_gqFF, r_gqTF, r_gqFT, r_not, r_lss, r_leq, r_gtr, r_geq, r_eql, r_neq, r_add, r_sub, r_min2, r_max2, r_min3, r_max3, r_fa, r_iaS, r_iaA, r_ex2a, r_ex2b, r_ex3a, r_ex3b, r_ex3c, r_nc, r_keepE, Nat.zero_add, Nat.add_zero, Nat.mul_one, Int.toNat_natCast, toNat_sub1, toNat_add1, decide_true, decide_false, Bool.not_true, Bool.not_false, if_true, if_false, Bool.false_eq_true, reduceCtorEq, r_ldRow (n := 3) hb rfl]
  refine r_use fok58 (valid_calls A B C w1) rfl ?_
  rintro e w2 ⟨rfl, hk2⟩
  refine ⟨_, rfl, ?_⟩
  have hkw2 := Kp.trans hk hk2
  by_cases hv : validB A B C = true
  case neg =>
    have hv' : validB A B C = false := by simpa using hv
    simp (disch := omega) only [r_ln, r_pick, r_pickT, r_pickF, r_condT, r_condF, r_gdTT, r_gdFF, r_gdTF, r_gdFT, r_gqTT, r_gqFF, r_gqTF, r_gqFT, r_not, r_lss, r_leq, r_gtr, r_geq, r_eql, r_neq, r_add, r_sub, r_min2, r_max2, r_min3, r_max3, r_fa, r_iaS, r_iaA, r_ex2a, r_ex2b, r_ex3a, r_ex3b, r_ex3c, r_nc, r_keepE, Nat.zero_add, Nat.add_zero, Nat.mul_one, Int.toNat_natCast, toNat_sub1, toNat_add1, decide_true, decide_false, Bool.not_true, Bool.not_false, if_true, if_false, Bool.false_eq_true, reduceCtorEq, hv']
    exact ⟨by simp [isRes, boxErr, hv'], hkw2⟩
  simp (disch := omega) only [r_ln, r_pick, r_pickT, r_pickF, r_condT, r_condF, r_gdTT, r_gdFF, r_gdTF, r_gdFT, r_gqTT, r_gqFF, r_gqTF, r_gqFT, r_not, r_lss, r_leq, r_gtr, r_geq, r_eql, r_neq, r_add, r_sub, r_min2, r_max2, r_min3, r_max3, r_fa, r_iaS, r_iaA, r_ex2a, r_ex2b, r_ex3a, r_ex3b, r_ex3c, r_nc, r_keepE, Nat.zero_add, Nat.add_zero, Nat.mul_one, Int.toNat_natCast, toNat_sub1, toNat_add1, decide_true, decide_false, Bool.not_true, Bool.not_false, if_true, if_false, Bool.false_eq_true, reduceCtorEq, hv, r_ldRow (n := 3) (block_below hb hk2) rfl]
  refine r_use fok67 (is_calls A B C v h w2 (hr.below hkw2)) rfl ?_
  rintro e w3 ⟨rfl, hk3⟩
  refine ⟨_, rfl, ?_⟩
  exact ⟨by simp [isRes, boxErr, hv], Kp.trans hkw2 hk3⟩

theorem refis_calls (A B C : Int) (v : Value) (h : List (List Int)) (w : World) (hr : RdRows w v h) : Calls Try.prog 32 #[boxV A B C, v] w fun e w' => e = .returned (isRes A B C h) ∧ Kp w w' := by
  refine lift32 ?_
  unfold S32
  refine r_box fun b w1 hbw hsz hb hk => ?_
  simp (disch := omega) only [r_ln, r_pick, r_pickT, r_pickF, r_condT, r_condF, r_gdTT, r_gdFF, r_gdTF, r_gdFT, r_gqTT, r_gqFF, r_gqTF, r_gqFT, r_not, r_lss, r_leq, r_gtr, r_geq, r_eql, r_neq, r_add, r_sub, r_min2, r_max2, r_min3, r_max3, r_fa, r_iaS, r_iaA, r_ex2a, r_ex2b, r_ex3a, r_ex3b, r_ex3c, r_nc, r_keepE, Nat.zero_add, Nat.add_zero, Nat.mul_one, Int.toNat_natCast, toNat_sub1, toNat_add1, decide_true, decide_false, Bool.not_true, Bool.not_false, if_true, if_false, Bool.false_eq_true, reduceCtorEq, r_ldRow (n := 3) hb rfl]
  refine r_use fok62 (good_calls A B C w1) rfl ?_
  rintro e w2 ⟨rfl, hk2⟩
  refine ⟨_, rfl, ?_⟩
  have hkw2 := Kp.trans hk hk2
  by_cases hv : validB A B C = true
  case neg =>
    have hv' : validB A B C = false := by simpa using hv
    simp (disch := omega) only [r_ln, r_pick, r_pickT, r_pickF, r_condT, r_condF, r_gdTT, r_gdFF, r_gdTF, r_gdFT, r_gqTT, r_gqFF, r_gqTF, r_gqFT, r_not, r_lss, r_leq, r_gtr, r_geq, r_eql, r_neq, r_add, r_sub, r_min2, r_max2, r_min3, r_max3, r_fa, r_iaS, r_iaA, r_ex2a, r_ex2b, r_ex3a, r_ex3b, r_ex3c, r_nc, r_keepE, Nat.zero_add, Nat.add_zero, Nat.mul_one, Int.toNat_natCast, toNat_sub1, toNat_add1, decide_true, decide_false, Bool.not_true, Bool.not_false, if_true, if_false, Bool.false_eq_true, reduceCtorEq, hv']
    exact ⟨by simp [isRes, boxErr, hv'], hkw2⟩
  simp (disch := omega) only [r_ln, r_pick, r_pickT, r_pickF, r_condT, r_condF, r_gdTT, r_gdFF, r_gdTF, r_gdFT, r_gqTT, r_gqFF, r_gqTF, r_gqFT, r_not, r_lss, r_leq, r_gtr, r_geq, r_eql, r_neq, r_add, r_sub, r_min2, r_max2, r_min3, r_max3, r_fa, r_iaS, r_iaA, r_ex2a, r_ex2b, r_ex3a, r_ex3b, r_ex3c, r_nc, r_keepE, Nat.zero_add, Nat.add_zero, Nat.mul_one, Int.toNat_natCast, toNat_sub1, toNat_add1, decide_true, decide_false, Bool.not_true, Bool.not_false, if_true, if_false, Bool.false_eq_true, reduceCtorEq, hv, r_ldRow (n := 3) (block_below hb hk2) rfl]
  refine r_use fok15 (in_calls A B C v h w2 (hr.below hkw2)) rfl ?_
  rintro e w3 ⟨rfl, hk3⟩
  refine ⟨_, rfl, ?_⟩
  exact ⟨by simp [isRes, boxErr, hv], Kp.trans hkw2 hk3⟩

set_option maxRecDepth 100000 in
/-- Copy of any rows. -/
theorem copy_calls (v : Value) (h : List (List Int)) (w : World) (hr : RdRows w v h) (hl : h.length ≤ 1000) (hrow : ∀ i, i < h.length → (h.getD i []).length ≤ 1000) :
    Calls Try.prog 22 #[v] w fun e w' => ∃ v', e = .returned v' ∧ Kp w w' ∧ RdRows w' v' h := by
  obtain ⟨va, vc, rfl, _⟩ := hr.len
  refine lift22 ?_
  unfold S22
  refine ⟨fun t3 t4 wr => ∃ i : Nat, i ≤ h.length ∧ t4 = .int .i64 i ∧ Kp w wr ∧ IntRows w.heap.size wr t3 (h.take i), fun _ t4 _ => h.length - (intOf t4).toNat,
    ⟨0, by omega, rfl, Kp.refl _, by simpa using IntRows.nil _ _⟩, ?_⟩
  rintro _ t3 _ wr ⟨i, hi, rfl, hk, hF⟩
  by_cases hlt : i < h.length
  case neg =>
    have hlt' : ¬ (i : Int) < (h.length : Int) := by omega
    have e : i = h.length := by omega
    subst e
    simp (disch := omega) only [r_ln, r_pick, r_pickT, r_pickF, r_condT, r_condF, r_gdTT, r_gdFF, r_gdTF, r_gdFT, r_gqTT, r_gqFF, r_gqTF, r_gqFT, r_not, r_lss, r_leq, r_gtr, r_geq, r_eql, r_neq, r_add, r_sub, r_min2, r_max2, r_min3, r_max3, r_fa, r_iaS, r_iaA, r_ex2a, r_ex2b, r_ex3a, r_ex3b, r_ex3c, r_nc, r_keepE, Nat.zero_add, Nat.add_zero, Nat.mul_one, Int.toNat_natCast, toNat_sub1, toNat_add1, decide_true, decide_false, Bool.not_true, Bool.not_false, if_true, if_false, Bool.false_eq_true, reduceCtorEq, hlt']
    rw [List.take_length] at hF
    exact ⟨t3, rfl, hk, hF.rd (by omega)⟩
  have hlt' : (i : Int) < (h.length : Int) := by omega
  obtain ⟨b, off, cap, rv, he, hc, hri⟩ := (hr.below hk).row hlt
  cases he
  simp (disch := omega) only [r_ln, r_pick, r_pickT, r_pickF, r_condT, r_condF, r_gdTT, r_gdFF, r_gdTF, r_gdFT, r_gqTT, r_gqFF, r_gqTF, r_gqFT, r_not, r_lss, r_leq, r_gtr, r_geq, r_eql, r_neq, r_add, r_sub, r_min2, r_max2, r_min3, r_max3, r_fa, r_iaS, r_iaA, r_ex2a, r_ex2b, r_ex3a, r_ex3b, r_ex3c, r_nc, r_keepE, Nat.zero_add, Nat.add_zero, Nat.mul_one, Int.toNat_natCast, toNat_sub1, toNat_add1, decide_true, decide_false, Bool.not_true, Bool.not_false, if_true, if_false, Bool.false_eq_true, reduceCtorEq, hlt', r_ld hc]
  have hp2 := hrow i hlt
  refine r_apInts (base := wr.heap.size) (n := 0) (v := .slice none 0 0) (xs := []) (World.ownsRow_nil _ _ _ _) hri (by omega) (Nat.le_refl _) fun v' w2 ho hg => ?_
  have hk2 : Kp wr w2 := Below.grown (Kp.refl _) hg (Nat.le_refl _) fun k hk' => by simp [Value.ownBlock] at hk'
  rw [Nat.zero_add, List.nil_append] at ho
  have s1 := hk.size
  have s2 := hk2.size
  have htl : (h.take i).length = i := by simp; omega
  refine r_pushRow (w0 := w) (hF.kp hk2) (⟨⟨_, ho⟩, by omega⟩ : OwnInts w2 v' (h.getD i [])) (by omega) (by omega) (Kp.trans hk hk2) (Nat.le_refl _) fun v3 w3 hF3 hk3 => ?_
  try simp (disch := omega) only [r_ln, r_pick, r_pickT, r_pickF, r_condT, r_condF, r_gdTT, r_gdFF, r_gdTF, r_gdFT, r_gqTT, r_gqFF, r_gqTF, r_gqFT, r_not, r_lss, r_leq, r_gtr, r_geq, r_eql, r_neq, r_add, r_sub, r_min2, r_max2, r_min3, r_max3, r_fa, r_iaS, r_iaA, r_ex2a, r_ex2b, r_ex3a, r_ex3b, r_ex3c, r_nc, r_keepE, Nat.zero_add, Nat.add_zero, Nat.mul_one, Int.toNat_natCast, toNat_sub1, toNat_add1, decide_true, decide_false, Bool.not_true, Bool.not_false, if_true, if_false, Bool.false_eq_true, reduceCtorEq]
  have e : h.take i ++ [h.getD i []] = h.take (i + 1) := by rw [take_succ' _ _ hlt, getD_lt _ _ _ hlt]
  rw [e] at hF3
  exact ⟨⟨i + 1, by omega, by go_num, hk3, hF3⟩, by simp only [intOf]; omega⟩

/-- The lexicographic order of heaps. -/
def lessB (A B : Nat) (h1 h2 : List (List Int)) : Bool := decide (cmpL (flat A B h1) (flat A B h2) < 0)

theorem flat_length (A B : Nat) (h : List (List Int)) : (flat A B h).length = A * B := by simp [flat]
theorem flat_at {A B i j : Nat} {h : List (List Int)} (hi : i < A) (hj : j < B) : (flat A B h).getD (i * B + j) 0 = (h.getD i []).getD j 0 := by
  rw [flat_getD (place_lt hi hj), Nat.add_comm, Nat.add_mul_div_right _ _ (by omega), Nat.add_mul_mod_self_right, Nat.div_eq_of_lt hj, Nat.mod_eq_of_lt hj, Nat.zero_add]
  rfl

set_option maxRecDepth 100000 in
theorem less_calls (A B : Nat) (v1 v2 : Value) (h1 h2 : List (List Int)) (w : World) (hB : 0 < B) (hr1 : RdRows w v1 h1) (hr2 : RdRows w v2 h2) (hs1 : Sized A B h1) (hs2 : Sized A B h2) :
    Calls Try.prog 68 #[v1, v2] w fun e w' => e = .returned (.bool (lessB A B h1 h2)) ∧ Kp w w' := by
  obtain ⟨a1, c1, rfl, hl1⟩ := hr1.len
  obtain ⟨a2, c2, rfl, hl2⟩ := hr2.len
  refine lift68 ?_
  unfold S68
  refine ⟨fun t5 wr => ∃ i : Nat, i ≤ A ∧ t5 = .int .i64 i ∧ Kp w wr ∧ cmpL (flat A B h1) (flat A B h2) = cmpL ((flat A B h1).drop (i * B)) ((flat A B h2).drop (i * B)), fun t5 _ => A - (intOf t5).toNat,
    ⟨0, by omega, rfl, Kp.refl _, by simp⟩, ?_⟩
  rintro _ _ wr ⟨i, hi, rfl, hk, hcmp⟩
  have hA1 := hs1.1
  have hA2 := hs2.1
  have f1 := flat_length A B h1
  have f2 := flat_length A B h2
  by_cases hlt : i < A
  case neg =>
    have hlt' : ¬ (i : Int) < (h1.length : Int) := by omega
    have e : i = A := by omega
    subst e
    simp (disch := omega) only [r_ln, r_pick, r_pickT, r_pickF, r_condT, r_condF, r_gdTT, r_gdFF, r_gdTF, r_gdFT, r_gqTT, r_gqFF, r_gqTF, r_gqFT, r_not, r_lss, r_leq, r_gtr, r_geq, r_eql, r_neq, r_add, r_sub, r_min2, r_max2, r_min3, r_max3, r_fa, r_iaS, r_iaA, r_ex2a, r_ex2b, r_ex3a, r_ex3b, r_ex3c, r_nc, r_keepE, Nat.zero_add, Nat.add_zero, Nat.mul_one, Int.toNat_natCast, toNat_sub1, toNat_add1, decide_true, decide_false, Bool.not_true, Bool.not_false, if_true, if_false, Bool.false_eq_true, reduceCtorEq, hlt']
    rw [List.drop_eq_nil_of_le (by omega), List.drop_eq_nil_of_le (by omega)] at hcmp
    exact ⟨by simp [lessB, hcmp, cmpL], hk⟩
  have hlt' : (i : Int) < (h1.length : Int) := by omega
  obtain ⟨b1, o1, _, rv1, e1, hc1, hrow1⟩ := (hr1.below hk).row (i := i) (by omega)
  cases e1
  obtain ⟨b2, o2, _, rv2, e2, hc2, hrow2⟩ := (hr2.below hk).row (i := i) (by omega)
  cases e2
  obtain ⟨ra1, rc1, rfl, hrl1⟩ := hrow1.len
  obtain ⟨ra2, rc2, rfl, hrl2⟩ := hrow2.len
  have hB1 := hs1.2 i hlt
  have hB2 := hs2.2 i hlt
  simp (disch := omega) only [r_ln, r_pick, r_pickT, r_pickF, r_condT, r_condF, r_gdTT, r_gdFF, r_gdTF, r_gdFT, r_gqTT, r_gqFF, r_gqTF, r_gqFT, r_not, r_lss, r_leq, r_gtr, r_geq, r_eql, r_neq, r_add, r_sub, r_min2, r_max2, r_min3, r_max3, r_fa, r_iaS, r_iaA, r_ex2a, r_ex2b, r_ex3a, r_ex3b, r_ex3c, r_nc, r_keepE, Nat.zero_add, Nat.add_zero, Nat.mul_one, Int.toNat_natCast, toNat_sub1, toNat_add1, decide_true, decide_false, Bool.not_true, Bool.not_false, if_true, if_false, Bool.false_eq_true, reduceCtorEq, hlt']
  refine ⟨fun t6 wq => ∃ j : Nat, j ≤ B ∧ t6 = .int .i64 j ∧ Kp wr wq ∧ cmpL (flat A B h1) (flat A B h2) = cmpL ((flat A B h1).drop (i * B + j)) ((flat A B h2).drop (i * B + j)), fun t6 _ => B - (intOf t6).toNat,
    ⟨0, by omega, rfl, Kp.refl _, by simpa using hcmp⟩, ?_⟩
  rintro _ _ wq ⟨j, hj, rfl, hkq, hcj⟩
  have hc1q := cell_later hkq hc1
  have hc2q := cell_later hkq hc2
  by_cases hjl : j < B
  case neg =>
    have hjl' : ¬ (j : Int) < ((h1.getD i []).length : Int) := by omega
    have e : j = B := by omega
    subst e
    simp (disch := omega) only [r_ln, r_pick, r_pickT, r_pickF, r_condT, r_condF, r_gdTT, r_gdFF, r_gdTF, r_gdFT, r_gqTT, r_gqFF, r_gqTF, r_gqFT, r_not, r_lss, r_leq, r_gtr, r_geq, r_eql, r_neq, r_add, r_sub, r_min2, r_max2, r_min3, r_max3, r_fa, r_iaS, r_iaA, r_ex2a, r_ex2b, r_ex3a, r_ex3b, r_ex3c, r_nc, r_keepE, Nat.zero_add, Nat.add_zero, Nat.mul_one, Int.toNat_natCast, toNat_sub1, toNat_add1, decide_true, decide_false, Bool.not_true, Bool.not_false, if_true, if_false, Bool.false_eq_true, reduceCtorEq, r_ld hc1q, hjl']
    exact ⟨⟨i + 1, by omega, by go_num, Kp.trans hk hkq, by rw [hcj, Nat.add_mul, Nat.one_mul]⟩, by simp only [intOf]; omega⟩
  have hjl' : (j : Int) < ((h1.getD i []).length : Int) := by omega
  have hpl := place_lt hlt hjl
  have hst := cmpL_step (l := flat A B h1) (m := flat A B h2) (j := i * B + j) (by omega) (by omega)
  rw [flat_at hlt hjl, flat_at hlt hjl] at hst
  simp (disch := omega) only [r_ln, r_pick, r_pickT, r_pickF, r_condT, r_condF, r_gdTT, r_gdFF, r_gdTF, r_gdFT, r_gqTT, r_gqFF, r_gqTF, r_gqFT, r_not, r_lss, r_leq, r_gtr, r_geq, r_eql, r_neq, r_add, r_sub, r_min2, r_max2, r_min3, r_max3, r_fa, r_iaS, r_iaA, r_ex2a, r_ex2b, r_ex3a, r_ex3b, r_ex3c, r_nc, r_keepE, Nat.zero_add, Nat.add_zero, Nat.mul_one, Int.toNat_natCast, toNat_sub1, toNat_add1, decide_true, decide_false, Bool.not_true, Bool.not_false, if_true, if_false, Bool.false_eq_true, reduceCtorEq, r_ld hc1q, hjl']
  refine r_drew fun wb hkb _ => ?_
  have hc1b := cell_later hkb hc1q
  have hc2b := cell_later hkb hc2q
  obtain ⟨x1, y1, _, e1, hx1⟩ := (hrow1.below (Kp.trans hkq hkb)).at (j := j) (by omega)
  cases e1
  obtain ⟨x2, y2, _, e2, hx2⟩ := (hrow2.below (Kp.trans hkq hkb)).at (j := j) (by omega)
  cases e2
  by_cases he : (h1.getD i []).getD j 0 = (h2.getD i []).getD j 0
  · simp (disch := omega) only [r_ln, r_pick, r_pickT, r_pickF, r_condT, r_condF, r_gdTT, r_gdFF, r_gdTF, r_gdFT, r_gqTT, r_gqFF, r_gqTF, r_gqFT, r_not, r_lss, r_leq, r_gtr, r_geq, r_eql, r_neq, r_add, r_sub, r_min2, r_max2, r_min3, r_max3, r_fa, r_iaS, r_iaA, r_ex2a, r_ex2b, r_ex3a, r_ex3b, r_ex3c, r_nc, r_keepE, Nat.zero_add, Nat.add_zero, Nat.mul_one, Int.toNat_natCast, toNat_sub1, toNat_add1, decide_true, decide_false, Bool.not_true, Bool.not_false, if_true, if_false, Bool.false_eq_true, reduceCtorEq, r_ld hc1b, r_ld hc2b, r_ld hx1, r_ld hx2, he]
    rw [if_pos (by rw [he]; simp [cmpI])] at hst
    exact ⟨⟨j + 1, by omega, by go_num, Kp.trans hkq hkb, by rw [hcj, hst]; rfl⟩, by simp only [intOf]; omega⟩
  · simp (disch := omega) only [r_ln, r_pick, r_pickT, r_pickF, r_condT, r_condF, r_gdTT, r_gdFF, r_gdTF, r_gdFT, r_gqTT, r_gqFF, r_gqTF, r_gqFT, r_not, r_lss, r_leq, r_gtr, r_geq, r_eql, r_neq, r_add, r_sub, r_min2, r_max2, r_min3, r_max3, r_fa, r_iaS, r_iaA, r_ex2a, r_ex2b, r_ex3a, r_ex3b, r_ex3c, r_nc, r_keepE, Nat.zero_add, Nat.add_zero, Nat.mul_one, Int.toNat_natCast, toNat_sub1, toNat_add1, decide_true, decide_false, Bool.not_true, Bool.not_false, if_true, if_false, Bool.false_eq_true, reduceCtorEq, r_ld hc1b, r_ld hc2b, r_ld hx1, r_ld hx2, he]
    refine r_drew fun wc hkc _ => ?_
    have hk4 := Kp.trans hk (Kp.trans hkq (Kp.trans hkb hkc))
    simp (disch := omega) only [r_ln, r_pick, r_pickT, r_pickF, r_condT, r_condF, r_gdTT, r_gdFF, r_gdTF, r_gdFT, r_gqTT, r_gqFF, r_gqTF, r_gqFT, r_not, r_lss, r_leq, r_gtr, r_geq, r_eql, r_neq, r_add, r_sub, r_min2, r_max2, r_min3, r_max3, r_fa, r_iaS, r_iaA, r_ex2a, r_ex2b, r_ex3a, r_ex3b, r_ex3c, r_nc, r_keepE, Nat.zero_add, Nat.add_zero, Nat.mul_one, Int.toNat_natCast, toNat_sub1, toNat_add1, decide_true, decide_false, Bool.not_true, Bool.not_false, if_true, if_false, Bool.false_eq_true, reduceCtorEq, r_ld (cell_later hkc hc1b), r_ld (cell_later hkc hc2b), r_ld (cell_later hkc hx1), r_ld (cell_later hkc hx2)]
    refine ⟨ret_bool ?_, hk4⟩
    have hne : cmpI ((h1.getD i []).getD j 0) ((h2.getD i []).getD j 0) ≠ 0 := by
      unfold cmpI
      split
      · omega
      · split <;> omega
    rw [if_neg hne] at hst
    unfold lessB
    rw [hcj, hst]
    refine decide_eq_decide.2 ?_
    unfold cmpI
    split
    · omega
    · split <;> omega

theorem unflat_inj {A B : Nat} {s : List Int} (hB : 0 < B) (hs : s.length = A * B) : flat A B (unflat A B s) = s := by
  refine List.ext_getElem (by rw [flat_length, hs]) fun p h1 h2 => ?_
  have hp : p < A * B := by rw [← flat_length A B (unflat A B s)]; exact h1
  have hdm := Nat.div_add_mod p B
  rw [Nat.mul_comm] at hdm
  rw [← getD_lt _ _ 0 h1, ← getD_lt _ _ 0 h2, flat_getD hp, unflat_hat (div_lt_of hB hp) (Nat.mod_lt p hB), hdm]

theorem heaps_less {A B : Nat} {C : Int} (hB0 : 0 < B) (hB : B ≤ 4) {i k : Nat} {h h' : List (List Int)} (hi : (heaps A B C)[i]? = some h) (hk : (heaps A B C)[k]? = some h') : lessB A B h h' = decide (i < k) := by
  rw [heaps_enum hB, List.getElem?_map] at hi hk
  obtain ⟨s, hs, rfl⟩ := Option.map_eq_some_iff.1 hi
  obtain ⟨t, ht, rfl⟩ := Option.map_eq_some_iff.1 hk
  have ls := (enumO_good _ _ s (List.mem_of_getElem? hs)).1
  have lt := (enumO_good _ _ t (List.mem_of_getElem? ht)).1
  unfold lessB
  rw [unflat_inj hB0 ls, unflat_inj hB0 lt]
  have hp := enumO_sorted (mxF B C) (A * B) []
  have key : ∀ (p q : Nat) (x y : List Int), (enumO (mxF B C) (A * B) [])[p]? = some x → (enumO (mxF B C) (A * B) [])[q]? = some y → p < q → cmpL x y < 0 := fun p q x y hx hy hpq => by
    obtain ⟨hp1, e1⟩ := List.getElem?_eq_some_iff.1 hx
    obtain ⟨hq1, e2⟩ := List.getElem?_eq_some_iff.1 hy
    have := (List.pairwise_iff_getElem.1 hp) p q hp1 hq1 hpq []
    rw [e1, e2, List.append_nil, List.append_nil] at this
    exact this
  refine decide_eq_decide.2 ⟨fun hc => ?_, fun hlt => key i k s t hs ht hlt⟩
  refine Nat.lt_of_not_le fun hle => ?_
  by_cases he : k = i
  · subst he
    rw [hs] at ht
    cases ht
    rw [cmpL_self] at hc
    omega
  · have := key k i t s ht hs (by omega)
    have := cmpL_neg s t
    omega

set_option maxRecDepth 100000 in
theorem refrank_calls (A B C : Int) (v : Value) (h : List (List Int)) (w : World) (hr : RdRows w v h) :
    Calls Try.prog 33 #[boxV A B C, v] w fun e w' => e = .returned (.tuple #[.int .i64 (if heapErr A B C h = 0 then rankM A.toNat B.toNat C h A.toNat else 0), .int .i64 (heapErr A B C h)]) ∧ Kp w w' := by
  refine lift33 ?_
  unfold S33
  refine r_box fun b w1 hbw hsz hb hk => ?_
  simp (disch := omega) only [r_ln, r_pick, r_pickT, r_pickF, r_condT, r_condF, r_gdTT, r_gdFF, r_gdTF, r_gdFT, r_gqTT, r_gqFF, r_gqTF, r_gqFT, r_not, r_lss, r_leq, r_gtr, r_geq, r_eql, r_neq, r_add, r_sub, r_min2, r_max2, r_min3, r_max3, r_fa, r_iaS, r_iaA, r_ex2a, r_ex2b, r_ex3a, r_ex3b, r_ex3c, r_nc, r_keepE, Nat.zero_add, Nat.add_zero, Nat.mul_one, Int.toNat_natCast, toNat_sub1, toNat_add1, decide_true, decide_false, Bool.not_true, Bool.not_false, if_true, if_false, Bool.false_eq_true, reduceCtorEq, r_ldRow (n := 3) hb rfl]
  refine r_use fok62 (good_calls A B C w1) rfl ?_
  rintro e w2 ⟨rfl, hk2⟩
  refine ⟨_, rfl, ?_⟩
  have hkw2 := Kp.trans hk hk2
  have hb2 := block_below hb hk2
  by_cases hv : validB A B C = true
  case neg =>
    have hv' : validB A B C = false := by simpa using hv
    have he : heapErr A B C h = 2 := by simp [heapErr, hv']
    have hne : ¬ ((2 : Int) = 0) := by decide
    simp (disch := omega) only [r_ln, r_pick, r_pickT, r_pickF, r_condT, r_condF, r_gdTT, r_gdFF, r_gdTF, r_gdFT, r_gqTT, r_gqFF, r_gqTF, r_gqFT, r_not, r_lss, r_leq, r_gtr, r_geq, r_eql, r_neq, r_add, r_sub, r_min2, r_max2, r_min3, r_max3, r_fa, r_iaS, r_iaA, r_ex2a, r_ex2b, r_ex3a, r_ex3b, r_ex3c, r_nc, r_keepE, Nat.zero_add, Nat.add_zero, Nat.mul_one, Int.toNat_natCast, toNat_sub1, toNat_add1, decide_true, decide_false, Bool.not_true, Bool.not_false, if_true, if_false, Bool.false_eq_true, reduceCtorEq, hv', he, hne]
    exact ⟨trivial, hkw2⟩
  simp (disch := omega) only [r_ln, r_pick, r_pickT, r_pickF, r_condT, r_condF, r_gdTT, r_gdFF, r_gdTF, r_gdFT, r_gqTT, r_gqFF, r_gqTF, r_gqFT, r_not, r_lss, r_leq, r_gtr, r_geq, r_eql, r_neq, r_add, r_sub, r_min2, r_max2, r_min3, r_max3, r_fa, r_iaS, r_iaA, r_ex2a, r_ex2b, r_ex3a, r_ex3b, r_ex3c, r_nc, r_keepE, Nat.zero_add, Nat.add_zero, Nat.mul_one, Int.toNat_natCast, toNat_sub1, toNat_add1, decide_true, decide_false, Bool.not_true, Bool.not_false, if_true, if_false, Bool.false_eq_true, reduceCtorEq, hv, r_ldRow (n := 3) hb2 rfl]
  refine r_use fok15 (in_calls A B C v h w2 (hr.below hkw2)) rfl ?_
  rintro e w3 ⟨rfl, hk3⟩
  refine ⟨_, rfl, ?_⟩
  have hkw3 := Kp.trans hkw2 hk3
  have hb3 := block_below hb2 hk3
  by_cases ho : heapOk A B C h = true
  case neg =>
    have ho' : heapOk A B C h = false := by simpa using ho
    have he : heapErr A B C h = 2 := by simp [heapErr, ho']
    have hne : ¬ ((2 : Int) = 0) := by decide
    simp (disch := omega) only [r_ln, r_pick, r_pickT, r_pickF, r_condT, r_condF, r_gdTT, r_gdFF, r_gdTF, r_gdFT, r_gqTT, r_gqFF, r_gqTF, r_gqFT, r_not, r_lss, r_leq, r_gtr, r_geq, r_eql, r_neq, r_add, r_sub, r_min2, r_max2, r_min3, r_max3, r_fa, r_iaS, r_iaA, r_ex2a, r_ex2b, r_ex3a, r_ex3b, r_ex3c, r_nc, r_keepE, Nat.zero_add, Nat.add_zero, Nat.mul_one, Int.toNat_natCast, toNat_sub1, toNat_add1, decide_true, decide_false, Bool.not_true, Bool.not_false, if_true, if_false, Bool.false_eq_true, reduceCtorEq, ho', he, hne]
    exact ⟨trivial, hkw3⟩
  have he : heapErr A B C h = 0 := by simp [heapErr, hv, ho]
  obtain ⟨a, b', c, rfl, rfl, rfl, h1, h2, h3, hb4, h5, h6⟩ := validB_nat hv
  obtain ⟨k, hk'⟩ := List.getElem?_of_mem ((heapOk_mem (by omega) hb4).1 ho)
  have hrk := rank_heaps hb4 hk'
  have hsz' := heaps_sized hb4 (List.mem_of_getElem? hk')
  simp (disch := omega) only [r_ln, r_pick, r_pickT, r_pickF, r_condT, r_condF, r_gdTT, r_gdFF, r_gdTF, r_gdFT, r_gqTT, r_gqFF, r_gqTF, r_gqFT, r_not, r_lss, r_leq, r_gtr, r_geq, r_eql, r_neq, r_add, r_sub, r_min2, r_max2, r_min3, r_max3, r_fa, r_iaS, r_iaA, r_ex2a, r_ex2b, r_ex3a, r_ex3b, r_ex3c, r_nc, r_keepE, Nat.zero_add, Nat.add_zero, Nat.mul_one, Int.toNat_natCast, toNat_sub1, toNat_add1, decide_true, decide_false, Bool.not_true, Bool.not_false, if_true, if_false, Bool.false_eq_true, reduceCtorEq, ho, he, r_ldRow (n := 3) hb3 rfl, Int.toNat_natCast, hrk]
  refine r_use fok66 (empty_calls a b' c w3 (by omega) (by omega) (by omega)) rfl ?_
  rintro e w4 ⟨vx, rfl, k4, g, bs, hox, hg, hbs⟩
  refine ⟨_, rfl, ?_⟩
  have hb44 := block_below hb3 k4
  have hbnew : ∀ i, i < a → w3.heap.size ≤ bs i := fun i hi => hbs i (by simpa using hi)
  have hblt := block_lt hb3
  have h0get : (heaps a b' (c : Int))[0]? = some (zeros a b') := by rw [← iterN_heaps (by omega) hb4 (by omega)]; rfl
  have hsm := heaps_small (A := a) (B := b') (C := c) h2 hb4 (by omega)
  have hklt : k < (heaps a b' (c : Int)).length := (List.getElem?_eq_some_iff.1 hk').1
  refine ⟨fun t6 wr => ∃ (i : Nat) (x : List (List Int)), i ≤ k ∧ t6 = .int .i64 i ∧ (heaps a b' (c : Int))[i]? = some x ∧ OwnRows wr vx g bs x ∧ Chg (fun q => ∃ i, i < a ∧ q = bs i) w4 wr, fun t6 _ => k - (intOf t6).toNat,
    ⟨0, zeros a b', by omega, rfl, h0get, hox, Chg.refl _ _⟩, ?_⟩
  rintro _ _ wr ⟨i, x, hi, rfl, hix, hoxr, hch⟩
  have hkw4 := Kp.trans hkw3 k4
  have hkr : Kp w wr := Kp.of_chg hkw4 hch fun q ⟨i, hi, e⟩ => by have := hbnew i hi; have := hkw3.size; omega
  have hkr3 : Kp w3 wr := Kp.of_chg k4 hch fun q ⟨i, hi, e⟩ => by have := hbnew i hi; omega
  have hrr := hr.below hkr
  have hsx := heaps_nonneg (by omega) hb4 (by omega) hix
  refine r_use fok68 (less_calls a b' vx v x h wr (by omega) hoxr.rd hrr hsx.1 hsz') rfl ?_
  rintro e w6 ⟨rfl, k6⟩
  refine ⟨_, rfl, ?_⟩
  rw [heaps_less (by omega) hb4 hix hk']
  by_cases hlt : i < k
  case neg =>
    have hlt' : ¬ i < k := hlt
    have e : i = k := by omega
    subst e
    simp (disch := omega) only [r_ln, r_pick, r_pickT, r_pickF, r_condT, r_condF, r_gdTT, r_gdFF, r_gdTF, r_gdFT, r_gqTT, r_gqFF, r_gqTF, r_gqFT, r_not, r_lss, r_leq, r_gtr, r_geq, r_eql, r_neq, r_add, r_sub, r_min2, r_max2, r_min3, r_max3, r_fa, r_iaS, r_iaA, r_ex2a, r_ex2b, r_ex3a, r_ex3b, r_ex3c, r_nc, r_keepE, Nat.zero_add, Nat.add_zero, Nat.mul_one, Int.toNat_natCast, toNat_sub1, toNat_add1, decide_true, decide_false, Bool.not_true, Bool.not_false, if_true, if_false, Bool.false_eq_true, reduceCtorEq, hlt']
    exact ⟨trivial, Kp.trans hkr k6⟩
  have hb6 := block_below (block_below hb3 hkr3) k6
  simp (disch := omega) only [r_ln, r_pick, r_pickT, r_pickF, r_condT, r_condF, r_gdTT, r_gdFF, r_gdTF, r_gdFT, r_gqTT, r_gqFF, r_gqTF, r_gqFT, r_not, r_lss, r_leq, r_gtr, r_geq, r_eql, r_neq, r_add, r_sub, r_min2, r_max2, r_min3, r_max3, r_fa, r_iaS, r_iaA, r_ex2a, r_ex2b, r_ex3a, r_ex3b, r_ex3c, r_nc, r_keepE, Nat.zero_add, Nat.add_zero, Nat.mul_one, Int.toNat_natCast, toNat_sub1, toNat_add1, decide_true, decide_false, Bool.not_true, Bool.not_false, if_true, if_false, Bool.false_eq_true, reduceCtorEq, hlt, r_ldRow (n := 3) hb6 rfl]
  refine r_use fok23 (next_calls a b' c vx g bs x w6 (by omega) (by omega) (by omega) (by omega) (hoxr.kp k6) hsx.1 hsx.2) rfl ?_
  rintro e w7 ⟨rfl, ho7, hc7⟩
  refine ⟨_, rfl, ?_⟩
  rw [hsx.1.1] at hc7
  rw [next_place (by omega) hb4 (by omega) hix] at ho7
  have hlt2 : i + 1 < (heaps a b' (c : Int)).length := by omega
  rw [List.getElem?_eq_getElem hlt2] at ho7
  exact ⟨⟨i + 1, _, by omega, by go_num, List.getElem?_eq_getElem hlt2, ho7, (hch.trans (Chg.of_kp k6)).trans hc7⟩, by simp only [intOf]; omega⟩

end Go.Proofs.Ytaephdjmpmbfpaa

/- Contract: LozengeRanks. -/
namespace Go.Proofs.Ytaephdjmpmbfpaa
open Go.Lf Go.RowKit Go.Hp

theorem eqB (x y : Bool) (w : World) (K : Value → Prop) : binQ Try.prog w .neq 4 false (.bool x) (.bool y) K = genQ Try.prog w (semBin .neq 4 false (.bool x) (.bool y)) K := by kernel_rfl
theorem r_neqB {x y : Bool} {w : World} {K : Value → Prop} (h : K (.bool (x != y))) : binQ Try.prog w .neq 4 false (.bool x) (.bool y) K := by
  rw [eqB]
  refine ⟨.bool (x != y), fun _ _ => ?_, h⟩
  cases x <;> cases y <;> kernel_rfl

/-- The heap with a rank, or none. -/
def heapL (A B C rank : Int) : List (List Int) := if validB A B C = true ∧ 0 ≤ rank then (iterN A.toNat B.toNat C rank.toNat).getD [] else []
def heapE (A B C rank : Int) : Int := if validB A B C = true then if 0 ≤ rank ∧ (iterN A.toNat B.toNat C rank.toNat).isSome then 0 else 4 else 2

theorem rd_nil (w : World) : RdRows w nilS [] := ⟨none, 0, fun _ => undef, rfl, by simp, fun h => absurd h (by simp), fun i hi => absurd hi (by simp)⟩

theorem refHeap_res {A B C rank : Int} {w w' : World} {v : Value} {err : Int} (h : RefHeap A B C rank w w' v err) : (v = nilS ∧ heapL A B C rank = [] ∨ NewRows w w' v (heapL A B C rank)) ∧ err = heapE A B C rank := by
  unfold RefHeap at h
  unfold heapL heapE
  by_cases hv : validB A B C = true
  · rw [if_neg (by simp [hv])] at h
    by_cases h0 : rank < 0
    · rw [if_pos h0] at h
      rw [if_neg (by omega), if_pos hv, if_neg (by omega)]
      exact ⟨.inl ⟨h.1, rfl⟩, h.2⟩
    · rw [if_neg h0] at h
      rw [if_pos ⟨hv, by omega⟩, if_pos hv]
      cases hi : iterN A.toNat B.toNat C rank.toNat with
      | none =>
        rw [hi] at h
        rw [if_neg (by simp)]
        exact ⟨.inl ⟨h.1, rfl⟩, h.2⟩
      | some l =>
        rw [hi] at h
        rw [if_pos ⟨by omega, rfl⟩]
        exact ⟨.inr h.1, h.2⟩
  · have hv' : validB A B C = false := by simpa using hv
    rw [if_pos hv'] at h
    rw [if_neg (by simp [hv']), if_neg hv]
    exact ⟨.inl ⟨h.1, rfl⟩, h.2⟩

theorem res_rd {A B C rank : Int} {w w' : World} {v : Value} (h : v = nilS ∧ heapL A B C rank = [] ∨ NewRows w w' v (heapL A B C rank)) : RdRows w' v (heapL A B C rank) := by
  rcases h with ⟨rfl, h⟩ | h
  · rw [h]; exact rd_nil _
  · exact h.rd

set_option maxRecDepth 100000 in
theorem ranks_calls (A B C rank : Int) (v : Value) (h : List (List Int)) (w : World) (hr : RdR w v h) (hr0 : -9223372036854775808 ≤ rank) (hr1 : rank ≤ 9223372036854775807) :
    Calls Try.prog 6 #[boxV A B C, v, .int .i64 rank] w fun e w' => e = .returned (.bool true) ∧ Kp w w' := by
  refine lift6 ?_
  unfold S6
  refine r_box fun b w1 hbw hsz hb hk => ?_
  refine r_use fok30 (few_calls v h w1 (hr.kp hk)) rfl ?_
  rintro _ _ ⟨fb, rfl, hfew, rfl⟩
  refine ⟨_, rfl, ?_⟩
  cases fb with
  | false =>
    simp (disch := omega) only [r_ln, r_pick, r_pickT, r_pickF, r_condT, r_condF, r_gdTT, r_gdFF, r_gdTF, r_gdFT, r_gqTT, r_gqFF, r_gqTF, r_gqFT, r_not, r_lss, r_leq, r_gtr, r_geq, r_eql, r_neq, r_add, r_sub, r_min2, r_max2, r_min3, r_max3, r_fa, r_iaS, r_iaA, r_ex2a, r_ex2b, r_ex3a, r_ex3b, r_ex3c, r_nc, r_keepE, Nat.zero_add, Nat.add_zero, Nat.mul_one, Int.toNat_natCast, toNat_sub1, toNat_add1, decide_true, decide_false, Bool.not_true, Bool.not_false, if_true, if_false, Bool.false_eq_true, reduceCtorEq]
    refine r_use fok17 (alive_calls w1) rfl ?_
    rintro _ w2 ⟨rfl, k2⟩
    refine ⟨_, rfl, ?_⟩
    exact ⟨rfl, Kp.trans hk k2⟩
  | true =>
  have hf := hfew rfl
  have hrw := hf.rows (hr.kp hk)
  simp (disch := omega) only [r_ln, r_pick, r_pickT, r_pickF, r_condT, r_condF, r_gdTT, r_gdFF, r_gdTF, r_gdFT, r_gqTT, r_gqFF, r_gqTF, r_gqFT, r_not, r_lss, r_leq, r_gtr, r_geq, r_eql, r_neq, r_add, r_sub, r_min2, r_max2, r_min3, r_max3, r_fa, r_iaS, r_iaA, r_ex2a, r_ex2b, r_ex3a, r_ex3b, r_ex3c, r_nc, r_keepE, Nat.zero_add, Nat.add_zero, Nat.mul_one, Int.toNat_natCast, toNat_sub1, toNat_add1, decide_true, decide_false, Bool.not_true, Bool.not_false, if_true, if_false, Bool.false_eq_true, reduceCtorEq]
  refine r_use fok22 (copy_calls v h w1 hrw (by have := hf.1; omega) fun i hi => by have := hf.2 i hi; omega) rfl ?_
  rintro _ w2 ⟨v2, rfl, k2, hr2⟩
  refine ⟨_, rfl, ?_⟩
  have h2 := block_below hb k2
  have hv2 := hrw.below k2
  rw [r_ldRow (n := 3) h2 rfl]
  refine r_use fok31 (isf_calls A B C v2 h w2 hr2) rfl ?_
  rintro _ w3 ⟨rfl, k3⟩
  refine ⟨_, rfl, ?_⟩
  have h3 := block_below h2 k3
  simp only [isRes, r_ex2a, r_ex2b]
  rw [r_ldRow (n := 3) h3 rfl]
  refine r_use fok32 (refis_calls A B C v h w3 (hv2.below k3)) rfl ?_
  rintro _ w4 ⟨rfl, k4⟩
  refine ⟨_, rfl, ?_⟩
  have h4 := block_below h3 k4
  have k24 := Kp.trans k3 k4
  simp only [isRes, r_ex2a, r_ex2b]
  refine r_neqB ?_
  simp (disch := omega) only [r_ln, r_pick, r_pickT, r_pickF, r_condT, r_condF, r_gdTT, r_gdFF, r_gdTF, r_gdFT, r_gqTT, r_gqFF, r_gqTF, r_gqFT, r_not, r_lss, r_leq, r_gtr, r_geq, r_eql, r_neq, r_add, r_sub, r_min2, r_max2, r_min3, r_max3, r_fa, r_iaS, r_iaA, r_ex2a, r_ex2b, r_ex3a, r_ex3b, r_ex3c, r_nc, r_keepE, Nat.zero_add, Nat.add_zero, Nat.mul_one, Int.toNat_natCast, toNat_sub1, toNat_add1, decide_true, decide_false, Bool.not_true, Bool.not_false, if_true, if_false, Bool.false_eq_true, reduceCtorEq, bne_self_eq_false, r_ldRow (n := 3) h4 rfl]
  refine r_use fok18 (rank_calls A B C v2 h w4 (hr2.below k24)) rfl ?_
  rintro _ w5 ⟨rfl, k5⟩
  refine ⟨_, rfl, ?_⟩
  have h5 := block_below h4 k5
  simp (disch := omega) only [r_ln, r_pick, r_pickT, r_pickF, r_condT, r_condF, r_gdTT, r_gdFF, r_gdTF, r_gdFT, r_gqTT, r_gqFF, r_gqTF, r_gqFT, r_not, r_lss, r_leq, r_gtr, r_geq, r_eql, r_neq, r_add, r_sub, r_min2, r_max2, r_min3, r_max3, r_fa, r_iaS, r_iaA, r_ex2a, r_ex2b, r_ex3a, r_ex3b, r_ex3c, r_nc, r_keepE, Nat.zero_add, Nat.add_zero, Nat.mul_one, Int.toNat_natCast, toNat_sub1, toNat_add1, decide_true, decide_false, Bool.not_true, Bool.not_false, if_true, if_false, Bool.false_eq_true, reduceCtorEq, r_ldRow (n := 3) h5 rfl]
  refine r_use fok33 (refrank_calls A B C v h w5 (hv2.below (Kp.trans k24 k5))) rfl ?_
  rintro _ w6 ⟨rfl, k6⟩
  refine ⟨_, rfl, ?_⟩
  have h6 := block_below h5 k6
  have k26 := Kp.trans k24 (Kp.trans k5 k6)
  simp (disch := omega) only [r_ln, r_pick, r_pickT, r_pickF, r_condT, r_condF, r_gdTT, r_gdFF, r_gdTF, r_gdFT, r_gqTT, r_gqFF, r_gqTF, r_gqFT, r_not, r_lss, r_leq, r_gtr, r_geq, r_eql, r_neq, r_add, r_sub, r_min2, r_max2, r_min3, r_max3, r_fa, r_iaS, r_iaA, r_ex2a, r_ex2b, r_ex3a, r_ex3b, r_ex3c, r_nc, r_keepE, Nat.zero_add, Nat.add_zero, Nat.mul_one, Int.toNat_natCast, toNat_sub1, toNat_add1, decide_true, decide_false, Bool.not_true, Bool.not_false, if_true, if_false, Bool.false_eq_true, reduceCtorEq]
  refine r_use fok20 (same_calls v2 v h h w6 (hr2.below k26) (hv2.below k26)) rfl ?_
  rintro _ w7 ⟨rfl, k7⟩
  refine ⟨_, rfl, ?_⟩
  have h7 := block_below h6 k7
  simp (disch := omega) only [r_ln, r_pick, r_pickT, r_pickF, r_condT, r_condF, r_gdTT, r_gdFF, r_gdTF, r_gdFT, r_gqTT, r_gqFF, r_gqTF, r_gqFT, r_not, r_lss, r_leq, r_gtr, r_geq, r_eql, r_neq, r_add, r_sub, r_min2, r_max2, r_min3, r_max3, r_fa, r_iaS, r_iaA, r_ex2a, r_ex2b, r_ex3a, r_ex3b, r_ex3c, r_nc, r_keepE, Nat.zero_add, Nat.add_zero, Nat.mul_one, Int.toNat_natCast, toNat_sub1, toNat_add1, decide_true, decide_false, Bool.not_true, Bool.not_false, if_true, if_false, Bool.false_eq_true, reduceCtorEq, r_ldRow (n := 3) h7 rfl]
  refine r_use fok34 (refheap_calls A B C rank w7 hr1) rfl ?_
  rintro _ w8 ⟨v8, err8, rfl, k8, hres8⟩
  refine ⟨_, rfl, ?_⟩
  have h8 := block_below h7 k8
  obtain ⟨hv8, rfl⟩ := refHeap_res hres8
  have hrd8 := res_rd hv8
  simp only [r_ex2a, r_ex2b]
  have k18 : Kp w w8 := Kp.trans hk (Kp.trans k2 (Kp.trans k26 (Kp.trans k7 k8)))
  refine ⟨fun t15 wr => ∃ i : Nat, i ≤ 2 ∧ t15 = .int .i64 i ∧ Kp w8 wr, fun t15 _ => 2 - (intOf t15).toNat, ⟨0, by omega, rfl, Kp.refl _⟩, ?_⟩
  rintro _ _ wr ⟨i, hi, rfl, hkr⟩
  by_cases hlt : i < 2
  case neg =>
    have hlt' : ¬ (i : Int) < 2 := by omega
    simp (disch := omega) only [r_ln, r_pick, r_pickT, r_pickF, r_condT, r_condF, r_gdTT, r_gdFF, r_gdTF, r_gdFT, r_gqTT, r_gqFF, r_gqTF, r_gqFT, r_not, r_lss, r_leq, r_gtr, r_geq, r_eql, r_neq, r_add, r_sub, r_min2, r_max2, r_min3, r_max3, r_fa, r_iaS, r_iaA, r_ex2a, r_ex2b, r_ex3a, r_ex3b, r_ex3c, r_nc, r_keepE, Nat.zero_add, Nat.add_zero, Nat.mul_one, Int.toNat_natCast, toNat_sub1, toNat_add1, decide_true, decide_false, Bool.not_true, Bool.not_false, if_true, if_false, Bool.false_eq_true, reduceCtorEq, hlt']
    refine r_use fok17 (alive_calls wr) rfl ?_
    rintro _ w9 ⟨rfl, k9⟩
    refine ⟨_, rfl, ?_⟩
    exact ⟨rfl, Kp.trans k18 (Kp.trans hkr k9)⟩
  have hlt' : (i : Int) < 2 := by omega
  simp (disch := omega) only [r_ln, r_pick, r_pickT, r_pickF, r_condT, r_condF, r_gdTT, r_gdFF, r_gdTF, r_gdFT, r_gqTT, r_gqFF, r_gqTF, r_gqFT, r_not, r_lss, r_leq, r_gtr, r_geq, r_eql, r_neq, r_add, r_sub, r_min2, r_max2, r_min3, r_max3, r_fa, r_iaS, r_iaA, r_ex2a, r_ex2b, r_ex3a, r_ex3b, r_ex3c, r_nc, r_keepE, Nat.zero_add, Nat.add_zero, Nat.mul_one, Int.toNat_natCast, toNat_sub1, toNat_add1, decide_true, decide_false, Bool.not_true, Bool.not_false, if_true, if_false, Bool.false_eq_true, reduceCtorEq, hlt', r_ldRow (n := 3) (block_below h8 hkr) rfl]
  refine r_use fok19 (heapf_calls A B C rank wr hr0 hr1) rfl ?_
  rintro _ w9 ⟨v9, err9, rfl, k9, hres9⟩
  refine ⟨_, rfl, ?_⟩
  obtain ⟨hv9, rfl⟩ := refHeap_res hres9
  simp (disch := omega) only [r_ln, r_pick, r_pickT, r_pickF, r_condT, r_condF, r_gdTT, r_gdFF, r_gdTF, r_gdFT, r_gqTT, r_gqFF, r_gqTF, r_gqFT, r_not, r_lss, r_leq, r_gtr, r_geq, r_eql, r_neq, r_add, r_sub, r_min2, r_max2, r_min3, r_max3, r_fa, r_iaS, r_iaA, r_ex2a, r_ex2b, r_ex3a, r_ex3b, r_ex3c, r_nc, r_keepE, Nat.zero_add, Nat.add_zero, Nat.mul_one, Int.toNat_natCast, toNat_sub1, toNat_add1, decide_true, decide_false, Bool.not_true, Bool.not_false, if_true, if_false, Bool.false_eq_true, reduceCtorEq]
  refine r_use fok20 (same_calls v9 v8 _ _ w9 (res_rd hv9) (hrd8.below (Kp.trans hkr k9))) rfl ?_
  rintro _ w10 ⟨rfl, k10⟩
  refine ⟨_, rfl, ?_⟩
  simp (disch := omega) only [r_ln, r_pick, r_pickT, r_pickF, r_condT, r_condF, r_gdTT, r_gdFF, r_gdTF, r_gdFT, r_gqTT, r_gqFF, r_gqTF, r_gqFT, r_not, r_lss, r_leq, r_gtr, r_geq, r_eql, r_neq, r_add, r_sub, r_min2, r_max2, r_min3, r_max3, r_fa, r_iaS, r_iaA, r_ex2a, r_ex2b, r_ex3a, r_ex3b, r_ex3c, r_nc, r_keepE, Nat.zero_add, Nat.add_zero, Nat.mul_one, Int.toNat_natCast, toNat_sub1, toNat_add1, decide_true, decide_false, Bool.not_true, Bool.not_false, if_true, if_false, Bool.false_eq_true, reduceCtorEq]
  have hk10 : Kp w8 w10 := Kp.trans hkr (Kp.trans k9 k10)
  have hfin : ∀ w', Kp w8 w' → (∃ j : Nat, j ≤ 2 ∧ Value.int .i64 ((i : Int) + 1) = .int .i64 j ∧ Kp w8 w') ∧ 2 - (intOf (Value.int .i64 ((i : Int) + 1))).toNat < 2 - (intOf (Value.int .i64 (i : Int))).toNat := fun w' hk' =>
    ⟨⟨i + 1, by omega, by go_num, hk'⟩, by simp only [intOf]; omega⟩
  rcases hv9 with ⟨rfl, hnil⟩ | ⟨g, bs, ho, hg, hbs⟩
  · refine ⟨fun t18 wq => t18 = .int .i64 0 ∧ wq = w10, fun _ _ => 0, ⟨rfl, rfl⟩, ?_⟩
    rintro _ _ _ ⟨rfl, rfl⟩
    have h00 : ¬ (0 : Int) < ((0 : Nat) : Int) := by omega
    simp (disch := omega) only [r_ln, r_pick, r_pickT, r_pickF, r_condT, r_condF, r_gdTT, r_gdFF, r_gdTF, r_gdFT, r_gqTT, r_gqFF, r_gqTF, r_gqFT, r_not, r_lss, r_leq, r_gtr, r_geq, r_eql, r_neq, r_add, r_sub, r_min2, r_max2, r_min3, r_max3, r_fa, r_iaS, r_iaA, r_ex2a, r_ex2b, r_ex3a, r_ex3b, r_ex3c, r_nc, r_keepE, Nat.zero_add, Nat.add_zero, Nat.mul_one, Int.toNat_natCast, toNat_sub1, toNat_add1, decide_true, decide_false, Bool.not_true, Bool.not_false, if_true, if_false, Bool.false_eq_true, reduceCtorEq, h00]
    exact hfin _ hk10
  generalize heapL A B C rank = L at *
  have hown := ho.kp k10
  refine ⟨fun t18 wq => ∃ (q : Nat) (L' : List (List Int)), q ≤ L.length ∧ t18 = .int .i64 q ∧ OwnRows wq v9 g bs L' ∧ L'.length = L.length ∧ (∀ k, (L'.getD k []).length = (L.getD k []).length) ∧ Chg (fun k => ∃ i, i < L.length ∧ k = bs i) w10 wq, fun t18 _ => L.length - (intOf t18).toNat,
    ⟨0, L, by omega, rfl, hown, rfl, fun _ => rfl, Chg.refl _ _⟩, ?_⟩
  rintro _ _ wq ⟨q, L', hq, rfl, hoq, hll, hlr, hcq⟩
  have hkq : Kp w8 wq := Kp.of_chg hk10 hcq fun k ⟨i, hi, e⟩ => by have := hbs i hi; have := hkr.size; omega
  obtain ⟨cap, cur, hv9, _, _⟩ := hoq.outer
  by_cases hql : q < L.length
  case neg =>
    have hql' : ¬ (q : Int) < (L.length : Int) := by omega
    rw [hv9, hll]
    simp (disch := omega) only [r_ln, r_pick, r_pickT, r_pickF, r_condT, r_condF, r_gdTT, r_gdFF, r_gdTF, r_gdFT, r_gqTT, r_gqFF, r_gqTF, r_gqFT, r_not, r_lss, r_leq, r_gtr, r_geq, r_eql, r_neq, r_add, r_sub, r_min2, r_max2, r_min3, r_max3, r_fa, r_iaS, r_iaA, r_ex2a, r_ex2b, r_ex3a, r_ex3b, r_ex3c, r_nc, r_keepE, Nat.zero_add, Nat.add_zero, Nat.mul_one, Int.toNat_natCast, toNat_sub1, toNat_add1, decide_true, decide_false, Bool.not_true, Bool.not_false, if_true, if_false, Bool.false_eq_true, reduceCtorEq, hql']
    exact hfin _ hkq
  have hql' : (q : Int) < (L.length : Int) := by omega
  have hsmall := hoq.small.1
  rw [hv9, hll]
  simp (disch := omega) only [r_ln, r_pick, r_pickT, r_pickF, r_condT, r_condF, r_gdTT, r_gdFF, r_gdTF, r_gdFT, r_gqTT, r_gqFF, r_gqTF, r_gqFT, r_not, r_lss, r_leq, r_gtr, r_geq, r_eql, r_neq, r_add, r_sub, r_min2, r_max2, r_min3, r_max3, r_fa, r_iaS, r_iaA, r_ex2a, r_ex2b, r_ex3a, r_ex3b, r_ex3c, r_nc, r_keepE, Nat.zero_add, Nat.add_zero, Nat.mul_one, Int.toNat_natCast, toNat_sub1, toNat_add1, decide_true, decide_false, Bool.not_true, Bool.not_false, if_true, if_false, Bool.false_eq_true, reduceCtorEq, hql']
  rw [hll] at hv9
  refine ⟨fun t19 wp => ∃ (j : Nat) (L2 : List (List Int)), j ≤ (L.getD q []).length ∧ t19 = .int .i64 j ∧ OwnRows wp v9 g bs L2 ∧ L2.length = L.length ∧ (∀ k, (L2.getD k []).length = (L.getD k []).length) ∧ Chg (fun k => ∃ i, i < L.length ∧ k = bs i) w10 wp, fun t19 _ => (L.getD q []).length - (intOf t19).toNat,
    ⟨0, L', by omega, rfl, hoq, hll, hlr, hcq⟩, ?_⟩
  rintro _ _ wp ⟨j, L2, hj, rfl, hop, hl2, hlr2, hcp⟩
  have hop' := hop
  obtain ⟨cap2, c2, hv92, hgc, hslot⟩ := hop.slot (i := q) (by omega)
  rw [hl2, hv9] at hv92
  cases hv92
  rw [hlr2] at hgc hslot
  by_cases hjl : j < (L.getD q []).length
  case neg =>
    have hjl' : ¬ (j : Int) < ((L.getD q []).length : Int) := by omega
    simp (disch := omega) only [r_ln, r_pick, r_pickT, r_pickF, r_condT, r_condF, r_gdTT, r_gdFF, r_gdTF, r_gdFT, r_gqTT, r_gqFF, r_gqTF, r_gqFT, r_not, r_lss, r_leq, r_gtr, r_geq, r_eql, r_neq, r_add, r_sub, r_min2, r_max2, r_min3, r_max3, r_fa, r_iaS, r_iaA, r_ex2a, r_ex2b, r_ex3a, r_ex3b, r_ex3c, r_nc, r_keepE, Nat.zero_add, Nat.add_zero, Nat.mul_one, Int.toNat_natCast, toNat_sub1, toNat_add1, decide_true, decide_false, Bool.not_true, Bool.not_false, if_true, if_false, Bool.false_eq_true, reduceCtorEq, r_ld hgc, hjl']
    rw [hv9] at hop'
    exact ⟨⟨q + 1, L2, by omega, by go_num, hv9 ▸ hop', hl2, hlr2, hcp⟩, by simp only [intOf]; omega⟩
  have hjl' : (j : Int) < ((L.getD q []).length : Int) := by omega
  have hsm2 := hop'.small.2 q (by omega)
  rw [hlr2] at hsm2
  obtain ⟨hx, hfz⟩ := hslot j hjl
  simp (disch := omega) only [r_ln, r_pick, r_pickT, r_pickF, r_condT, r_condF, r_gdTT, r_gdFF, r_gdTF, r_gdFT, r_gqTT, r_gqFF, r_gqTF, r_gqFT, r_not, r_lss, r_leq, r_gtr, r_geq, r_eql, r_neq, r_add, r_sub, r_min2, r_max2, r_min3, r_max3, r_fa, r_iaS, r_iaA, r_ex2a, r_ex2b, r_ex3a, r_ex3b, r_ex3c, r_nc, r_keepE, Nat.zero_add, Nat.add_zero, Nat.mul_one, Int.toNat_natCast, toNat_sub1, toNat_add1, decide_true, decide_false, Bool.not_true, Bool.not_false, if_true, if_false, Bool.false_eq_true, reduceCtorEq, r_ld hgc, hjl']
  rw [st3 hx hfz]
  have hset := hop'.set (i := q) (j := j) (by omega) (by rw [hlr2]; exact hjl) 9
  exact ⟨⟨j + 1, put2 L2 q j 9, by omega, by go_num, hset, by rw [put2_length]; exact hl2, fun k => by rw [put2_len _ _ _ _ _ (by omega)]; exact hlr2 k, hcp.trans (Chg.setCell _ _ ⟨q, hql, rfl⟩)⟩, by simp only [intOf]; omega⟩

end Go.Proofs.Ytaephdjmpmbfpaa
