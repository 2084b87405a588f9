/- Texts of my own, merged by program: J8 J9 Sh. -/
import Derived.Test.YtgalbokmgffhkaaM12
import Derived.Test.YtgalbokmgffhkaaM11
import Derived.Test.YtgalbokmgffhkaaM14
import Derived.Test.YtgalbokmgffhkaaM15
import Derived.Test.YtgalbokmgffhkaaM03
set_option linter.all false
/- Contract: Fill of the program. -/
namespace Go.Proofs.Ytgalbokmgffhkaa
open Go.Lf Go.RowKit Go.Wg

theorem r_slAat {b o : Nat} {K : Value → Prop} : ∀ (n : Nat), n ≤ 4 → slA 4 1 (.pointer (some ⟨b, o, none⟩)) none (some (.int .i64 (n : Int))) K = K (.slice (some ⟨b, o, none⟩) n 4)
  | 0, _ => by kernel_rfl
  | 1, _ => by kernel_rfl
  | 2, _ => by kernel_rfl
  | 3, _ => by kernel_rfl
  | 4, _ => by kernel_rfl
  | n + 5, h => by omega

set_option maxRecDepth 100000 in
/-- slices.IndexFunc at lines. -/
theorem indexL_calls {v fv : Value} {L : List Line} (p : Line → Bool) (w : World) (hr : RdL w v L) (hl : L.length ≤ 1000000)
    (hc : ∀ x ∈ L, ∀ (w' : World) (K : Value → World → Prop), Kp w w' → (∀ w'', Kp w' w'' → K (.bool (p x)) w'') → callW Try.prog fv [lnV x] w' K) :
    Calls Try.prog 77 #[v, fv] w fun e w' => Kp w w' ∧ ((L.find? p = none ∧ e = .returned (.int .i64 (-1))) ∨ ∃ (i : Nat) (x : Line), L[i]? = some x ∧ L.find? p = some x ∧ e = .returned (.int .i64 i)) := by
  have hr' := hr
  obtain ⟨a, cap, rfl, hcap⟩ := hr.len
  refine lift77 ?_
  unfold S77
  simp only [r_ln]
  unfold S77L0
  refine ⟨fun t8 wr => ∃ i : Nat, i ≤ L.length ∧ t8 = .int .i64 i ∧ (∀ x ∈ L.take i, p x = false) ∧ Kp w wr, fun t8 _ => L.length - (intOf t8).toNat, ⟨0, by omega, rfl, by simp, Kp.refl _⟩, ?_⟩
  rintro _ _ wr ⟨i, hi, rfl, hn, kr⟩
  by_cases hlt : i < L.length
  case neg =>
    have hlt' : ¬ (i : Int) < (L.length : Int) := by omega
    rw [List.take_of_length_le (by omega)] at hn
    simp (disch := omega) only [r_ln, r_pick, r_pickT, r_pickF, r_condT, r_condF, r_gdTT, r_gdFF, r_gdTF, r_gdFT, r_gqTT, r_gqFF, r_gqTF, r_gqFT, r_not, r_lss, r_leq, r_gtr, r_geq, r_eql, r_neq, r_add, r_sub, r_min2, r_max2, r_min3, r_max3, r_fa, r_iaS, r_iaA, r_ex2a, r_ex2b, r_ex3a, r_ex3b, r_ex3c, r_nc, r_keepE, Nat.zero_add, Nat.add_zero, Nat.mul_one, Int.toNat_natCast, toNat_sub1, toNat_add1, decide_true, decide_false, Bool.not_true, Bool.not_false, if_true, if_false, Bool.false_eq_true, reduceCtorEq, hlt']
    refine ⟨kr, .inl ⟨?_, by first | rfl | trivial⟩⟩
    rw [List.find?_eq_none]
    intro x hx h
    rw [hn x hx] at h
    cases h
  have hlt' : (i : Int) < (L.length : Int) := by omega
  obtain ⟨x, hx⟩ : ∃ x, L[i]? = some x := ⟨_, List.getElem?_eq_getElem hlt⟩
  obtain ⟨b, off, _, e, _, hld⟩ := RdL.line (hr'.kp kr) hx
  cases e
  have hii : (i : Int).toNat = i := by omega
  simp (disch := omega) only [r_ln, r_pick, r_pickT, r_pickF, r_condT, r_condF, r_gdTT, r_gdFF, r_gdTF, r_gdFT, r_gqTT, r_gqFF, r_gqTF, r_gqFT, r_not, r_lss, r_leq, r_gtr, r_geq, r_eql, r_neq, r_add, r_sub, r_min2, r_max2, r_min3, r_max3, r_fa, r_iaS, r_iaA, r_ex2a, r_ex2b, r_ex3a, r_ex3b, r_ex3c, r_nc, r_keepE, Nat.zero_add, Nat.add_zero, Nat.mul_one, Int.toNat_natCast, toNat_sub1, toNat_add1, decide_true, decide_false, Bool.not_true, Bool.not_false, if_true, if_false, Bool.false_eq_true, reduceCtorEq, decide_eq_true hlt', hii, hld]
  refine hc x (List.mem_of_getElem? hx) wr _ kr fun w2 k2 => ?_
  have hxe : L[i] = x := (List.getElem?_eq_some_iff.1 hx).2
  cases hp : p x with
  | true =>
    simp (disch := omega) only [r_ln, r_pick, r_pickT, r_pickF, r_condT, r_condF, r_gdTT, r_gdFF, r_gdTF, r_gdFT, r_gqTT, r_gqFF, r_gqTF, r_gqFT, r_not, r_lss, r_leq, r_gtr, r_geq, r_eql, r_neq, r_add, r_sub, r_min2, r_max2, r_min3, r_max3, r_fa, r_iaS, r_iaA, r_ex2a, r_ex2b, r_ex3a, r_ex3b, r_ex3c, r_nc, r_keepE, Nat.zero_add, Nat.add_zero, Nat.mul_one, Int.toNat_natCast, toNat_sub1, toNat_add1, decide_true, decide_false, Bool.not_true, Bool.not_false, if_true, if_false, Bool.false_eq_true, reduceCtorEq]
    refine ⟨Kp.trans kr k2, .inr ⟨i, x, hx, ?_, by first | rfl | trivial⟩⟩
    have hsplit : L = L.take i ++ x :: L.drop (i + 1) := by
      rw [← hxe, ← List.drop_eq_getElem_cons hlt, List.take_append_drop]
    rw [hsplit, List.find?_append, List.find?_cons, hp]
    have : (L.take i).find? p = none := by
      rw [List.find?_eq_none]
      intro y hy h
      rw [hn y hy] at h
      cases h
    rw [this]; rfl
  | false =>
    simp (disch := omega) only [r_ln, r_pick, r_pickT, r_pickF, r_condT, r_condF, r_gdTT, r_gdFF, r_gdTF, r_gdFT, r_gqTT, r_gqFF, r_gqTF, r_gqFT, r_not, r_lss, r_leq, r_gtr, r_geq, r_eql, r_neq, r_add, r_sub, r_min2, r_max2, r_min3, r_max3, r_fa, r_iaS, r_iaA, r_ex2a, r_ex2b, r_ex3a, r_ex3b, r_ex3c, r_nc, r_keepE, Nat.zero_add, Nat.add_zero, Nat.mul_one, Int.toNat_natCast, toNat_sub1, toNat_add1, decide_true, decide_false, Bool.not_true, Bool.not_false, if_true, if_false, Bool.false_eq_true, reduceCtorEq]
    refine ⟨⟨i + 1, by omega, by go_num, fun y hy => ?_, Kp.trans kr k2⟩, by simp only [intOf]; omega⟩
    rw [List.take_add_one, hx] at hy
    rcases List.mem_append.1 hy with h | h
    · exact hn y h
    · simp at h
      rw [h]; exact hp

/-- What a row must be, by its record. -/
def lineP (L : List Line) (k : Nat) (ab : Int) (x : Line) : Bool := (decide (ab < 0) || decide (x.2.1 = ab)) && decide (0 < Gk L k x.2.2.1)

set_option maxRecDepth 100000 in
/-- The test of Fill. -/
theorem fillT_call {L : List Line} {N H k b10 b12 b13 base : Nat} {ab : Int} {av : Value} (w : World) (hL : LnOk N L) (hA : BRows base w av ((List.range (H + 1)).map (alvL L N))) (hk : k ≤ H) (hH : H ≤ 100) (h10 : w.heap[b10]? = some (.cells #[av] 88 (0, 0))) (h12 : w.heap[b12]? = some (.cells #[.int .i64 ab] 3 (0, 0))) (h13 : w.heap[b13]? = some (.cells #[.int .i64 k] 3 (0, 0)))
    (x : Line) (hx : x ∈ L) (w' : World) (K : Value → World → Prop) (hkp : Kp w w') (hK : ∀ w'', Kp w' w'' → K (.bool (lineP L k ab x)) w'') :
    callW Try.prog (.func (.func 78) #[] #[.pointer (some ⟨b12, 0, none⟩), .pointer (some ⟨b10, 0, none⟩), .pointer (some ⟨b13, 0, none⟩)]) [lnV x] w' K := by
  have hc : Calls Try.prog 78 #[lnV x, .pointer (some ⟨b12, 0, none⟩), .pointer (some ⟨b10, 0, none⟩), .pointer (some ⟨b13, 0, none⟩)] w' fun r w'' => r = .returned (.bool (lineP L k ab x)) ∧ Kp w' w'' := by
    refine lift78 ?_
    unfold S78
    refine r_box fun b4 w1 e4 s4 h4 k4 => ?_
    refine r_drew fun w2 k2 _ => ?_
    have k42 := Kp.trans k4 k2
    have h4' := block_below h4 k2
    have kw := Kp.trans hkp k42
    have cab : w2.cell? ⟨b12, 0, none⟩ = some (.int .i64 ab) := by rw [cell_row (block_below h12 kw)]; rfl
    have ca : w2.cell? ⟨b10, 0, none⟩ = some av := by rw [cell_row (block_below h10 kw)]; rfl
    have ck : w2.cell? ⟨b13, 0, none⟩ = some (.int .i64 k) := by rw [cell_row (block_below h13 kw)]; rfl
    have c4 : w2.cell? ⟨b4, 4, none⟩ = some (.int .i64 x.2.1) := by rw [cell_row h4']; rfl
    have c5 : w2.cell? ⟨b4, 5, none⟩ = some (.int .i64 x.2.2.1) := by rw [cell_row h4']; rfl
    have hxl := hL x hx
    obtain ⟨ob, oo, oc, u, eo, ocell, hu⟩ := (hA.kp kw).row (i := k) (r := alvL L N k) (by rw [List.getElem?_map, List.getElem?_range (by omega)]; rfl)
    have hal := alvL_len L N k
    obtain ⟨g, cap, eu, _, gc, _, _⟩ := BoolsAt.put hu (q := x.2.2.1.toNat) (by omega) true
    rw [alv_pos hL k x.2.2.1.toNat (by omega), show ((x.2.2.1.toNat : Nat) : Int) = x.2.2.1 by omega] at gc
    have hrl : ((List.range (H + 1)).map (alvL L N)).length = H + 1 := by simp
    rw [hrl] at eo
    have hkk : (k : Int).toNat = k := by omega
    have fin : ∀ b : Bool, b = lineP L k ab x → Ending.returned (.bool b) = .returned (.bool (lineP L k ab x)) ∧ Kp w' w2 := fun b hb => ⟨by rw [hb], k42⟩
    rw [eo] at ca
    rw [eu] at ocell
    by_cases g1 : ab < 0
    · simp (disch := omega) only [r_ln, r_pick, r_pickT, r_pickF, r_condT, r_condF, r_gdTT, r_gdFF, r_gdTF, r_gdFT, r_gqTT, r_gqFF, r_gqTF, r_gqFT, r_not, r_lss, r_leq, r_gtr, r_geq, r_eql, r_neq, r_add, r_sub, r_min2, r_max2, r_min3, r_max3, r_fa, r_iaS, r_iaA, r_ex2a, r_ex2b, r_ex3a, r_ex3b, r_ex3c, r_nc, r_keepE, Nat.zero_add, Nat.add_zero, Nat.mul_one, Int.toNat_natCast, toNat_sub1, toNat_add1, decide_true, decide_false, Bool.not_true, Bool.not_false, if_true, if_false, Bool.false_eq_true, reduceCtorEq, r_ld cab, decide_eq_true g1, r_gqU, r_ld ca, r_ld ck, hkk, r_ld ocell, r_ld c5, r_ld gc]
      exact fin _ (by rw [lineP, decide_eq_true g1, Bool.true_or, Bool.true_and])
    by_cases g2 : x.2.1 = ab
    · simp (disch := omega) only [r_ln, r_pick, r_pickT, r_pickF, r_condT, r_condF, r_gdTT, r_gdFF, r_gdTF, r_gdFT, r_gqTT, r_gqFF, r_gqTF, r_gqFT, r_not, r_lss, r_leq, r_gtr, r_geq, r_eql, r_neq, r_add, r_sub, r_min2, r_max2, r_min3, r_max3, r_fa, r_iaS, r_iaA, r_ex2a, r_ex2b, r_ex3a, r_ex3b, r_ex3c, r_nc, r_keepE, Nat.zero_add, Nat.add_zero, Nat.mul_one, Int.toNat_natCast, toNat_sub1, toNat_add1, decide_true, decide_false, Bool.not_true, Bool.not_false, if_true, if_false, Bool.false_eq_true, reduceCtorEq, r_ld cab, g1, r_ld c4, decide_eq_true g2, r_gqU, r_ld ca, r_ld ck, hkk, r_ld ocell, r_ld c5, r_ld gc]
      exact fin _ (by rw [lineP, decide_eq_true g2, Bool.or_true, Bool.true_and])
    · simp (disch := omega) only [r_ln, r_pick, r_pickT, r_pickF, r_condT, r_condF, r_gdTT, r_gdFF, r_gdTF, r_gdFT, r_gqTT, r_gqFF, r_gqTF, r_gqFT, r_not, r_lss, r_leq, r_gtr, r_geq, r_eql, r_neq, r_add, r_sub, r_min2, r_max2, r_min3, r_max3, r_fa, r_iaS, r_iaA, r_ex2a, r_ex2b, r_ex3a, r_ex3b, r_ex3c, r_nc, r_keepE, Nat.zero_add, Nat.add_zero, Nat.mul_one, Int.toNat_natCast, toNat_sub1, toNat_add1, decide_true, decide_false, Bool.not_true, Bool.not_false, if_true, if_false, Bool.false_eq_true, reduceCtorEq, r_ld cab, g1, r_ld c4, g2, r_gqU]
      exact fin _ (by rw [lineP, decide_eq_false g1, decide_eq_false g2]; rfl)
  refine r_use fok78 hc rfl ?_
  rintro _ w2 ⟨rfl, k2⟩
  exact ⟨_, rfl, hK w2 k2⟩

def ptrN (w : World) (v : Value) : Nat := match v with
  | .pointer (some a) => match w.cell? a with
    | some u => (intOf u + 1).toNat
    | none => 0
  | _ => 0
/-- What Fill returns. -/
def FillPost (l : List Tile) (a b : Int) (base : Nat) (w' : World) (e : Ending) : Prop :=
  (ordErr l a b ≠ 0 ∧ e = .returned (.tuple #[nilS, .int .i64 2])) ∨
  (ordErr l a b = 0 ∧ fillM l a.toNat b.toNat (-1) = none ∧ e = .returned (.tuple #[nilS, .int .i64 10])) ∨
  (ordErr l a b = 0 ∧ ∃ v B, e = .returned (.tuple #[v, .int .i64 0]) ∧ fillM l a.toNat b.toNat (-1) = some B ∧ IRows base w' v (B.map intsR))

theorem find_lines {l : List Tile} {w k : Nat} {ab : Int} : (linesL l w).find? (lineP (linesL l w) k ab) = ((rowsL l w).find? (rowP l w k ab)).map (lineOf l) := by
  unfold linesL
  rw [List.find?_map]
  congr 1
  refine find_congr fun r hr => ?_
  show lineP _ k ab (lineOf l r) = _
  unfold lineP rowP
  rw [Bk_eq]
  rfl

theorem pad_ints {l : List Tile} {r : List Nat} {w : World} {lb o cap : Nat} {W : Nat} (hr : r.length = W) (hW : W ≤ 4) (hc : ∀ j u, (lnC (lineOf l r))[j]? = some u → w.cell? ⟨lb, o + j, none⟩ = some u) : RdInts w (.slice (some ⟨lb, o, none⟩) W 4) (intsR r) := by
  have hl : (intsR r).length = W := by simp [intsR, hr]
  refine ⟨some ⟨lb, o, none⟩, 4, by rw [hl], ⟨by omega, by omega⟩, fun _ => ⟨lb, o, rfl, fun i hi => ?_⟩⟩
  have hi4 : i < 4 := by omega
  have hir : i < r.length := by omega
  have e : (intsR r).getD i 0 = (pad4 r).getD i 0 := by
    rw [pad4_at r hi4, getD_lt _ _ _ (by omega)]
    simp [intsR, List.getD_eq_getElem?_getD, hir]
  rw [e]
  match i, hi4 with
  | 0, _ => exact hc 0 _ rfl
  | 1, _ => exact hc 1 _ rfl
  | 2, _ => exact hc 2 _ rfl
  | 3, _ => exact hc 3 _ rfl

set_option maxRecDepth 100000 in
set_option maxHeartbeats 1000000 in
theorem r27_0 {l : List Tile} {W H b10 b12 b13 base : Nat} {av lv : Value} {w0 w : World} {K : Ending → World → Prop} (hs : IsSet l) (hW : 1 ≤ W ∧ W ≤ 4) (hH : 1 ≤ H ∧ H ≤ 4)
    (hA : BRows base w0 av ((List.range (H + 1)).map (alvL (linesL l W) (8 ^ W)))) (hLv : RdL w0 lv (linesL l W)) (h10 : w.heap[b10]? = some (.cells #[av] 88 (0, 0))) (h12 : w.heap[b12]? = some (.cells #[.int .i64 (-1)] 3 (0, 0))) (h13 : w.heap[b13]? = some (.cells #[.int .i64 ((H : Int) - 1)] 3 (0, 0))) (hb12 : w0.heap.size ≤ b12) (hne : b12 ≠ b13) (hk : Kp w0 w)
    (hnone : ∀ w', Kp w0 w' → fillM l W H (-1) = none → K (.returned (.tuple #[nilS, .int .i64 10])) w')
    (hK : ∀ v B w', Kp w0 w' → fillM l W H (-1) = some B → IRows w0.heap.size w' v (B.map intsR) → K (.returned (.tuple #[v, .int .i64 0])) w') :
    S27L0 (.int .i64 W) (.pointer (some ⟨b10, 0, none⟩)) (.pointer (some ⟨b12, 0, none⟩)) (.pointer (some ⟨b13, 0, none⟩)) lv K w := by
  have hLo := lines_ok hs hW.2
  have hll := lines_len hs hW.2
  have sb10 := block_lt h10
  have sb12 := block_lt h12
  have sk := hk.size
  unfold S27L0
  refine ⟨fun t11 t13 wr => ∃ (i : Nat) (ab : Int) (D : List (List Nat)) (b13 : Nat), i ≤ H ∧ t13 = .pointer (some ⟨b13, 0, none⟩) ∧ wr.heap[b13]? = some (.cells #[.int .i64 ((H : Int) - i - 1)] 3 (0, 0)) ∧ b12 ≠ b13 ∧ wr.heap[b12]? = some (.cells #[.int .i64 ab] 3 (0, 0)) ∧ wr.heap[b10]? = some (.cells #[av] 88 (0, 0)) ∧
      IRows w.heap.size wr t11 (D.map intsR) ∧ D.length = i ∧ (fillM l W H (-1) = (fillM l W (H - i) ab).map (D ++ ·)) ∧ Kp w0 wr ∧ w.heap.size ≤ wr.heap.size, fun _ t13 wr => ptrN wr t13,
    ⟨0, -1, [], b13, by omega, rfl, by simpa using h13, hne, h12, h10, IRows.nil, rfl, by simp, hk, Nat.le_refl _⟩, ?_⟩
  rintro _ t11 _ wr ⟨i, ab, D, c13, hi, rfl, g13, gne, g12, g10, hO, hD, hF, kr, sz⟩
  have ck : wr.cell? ⟨c13, 0, none⟩ = some (.int .i64 ((H : Int) - i - 1)) := by rw [cell_row g13]; rfl
  by_cases hlt : i < H
  case neg =>
    have ei : i = H := by omega
    subst ei
    have hneg : ¬ (0 : Int) ≤ (i : Int) - i - 1 := by omega
    simp (disch := omega) only [r_ln, r_pick, r_pickT, r_pickF, r_condT, r_condF, r_gdTT, r_gdFF, r_gdTF, r_gdFT, r_gqTT, r_gqFF, r_gqTF, r_gqFT, r_not, r_lss, r_leq, r_gtr, r_geq, r_eql, r_neq, r_add, r_sub, r_min2, r_max2, r_min3, r_max3, r_fa, r_iaS, r_iaA, r_ex2a, r_ex2b, r_ex3a, r_ex3b, r_ex3c, r_nc, r_keepE, Nat.zero_add, Nat.add_zero, Nat.mul_one, Int.toNat_natCast, toNat_sub1, toNat_add1, decide_true, decide_false, Bool.not_true, Bool.not_false, if_true, if_false, Bool.false_eq_true, reduceCtorEq, r_ld ck, hneg]
    rw [Nat.sub_self] at hF
    refine hK _ D wr kr (by rw [hF]; simp [fillM]) ?_
    exact hO.down sk
  obtain ⟨k, hkH⟩ : ∃ k, H - i = k + 1 := ⟨H - i - 1, by omega⟩
  have ekk : (H : Int) - i - 1 = (k : Int) := by omega
  rw [ekk] at g13 ck
  rw [hkH, fillM] at hF
  have hpos : (0 : Int) ≤ (k : Int) := by omega
  simp (disch := omega) only [r_ln, r_pick, r_pickT, r_pickF, r_condT, r_condF, r_gdTT, r_gdFF, r_gdTF, r_gdFT, r_gqTT, r_gqFF, r_gqTF, r_gqFT, r_not, r_lss, r_leq, r_gtr, r_geq, r_eql, r_neq, r_add, r_sub, r_min2, r_max2, r_min3, r_max3, r_fa, r_iaS, r_iaA, r_ex2a, r_ex2b, r_ex3a, r_ex3b, r_ex3c, r_nc, r_keepE, Nat.zero_add, Nat.add_zero, Nat.mul_one, Int.toNat_natCast, toNat_sub1, toNat_add1, decide_true, decide_false, Bool.not_true, Bool.not_false, if_true, if_false, Bool.false_eq_true, reduceCtorEq, r_ld ck, decide_eq_true hpos]
  refine r_use fok77 (indexL_calls (lineP (linesL l W) k ab) wr (hLv.kp kr) (by omega) fun x hx w' K' hkk hK' => fillT_call (k := k) wr hLo (hA.kp kr) (by omega) (by omega) g10 g12 g13 x hx w' K' hkk hK') rfl ?_
  rintro e1 w2 ⟨k2, hpost⟩
  rw [find_lines] at hpost
  have kr2 := Kp.trans kr k2
  rcases hpost with ⟨hn, rfl⟩ | ⟨n, x, hx, hfx, rfl⟩
  · refine ⟨_, rfl, ?_⟩
    have hneg : decide ((-1 : Int) < 0) = true := by decide
    have hfn : (rowsL l W).find? (rowP l W k ab) = none := by
      cases hq : (rowsL l W).find? (rowP l W k ab) with
      | none => rfl
      | some r => rw [hq] at hn; cases hn
    rw [hfn] at hF
    simp (disch := omega) only [r_ln, r_pick, r_pickT, r_pickF, r_condT, r_condF, r_gdTT, r_gdFF, r_gdTF, r_gdFT, r_gqTT, r_gqFF, r_gqTF, r_gqFT, r_not, r_lss, r_leq, r_gtr, r_geq, r_eql, r_neq, r_add, r_sub, r_min2, r_max2, r_min3, r_max3, r_fa, r_iaS, r_iaA, r_ex2a, r_ex2b, r_ex3a, r_ex3b, r_ex3c, r_nc, r_keepE, Nat.zero_add, Nat.add_zero, Nat.mul_one, Int.toNat_natCast, toNat_sub1, toNat_add1, decide_true, decide_false, Bool.not_true, Bool.not_false, if_true, if_false, Bool.false_eq_true, reduceCtorEq, hneg]
    exact hnone _ kr2 hF
  refine ⟨_, rfl, ?_⟩
  obtain ⟨r, hfr, rfl⟩ : ∃ r, (rowsL l W).find? (rowP l W k ab) = some r ∧ x = lineOf l r := by
    cases hq : (rowsL l W).find? (rowP l W k ab) with
    | none => rw [hq] at hfx; cases hfx
    | some r => rw [hq] at hfx; cases hfx; exact ⟨r, rfl, rfl⟩
  rw [hfr] at hF
  dsimp only at hF
  have hrm := List.mem_of_find?_eq_some hfr
  obtain ⟨hrl, hnl, hsl, _⟩ := row_line hs hrm
  have hnlt : n < (linesL l W).length := (List.getElem?_eq_some_iff.1 hx).1
  have hneg : ¬ ((n : Int) < 0) := by omega
  simp (disch := omega) only [r_ln, r_pick, r_pickT, r_pickF, r_condT, r_condF, r_gdTT, r_gdFF, r_gdTF, r_gdFT, r_gqTT, r_gqFF, r_gqTF, r_gqFT, r_not, r_lss, r_leq, r_gtr, r_geq, r_eql, r_neq, r_add, r_sub, r_min2, r_max2, r_min3, r_max3, r_fa, r_iaS, r_iaA, r_ex2a, r_ex2b, r_ex3a, r_ex3b, r_ex3c, r_nc, r_keepE, Nat.zero_add, Nat.add_zero, Nat.mul_one, Int.toNat_natCast, toNat_sub1, toNat_add1, decide_true, decide_false, Bool.not_true, Bool.not_false, if_true, if_false, Bool.false_eq_true, reduceCtorEq, hneg]
  refine r_drew fun w3 k3 _ => ?_
  have kr3 := Kp.trans kr2 k3
  have k23 := Kp.trans k2 k3
  obtain ⟨lb, lo, lc, el, _, hcell⟩ := (hLv.kp kr3).at hx
  have hnn : (n : Int).toNat = n := by omega
  have ia : ∀ K : Value → Prop, iaS 7 lv (.int .i64 n) K = K (.pointer (some ⟨lb, lo + n * 7, none⟩)) := fun K => by rw [el, r_iaS _ _ _ _ _ _ _ (by omega) (by omega), hnn]
  have hlb : lb < w0.heap.size := by
    have := hLv.block (fun x => by rw [lnC_len]; omega) (b := lb) (off := lo) (n := (linesL l W).length) (cap := lc) el (by omega)
    exact this
  have sl : ∀ K : Value → Prop, slA 4 1 (.pointer (some ⟨lb, lo + n * 7, none⟩)) none (some (.int .i64 (W : Nat))) K = K (.slice (some ⟨lb, lo + n * 7, none⟩) W 4) := fun K => r_slAat W hW.2
  have hO3 := hO.kp k23
  have c5 : w3.cell? ⟨lb, lo + n * 7 + 5, none⟩ = some (.int .i64 (code (souths l r))) := hcell 5 _ rfl
  have hXlb : ¬ (fun q => w.heap.size ≤ q) lb := fun h => by have : w.heap.size ≤ lb := h; omega
  refine ⟨fun q => w.heap.size ≤ q, ?_⟩
  simp only [r_tx, ia, r_fa, Nat.add_zero, sl, r_txl (X := fun q => w.heap.size ≤ q) c5 hXlb]
  have hri := pad_ints (l := l) (W := W) (cap := lc) hrl hW.2 hcell
  have hil : (intsR r).length ≤ 1000000 := by simp [intsR]; omega
  have hli : (intsR r).length = W := by simp [intsR, hrl]
  refine r_use fok79 (clone_calls w3 hri hil) rfl ?_
  rintro _ w4 ⟨v4, rfl, o4, k4⟩
  obtain ⟨a4, c4, e4, _⟩ := o4.len
  refine ⟨_, rfl, BX.of_below k4, ?_⟩
  have hb34 : w.heap.size ≤ w3.heap.size := by have := k23.size; omega
  rw [e4]
  dsimp only
  rw [bs23]
  refine ⟨BX.of_below (below_alloc _), ?_⟩
  have k5 := below_alloc (w := w4) (.cells #[.slice a4 (intsR r).length c4] 30)
  have n5 := heap_alloc_new w4 (.cells #[.slice a4 (intsR r).length c4] 30)
  have o4' : IntsAt w3.heap.size w4 (.slice a4 (intsR r).length c4) (intsR r) := by rw [← e4]; exact o4
  generalize w4.alloc (.cells #[.slice a4 (intsR r).length c4] 30) = w5 at *
  have s34 := k4.size
  have s45 := k5.size
  have hO5 := (hO3.kp k4).kp k5
  refine r_pushRow2 hO5 ((o4'.kp k5).down hb34) (by rw [List.length_map]; omega) (by omega) n5 fun v6 w6 o6 ch6 _ => ?_
  obtain ⟨vs, p1, _, _⟩ := hO5
  have chX : Chg (fun q => w.heap.size ≤ q) w5 w6 := ch6.mono fun q _ hq => (p1.lt hq).1
  refine ⟨BX.of_chg chX, ?_⟩
  have k35 := Kp.trans k4 k5
  have k06 : Kp w0 w6 := Kp.of_chg (Kp.trans kr3 k35) chX fun q hq => by omega
  have krx : Kp wr w5 := Kp.trans k23 k35
  have s56 := chX.size
  -- above
  have g12' : w6.heap[b12]? = some (.cells #[.int .i64 ab] 3 (0, 0)) := chX.at (block_below g12 krx) (by omega)
  have g10' : w6.heap[b10]? = some (.cells #[av] 88 (0, 0)) := chX.at (block_below g10 krx) (by omega)
  have sb13 := block_lt g13
  have g13' : w6.heap[c13]? = some (.cells #[.int .i64 (k : Int)] 3 (0, 0)) := by
    have h5 := block_below g13 krx
    refine ch6.at h5 fun hq => ?_
    obtain ⟨cur, hc⟩ := own_type p1 hq
    rw [h5] at hc
    injection hc with hc
    injection hc with _ hc _
    exact absurd hc (by decide)
  have cb12 : w6.cell? ⟨b12, 0, none⟩ = some (.int .i64 ab) := by rw [cell_row g12']; rfl
  simp only [r_tx]
  rw [st3 cb12 (frozen_row g12')]
  have ch7 : Chg (fun q => q = b12) w6 (w6.setCell ⟨b12, 0, none⟩ (.int .i64 (code (souths l r)))) := Chg.setCell _ _ rfl
  have g12n := setCell_block (o := 0) (v := .int .i64 (code (souths l r))) g12' rfl
  generalize w6.setCell ⟨b12, 0, none⟩ (.int .i64 (code (souths l r))) = w7 at *
  have g13n := ch7.at g13' (fun e => gne e.symm)
  have s67 := ch7.size
  have g10n : w7.heap[b10]? = some (.cells #[av] 88 (0, 0)) := ch7.at g10' fun e => by
    subst e
    rw [g10'] at g12'
    injection g12' with h
    injection h with _ h _
    exact absurd h (by decide)
  have o7 : IRows w.heap.size w7 v6 (D.map intsR ++ [intsR r]) := o6.chg ch7 fun q hq _ e => by omega
  have k07 : Kp w0 w7 := Kp.of_chg k06 ch7 fun q hq => by omega
  have ck7 : w7.cell? ⟨c13, 0, none⟩ = some (.int .i64 (k : Int)) := by rw [cell_row g13n]; rfl
  rw [r_ld ck7]
  refine r_box fun b8 w8 e8 s8 h8 k8 => ?_
  refine r_stAll (n := 1) (ty := 3) (cs := #[.int .i64 0]) (by kernel_rfl) rfl (by intro u hu; simp [Value.cells] at hu; subst hu; rfl) h8 rfl fun w9 c9 s9 h9 => ?_
  have k79 : Kp w7 w9 := Kp.of_chg k8 c9 fun q hq => by omega
  have h9' : w9.heap[b8]? = some (.cells #[.int .i64 (k : Int)] 3 (0, 0)) := h9
  have ck9 : w9.cell? ⟨b8, 0, none⟩ = some (.int .i64 (k : Int)) := by rw [cell_row h9']; rfl
  rw [r_ld ck9, r_sub _ _ (by omega) (by omega), st3 ck9 (frozen_row h9')]
  have ch10 : Chg (fun q => q = b8) w9 (w9.setCell ⟨b8, 0, none⟩ (.int .i64 ((k : Int) - 1))) := Chg.setCell _ _ rfl
  have g8 := setCell_block (o := 0) (v := .int .i64 ((k : Int) - 1)) h9' rfl
  generalize w9.setCell ⟨b8, 0, none⟩ (.int .i64 ((k : Int) - 1)) = w10 at *
  have k710 : Kp w7 w10 := Kp.of_chg k79 ch10 fun q hq => by omega
  have g8' : w10.heap[b8]? = some (.cells #[.int .i64 ((k : Int) - 1)] 3 (0, 0)) := g8
  have sz7 := k710.size
  refine ⟨⟨i + 1, code (souths l r), D ++ [r], b8, by omega, rfl, ?_, by omega, ?_, block_below g10n k710, ?_, by simp [hD], ?_, Kp.trans k07 k710, by omega⟩, ?_⟩
  · rw [g8']
    have : (H : Int) - ((i + 1 : Nat) : Int) - 1 = (k : Int) - 1 := by omega
    rw [this]
  · have := block_below g12n k710
    rw [this]; rfl
  · rw [List.map_append]; exact o7.kp k710
  · rw [hF, show H - (i + 1) = k by omega]
    cases fillM l W k (code (souths l r)) <;> simp
  · have e1 : ptrN w10 (.pointer (some ⟨b8, 0, none⟩)) = k := by
      have : w10.cell? ⟨b8, 0, none⟩ = some (.int .i64 ((k : Int) - 1)) := by rw [cell_row g8']; rfl
      simp only [ptrN, this, intOf]; omega
    have e2 : ptrN wr (.pointer (some ⟨c13, 0, none⟩)) = k + 1 := by
      simp only [ptrN, ck, intOf]; omega
    rw [e1, e2]; omega

set_option maxRecDepth 100000 in
theorem fill_calls {v : Value} {l : List Tile} (a b : Int) (w : World) (hr : RdT w v l) : Calls Try.prog 27 #[v, .int .i64 a, .int .i64 b] w fun e w' => Kp w w' ∧ FillPost l a b w.heap.size w' e := by
  refine lift27 ?_
  unfold S27
  refine r_use fok53 (board_calls a b w hr) rfl ?_
  rintro _ w1 ⟨rfl, k1⟩
  refine ⟨_, rfl, ?_⟩
  have h20 : ¬ ((2 : Int) = 0) := by decide
  rcases ordErr_cases l a b with he | he
  rotate_left
  · rw [he]
    simp (disch := omega) only [r_ln, r_pick, r_pickT, r_pickF, r_condT, r_condF, r_gdTT, r_gdFF, r_gdTF, r_gdFT, r_gqTT, r_gqFF, r_gqTF, r_gqFT, r_not, r_lss, r_leq, r_gtr, r_geq, r_eql, r_neq, r_add, r_sub, r_min2, r_max2, r_min3, r_max3, r_fa, r_iaS, r_iaA, r_ex2a, r_ex2b, r_ex3a, r_ex3b, r_ex3c, r_nc, r_keepE, Nat.zero_add, Nat.add_zero, Nat.mul_one, Int.toNat_natCast, toNat_sub1, toNat_add1, decide_true, decide_false, Bool.not_true, Bool.not_false, if_true, if_false, Bool.false_eq_true, reduceCtorEq, h20]
    exact ⟨k1, .inl ⟨by omega, rfl⟩⟩
  obtain ⟨hs, W, H, rfl, rfl, hW, hH⟩ := ord_ok he
  rw [he]
  simp (disch := omega) only [r_ln, r_pick, r_pickT, r_pickF, r_condT, r_condF, r_gdTT, r_gdFF, r_gdTF, r_gdFT, r_gqTT, r_gqFF, r_gqTF, r_gqFT, r_not, r_lss, r_leq, r_gtr, r_geq, r_eql, r_neq, r_add, r_sub, r_min2, r_max2, r_min3, r_max3, r_fa, r_iaS, r_iaA, r_ex2a, r_ex2b, r_ex3a, r_ex3b, r_ex3c, r_nc, r_keepE, Nat.zero_add, Nat.add_zero, Nat.mul_one, Int.toNat_natCast, toNat_sub1, toNat_add1, decide_true, decide_false, Bool.not_true, Bool.not_false, if_true, if_false, Bool.false_eq_true, reduceCtorEq, decide_eq_true (rfl : (0 : Int) = 0)]
  refine r_use fok59 (rows_calls hs hW w1 (hr.kp k1)) rfl ?_
  rintro _ w2 ⟨lv, rfl, k2, hL⟩
  refine ⟨_, rfl, ?_⟩
  change LnAt _ _ _ (linesL l W) at hL
  have hlo := lines_ok hs hW.2
  have hll := lines_len hs hW.2
  have hrdL := hL.rd lnC_len
  refine r_use fok76 (alive_calls (h := H) w2 hW (by omega) hrdL hlo (by omega)) rfl ?_
  rintro _ w3 ⟨av, rfl, k3, hA⟩
  refine ⟨_, rfl, ?_⟩
  have k03 := Kp.trans k1 (Kp.trans k2 k3)
  obtain ⟨aa, acap, ea, hac⟩ := hA.len
  have hav1 : av.cells.size = 1 ∧ (∀ u ∈ av.cells.toList, u.oneCell' = true) ∧ av.cells = #[av] := by
    rw [ea]
    exact ⟨rfl, fun u hu => by simp [Value.cells] at hu; subst hu; rfl, rfl⟩
  refine r_box fun b10 w4 e10 s10 h10 k4 => ?_
  refine r_stAll (n := 1) (ty := 88) (cs := #[nilS]) (by kernel_rfl) hav1.1 hav1.2.1 h10 rfl fun w5 c5 s5 h105 => ?_
  rw [hav1.2.2] at h105
  have k35 : Kp w3 w5 := Kp.of_chg k4 c5 fun i e => by omega
  refine r_box fun b12 w6 e12 s12 h12 k6 => ?_
  refine r_stAll (n := 1) (ty := 3) (cs := #[.int .i64 0]) (by kernel_rfl) rfl (by intro u hu; simp [Value.cells] at hu; subst hu; rfl) h12 rfl fun w7 c7 s7 h127 => ?_
  have k57 : Kp w5 w7 := Kp.of_chg k6 c7 fun i e => by omega
  have h127' : w7.heap[b12]? = some (.cells #[.int .i64 (-1)] 3 (0, 0)) := h127
  refine r_box fun b13 w8 e13 s13 h13 k8 => ?_
  refine r_stAll (n := 1) (ty := 3) (cs := #[.int .i64 0]) (by kernel_rfl) rfl (by intro u hu; simp [Value.cells] at hu; subst hu; rfl) h13 rfl fun w9 c9 s9 h139 => ?_
  have k79 : Kp w7 w9 := Kp.of_chg k8 c9 fun i e => by omega
  have h139' : w9.heap[b13]? = some (.cells #[.int .i64 ((H : Int) - 1)] 3 (0, 0)) := h139
  have sz5 := k35.size
  have hpost : ∀ {e : Ending} {w' : World}, Kp w3 w' → FillPost l W H w.heap.size w' e → Kp w w' ∧ FillPost l W H w.heap.size w' e := fun h1 h2 => ⟨Kp.trans k03 h1, h2⟩
  refine r27_0 (w0 := w3) hs hW hH hA (hrdL.kp k3) (block_below (block_below h105 k57) k79) (block_below h127' k79) h139' (by omega) (by omega) (Kp.trans k35 (Kp.trans k57 k79)) (fun w' kk hn => hpost kk (.inr (.inl ⟨he, by simpa using hn, rfl⟩))) fun v' B w' kk hB ho => hpost kk (.inr (.inr ⟨he, v', B, rfl, by simpa using hB, ho.down k03.size⟩))

end Go.Proofs.Ytgalbokmgffhkaa

/- Contract: Fill and Count of the specification. -/
namespace Go.Proofs.Ytgalbokmgffhkaa
open Go.Lf Go.RowKit Go.Wg

theorem allS_le {l : List Tile} {W : Nat} (hW : W ≤ 4) : allS l W ≤ 32768 := by
  unfold allS
  have h1 : (lineL l).length ^ W ≤ 8 ^ W := Nat.pow_le_pow_left (line_len l) W
  have h2 : 8 ^ W ≤ 8 ^ 4 := Nat.pow_le_pow_right (by omega) hW
  have h3 : (8 : Nat) ^ 4 = 4096 := by decide
  omega

abbrev waysLL (l : List Tile) (W H : Nat) : List (List Int) := (List.range (W * H + 1)).map (wayL l W H)
theorem waysLL_at {l : List Tile} {W H p : Nat} (hp : p ≤ W * H) : (waysLL l W H).getD p [] = wayL l W H p := by
  have : p < (waysLL l W H).length := by simp; omega
  rw [getD_lt _ _ _ this]
  simp
theorem waysLL_len (l : List Tile) (W H : Nat) : (waysLL l W H).length = W * H + 1 := by simp
theorem waysLL_row {l : List Tile} {W H : Nat} : ∀ r ∈ waysLL l W H, r.length = allS l W := fun r hr => by
  obtain ⟨p, _, rfl⟩ := List.mem_map.1 hr
  exact wayL_len l W H p

/-- A number of ways is read. -/
theorem ways_read {l : List Tile} {W H p s : Nat} {w : World} {v : Value} (hr : RdRows w v (waysLL l W H)) (hp : p ≤ W * H) (hs : s < allS l W) (hW : W * H ≤ 16) (ha : allS l W ≤ 32768) (K : Value → Prop) (hK : K (.int .i64 (capI (Wq l W H (W * H - p) s)))) :
    iaS 1 v (.int .i64 p) fun a => ld1 w a fun b => iaS 1 b (.int .i64 s) fun c => ld1 w c K := by
  have hlen := waysLL_len l W H
  obtain ⟨b, off, cap, rv, ev, hcell, hrow⟩ := hr.row (i := p) (by omega)
  rw [waysLL_at hp] at hrow
  obtain ⟨b2, o2, c2, e2, hc2⟩ := hrow.at (j := s) (by rw [wayL_len]; exact hs)
  rw [wayL_at hs] at hc2
  subst e2
  rw [ev, hlen]
  have hwl := wayL_len l W H p
  have hpp : (p : Int).toNat = p := by omega
  have hss : (s : Int).toNat = s := by omega
  rw [r_iaS _ _ _ _ _ _ _ (by omega) (by omega), hpp, Nat.mul_one, r_ld hcell, hwl, r_iaS _ _ _ _ _ _ _ (by omega) (by omega), hss, Nat.mul_one, r_ld hc2]
  exact hK

set_option maxRecDepth 100000 in
theorem refcount_calls {v : Value} {l : List Tile} (a b : Int) (w : World) (hr : RdT w v l) : Calls Try.prog 26 #[v, .int .i64 a, .int .i64 b] w fun e w' => e = .returned (countV l a b) ∧ Kp w w' := by
  refine lift26 ?_
  unfold S26
  refine r_use fok23 (order_calls a b w hr) rfl ?_
  rintro _ w1 ⟨rfl, k1⟩
  refine ⟨_, rfl, ?_⟩
  unfold countV
  have h20 : ¬ ((2 : Int) = 0) := by decide
  rcases ordErr_cases l a b with he | he
  rotate_left
  · simp (disch := omega) only [r_ln, r_pick, r_pickT, r_pickF, r_condT, r_condF, r_gdTT, r_gdFF, r_gdTF, r_gdFT, r_gqTT, r_gqFF, r_gqTF, r_gqFT, r_not, r_lss, r_leq, r_gtr, r_geq, r_eql, r_neq, r_add, r_sub, r_min2, r_max2, r_min3, r_max3, r_fa, r_iaS, r_iaA, r_ex2a, r_ex2b, r_ex3a, r_ex3b, r_ex3c, r_nc, r_keepE, Nat.zero_add, Nat.add_zero, Nat.mul_one, Int.toNat_natCast, toNat_sub1, toNat_add1, decide_true, decide_false, Bool.not_true, Bool.not_false, if_true, if_false, Bool.false_eq_true, reduceCtorEq, he, h20]
    exact ⟨by first | rfl | trivial, k1⟩
  obtain ⟨hs, W, H, rfl, rfl, hW, hH⟩ := ord_ok he
  have hWH : W * H ≤ 16 := Nat.mul_le_mul hW.2 hH.2
  have hal := allS_le (l := l) hW.2
  have hpos : 0 < allS l W := by
    have := Nat.pow_pos (n := W) (line_pos hs)
    unfold allS; omega
  simp (disch := omega) only [r_ln, r_pick, r_pickT, r_pickF, r_condT, r_condF, r_gdTT, r_gdFF, r_gdTF, r_gdFT, r_gqTT, r_gqFF, r_gqTF, r_gqFT, r_not, r_lss, r_leq, r_gtr, r_geq, r_eql, r_neq, r_add, r_sub, r_min2, r_max2, r_min3, r_max3, r_fa, r_iaS, r_iaA, r_ex2a, r_ex2b, r_ex3a, r_ex3b, r_ex3c, r_nc, r_keepE, Nat.zero_add, Nat.add_zero, Nat.mul_one, Int.toNat_natCast, toNat_sub1, toNat_add1, decide_true, decide_false, Bool.not_true, Bool.not_false, if_true, if_false, Bool.false_eq_true, reduceCtorEq, he, decide_eq_true (rfl : (0 : Int) = 0), Int.toNat_natCast]
  rw [count_exact hs hW (by omega), ← ways_boards hs (by omega) (by omega)]
  refine r_use fok75 (ways_calls w1 (hr.kp k1) hs hW hH (by omega)) rfl ?_
  rintro _ w2 ⟨v2, rfl, k2, o2⟩
  refine ⟨_, rfl, ?_⟩
  have hrows : RdRows w2 v2 (waysLL l W H) := o2.rd (by rw [waysLL_len]; omega) fun r h => by rw [waysLL_row r h]; omega
  refine ways_read (p := 0) (s := 0) hrows (by omega) hpos hWH hal _ ?_
  rw [Nat.sub_zero]
  generalize Wq l W H (W * H) 0 = n
  unfold limV
  by_cases g : (1099511627776 : Int) < capI n
  · simp (disch := omega) only [r_ln, r_pick, r_pickT, r_pickF, r_condT, r_condF, r_gdTT, r_gdFF, r_gdTF, r_gdFT, r_gqTT, r_gqFF, r_gqTF, r_gqFT, r_not, r_lss, r_leq, r_gtr, r_geq, r_eql, r_neq, r_add, r_sub, r_min2, r_max2, r_min3, r_max3, r_fa, r_iaS, r_iaA, r_ex2a, r_ex2b, r_ex3a, r_ex3b, r_ex3c, r_nc, r_keepE, Nat.zero_add, Nat.add_zero, Nat.mul_one, Int.toNat_natCast, toNat_sub1, toNat_add1, decide_true, decide_false, Bool.not_true, Bool.not_false, if_true, if_false, Bool.false_eq_true, reduceCtorEq, decide_eq_true g]
    rw [if_pos g]
    exact ⟨rfl, Kp.trans k1 k2⟩
  · simp (disch := omega) only [r_ln, r_pick, r_pickT, r_pickF, r_condT, r_condF, r_gdTT, r_gdFF, r_gdTF, r_gdFT, r_gqTT, r_gqFF, r_gqTF, r_gqFT, r_not, r_lss, r_leq, r_gtr, r_geq, r_eql, r_neq, r_add, r_sub, r_min2, r_max2, r_min3, r_max3, r_fa, r_iaS, r_iaA, r_ex2a, r_ex2b, r_ex3a, r_ex3b, r_ex3c, r_nc, r_keepE, Nat.zero_add, Nat.add_zero, Nat.mul_one, Int.toNat_natCast, toNat_sub1, toNat_add1, decide_true, decide_false, Bool.not_true, Bool.not_false, if_true, if_false, Bool.false_eq_true, reduceCtorEq, g]
    exact ⟨by first | rfl | trivial, Kp.trans k1 k2⟩

theorem flat_inj {W : Nat} (hW : 0 < W) : ∀ {A B : List (List Nat)}, (∀ r ∈ A, r.length = W) → (∀ r ∈ B, r.length = W) → A.flatten = B.flatten → A = B
  | [], [], _, _, _ => rfl
  | [], r :: B, _, hB, h => by
    have := hB r (by simp)
    have hl : 0 = r.length + B.flatten.length := by rw [← List.length_append, ← List.flatten_cons, ← h]; rfl
    omega
  | r :: A, [], hA, _, h => by
    have := hA r (by simp)
    have hl : 0 = r.length + A.flatten.length := by rw [← List.length_append, ← List.flatten_cons, h]; rfl
    omega
  | r :: A, q :: B, hA, hB, h => by
    rw [List.flatten_cons, List.flatten_cons] at h
    have h1 := hA r (by simp)
    have h2 := hB q (by simp)
    obtain ⟨e1, e2⟩ := List.append_inj h (by omega)
    rw [e1, flat_inj hW (fun x hx => hA x (by simp [hx])) (fun x hx => hB x (by simp [hx])) e2]

/-- Rows that are whole, and one that grows. -/
structure OSt (base : Nat) (w : World) (t12 t13 : Value) (R : List (List Nat)) (row : List Nat) : Prop where
  out : ∃ vs : List Value, RecAt 30 1 vE base w t12 vs ∧ vs.length = R.length ∧ ∀ (i : Nat) (u : Value) (r : List Nat), vs[i]? = some u → R[i]? = some r → IntsAt base w u (intsR r) ∧ ∀ k, u.ownBlock = some k → t13.ownBlock ≠ some k
  row : IntsAt base w t13 (intsR row)
theorem OSt.later {base : Nat} {w w' : World} {t12 t13 : Value} {R : List (List Nat)} {row : List Nat} (h : OSt base w t12 t13 R row) (k : Kp w w') : OSt base w' t12 t13 R row :=
  ⟨let ⟨vs, h1, h2, h3⟩ := h.out; ⟨vs, h1.kp k, h2, fun i u r hu hr => ⟨(h3 i u r hu hr).1.kp k, (h3 i u r hu hr).2⟩⟩, h.row.kp k⟩
theorem OSt.irows {base : Nat} {w : World} {t12 t13 : Value} {R : List (List Nat)} {row : List Nat} (h : OSt base w t12 t13 R row) : IRows base w t12 (R.map intsR) := by
  obtain ⟨vs, h1, h2, h3⟩ := h.out
  refine ⟨vs, h1, by simp [h2], fun i u r hu hr => ?_⟩
  rw [List.getElem?_map] at hr
  cases hq : R[i]? with
  | none => rw [hq] at hr; cases hr
  | some q =>
    rw [hq] at hr
    cases hr
    exact (h3 i u q hu hq).1
set_option maxRecDepth 100000 in
/-- append(row, i) -/
theorem OSt.push {base : Nat} {w : World} {t12 t13 : Value} {R : List (List Nat)} {row : List Nat} {i : Nat} {K : Value → World → Prop} (h : OSt base w t12 t13 R row) (hl : row.length ≤ 1000) (hb : base ≤ w.heap.size)
    (hk : ∀ v' w', OSt base w' t12 v' R (row ++ [i]) → w.heap.size ≤ w'.heap.size → (∀ W0 : World, W0.heap.size ≤ base → Kp W0 w → Kp W0 w') → K v' w') :
    bsW Try.prog 30 1 [(0, .int .i64 i)] w fun s w => semW Try.prog (apS [30, 30] 30 [t13, s]) w K := by
  obtain ⟨⟨vs, h1, h2, h3⟩, h4⟩ := h
  refine r_pushRec (x := (i : Int)) slt30 iC_len rfl (bs30 _ _ _) (by intro u hu; simp [iC] at hu; rw [hu]; rfl) (by omega) h4 (by simp [intsR]; omega) hb fun v' w' ho hc ha => ?_
  refine hk v' w' ⟨⟨vs, h1.chg hc fun q hq e => rec_ne h4 h1 (by decide) q e hq, h2, fun j u r hu hr => ?_⟩, by simpa [intsR] using ho⟩ hc.size fun W0 hW0 kk => Kp.of_chg kk hc fun q e => by have := (h4.lt e).1; omega
  obtain ⟨g1, g2⟩ := h3 j u r hu hr
  refine ⟨g1.chg hc fun q hq e => g2 q hq e, fun k hk' e => ?_⟩
  rcases ha k e with h | h
  · exact g2 k hk' h
  · have := (g1.lt hk').2; omega
set_option maxRecDepth 100000 in
/-- append(out, row), and the row is begun anew. -/
theorem OSt.flush {base : Nat} {w : World} {t12 t13 : Value} {R : List (List Nat)} {row : List Nat} {K : Value → World → Prop} (h : OSt base w t12 t13 R row) (hl : R.length ≤ 1000) (hb : base ≤ w.heap.size)
    (hk : ∀ v' w', OSt base w' v' nilS (R ++ [row]) [] → w.heap.size ≤ w'.heap.size → (∀ W0 : World, W0.heap.size ≤ base → Kp W0 w → Kp W0 w') → K v' w') :
    bsW Try.prog 23 1 [(0, t13)] w fun s w => semW Try.prog (apS [23, 23] 23 [t12, s]) w K := by
  have hI := h.irows
  obtain ⟨⟨vs0, p1, _, _⟩, h4⟩ := h
  obtain ⟨a, c, e, _⟩ := h4.len
  rw [e] at h4 ⊢
  refine r_pushRow hI h4 (by rw [List.length_map]; omega) hb fun v' w' ho hc _ => ?_
  refine hk v' w' ⟨?_, RecAt.nil⟩ hc.size fun W0 hW0 kk => Kp.of_chg kk hc fun q e => by have := (p1.lt e).1; omega
  obtain ⟨vs, q1, q2, q3⟩ := ho
  refine ⟨vs, q1, by rw [q2]; simp, fun i u r hu hr => ⟨q3 i u (intsR r) hu ?_, fun k _ e => by cases e⟩⟩
  have e2 : R.map intsR ++ [intsR row] = (R ++ [row]).map intsR := by simp
  rw [e2, List.getElem?_map, hr]
  rfl

set_option maxRecDepth 100000 in
set_option maxHeartbeats 800000 in
/-- The least tile at a cell. -/
theorem r28_1 {l : List Tile} {W H p s base : Nat} {sv lv wv t12 t13 : Value} {R : List (List Nat)} {row : List Nat} {w0 w : World} {k3 : Value → Value → World → Prop} (hset : IsSet l) (hW : 1 ≤ W ∧ W ≤ 4) (hH : 1 ≤ H ∧ H ≤ 4) (hr : RdT w0 sv l) (hL : RdInts w0 lv (lineL l)) (hwv : RdRows w0 wv (waysLL l W H)) (hk : Kp w0 w) (hb0 : w0.heap.size ≤ base) (hb : base ≤ w.heap.size)
    (hp : p < W * H) (hs : s < allS l W) (hpos : 0 < Wq l W H (W * H - p) s) (S : OSt base w t12 t13 R row) (hrl : row.length ≤ 100)
    (hn : ∀ i v' w', i < l.length → (List.range l.length).find? (okB l W H (W * H - (p + 1)) s) = some i → OSt base w' t12 v' R (row ++ [i]) → Kp w0 w' → base ≤ w'.heap.size → k3 (.int .i64 (nxtS l W p s i)) v' w') :
    S28L1 sv (.int .i64 W) (.int .i64 s) t13 (.int .i64 p) wv lv k3 w := by
  have hWH : W * H ≤ 16 := Nat.mul_le_mul hW.2 hH.2
  have hal := allS_le (l := l) hW.2
  obtain ⟨sa, sc, es, _⟩ := hr.len
  have lns : ∀ K : Value → Prop, ln1 sv K = K (.int .i64 l.length) := fun K => by rw [es]; rfl
  have hlm := hset.most
  have hqp : W * H - (W * H - (p + 1) + 1) = p := by omega
  unfold S28L1
  refine ⟨fun t11 t13' t15 wr => ∃ i : Nat, i ≤ l.length ∧ t15 = .int .i64 i ∧ t11 = .int .i64 s ∧ t13 = t13' ∧ (∀ j, j < i → okB l W H (W * H - (p + 1)) s j = false) ∧ Kp w wr, fun _ _ t15 _ => l.length - (intOf t15).toNat, ⟨0, by omega, rfl, rfl, rfl, fun j hj => by omega, Kp.refl _⟩, ?_⟩
  rintro _ _ _ _ wr ⟨i, hi, rfl, rfl, rfl, hno, kr⟩
  rw [lns]
  have Sr := S.later kr
  by_cases hlt : i < l.length
  case neg =>
    exfalso
    rw [Wq_tot hp, tot_pos] at hpos
    obtain ⟨t, ht, h0⟩ := hpos
    obtain ⟨j, hj, rfl⟩ := List.getElem_of_mem ht
    have := hno j (by omega)
    have etl : tl l j = l[j] := by rw [tl, List.getD_eq_getElem?_getD, List.getElem?_eq_getElem hj]; rfl
    rw [okB, hqp, etl] at this
    rw [addW] at h0
    cases hm : putM l W p s l[j] with
    | none => rw [hm] at h0; simp at h0
    | some s' =>
      rw [hm] at h0 this
      have h0' : 0 < Wq l W H (W * H - (p + 1)) s' := h0
      simp at this
      omega
  have hlt' : (i : Int) < (l.length : Int) := by omega
  obtain ⟨b, off, cap, e, _, hcell⟩ := (hr.kp (Kp.trans hk kr)).at (List.getElem?_eq_getElem hlt)
  have hii : (i : Int).toNat = i := by omega
  have ia : ∀ K : Value → Prop, iaS 4 sv (.int .i64 i) K = K (.pointer (some ⟨b, off + i * 4, none⟩)) := fun K => by rw [e, r_iaS _ _ _ _ _ _ _ (by omega) (by omega), hii]
  have htm := List.getElem_mem hlt
  have etl : tl l i = l[i] := by rw [tl, List.getD_eq_getElem?_getD, List.getElem?_eq_getElem hlt]; rfl
  have hokE : okB l W H (W * H - (p + 1)) s i = match putM l W p s l[i] with
      | some s' => decide (0 < Wq l W H (W * H - (p + 1)) s')
      | none => false := by rw [okB, hqp, etl]; cases putM l W p s l[i] <;> rfl
  have hstE : ∀ s', putM l W p s l[i] = some s' → nxtS l W p s i = s' := fun s' h => by rw [nxtS, etl, h]; rfl
  generalize l[i] = t at *
  have ev : ∀ t : Tile, Value.agg (tlC t).toArray = tlV t := fun t => rfl
  simp (disch := omega) only [r_lss, decide_eq_true hlt', r_condT, ia, r_ldCells (tlC_len t) hcell, ev]
  refine r_use fok80 (put_calls (p := p) (s := s) wr (hL.below (Kp.trans hk kr)) hset htm hW (by omega) hs (by unfold allS at hal; omega)) rfl ?_
  rintro _ w2 ⟨rfl, k2⟩
  refine ⟨_, rfl, ?_⟩
  have kr2 := Kp.trans kr k2
  have goOn : okB l W H (W * H - (p + 1)) s i = false → (∃ j : Nat, j ≤ l.length ∧ Value.int .i64 ((i : Int) + 1) = .int .i64 j ∧ True ∧ True ∧ (∀ x, x < j → okB l W H (W * H - (p + 1)) s x = false) ∧ Kp w w2) ∧ l.length - (intOf (.int .i64 ((i : Int) + 1))).toNat < l.length - (intOf (.int .i64 (i : Int))).toNat := fun hf =>
    ⟨⟨i + 1, by omega, by go_num, trivial, trivial, fun j hj => by
      by_cases hji : j = i
      · rw [hji]; exact hf
      · exact hno j (by omega), kr2⟩, by simp only [intOf]; omega⟩
  cases hpm : putM l W p s t with
  | none =>
    rw [hpm] at hokE
    have hneg : ¬ (0 : Int) ≤ -1 := by decide
    simp (disch := omega) only [putV, r_geq, hneg, decide_false, r_gdFT, r_gdU, r_pickF, r_condF]
    rw [r_add _ _ (by omega) (by omega)]
    exact goOn hokE
  | some s' =>
    rw [hpm] at hokE
    have hs' := put_lt hset htm hW.1 hs hpm
    have hnn : (0 : Int) ≤ (s' : Int) := by omega
    simp (disch := omega) only [putV, r_geq, decide_eq_true hnn, r_gdTT, r_pickT]
    rw [r_add _ _ (by omega) (by omega)]
    have e1 : (p : Int) + 1 = ((p + 1 : Nat) : Int) := by omega
    rw [e1]
    refine ways_read (hwv.below (Kp.trans hk kr2)) (by omega) hs' hWH hal _ ?_
    have hcp : (0 : Int) < capI (Wq l W H (W * H - (p + 1)) s') ↔ 0 < Wq l W H (W * H - (p + 1)) s' := by unfold capI; omega
    by_cases h0 : 0 < Wq l W H (W * H - (p + 1)) s'
    · simp (disch := omega) only [r_gtr, decide_eq_true (hcp.2 h0), r_condT]
      have hok : okB l W H (W * H - (p + 1)) s i = true := by rw [hokE]; exact decide_eq_true h0
      have S2 := S.later kr2
      have sz2 := kr2.size
      refine S2.push (by omega) (by omega) fun v' w' S' hsz hkk => ?_
      have hf : (List.range l.length).find? (okB l W H (W * H - (p + 1)) s) = some i := by
        have hsplit : List.range l.length = List.range i ++ i :: (List.range (l.length - i - 1)).map (fun j => i + 1 + j) := by
          have e : l.length = i + (1 + (l.length - i - 1)) := by omega
          conv => lhs; rw [e, List.range_add, List.range_add]
          simp [Nat.add_assoc]
        rw [hsplit, List.find?_append, List.find?_cons, hok]
        have : (List.range i).find? (okB l W H (W * H - (p + 1)) s) = none := by
          rw [List.find?_eq_none]
          intro j hj h
          rw [hno j (List.mem_range.1 hj)] at h
          cases h
        rw [this]; rfl
      have hk' := hkk w0 hb0 (Kp.trans hk kr2)
      have := hn i v' w' hlt hf S' hk' (by omega)
      rw [hstE s' hpm] at this
      exact this
    · have h0' : ¬ (0 : Int) < capI (Wq l W H (W * H - (p + 1)) s') := fun h => h0 (hcp.1 h)
      simp (disch := omega) only [r_gtr, h0', decide_false, r_condF]
      rw [r_add _ _ (by omega) (by omega)]
      exact goOn (by rw [hokE]; exact decide_eq_false h0)

end Go.Proofs.Ytgalbokmgffhkaa

/- Lifted texts, printed by program (gen.py): what each function's code asks. The ties are by the kernel. -/
namespace Go.Proofs.Ytgalbokmgffhkaa
open Go.Lf Go.RowKit

def S49L1 (t1 t48 t49 : Value) (R : Ending → World → Prop) (w : World) : Prop :=
  Loop2 (.slice none 0 0) (.int .i64 0) w fun _ t9 t50 w next_2 =>
    binQ Try.prog w .lss 3 false t50 t49 fun t51 =>
    condW t51 (
      iaS 1 t48 t50 fun t52 =>
      ld1 w t52 fun t53 =>
      ln1 t1 fun t57 =>
      callW Try.prog (.func (.func 83) #[] #[]) [t53, t57] w fun t58 w =>
      bsW Try.prog 23 1 [(0, t58)] w fun t59 w =>
      semW Try.prog (apS [23, 23] 23 [t9, t59]) w fun t60 w =>
      binQ Try.prog w .add 3 true t50 (.int .i64 1) fun t61 =>
      next_2 t60 t61 w
    ) (
      R (.returned (.tuple #[t9, (.int .i64 0)])) w
    )

def S49L0 (t1 t28 t29 : Value) (R : Ending → World → Prop) (w : World) : Prop :=
  Loop2 (.slice none 0 0) (.int .i64 0) w fun _ t6 t30 w next =>
    binQ Try.prog w .lss 3 false t30 t29 fun t31 =>
    condW t31 (
      iaS 7 t28 t30 fun t32 =>
      ldN 7 w t32 fun t33 =>
      boxW 78 (.agg #[(.int .i64 0), (.int .i64 0), (.int .i64 0), (.int .i64 0), (.int .i64 0), (.int .i64 0), (.bool false)]) w fun t8 w =>
      stW Try.prog 78 t8 t33 w fun w =>
      Drew w fun w =>
      fa1 t8 4 fun t34 =>
      ld1 w t34 fun t35 =>
      callW Try.prog (.func (.func 58) #[] #[]) [t1] w <| keepB w fun t37 w =>
      binQ Try.prog w .eql 3 false t35 t37 fun t38 =>
      Join (fun (k_2 : Value → World → Prop) =>
        condW t38 (
          fa1 t8 5 fun t40 =>
          ld1 w t40 fun t41 =>
          bsW Try.prog 30 1 [(0, t41)] w fun t42 w =>
          semW Try.prog (apS [30, 30] 30 [t6, t42]) w fun t43 w =>
          k_2 t43 w
        ) (
          k_2 t6 w
        )
      ) fun t6_2 w =>
      binQ Try.prog w .add 3 true t30 (.int .i64 1) fun t44_2 =>
      next t6_2 t44_2 w
    ) (
      callW Try.prog (.func (.func 97) #[] #[]) [t6] w fun t46 w =>
      callW Try.prog (.func (.func 98) #[] #[]) [t6] w fun t48 w =>
      ln1 t48 fun t49 =>
      S49L1 t1 t48 t49 R w
    )

def S49 (t0 t1 : Value) (w : World) (R : Ending → World → Prop) : Prop :=
  callW Try.prog (.func (.func 65) #[] #[]) [t0] w fun t13 w =>
  unQ .not t13 fun t14 =>
  gd t14 false (fun k => k t1 w) w fun t16 w =>
  gd t14 false (fun k => ln1 t16 fun v => k v w) w fun t17 w =>
  gd t14 false (fun k => callW Try.prog (.func (.func 66) #[] #[]) [t17] w k) w fun t18 w =>
  gd t14 false (fun k => unQ .not t18 fun v => k v w) w fun t19 w =>
  pickQ t14 (.bool true) t19 fun t20 =>
  gd t20 false (fun k => k t1 w) w fun t22 w =>
  gd t20 false (fun k => callW Try.prog (.func (.func 54) #[] #[]) [t22, (.func (.func 96) #[] #[])] w k) w fun t23 w =>
  pickQ t20 (.bool true) t23 fun t24 =>
  condW t24 (
    R (.returned (.tuple #[(.slice none 0 0), (.int .i64 2)])) w
  ) (
    ln1 t1 fun t27 =>
    callW Try.prog (.func (.func 59) #[] #[]) [t0, t27] w fun t28 w =>
    ln1 t28 fun t29 =>
    S49L0 t1 t28 t29 R w
  )

def A49 : Ann where
  live := fun
    | 0 => [6, 30]
    | 2 => [9, 50]
    | _ => []
  wr := fun
    | 0 => fun i => Nat.beq i 6 || Nat.beq i 8 || (Nat.ble 30 i && Nat.ble i 44)
    | 2 => fun i => Nat.beq i 9 || Nat.beq i 11 || (Nat.ble 50 i && Nat.ble i 61)
    | _ => fun _ => false
  sched := fun
    | 7 => (.take 0 (.take 1 (.take 2 (.eff 3 (.take 4 .done)))))
    | _ => .done

set_option maxRecDepth 100000 in
theorem ok49 : (codeOk Try.f49.ntmps A49 (Try.f49.body.getD .skip) 0 && Nat.ble 2 Try.f49.ntmps) = true := by kernel_rfl
set_option maxRecDepth 100000 in
theorem lift49 {t0 t1 : Value} {w : World} {R : Ending → World → Prop} (h : S49 t0 t1 w R) : Calls Try.prog 49 #[t0, t1] w R :=
  calls_of_cw (fn := Try.f49) (c := Try.f49.body.getD .skip) A49 mixes Try.func49 (by kernel_rfl) ok49
    ((by kernel_rfl : (S49 t0 t1 w R) = cw Try.prog A49 (Try.f49.body.getD .skip) 0 (bodyQ Try.prog Try.f49 R) (frOf #[t0, t1]) w).mp h)

def S96 (t0 : Value) (w : World) (R : Ending → World → Prop) : Prop :=
  callW Try.prog (.func (.func 56) #[] #[]) [t0] w fun t4 w =>
  unQ .not t4 fun t5 =>
  R (.returned t5) w

def A96 : Ann where
  live := fun _ => []
  wr := fun _ _ => false
  sched := fun _ => .done

set_option maxRecDepth 100000 in
theorem ok96 : (codeOk Try.f96.ntmps A96 (Try.f96.body.getD .skip) 0 && Nat.ble 1 Try.f96.ntmps) = true := by kernel_rfl
set_option maxRecDepth 100000 in
theorem lift96 {t0 : Value} {w : World} {R : Ending → World → Prop} (h : S96 t0 w R) : Calls Try.prog 96 #[t0] w R :=
  calls_of_cw (fn := Try.f96) (c := Try.f96.body.getD .skip) A96 mixes Try.func96 (by kernel_rfl) ok96
    ((by kernel_rfl : (S96 t0 w R) = cw Try.prog A96 (Try.f96.body.getD .skip) 0 (bodyQ Try.prog Try.f96 R) (frOf #[t0]) w).mp h)

def S98L1 (t0 t3 t28 : Value) (R : Ending → World → Prop) (w : World) : Prop :=
  Loop2 t3 (.int .i64 1) w fun _ t3_2 t5 w next_2 =>
    ln1 t28 fun t31 =>
    binQ Try.prog w .lss 3 false t5 t31 fun t32 =>
    condW t32 (
      Drew w fun w =>
      iaS 1 t28 t5 fun t37 =>
      ld1 w t37 fun t38 =>
      binQ Try.prog w .sub 3 true t5 (.int .i64 1) fun t41 =>
      iaS 1 t28 t41 fun t42 =>
      ld1 w t42 fun t43 =>
      binQ Try.prog w .neq 3 false t38 t43 fun t44 =>
      Join (fun (k_2 : Value → World → Prop) =>
        condW t44 (
          iaS 1 t28 t5 fun t49 =>
          ld1 w t49 fun t50 =>
          iaS 1 t0 t3_2 fun t51 =>
          stW Try.prog 3 t51 t50 w fun w =>
          binQ Try.prog w .add 3 true t3_2 (.int .i64 1) fun t53 =>
          k_2 t53 w
        ) (
          k_2 t3_2 w
        )
      ) fun t3_3 w =>
      binQ Try.prog w .add 3 true t5 (.int .i64 1) fun t34_2 =>
      next_2 t3_3 t34_2 w
    ) (
      slS 1 t0 (some t3_2) none fun t56 =>
      semW Try.prog (clS [30] 0 [t56]) w fun _ w =>
      slS 1 t0 none (some t3_2) fun t59 =>
      R (.returned t59) w
    )

def S98L0 (t0 : Value) (R : Ending → World → Prop) (w : World) : Prop :=
  Loop1 (.int .i64 1) w fun _ t3 w next =>
    ln1 t0 fun t12 =>
    binQ Try.prog w .lss 3 false t3 t12 fun t13 =>
    condW t13 (
      Drew w fun w =>
      iaS 1 t0 t3 fun t18 =>
      ld1 w t18 fun t19 =>
      binQ Try.prog w .sub 3 true t3 (.int .i64 1) fun t22 =>
      iaS 1 t0 t22 fun t23 =>
      ld1 w t23 fun t24 =>
      binQ Try.prog w .eql 3 false t19 t24 fun t25 =>
      condW t25 (
        slS 1 t0 (some t3) none fun t28 =>
        S98L1 t0 t3 t28 R w
      ) (
        binQ Try.prog w .add 3 true t3 (.int .i64 1) fun t15 =>
        next t15 w
      )
    ) (
      R (.returned t0) w
    )

def S98 (t0 : Value) (w : World) (R : Ending → World → Prop) : Prop :=
  ln1 t0 fun t7 =>
  binQ Try.prog w .lss 3 true t7 (.int .i64 2) fun t8 =>
  condW t8 (
    R (.returned t0) w
  ) (
    S98L0 t0 R w
  )

def A98 : Ann where
  live := fun
    | 0 => [3]
    | 2 => [3, 5]
    | _ => []
  wr := fun
    | 0 => fun i => (Nat.ble 2 i && Nat.ble i 5) || (Nat.ble 10 i && Nat.ble i 59)
    | 2 => fun i => Nat.beq i 3 || Nat.beq i 5 || (Nat.ble 29 i && Nat.ble i 53)
    | _ => fun _ => false
  sched := fun
    | 6 => (.take 0 (.take 1 (.take 2 (.take 3 (.take 4 (.take 5 (.take 6 (.take 7 (.take 8 (.take 9 .done))))))))))
    | 11 => (.take 0 (.take 1 (.take 2 (.take 3 (.take 4 (.take 5 (.take 6 (.take 7 (.take 8 (.take 9 .done))))))))))
    | _ => .done

set_option maxRecDepth 100000 in
theorem ok98 : (codeOk Try.f98.ntmps A98 (Try.f98.body.getD .skip) 0 && Nat.ble 1 Try.f98.ntmps) = true := by kernel_rfl
set_option maxRecDepth 100000 in
theorem lift98 {t0 : Value} {w : World} {R : Ending → World → Prop} (h : S98 t0 w R) : Calls Try.prog 98 #[t0] w R :=
  calls_of_cw (fn := Try.f98) (c := Try.f98.body.getD .skip) A98 mixes Try.func98 (by kernel_rfl) ok98
    ((by kernel_rfl : (S98 t0 w R) = cw Try.prog A98 (Try.f98.body.getD .skip) 0 (bodyQ Try.prog Try.f98 R) (frOf #[t0]) w).mp h)

def S14L1 (t7 t34 : Value) (next : Value → World → Prop) (w : World) : Prop :=
  Loop1 (.int .i64 0) w fun _ t10 w next_2 =>
    ln1 t34 fun t47 =>
    binQ Try.prog w .lss 3 false t10 t47 fun t48 =>
    condW t48 (
      iaS 1 t34 t10 fun t53 =>
      ld1 w t53 fun t54 =>
      iaS 1 t54 (.int .i64 0) fun t55 =>
      stW Try.prog 3 t55 (.int .i64 99) w fun w =>
      binQ Try.prog w .add 3 true t10 (.int .i64 1) fun t50 =>
      next_2 t50 w
    ) (
      binQ Try.prog w .add 3 true t7 (.int .i64 1) fun t29 =>
      next t29 w
    )

def S14L0 (t0 t1 t24 t25 : Value) (R : Ending → World → Prop) (w : World) : Prop :=
  Loop1 (.int .i64 0) w fun _ t7 w next =>
    binQ Try.prog w .lss 3 true t7 (.int .i64 2) fun t27 =>
    condW t27 (
      callW Try.prog (.func (.func 49) #[] #[]) [t0, t1] w fun t33 w =>
      exQ t33 0 fun t34 =>
      exQ t33 1 fun t35 =>
      binQ Try.prog w .neq 26 false t35 t25 fun t38 =>
      gd t38 false (fun k => k t34 w) w fun t40 w =>
      gd t38 false (fun k => k t24 w) w fun t41 w =>
      gd t38 false (fun k => callW Try.prog (.func (.func 29) #[] #[]) [t40, t41] w k) w fun t42 w =>
      gd t38 false (fun k => unQ .not t42 fun v => k v w) w fun t43 w =>
      pickQ t38 (.bool true) t43 fun t44 =>
      condW t44 (
        R (.returned (.bool false)) w
      ) (
        S14L1 t7 t34 next w
      )
    ) (
      callW Try.prog (.func (.func 18) #[] #[]) [] w fun t56 w =>
      R (.returned t56) w
    )

def S14 (t0 t1 : Value) (w : World) (R : Ending → World → Prop) : Prop :=
  ln1 t0 fun t12 =>
  binQ Try.prog w .gtr 3 true t12 (.int .i64 40) fun t13 =>
  gd t13 false (fun k => k t1 w) w fun t15 w =>
  gd t13 false (fun k => ln1 t15 fun v => k v w) w fun t16 w =>
  gd t13 false (fun k => binQ Try.prog w .gtr 3 true t16 (.int .i64 20) fun v => k v w) w fun t17 w =>
  pickQ t13 (.bool true) t17 fun t18 =>
  condW t18 (
    callW Try.prog (.func (.func 18) #[] #[]) [] w fun t19 w =>
    R (.returned t19) w
  ) (
    callW Try.prog (.func (.func 48) #[] #[]) [t0, t1] w fun t23 w =>
    exQ t23 0 fun t24 =>
    exQ t23 1 fun t25 =>
    S14L0 t0 t1 t24 t25 R w
  )

def A14 : Ann where
  live := fun
    | 0 => [7]
    | 2 => [10]
    | _ => []
  wr := fun
    | 0 => fun i => Nat.beq i 4 || (Nat.ble 7 i && Nat.ble i 10) || (Nat.ble 26 i && Nat.ble i 55)
    | 2 => fun i => Nat.beq i 10 || (Nat.ble 45 i && Nat.ble i 55)
    | _ => fun _ => false
  sched := fun _ => .done

set_option maxRecDepth 100000 in
theorem ok14 : (codeOk Try.f14.ntmps A14 (Try.f14.body.getD .skip) 0 && Nat.ble 2 Try.f14.ntmps) = true := by kernel_rfl
set_option maxRecDepth 100000 in
theorem lift14 {t0 t1 : Value} {w : World} {R : Ending → World → Prop} (h : S14 t0 t1 w R) : Calls Try.prog 14 #[t0, t1] w R :=
  calls_of_cw (fn := Try.f14) (c := Try.f14.body.getD .skip) A14 mixes Try.func14 (by kernel_rfl) ok14
    ((by kernel_rfl : (S14 t0 t1 w R) = cw Try.prog A14 (Try.f14.body.getD .skip) 0 (bodyQ Try.prog Try.f14 R) (frOf #[t0, t1]) w).mp h)

def S29L0 (t0 t1 : Value) (R : Ending → World → Prop) (w : World) : Prop :=
  Loop1 (.int .i64 0) w fun _ t5 w next =>
    ln1 t0 fun t13 =>
    binQ Try.prog w .lss 3 false t5 t13 fun t14 =>
    condW t14 (
      Drew w fun w =>
      iaS 1 t0 t5 fun t19 =>
      ld1 w t19 fun t20 =>
      iaS 1 t1 t5 fun t23 =>
      ld1 w t23 fun t24 =>
      callW Try.prog (.func (.func 43) #[] #[]) [t20, t24] w fun t25 w =>
      unQ .not t25 fun t26 =>
      condW t26 (
        R (.returned (.bool false)) w
      ) (
        binQ Try.prog w .add 3 true t5 (.int .i64 1) fun t16 =>
        next t16 w
      )
    ) (
      R (.returned (.bool true)) w
    )

def S29 (t0 t1 : Value) (w : World) (R : Ending → World → Prop) : Prop :=
  ln1 t0 fun t7 =>
  ln1 t1 fun t9 =>
  binQ Try.prog w .neq 3 false t7 t9 fun t10 =>
  condW t10 (
    R (.returned (.bool false)) w
  ) (
    S29L0 t0 t1 R w
  )

def A29 : Ann where
  live := fun
    | 0 => [5]
    | _ => []
  wr := fun
    | 0 => fun i => (Nat.ble 4 i && Nat.ble i 5) || (Nat.ble 11 i && Nat.ble i 26)
    | _ => fun _ => false
  sched := fun
    | 6 => (.take 0 (.take 1 (.take 2 (.take 3 (.take 4 (.take 5 (.take 6 (.take 7 (.bar 8 (.take 9 .done))))))))))
    | _ => .done

set_option maxRecDepth 100000 in
theorem ok29 : (codeOk Try.f29.ntmps A29 (Try.f29.body.getD .skip) 0 && Nat.ble 2 Try.f29.ntmps) = true := by kernel_rfl
set_option maxRecDepth 100000 in
theorem lift29 {t0 t1 : Value} {w : World} {R : Ending → World → Prop} (h : S29 t0 t1 w R) : Calls Try.prog 29 #[t0, t1] w R :=
  calls_of_cw (fn := Try.f29) (c := Try.f29.body.getD .skip) A29 mixes Try.func29 (by kernel_rfl) ok29
    ((by kernel_rfl : (S29 t0 t1 w R) = cw Try.prog A29 (Try.f29.body.getD .skip) 0 (bodyQ Try.prog Try.f29 R) (frOf #[t0, t1]) w).mp h)

theorem fok49 : fnOk Try.prog 49 = true := by kernel_rfl
theorem fok96 : fnOk Try.prog 96 = true := by kernel_rfl
theorem fok98 : fnOk Try.prog 98 = true := by kernel_rfl
theorem fok14 : fnOk Try.prog 14 = true := by kernel_rfl
theorem fok29 : fnOk Try.prog 29 = true := by kernel_rfl
end Go.Proofs.Ytgalbokmgffhkaa
