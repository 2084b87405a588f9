/- Texts of my own, merged by program: In J8 Sl. -/
import Derived.Test.YtgalbokmgffhkaaM12
import Derived.Test.YtgalbokmgffhkaaM09
import Derived.Test.YtgalbokmgffhkaaM11
import Derived.Test.YtgalbokmgffhkaaM13
import Derived.Test.YtgalbokmgffhkaaM03
set_option linter.all false
/- No lists. -/
namespace Go.Proofs.Ytgalbokmgffhkaa
open Go.Lf Go.RowKit Go.Wg

theorem IRows.nil {base : Nat} {w : World} : IRows base w nilS [] := ⟨[], RecAt.nil, rfl, by simp⟩

end Go.Proofs.Ytgalbokmgffhkaa

/- Contract: Fill of the program. -/
namespace Go.Proofs.Ytgalbokmgffhkaa
open Go.Lf Go.RowKit Go.Wg

theorem r_slAat {b o : Nat} {K : Value → Prop} : ∀ (n : Nat), n ≤ 4 → slA 4 1 (.pointer (some ⟨b, o, none⟩)) none (some (.int .i64 (n : Int))) K = K (.slice (some ⟨b, o, none⟩) n 4)
  | 0, _ => by kernel_rfl
  | 1, _ => by kernel_rfl
  | 2, _ => by kernel_rfl
  | 3, _ => by kernel_rfl
  | 4, _ => by kernel_rfl
  | n + 5, h => by omega

set_option maxRecDepth 100000 in
/-- slices.IndexFunc at lines. -/
theorem indexL_calls {v fv : Value} {L : List Line} (p : Line → Bool) (w : World) (hr : RdL w v L) (hl : L.length ≤ 1000000)
    (hc : ∀ x ∈ L, ∀ (w' : World) (K : Value → World → Prop), Kp w w' → (∀ w'', Kp w' w'' → K (.bool (p x)) w'') → callW Try.prog fv [lnV x] w' K) :
    Calls Try.prog 77 #[v, fv] w fun e w' => Kp w w' ∧ ((L.find? p = none ∧ e = .returned (.int .i64 (-1))) ∨ ∃ (i : Nat) (x : Line), L[i]? = some x ∧ L.find? p = some x ∧ e = .returned (.int .i64 i)) := by
  have hr' := hr
  obtain ⟨a, cap, rfl, hcap⟩ := hr.len
  refine lift77 ?_
  unfold S77
  simp only [r_ln]
  unfold S77L0
  refine ⟨fun t8 wr => ∃ i : Nat, i ≤ L.length ∧ t8 = .int .i64 i ∧ (∀ x ∈ L.take i, p x = false) ∧ Kp w wr, fun t8 _ => L.length - (intOf t8).toNat, ⟨0, by omega, rfl, by simp, Kp.refl _⟩, ?_⟩
  rintro _ _ wr ⟨i, hi, rfl, hn, kr⟩
  by_cases hlt : i < L.length
  case neg =>
    have hlt' : ¬ (i : Int) < (L.length : Int) := by omega
    rw [List.take_of_length_le (by omega)] at hn
    simp (disch := omega) only [r_ln, r_pick, r_pickT, r_pickF, r_condT, r_condF, r_gdTT, r_gdFF, r_gdTF, r_gdFT, r_gqTT, r_gqFF, r_gqTF, r_gqFT, r_not, r_lss, r_leq, r_gtr, r_geq, r_eql, r_neq, r_add, r_sub, r_min2, r_max2, r_min3, r_max3, r_fa, r_iaS, r_iaA, r_ex2a, r_ex2b, r_ex3a, r_ex3b, r_ex3c, r_nc, r_keepE, Nat.zero_add, Nat.add_zero, Nat.mul_one, Int.toNat_natCast, toNat_sub1, toNat_add1, decide_true, decide_false, Bool.not_true, Bool.not_false, if_true, if_false, Bool.false_eq_true, reduceCtorEq, hlt']
    refine ⟨kr, .inl ⟨?_, by first | rfl | trivial⟩⟩
    rw [List.find?_eq_none]
    intro x hx h
    rw [hn x hx] at h
    cases h
  have hlt' : (i : Int) < (L.length : Int) := by omega
  obtain ⟨x, hx⟩ : ∃ x, L[i]? = some x := ⟨_, List.getElem?_eq_getElem hlt⟩
  obtain ⟨b, off, _, e, _, hld⟩ := RdL.line (hr'.kp kr) hx
  cases e
  have hii : (i : Int).toNat = i := by omega
  simp (disch := omega) only [r_ln, r_pick, r_pickT, r_pickF, r_condT, r_condF, r_gdTT, r_gdFF, r_gdTF, r_gdFT, r_gqTT, r_gqFF, r_gqTF, r_gqFT, r_not, r_lss, r_leq, r_gtr, r_geq, r_eql, r_neq, r_add, r_sub, r_min2, r_max2, r_min3, r_max3, r_fa, r_iaS, r_iaA, r_ex2a, r_ex2b, r_ex3a, r_ex3b, r_ex3c, r_nc, r_keepE, Nat.zero_add, Nat.add_zero, Nat.mul_one, Int.toNat_natCast, toNat_sub1, toNat_add1, decide_true, decide_false, Bool.not_true, Bool.not_false, if_true, if_false, Bool.false_eq_true, reduceCtorEq, decide_eq_true hlt', hii, hld]
  refine hc x (List.mem_of_getElem? hx) wr _ kr fun w2 k2 => ?_
  have hxe : L[i] = x := (List.getElem?_eq_some_iff.1 hx).2
  cases hp : p x with
  | true =>
    simp (disch := omega) only [r_ln, r_pick, r_pickT, r_pickF, r_condT, r_condF, r_gdTT, r_gdFF, r_gdTF, r_gdFT, r_gqTT, r_gqFF, r_gqTF, r_gqFT, r_not, r_lss, r_leq, r_gtr, r_geq, r_eql, r_neq, r_add, r_sub, r_min2, r_max2, r_min3, r_max3, r_fa, r_iaS, r_iaA, r_ex2a, r_ex2b, r_ex3a, r_ex3b, r_ex3c, r_nc, r_keepE, Nat.zero_add, Nat.add_zero, Nat.mul_one, Int.toNat_natCast, toNat_sub1, toNat_add1, decide_true, decide_false, Bool.not_true, Bool.not_false, if_true, if_false, Bool.false_eq_true, reduceCtorEq]
    refine ⟨Kp.trans kr k2, .inr ⟨i, x, hx, ?_, by first | rfl | trivial⟩⟩
    have hsplit : L = L.take i ++ x :: L.drop (i + 1) := by
      rw [← hxe, ← List.drop_eq_getElem_cons hlt, List.take_append_drop]
    rw [hsplit, List.find?_append, List.find?_cons, hp]
    have : (L.take i).find? p = none := by
      rw [List.find?_eq_none]
      intro y hy h
      rw [hn y hy] at h
      cases h
    rw [this]; rfl
  | false =>
    simp (disch := omega) only [r_ln, r_pick, r_pickT, r_pickF, r_condT, r_condF, r_gdTT, r_gdFF, r_gdTF, r_gdFT, r_gqTT, r_gqFF, r_gqTF, r_gqFT, r_not, r_lss, r_leq, r_gtr, r_geq, r_eql, r_neq, r_add, r_sub, r_min2, r_max2, r_min3, r_max3, r_fa, r_iaS, r_iaA, r_ex2a, r_ex2b, r_ex3a, r_ex3b, r_ex3c, r_nc, r_keepE, Nat.zero_add, Nat.add_zero, Nat.mul_one, Int.toNat_natCast, toNat_sub1, toNat_add1, decide_true, decide_false, Bool.not_true, Bool.not_false, if_true, if_false, Bool.false_eq_true, reduceCtorEq]
    refine ⟨⟨i + 1, by omega, by go_num, fun y hy => ?_, Kp.trans kr k2⟩, by simp only [intOf]; omega⟩
    rw [List.take_add_one, hx] at hy
    rcases List.mem_append.1 hy with h | h
    · exact hn y h
    · simp at h
      rw [h]; exact hp

/-- What a row must be, by its record. -/
def lineP (L : List Line) (k : Nat) (ab : Int) (x : Line) : Bool := (decide (ab < 0) || decide (x.2.1 = ab)) && decide (0 < Gk L k x.2.2.1)

set_option maxRecDepth 100000 in
/-- The test of Fill. -/
theorem fillT_call {L : List Line} {N H k b10 b12 b13 base : Nat} {ab : Int} {av : Value} (w : World) (hL : LnOk N L) (hA : BRows base w av ((List.range (H + 1)).map (alvL L N))) (hk : k ≤ H) (hH : H ≤ 100) (h10 : w.heap[b10]? = some (.cells #[av] 88 (0, 0))) (h12 : w.heap[b12]? = some (.cells #[.int .i64 ab] 3 (0, 0))) (h13 : w.heap[b13]? = some (.cells #[.int .i64 k] 3 (0, 0)))
    (x : Line) (hx : x ∈ L) (w' : World) (K : Value → World → Prop) (hkp : Kp w w') (hK : ∀ w'', Kp w' w'' → K (.bool (lineP L k ab x)) w'') :
    callW Try.prog (.func (.func 78) #[] #[.pointer (some ⟨b12, 0, none⟩), .pointer (some ⟨b10, 0, none⟩), .pointer (some ⟨b13, 0, none⟩)]) [lnV x] w' K := by
  have hc : Calls Try.prog 78 #[lnV x, .pointer (some ⟨b12, 0, none⟩), .pointer (some ⟨b10, 0, none⟩), .pointer (some ⟨b13, 0, none⟩)] w' fun r w'' => r = .returned (.bool (lineP L k ab x)) ∧ Kp w' w'' := by
    refine lift78 ?_
    unfold S78
    refine r_box fun b4 w1 e4 s4 h4 k4 => ?_
    refine r_drew fun w2 k2 _ => ?_
    have k42 := Kp.trans k4 k2
    have h4' := block_below h4 k2
    have kw := Kp.trans hkp k42
    have cab : w2.cell? ⟨b12, 0, none⟩ = some (.int .i64 ab) := by rw [cell_row (block_below h12 kw)]; rfl
    have ca : w2.cell? ⟨b10, 0, none⟩ = some av := by rw [cell_row (block_below h10 kw)]; rfl
    have ck : w2.cell? ⟨b13, 0, none⟩ = some (.int .i64 k) := by rw [cell_row (block_below h13 kw)]; rfl
    have c4 : w2.cell? ⟨b4, 4, none⟩ = some (.int .i64 x.2.1) := by rw [cell_row h4']; rfl
    have c5 : w2.cell? ⟨b4, 5, none⟩ = some (.int .i64 x.2.2.1) := by rw [cell_row h4']; rfl
    have hxl := hL x hx
    obtain ⟨ob, oo, oc, u, eo, ocell, hu⟩ := (hA.kp kw).row (i := k) (r := alvL L N k) (by rw [List.getElem?_map, List.getElem?_range (by omega)]; rfl)
    have hal := alvL_len L N k
    obtain ⟨g, cap, eu, _, gc, _, _⟩ := BoolsAt.put hu (q := x.2.2.1.toNat) (by omega) true
    rw [alv_pos hL k x.2.2.1.toNat (by omega), show ((x.2.2.1.toNat : Nat) : Int) = x.2.2.1 by omega] at gc
    have hrl : ((List.range (H + 1)).map (alvL L N)).length = H + 1 := by simp
    rw [hrl] at eo
    have hkk : (k : Int).toNat = k := by omega
    have fin : ∀ b : Bool, b = lineP L k ab x → Ending.returned (.bool b) = .returned (.bool (lineP L k ab x)) ∧ Kp w' w2 := fun b hb => ⟨by rw [hb], k42⟩
    rw [eo] at ca
    rw [eu] at ocell
    by_cases g1 : ab < 0
    · simp (disch := omega) only [r_ln, r_pick, r_pickT, r_pickF, r_condT, r_condF, r_gdTT, r_gdFF, r_gdTF, r_gdFT, r_gqTT, r_gqFF, r_gqTF, r_gqFT, r_not, r_lss, r_leq, r_gtr, r_geq, r_eql, r_neq, r_add, r_sub, r_min2, r_max2, r_min3, r_max3, r_fa, r_iaS, r_iaA, r_ex2a, r_ex2b, r_ex3a, r_ex3b, r_ex3c, r_nc, r_keepE, Nat.zero_add, Nat.add_zero, Nat.mul_one, Int.toNat_natCast, toNat_sub1, toNat_add1, decide_true, decide_false, Bool.not_true, Bool.not_false, if_true, if_false, Bool.false_eq_true, reduceCtorEq, r_ld cab, decide_eq_true g1, r_gqU, r_ld ca, r_ld ck, hkk, r_ld ocell, r_ld c5, r_ld gc]
      exact fin _ (by rw [lineP, decide_eq_true g1, Bool.true_or, Bool.true_and])
    by_cases g2 : x.2.1 = ab
    · simp (disch := omega) only [r_ln, r_pick, r_pickT, r_pickF, r_condT, r_condF, r_gdTT, r_gdFF, r_gdTF, r_gdFT, r_gqTT, r_gqFF, r_gqTF, r_gqFT, r_not, r_lss, r_leq, r_gtr, r_geq, r_eql, r_neq, r_add, r_sub, r_min2, r_max2, r_min3, r_max3, r_fa, r_iaS, r_iaA, r_ex2a, r_ex2b, r_ex3a, r_ex3b, r_ex3c, r_nc, r_keepE, Nat.zero_add, Nat.add_zero, Nat.mul_one, Int.toNat_natCast, toNat_sub1, toNat_add1, decide_true, decide_false, Bool.not_true, Bool.not_false, if_true, if_false, Bool.false_eq_true, reduceCtorEq, r_ld cab, g1, r_ld c4, decide_eq_true g2, r_gqU, r_ld ca, r_ld ck, hkk, r_ld ocell, r_ld c5, r_ld gc]
      exact fin _ (by rw [lineP, decide_eq_true g2, Bool.or_true, Bool.true_and])
    · simp (disch := omega) only [r_ln, r_pick, r_pickT, r_pickF, r_condT, r_condF, r_gdTT, r_gdFF, r_gdTF, r_gdFT, r_gqTT, r_gqFF, r_gqTF, r_gqFT, r_not, r_lss, r_leq, r_gtr, r_geq, r_eql, r_neq, r_add, r_sub, r_min2, r_max2, r_min3, r_max3, r_fa, r_iaS, r_iaA, r_ex2a, r_ex2b, r_ex3a, r_ex3b, r_ex3c, r_nc, r_keepE, Nat.zero_add, Nat.add_zero, Nat.mul_one, Int.toNat_natCast, toNat_sub1, toNat_add1, decide_true, decide_false, Bool.not_true, Bool.not_false, if_true, if_false, Bool.false_eq_true, reduceCtorEq, r_ld cab, g1, r_ld c4, g2, r_gqU]
      exact fin _ (by rw [lineP, decide_eq_false g1, decide_eq_false g2]; rfl)
  refine r_use fok78 hc rfl ?_
  rintro _ w2 ⟨rfl, k2⟩
  exact ⟨_, rfl, hK w2 k2⟩

def ptrN (w : World) (v : Value) : Nat := match v with
  | .pointer (some a) => match w.cell? a with
    | some u => (intOf u + 1).toNat
    | none => 0
  | _ => 0
/-- What Fill returns. -/
def FillPost (l : List Tile) (a b : Int) (base : Nat) (w' : World) (e : Ending) : Prop :=
  (ordErr l a b ≠ 0 ∧ e = .returned (.tuple #[nilS, .int .i64 2])) ∨
  (ordErr l a b = 0 ∧ fillM l a.toNat b.toNat (-1) = none ∧ e = .returned (.tuple #[nilS, .int .i64 10])) ∨
  (ordErr l a b = 0 ∧ ∃ v B, e = .returned (.tuple #[v, .int .i64 0]) ∧ fillM l a.toNat b.toNat (-1) = some B ∧ IRows base w' v (B.map intsR))

theorem find_lines {l : List Tile} {w k : Nat} {ab : Int} : (linesL l w).find? (lineP (linesL l w) k ab) = ((rowsL l w).find? (rowP l w k ab)).map (lineOf l) := by
  unfold linesL
  rw [List.find?_map]
  congr 1
  refine find_congr fun r hr => ?_
  show lineP _ k ab (lineOf l r) = _
  unfold lineP rowP
  rw [Bk_eq]
  rfl

theorem pad_ints {l : List Tile} {r : List Nat} {w : World} {lb o cap : Nat} {W : Nat} (hr : r.length = W) (hW : W ≤ 4) (hc : ∀ j u, (lnC (lineOf l r))[j]? = some u → w.cell? ⟨lb, o + j, none⟩ = some u) : RdInts w (.slice (some ⟨lb, o, none⟩) W 4) (intsR r) := by
  have hl : (intsR r).length = W := by simp [intsR, hr]
  refine ⟨some ⟨lb, o, none⟩, 4, by rw [hl], ⟨by omega, by omega⟩, fun _ => ⟨lb, o, rfl, fun i hi => ?_⟩⟩
  have hi4 : i < 4 := by omega
  have hir : i < r.length := by omega
  have e : (intsR r).getD i 0 = (pad4 r).getD i 0 := by
    rw [pad4_at r hi4, getD_lt _ _ _ (by omega)]
    simp [intsR, List.getD_eq_getElem?_getD, hir]
  rw [e]
  match i, hi4 with
  | 0, _ => exact hc 0 _ rfl
  | 1, _ => exact hc 1 _ rfl
  | 2, _ => exact hc 2 _ rfl
  | 3, _ => exact hc 3 _ rfl

set_option maxRecDepth 100000 in
set_option maxHeartbeats 1000000 in
theorem r27_0 {l : List Tile} {W H b10 b12 b13 base : Nat} {av lv : Value} {w0 w : World} {K : Ending → World → Prop} (hs : IsSet l) (hW : 1 ≤ W ∧ W ≤ 4) (hH : 1 ≤ H ∧ H ≤ 4)
    (hA : BRows base w0 av ((List.range (H + 1)).map (alvL (linesL l W) (8 ^ W)))) (hLv : RdL w0 lv (linesL l W)) (h10 : w.heap[b10]? = some (.cells #[av] 88 (0, 0))) (h12 : w.heap[b12]? = some (.cells #[.int .i64 (-1)] 3 (0, 0))) (h13 : w.heap[b13]? = some (.cells #[.int .i64 ((H : Int) - 1)] 3 (0, 0))) (hb12 : w0.heap.size ≤ b12) (hne : b12 ≠ b13) (hk : Kp w0 w)
    (hnone : ∀ w', Kp w0 w' → fillM l W H (-1) = none → K (.returned (.tuple #[nilS, .int .i64 10])) w')
    (hK : ∀ v B w', Kp w0 w' → fillM l W H (-1) = some B → IRows w0.heap.size w' v (B.map intsR) → K (.returned (.tuple #[v, .int .i64 0])) w') :
    S27L0 (.int .i64 W) (.pointer (some ⟨b10, 0, none⟩)) (.pointer (some ⟨b12, 0, none⟩)) (.pointer (some ⟨b13, 0, none⟩)) lv K w := by
  have hLo := lines_ok hs hW.2
  have hll := lines_len hs hW.2
  have sb10 := block_lt h10
  have sb12 := block_lt h12
  have sk := hk.size
  unfold S27L0
  refine ⟨fun t11 t13 wr => ∃ (i : Nat) (ab : Int) (D : List (List Nat)) (b13 : Nat), i ≤ H ∧ t13 = .pointer (some ⟨b13, 0, none⟩) ∧ wr.heap[b13]? = some (.cells #[.int .i64 ((H : Int) - i - 1)] 3 (0, 0)) ∧ b12 ≠ b13 ∧ wr.heap[b12]? = some (.cells #[.int .i64 ab] 3 (0, 0)) ∧ wr.heap[b10]? = some (.cells #[av] 88 (0, 0)) ∧
      IRows w.heap.size wr t11 (D.map intsR) ∧ D.length = i ∧ (fillM l W H (-1) = (fillM l W (H - i) ab).map (D ++ ·)) ∧ Kp w0 wr ∧ w.heap.size ≤ wr.heap.size, fun _ t13 wr => ptrN wr t13,
    ⟨0, -1, [], b13, by omega, rfl, by simpa using h13, hne, h12, h10, IRows.nil, rfl, by simp, hk, Nat.le_refl _⟩, ?_⟩
  rintro _ t11 _ wr ⟨i, ab, D, c13, hi, rfl, g13, gne, g12, g10, hO, hD, hF, kr, sz⟩
  have ck : wr.cell? ⟨c13, 0, none⟩ = some (.int .i64 ((H : Int) - i - 1)) := by rw [cell_row g13]; rfl
  by_cases hlt : i < H
  case neg =>
    have ei : i = H := by omega
    subst ei
    have hneg : ¬ (0 : Int) ≤ (i : Int) - i - 1 := by omega
    simp (disch := omega) only [r_ln, r_pick, r_pickT, r_pickF, r_condT, r_condF, r_gdTT, r_gdFF, r_gdTF, r_gdFT, r_gqTT, r_gqFF, r_gqTF, r_gqFT, r_not, r_lss, r_leq, r_gtr, r_geq, r_eql, r_neq, r_add, r_sub, r_min2, r_max2, r_min3, r_max3, r_fa, r_iaS, r_iaA, r_ex2a, r_ex2b, r_ex3a, r_ex3b, r_ex3c, r_nc, r_keepE, Nat.zero_add, Nat.add_zero, Nat.mul_one, Int.toNat_natCast, toNat_sub1, toNat_add1, decide_true, decide_false, Bool.not_true, Bool.not_false, if_true, if_false, Bool.false_eq_true, reduceCtorEq, r_ld ck, hneg]
    rw [Nat.sub_self] at hF
    refine hK _ D wr kr (by rw [hF]; simp [fillM]) ?_
    exact hO.down sk
  obtain ⟨k, hkH⟩ : ∃ k, H - i = k + 1 := ⟨H - i - 1, by omega⟩
  have ekk : (H : Int) - i - 1 = (k : Int) := by omega
  rw [ekk] at g13 ck
  rw [hkH, fillM] at hF
  have hpos : (0 : Int) ≤ (k : Int) := by omega
  simp (disch := omega) only [r_ln, r_pick, r_pickT, r_pickF, r_condT, r_condF, r_gdTT, r_gdFF, r_gdTF, r_gdFT, r_gqTT, r_gqFF, r_gqTF, r_gqFT, r_not, r_lss, r_leq, r_gtr, r_geq, r_eql, r_neq, r_add, r_sub, r_min2, r_max2, r_min3, r_max3, r_fa, r_iaS, r_iaA, r_ex2a, r_ex2b, r_ex3a, r_ex3b, r_ex3c, r_nc, r_keepE, Nat.zero_add, Nat.add_zero, Nat.mul_one, Int.toNat_natCast, toNat_sub1, toNat_add1, decide_true, decide_false, Bool.not_true, Bool.not_false, if_true, if_false, Bool.false_eq_true, reduceCtorEq, r_ld ck, decide_eq_true hpos]
  refine r_use fok77 (indexL_calls (lineP (linesL l W) k ab) wr (hLv.kp kr) (by omega) fun x hx w' K' hkk hK' => fillT_call (k := k) wr hLo (hA.kp kr) (by omega) (by omega) g10 g12 g13 x hx w' K' hkk hK') rfl ?_
  rintro e1 w2 ⟨k2, hpost⟩
  rw [find_lines] at hpost
  have kr2 := Kp.trans kr k2
  rcases hpost with ⟨hn, rfl⟩ | ⟨n, x, hx, hfx, rfl⟩
  · refine ⟨_, rfl, ?_⟩
    have hneg : decide ((-1 : Int) < 0) = true := by decide
    have hfn : (rowsL l W).find? (rowP l W k ab) = none := by
      cases hq : (rowsL l W).find? (rowP l W k ab) with
      | none => rfl
      | some r => rw [hq] at hn; cases hn
    rw [hfn] at hF
    simp (disch := omega) only [r_ln, r_pick, r_pickT, r_pickF, r_condT, r_condF, r_gdTT, r_gdFF, r_gdTF, r_gdFT, r_gqTT, r_gqFF, r_gqTF, r_gqFT, r_not, r_lss, r_leq, r_gtr, r_geq, r_eql, r_neq, r_add, r_sub, r_min2, r_max2, r_min3, r_max3, r_fa, r_iaS, r_iaA, r_ex2a, r_ex2b, r_ex3a, r_ex3b, r_ex3c, r_nc, r_keepE, Nat.zero_add, Nat.add_zero, Nat.mul_one, Int.toNat_natCast, toNat_sub1, toNat_add1, decide_true, decide_false, Bool.not_true, Bool.not_false, if_true, if_false, Bool.false_eq_true, reduceCtorEq, hneg]
    exact hnone _ kr2 hF
  refine ⟨_, rfl, ?_⟩
  obtain ⟨r, hfr, rfl⟩ : ∃ r, (rowsL l W).find? (rowP l W k ab) = some r ∧ x = lineOf l r := by
    cases hq : (rowsL l W).find? (rowP l W k ab) with
    | none => rw [hq] at hfx; cases hfx
    | some r => rw [hq] at hfx; cases hfx; exact ⟨r, rfl, rfl⟩
  rw [hfr] at hF
  dsimp only at hF
  have hrm := List.mem_of_find?_eq_some hfr
  obtain ⟨hrl, hnl, hsl, _⟩ := row_line hs hrm
  have hnlt : n < (linesL l W).length := (List.getElem?_eq_some_iff.1 hx).1
  have hneg : ¬ ((n : Int) < 0) := by omega
  simp (disch := omega) only [r_ln, r_pick, r_pickT, r_pickF, r_condT, r_condF, r_gdTT, r_gdFF, r_gdTF, r_gdFT, r_gqTT, r_gqFF, r_gqTF, r_gqFT, r_not, r_lss, r_leq, r_gtr, r_geq, r_eql, r_neq, r_add, r_sub, r_min2, r_max2, r_min3, r_max3, r_fa, r_iaS, r_iaA, r_ex2a, r_ex2b, r_ex3a, r_ex3b, r_ex3c, r_nc, r_keepE, Nat.zero_add, Nat.add_zero, Nat.mul_one, Int.toNat_natCast, toNat_sub1, toNat_add1, decide_true, decide_false, Bool.not_true, Bool.not_false, if_true, if_false, Bool.false_eq_true, reduceCtorEq, hneg]
  refine r_drew fun w3 k3 _ => ?_
  have kr3 := Kp.trans kr2 k3
  have k23 := Kp.trans k2 k3
  obtain ⟨lb, lo, lc, el, _, hcell⟩ := (hLv.kp kr3).at hx
  have hnn : (n : Int).toNat = n := by omega
  have ia : ∀ K : Value → Prop, iaS 7 lv (.int .i64 n) K = K (.pointer (some ⟨lb, lo + n * 7, none⟩)) := fun K => by rw [el, r_iaS _ _ _ _ _ _ _ (by omega) (by omega), hnn]
  have hlb : lb < w0.heap.size := by
    have := hLv.block (fun x => by rw [lnC_len]; omega) (b := lb) (off := lo) (n := (linesL l W).length) (cap := lc) el (by omega)
    exact this
  have sl : ∀ K : Value → Prop, slA 4 1 (.pointer (some ⟨lb, lo + n * 7, none⟩)) none (some (.int .i64 (W : Nat))) K = K (.slice (some ⟨lb, lo + n * 7, none⟩) W 4) := fun K => r_slAat W hW.2
  have hO3 := hO.kp k23
  have c5 : w3.cell? ⟨lb, lo + n * 7 + 5, none⟩ = some (.int .i64 (code (souths l r))) := hcell 5 _ rfl
  have hXlb : ¬ (fun q => w.heap.size ≤ q) lb := fun h => by have : w.heap.size ≤ lb := h; omega
  refine ⟨fun q => w.heap.size ≤ q, ?_⟩
  simp only [r_tx, ia, r_fa, Nat.add_zero, sl, r_txl (X := fun q => w.heap.size ≤ q) c5 hXlb]
  have hri := pad_ints (l := l) (W := W) (cap := lc) hrl hW.2 hcell
  have hil : (intsR r).length ≤ 1000000 := by simp [intsR]; omega
  have hli : (intsR r).length = W := by simp [intsR, hrl]
  refine r_use fok79 (clone_calls w3 hri hil) rfl ?_
  rintro _ w4 ⟨v4, rfl, o4, k4⟩
  obtain ⟨a4, c4, e4, _⟩ := o4.len
  refine ⟨_, rfl, BX.of_below k4, ?_⟩
  have hb34 : w.heap.size ≤ w3.heap.size := by have := k23.size; omega
  rw [e4]
  dsimp only
  rw [bs23]
  refine ⟨BX.of_below (below_alloc _), ?_⟩
  have k5 := below_alloc (w := w4) (.cells #[.slice a4 (intsR r).length c4] 30)
  have n5 := heap_alloc_new w4 (.cells #[.slice a4 (intsR r).length c4] 30)
  have o4' : IntsAt w3.heap.size w4 (.slice a4 (intsR r).length c4) (intsR r) := by rw [← e4]; exact o4
  generalize w4.alloc (.cells #[.slice a4 (intsR r).length c4] 30) = w5 at *
  have s34 := k4.size
  have s45 := k5.size
  have hO5 := (hO3.kp k4).kp k5
  refine r_pushRow2 hO5 ((o4'.kp k5).down hb34) (by rw [List.length_map]; omega) (by omega) n5 fun v6 w6 o6 ch6 _ => ?_
  obtain ⟨vs, p1, _, _⟩ := hO5
  have chX : Chg (fun q => w.heap.size ≤ q) w5 w6 := ch6.mono fun q _ hq => (p1.lt hq).1
  refine ⟨BX.of_chg chX, ?_⟩
  have k35 := Kp.trans k4 k5
  have k06 : Kp w0 w6 := Kp.of_chg (Kp.trans kr3 k35) chX fun q hq => by omega
  have krx : Kp wr w5 := Kp.trans k23 k35
  have s56 := chX.size
  -- above
  have g12' : w6.heap[b12]? = some (.cells #[.int .i64 ab] 3 (0, 0)) := chX.at (block_below g12 krx) (by omega)
  have g10' : w6.heap[b10]? = some (.cells #[av] 88 (0, 0)) := chX.at (block_below g10 krx) (by omega)
  have sb13 := block_lt g13
  have g13' : w6.heap[c13]? = some (.cells #[.int .i64 (k : Int)] 3 (0, 0)) := by
    have h5 := block_below g13 krx
    refine ch6.at h5 fun hq => ?_
    obtain ⟨cur, hc⟩ := own_type p1 hq
    rw [h5] at hc
    injection hc with hc
    injection hc with _ hc _
    exact absurd hc (by decide)
  have cb12 : w6.cell? ⟨b12, 0, none⟩ = some (.int .i64 ab) := by rw [cell_row g12']; rfl
  simp only [r_tx]
  rw [st3 cb12 (frozen_row g12')]
  have ch7 : Chg (fun q => q = b12) w6 (w6.setCell ⟨b12, 0, none⟩ (.int .i64 (code (souths l r)))) := Chg.setCell _ _ rfl
  have g12n := setCell_block (o := 0) (v := .int .i64 (code (souths l r))) g12' rfl
  generalize w6.setCell ⟨b12, 0, none⟩ (.int .i64 (code (souths l r))) = w7 at *
  have g13n := ch7.at g13' (fun e => gne e.symm)
  have s67 := ch7.size
  have g10n : w7.heap[b10]? = some (.cells #[av] 88 (0, 0)) := ch7.at g10' fun e => by
    subst e
    rw [g10'] at g12'
    injection g12' with h
    injection h with _ h _
    exact absurd h (by decide)
  have o7 : IRows w.heap.size w7 v6 (D.map intsR ++ [intsR r]) := o6.chg ch7 fun q hq _ e => by omega
  have k07 : Kp w0 w7 := Kp.of_chg k06 ch7 fun q hq => by omega
  have ck7 : w7.cell? ⟨c13, 0, none⟩ = some (.int .i64 (k : Int)) := by rw [cell_row g13n]; rfl
  rw [r_ld ck7]
  refine r_box fun b8 w8 e8 s8 h8 k8 => ?_
  refine r_stAll (n := 1) (ty := 3) (cs := #[.int .i64 0]) (by kernel_rfl) rfl (by intro u hu; simp [Value.cells] at hu; subst hu; rfl) h8 rfl fun w9 c9 s9 h9 => ?_
  have k79 : Kp w7 w9 := Kp.of_chg k8 c9 fun q hq => by omega
  have h9' : w9.heap[b8]? = some (.cells #[.int .i64 (k : Int)] 3 (0, 0)) := h9
  have ck9 : w9.cell? ⟨b8, 0, none⟩ = some (.int .i64 (k : Int)) := by rw [cell_row h9']; rfl
  rw [r_ld ck9, r_sub _ _ (by omega) (by omega), st3 ck9 (frozen_row h9')]
  have ch10 : Chg (fun q => q = b8) w9 (w9.setCell ⟨b8, 0, none⟩ (.int .i64 ((k : Int) - 1))) := Chg.setCell _ _ rfl
  have g8 := setCell_block (o := 0) (v := .int .i64 ((k : Int) - 1)) h9' rfl
  generalize w9.setCell ⟨b8, 0, none⟩ (.int .i64 ((k : Int) - 1)) = w10 at *
  have k710 : Kp w7 w10 := Kp.of_chg k79 ch10 fun q hq => by omega
  have g8' : w10.heap[b8]? = some (.cells #[.int .i64 ((k : Int) - 1)] 3 (0, 0)) := g8
  have sz7 := k710.size
  refine ⟨⟨i + 1, code (souths l r), D ++ [r], b8, by omega, rfl, ?_, by omega, ?_, block_below g10n k710, ?_, by simp [hD], ?_, Kp.trans k07 k710, by omega⟩, ?_⟩
  · rw [g8']
    have : (H : Int) - ((i + 1 : Nat) : Int) - 1 = (k : Int) - 1 := by omega
    rw [this]
  · have := block_below g12n k710
    rw [this]; rfl
  · rw [List.map_append]; exact o7.kp k710
  · rw [hF, show H - (i + 1) = k by omega]
    cases fillM l W k (code (souths l r)) <;> simp
  · have e1 : ptrN w10 (.pointer (some ⟨b8, 0, none⟩)) = k := by
      have : w10.cell? ⟨b8, 0, none⟩ = some (.int .i64 ((k : Int) - 1)) := by rw [cell_row g8']; rfl
      simp only [ptrN, this, intOf]; omega
    have e2 : ptrN wr (.pointer (some ⟨c13, 0, none⟩)) = k + 1 := by
      simp only [ptrN, ck, intOf]; omega
    rw [e1, e2]; omega

set_option maxRecDepth 100000 in
theorem fill_calls {v : Value} {l : List Tile} (a b : Int) (w : World) (hr : RdT w v l) : Calls Try.prog 27 #[v, .int .i64 a, .int .i64 b] w fun e w' => Kp w w' ∧ FillPost l a b w.heap.size w' e := by
  refine lift27 ?_
  unfold S27
  refine r_use fok53 (board_calls a b w hr) rfl ?_
  rintro _ w1 ⟨rfl, k1⟩
  refine ⟨_, rfl, ?_⟩
  have h20 : ¬ ((2 : Int) = 0) := by decide
  rcases ordErr_cases l a b with he | he
  rotate_left
  · rw [he]
    simp (disch := omega) only [r_ln, r_pick, r_pickT, r_pickF, r_condT, r_condF, r_gdTT, r_gdFF, r_gdTF, r_gdFT, r_gqTT, r_gqFF, r_gqTF, r_gqFT, r_not, r_lss, r_leq, r_gtr, r_geq, r_eql, r_neq, r_add, r_sub, r_min2, r_max2, r_min3, r_max3, r_fa, r_iaS, r_iaA, r_ex2a, r_ex2b, r_ex3a, r_ex3b, r_ex3c, r_nc, r_keepE, Nat.zero_add, Nat.add_zero, Nat.mul_one, Int.toNat_natCast, toNat_sub1, toNat_add1, decide_true, decide_false, Bool.not_true, Bool.not_false, if_true, if_false, Bool.false_eq_true, reduceCtorEq, h20]
    exact ⟨k1, .inl ⟨by omega, rfl⟩⟩
  obtain ⟨hs, W, H, rfl, rfl, hW, hH⟩ := ord_ok he
  rw [he]
  simp (disch := omega) only [r_ln, r_pick, r_pickT, r_pickF, r_condT, r_condF, r_gdTT, r_gdFF, r_gdTF, r_gdFT, r_gqTT, r_gqFF, r_gqTF, r_gqFT, r_not, r_lss, r_leq, r_gtr, r_geq, r_eql, r_neq, r_add, r_sub, r_min2, r_max2, r_min3, r_max3, r_fa, r_iaS, r_iaA, r_ex2a, r_ex2b, r_ex3a, r_ex3b, r_ex3c, r_nc, r_keepE, Nat.zero_add, Nat.add_zero, Nat.mul_one, Int.toNat_natCast, toNat_sub1, toNat_add1, decide_true, decide_false, Bool.not_true, Bool.not_false, if_true, if_false, Bool.false_eq_true, reduceCtorEq, decide_eq_true (rfl : (0 : Int) = 0)]
  refine r_use fok59 (rows_calls hs hW w1 (hr.kp k1)) rfl ?_
  rintro _ w2 ⟨lv, rfl, k2, hL⟩
  refine ⟨_, rfl, ?_⟩
  change LnAt _ _ _ (linesL l W) at hL
  have hlo := lines_ok hs hW.2
  have hll := lines_len hs hW.2
  have hrdL := hL.rd lnC_len
  refine r_use fok76 (alive_calls (h := H) w2 hW (by omega) hrdL hlo (by omega)) rfl ?_
  rintro _ w3 ⟨av, rfl, k3, hA⟩
  refine ⟨_, rfl, ?_⟩
  have k03 := Kp.trans k1 (Kp.trans k2 k3)
  obtain ⟨aa, acap, ea, hac⟩ := hA.len
  have hav1 : av.cells.size = 1 ∧ (∀ u ∈ av.cells.toList, u.oneCell' = true) ∧ av.cells = #[av] := by
    rw [ea]
    exact ⟨rfl, fun u hu => by simp [Value.cells] at hu; subst hu; rfl, rfl⟩
  refine r_box fun b10 w4 e10 s10 h10 k4 => ?_
  refine r_stAll (n := 1) (ty := 88) (cs := #[nilS]) (by kernel_rfl) hav1.1 hav1.2.1 h10 rfl fun w5 c5 s5 h105 => ?_
  rw [hav1.2.2] at h105
  have k35 : Kp w3 w5 := Kp.of_chg k4 c5 fun i e => by omega
  refine r_box fun b12 w6 e12 s12 h12 k6 => ?_
  refine r_stAll (n := 1) (ty := 3) (cs := #[.int .i64 0]) (by kernel_rfl) rfl (by intro u hu; simp [Value.cells] at hu; subst hu; rfl) h12 rfl fun w7 c7 s7 h127 => ?_
  have k57 : Kp w5 w7 := Kp.of_chg k6 c7 fun i e => by omega
  have h127' : w7.heap[b12]? = some (.cells #[.int .i64 (-1)] 3 (0, 0)) := h127
  refine r_box fun b13 w8 e13 s13 h13 k8 => ?_
  refine r_stAll (n := 1) (ty := 3) (cs := #[.int .i64 0]) (by kernel_rfl) rfl (by intro u hu; simp [Value.cells] at hu; subst hu; rfl) h13 rfl fun w9 c9 s9 h139 => ?_
  have k79 : Kp w7 w9 := Kp.of_chg k8 c9 fun i e => by omega
  have h139' : w9.heap[b13]? = some (.cells #[.int .i64 ((H : Int) - 1)] 3 (0, 0)) := h139
  have sz5 := k35.size
  have hpost : ∀ {e : Ending} {w' : World}, Kp w3 w' → FillPost l W H w.heap.size w' e → Kp w w' ∧ FillPost l W H w.heap.size w' e := fun h1 h2 => ⟨Kp.trans k03 h1, h2⟩
  refine r27_0 (w0 := w3) hs hW hH hA (hrdL.kp k3) (block_below (block_below h105 k57) k79) (block_below h127' k79) h139' (by omega) (by omega) (Kp.trans k35 (Kp.trans k57 k79)) (fun w' kk hn => hpost kk (.inr (.inl ⟨he, by simpa using hn, rfl⟩))) fun v' B w' kk hB ho => hpost kk (.inr (.inr ⟨he, v', B, rfl, by simpa using hB, ho.down k03.size⟩))

end Go.Proofs.Ytgalbokmgffhkaa

/- Lifted texts, printed by program (gen.py): what each function's code asks. The ties are by the kernel. -/
namespace Go.Proofs.Ytgalbokmgffhkaa
open Go.Lf Go.RowKit

def S111L0 (t0 t1 t10 t15 : Value) (R : Ending → World → Prop) (w : World) : Prop :=
  Loop2 t10 t15 w fun _ t5 t6 w next =>
    ln1 t0 fun t18 =>
    binQ Try.prog w .lss 3 false t6 t18 fun t19 =>
    condW t19 (
      iaS 7 t0 t6 fun t24 =>
      ldN 7 w t24 fun t25 =>
      boxW 78 (.agg #[(.int .i64 0), (.int .i64 0), (.int .i64 0), (.int .i64 0), (.int .i64 0), (.int .i64 0), (.bool false)]) w fun t7 w =>
      stW Try.prog 78 t7 t25 w fun w =>
      ldN 7 w t7 fun t27 =>
      callW Try.prog t1 [t27] w fun t28 w =>
      unQ .not t28 fun t29 =>
      Join (fun (k_2 : Value → World → Prop) =>
        condW t29 (
          ldN 7 w t7 fun t32 =>
          iaS 7 t0 t5 fun t33 =>
          stW Try.prog 78 t33 t32 w fun w =>
          binQ Try.prog w .add 3 true t5 (.int .i64 1) fun t35 =>
          k_2 t35 w
        ) (
          k_2 t5 w
        )
      ) fun t5_2 w =>
      binQ Try.prog w .add 3 true t6 (.int .i64 1) fun t21_2 =>
      next t5_2 t21_2 w
    ) (
      slS 7 t0 (some t5) none fun t38 =>
      semW Try.prog (clS [73] 0 [t38]) w fun _ w =>
      slS 7 t0 none (some t5) fun t41 =>
      R (.returned t41) w
    )

def S111 (t0 t1 : Value) (w : World) (R : Ending → World → Prop) : Prop :=
  callW Try.prog (.func (.func 77) #[] #[]) [t0, t1] w fun t10 w =>
  binQ Try.prog w .eql 3 true t10 (.int .i64 (-1)) fun t12 =>
  condW t12 (
    R (.returned t0) w
  ) (
    binQ Try.prog w .add 3 true t10 (.int .i64 1) fun t15 =>
    S111L0 t0 t1 t10 t15 R w
  )

def A111 : Ann where
  live := fun
    | 0 => [5, 6]
    | _ => []
  wr := fun
    | 0 => fun i => (Nat.ble 5 i && Nat.ble i 7) || (Nat.ble 16 i && Nat.ble i 35)
    | _ => fun _ => false
  sched := fun _ => .done

set_option maxRecDepth 100000 in
theorem ok111 : (codeOk Try.f111.ntmps A111 (Try.f111.body.getD .skip) 0 && Nat.ble 2 Try.f111.ntmps) = true := by kernel_rfl
set_option maxRecDepth 100000 in
theorem lift111 {t0 t1 : Value} {w : World} {R : Ending → World → Prop} (h : S111 t0 t1 w R) : Calls Try.prog 111 #[t0, t1] w R :=
  calls_of_cw (fn := Try.f111) (c := Try.f111.body.getD .skip) A111 mixes Try.func111 (by kernel_rfl) ok111
    ((by kernel_rfl : (S111 t0 t1 w R) = cw Try.prog A111 (Try.f111.body.getD .skip) 0 (bodyQ Try.prog Try.f111 R) (frOf #[t0, t1]) w).mp h)

def S112 (t0 : Value) (w : World) (R : Ending → World → Prop) : Prop :=
  boxW 78 t0 w fun t1 w =>
  fa1 t1 6 fun t3 =>
  ld1 w t3 fun t4 =>
  unQ .not t4 fun t5 =>
  R (.returned t5) w

def A112 : Ann where
  live := fun _ => []
  wr := fun _ _ => false
  sched := fun _ => .done

set_option maxRecDepth 100000 in
theorem ok112 : (codeOk Try.f112.ntmps A112 (Try.f112.body.getD .skip) 0 && Nat.ble 1 Try.f112.ntmps) = true := by kernel_rfl
set_option maxRecDepth 100000 in
theorem lift112 {t0 : Value} {w : World} {R : Ending → World → Prop} (h : S112 t0 w R) : Calls Try.prog 112 #[t0] w R :=
  calls_of_cw (fn := Try.f112) (c := Try.f112.body.getD .skip) A112 mixes Try.func112 (by kernel_rfl) ok112
    ((by kernel_rfl : (S112 t0 w R) = cw Try.prog A112 (Try.f112.body.getD .skip) 0 (bodyQ Try.prog Try.f112 R) (frOf #[t0]) w).mp h)

def S33 (t0 t1 t2 : Value) (w : World) (R : Ending → World → Prop) : Prop :=
  callW Try.prog (.func (.func 53) #[] #[]) [t0, t1, t2] w fun t12 w =>
  binQ Try.prog w .neq 26 true t12 (.int .i64 0) fun t14 =>
  condW t14 (
    R (.returned (.tuple #[(.int .i64 0), t12])) w
  ) (
    callW Try.prog (.func (.func 86) #[] #[]) [t0, t1, t2] w fun t19 w =>
    callW Try.prog (.func (.func 74) #[] #[]) [t19] w fun t20 w =>
    exQ t20 0 fun t21 =>
    exQ t20 1 fun t22 =>
    R (.returned (.tuple #[t21, t22])) w
  )

def A33 : Ann where
  live := fun _ => []
  wr := fun _ _ => false
  sched := fun _ => .done

set_option maxRecDepth 100000 in
theorem ok33 : (codeOk Try.f33.ntmps A33 (Try.f33.body.getD .skip) 0 && Nat.ble 3 Try.f33.ntmps) = true := by kernel_rfl
set_option maxRecDepth 100000 in
theorem lift33 {t0 t1 t2 : Value} {w : World} {R : Ending → World → Prop} (h : S33 t0 t1 t2 w R) : Calls Try.prog 33 #[t0, t1, t2] w R :=
  calls_of_cw (fn := Try.f33) (c := Try.f33.body.getD .skip) A33 mixes Try.func33 (by kernel_rfl) ok33
    ((by kernel_rfl : (S33 t0 t1 t2 w R) = cw Try.prog A33 (Try.f33.body.getD .skip) 0 (bodyQ Try.prog Try.f33 R) (frOf #[t0, t1, t2]) w).mp h)

def S86L1 (t1 t2 t19 t22 t36 t38 : Value) (R : Ending → World → Prop) (w : World) : Prop :=
  Loop2 (.int .i64 0) (.int .i64 0) w fun _ t11 t39 w next_2 =>
    binQ Try.prog w .lss 3 false t39 t38 fun t40 =>
    condW t40 (
      Join (fun (k_2 : Value → World → Prop) =>
        iaS 7 t19 t39 fun t41 =>
        ldN 7 w t41 fun t42 =>
        boxW 78 (.agg #[(.int .i64 0), (.int .i64 0), (.int .i64 0), (.int .i64 0), (.int .i64 0), (.int .i64 0), (.bool false)]) w fun t14 w =>
        stW Try.prog 78 t14 t42 w fun w =>
        fa1 t14 4 fun t44 =>
        ld1 w t44 fun t45 =>
        iaS 1 t36 t45 fun t46 =>
        ld1 w t46 fun t47 =>
        gd t47 false (fun k => k t22 w) w fun t49 w =>
        gd t47 false (fun k => fa1 t14 4 fun v => k v w) w fun t50 w =>
        gd t47 false (fun k => ld1 w t50 fun v => k v w) w fun t51 w =>
        gd t47 false (fun k => iaS 1 t49 t51 fun v => k v w) w fun t52 w =>
        gd t47 false (fun k => ld1 w t52 fun v => k v w) w fun t53 w =>
        gd t47 false (fun k => unQ .not t53 fun v => k v w) w fun t54 w =>
        pickQ t47 (.bool true) t54 fun t55 =>
        condW t55 (
          k_2 t11 w
        ) (
          fa1 t14 4 fun t57 =>
          ld1 w t57 fun t58 =>
          iaS 1 t36 t58 fun t59 =>
          stW Try.prog 4 t59 (.bool true) w fun w =>
          callW Try.prog (.func (.func 73) #[] #[]) [t1] w fun t61 w =>
          mkW Try.prog 30 t61 t61 w fun t62 w =>
          fa1 t14 4 fun t64 =>
          ld1 w t64 fun t65 =>
          iaS 1 t62 t65 fun t66 =>
          stW Try.prog 3 t66 (.int .i64 1) w fun w =>
          Drew w fun w =>
          fa1 t14 4 fun t72 =>
          ld1 w t72 fun t73 =>
          callW Try.prog (.func (.func 71) #[] #[]) [t19, t62, t2] w <| keepB w fun t71 w =>
          iaS 1 t71 t73 fun t74 =>
          ld1 w t74 fun t75 =>
          binQ Try.prog w .add 3 false t11 t75 fun t76 =>
          mnQ false [t76, (.int .i64 1099511627777)] fun t77 =>
          k_2 t77 w
        )
      ) fun t11_2 w =>
      binQ Try.prog w .add 3 true t39 (.int .i64 1) fun t78_2 =>
      next_2 t11_2 t78_2 w
    ) (
      R (.returned t11) w
    )

def S86L0 (t1 t2 t19 t22 t24 : Value) (R : Ending → World → Prop) (w : World) : Prop :=
  Loop1 (.int .i64 0) w fun _ t25 w next =>
    binQ Try.prog w .lss 3 false t25 t24 fun t26 =>
    condW t26 (
      iaS 7 t19 t25 fun t27 =>
      ldN 7 w t27 fun t28 =>
      boxW 78 (.agg #[(.int .i64 0), (.int .i64 0), (.int .i64 0), (.int .i64 0), (.int .i64 0), (.int .i64 0), (.bool false)]) w fun t10 w =>
      stW Try.prog 78 t10 t28 w fun w =>
      fa1 t10 5 fun t30 =>
      ld1 w t30 fun t31 =>
      iaS 1 t22 t31 fun t32 =>
      stW Try.prog 4 t32 (.bool true) w fun w =>
      binQ Try.prog w .add 3 true t25 (.int .i64 1) fun t33 =>
      next t33 w
    ) (
      Drew w fun w =>
      callW Try.prog (.func (.func 73) #[] #[]) [t1] w fun t35 w =>
      mkW Try.prog 91 t35 t35 w <| keepB w fun t36 w =>
      ln1 t19 fun t38 =>
      S86L1 t1 t2 t19 t22 t36 t38 R w
    )



def S86 (t0 t1 t2 : Value) (w : World) (R : Ending → World → Prop) : Prop :=
  callW Try.prog (.func (.func 59) #[] #[]) [t0, t1] w fun t18 w =>
  callW Try.prog (.func (.func 111) #[] #[]) [t18, (.func (.func 112) #[] #[])] w fun t19 w =>
  callW Try.prog (.func (.func 73) #[] #[]) [t1] w fun t21 w =>
  mkW Try.prog 91 t21 t21 w fun t22 w =>
  ln1 t19 fun t24 =>
  S86L0 t1 t2 t19 t22 t24 R w

def A86 : Ann where
  live := fun
    | 0 => [25]
    | 2 => [11, 39]
    | _ => []
  wr := fun
    | 0 => fun i => Nat.beq i 10 || (Nat.ble 25 i && Nat.ble i 33)
    | 2 => fun i => Nat.beq i 11 || (Nat.ble 14 i && Nat.ble i 15) || (Nat.ble 39 i && Nat.ble i 78)
    | _ => fun _ => false
  sched := fun
    | 8 => (.take 0 (.bar 1 (.take 3 (.eff 2 (.take 4 .done)))))
    | 16 => (.take 0 (.take 1 (.take 2 (.take 3 (.take 5 (.take 6 (.eff 4 (.take 7 (.take 8 (.take 9 (.take 10 (.take 11 .done))))))))))))
    | _ => .done

set_option maxRecDepth 100000 in
theorem ok86 : (codeOk Try.f86.ntmps A86 (Try.f86.body.getD .skip) 0 && Nat.ble 3 Try.f86.ntmps) = true := by kernel_rfl
set_option maxRecDepth 100000 in
theorem lift86 {t0 t1 t2 : Value} {w : World} {R : Ending → World → Prop} (h : S86 t0 t1 t2 w R) : Calls Try.prog 86 #[t0, t1, t2] w R :=
  calls_of_cw (fn := Try.f86) (c := Try.f86.body.getD .skip) A86 mixes Try.func86 (by kernel_rfl) ok86
    ((by kernel_rfl : (S86 t0 t1 t2 w R) = cw Try.prog A86 (Try.f86.body.getD .skip) 0 (bodyQ Try.prog Try.f86 R) (frOf #[t0, t1, t2]) w).mp h)

def S87L1 (t0 t1 t7 t8 t12 t23 : Value) (next : Value → Value → World → Prop) (w : World) : Prop :=
  Loop1 (.int .i64 0) w fun _ t10 w next_2 =>
    binQ Try.prog w .leq 3 true t10 (.int .i64 7) fun t25 =>
    condW t25 (
      callW Try.prog (.func (.func 113) #[] #[]) [t0, t12, t1, (.int .i64 0), t8, (.int .i64 0), t10, t10, t23] w fun t35 w =>
      binQ Try.prog w .add 3 true t10 (.int .i64 1) fun t27 =>
      next_2 t27 w
    ) (
      bsW Try.prog 23 1 [(0, t23)] w fun t38 w =>
      semW Try.prog (apS [23, 23] 23 [t7, t38]) w fun t39 w =>
      binQ Try.prog w .add 3 true t8 (.int .i64 1) fun t21 =>
      next t39 t21 w
    )

def S87L0 (t0 t1 t12 t16 : Value) (R : Ending → World → Prop) (w : World) : Prop :=
  Loop2 (.slice none 0 0) (.int .i64 0) w fun _ t7 t8 w next =>
    binQ Try.prog w .lss 3 false t8 t16 fun t19 =>
    condW t19 (
      mkW Try.prog 30 t16 t16 w fun t23 w =>
      S87L1 t0 t1 t7 t8 t12 t23 next w
    ) (
      R (.returned t7) w
    )



def S87 (t0 t1 : Value) (w : World) (R : Ending → World → Prop) : Prop :=
  callW Try.prog (.func (.func 70) #[] #[]) [t0] w fun t12 w =>
  ln1 t12 fun t14 =>
  callW Try.prog (.func (.func 69) #[] #[]) [t14, t1] w fun t16 w =>
  S87L0 t0 t1 t12 t16 R w

def A87 : Ann where
  live := fun
    | 0 => [7, 8]
    | 2 => [10]
    | _ => []
  wr := fun
    | 0 => fun i => (Nat.ble 7 i && Nat.ble i 10) || (Nat.ble 17 i && Nat.ble i 39)
    | 2 => fun i => Nat.beq i 10 || (Nat.ble 24 i && Nat.ble i 35)
    | _ => fun _ => false
  sched := fun _ => .done

set_option maxRecDepth 100000 in
theorem ok87 : (codeOk Try.f87.ntmps A87 (Try.f87.body.getD .skip) 0 && Nat.ble 2 Try.f87.ntmps) = true := by kernel_rfl
set_option maxRecDepth 100000 in
theorem lift87 {t0 t1 : Value} {w : World} {R : Ending → World → Prop} (h : S87 t0 t1 w R) : Calls Try.prog 87 #[t0, t1] w R :=
  calls_of_cw (fn := Try.f87) (c := Try.f87.body.getD .skip) A87 mixes Try.func87 (by kernel_rfl) ok87
    ((by kernel_rfl : (S87 t0 t1 w R) = cw Try.prog A87 (Try.f87.body.getD .skip) 0 (bodyQ Try.prog Try.f87 R) (frOf #[t0, t1]) w).mp h)

def S113L0 (t0 t1 t2 t3 t4 t5 t6 t7 t8 t35 : Value) (R : Ending → World → Prop) (w : World) : Prop :=
  Loop1 (.int .i64 0) w fun _ t19 w next =>
    ln1 t0 fun t38 =>
    binQ Try.prog w .lss 3 false t19 t38 fun t39 =>
    condW t39 (
      Drew w fun w =>
      iaS 4 t0 t19 fun t44 =>
      fa1 t44 3 fun t45 =>
      ld1 w t45 fun t46 =>
      binQ Try.prog w .eql 3 false t46 t6 fun t48 =>
      gdQ t48 true (fun k => k t0) fun t50 =>
      gdQ t48 true (fun k => k t19) fun t51 =>
      gdQ t48 true (fun k => iaS 4 t50 t51 k) fun t52 =>
      gdQ t48 true (fun k => fa1 t52 0 k) fun t53 =>
      gdQ t48 true (fun k => ld1 w t53 k) fun t54 =>
      gdQ t48 true (fun k => k t1) fun t55 =>
      gdQ t48 true (fun k => k t4) fun t56 =>
      gdQ t48 true (fun k => k t35) fun t57 =>
      gdQ t48 true (fun k => binQ Try.prog w .quo 3 false t56 t57 k) fun t58 =>
      gdQ t48 true (fun k => k t1) fun t59 =>
      gdQ t48 true (fun k => ln1 t59 k) fun t60 =>
      gdQ t48 true (fun k => binQ Try.prog w .rem 3 false t58 t60 k) fun t61 =>
      gdQ t48 true (fun k => iaS 1 t55 t61 k) fun t62 =>
      gdQ t48 true (fun k => ld1 w t62 k) fun t63 =>
      gdQ t48 true (fun k => binQ Try.prog w .eql 3 false t54 t63 k) fun t64 =>
      pickQ t48 t64 (.bool false) fun t65 =>
      Join (fun (k_2 : World → Prop) =>
        condW t65 (
          Drew w fun w =>
          binQ Try.prog w .add 3 true t3 (.int .i64 1) fun t70 =>
          iaS 4 t0 t19 fun t76 =>
          fa1 t76 2 fun t77 =>
          ld1 w t77 fun t78 =>
          iaS 4 t0 t19 fun t85 =>
          fa1 t85 1 fun t86 =>
          ld1 w t86 fun t87 =>
          callW Try.prog (.func (.func 107) #[] #[]) [t1, t78] w <| keepB w fun t79 w =>
          binQ Try.prog w .mul 3 false t79 t35 fun t81 =>
          binQ Try.prog w .add 3 false t5 t81 fun t82 =>
          callW Try.prog (.func (.func 113) #[] #[]) [t0, t1, t2, t70, t4, t82, t87, t7, t8] w fun t90 w =>
          k_2 w
        ) (
          k_2 w
        )
      ) fun w =>
      binQ Try.prog w .add 3 true t19 (.int .i64 1) fun t41_2 =>
      next t41_2 w
    ) (
      R (.returned (.tuple #[])) w
    )

def S113 (t0 t1 t2 t3 t4 t5 t6 t7 t8 : Value) (w : World) (R : Ending → World → Prop) : Prop :=
  binQ Try.prog w .eql 3 false t3 t2 fun t22 =>
  condW t22 (
    binQ Try.prog w .eql 3 false t6 t7 fun t25 =>
    condW t25 (
      iaS 1 t8 t5 fun t28 =>
      ld1 w t28 fun t29 =>
      binQ Try.prog w .add 3 true t29 (.int .i64 1) fun t30 =>
      iaS 1 t8 t5 fun t31 =>
      stW Try.prog 3 t31 t30 w fun w =>
      R (.returned (.tuple #[])) w
    ) (
      R (.returned (.tuple #[])) w
    )
  ) (
    ln1 t1 fun t33 =>
    callW Try.prog (.func (.func 69) #[] #[]) [t33, t3] w fun t35 w =>
    S113L0 t0 t1 t2 t3 t4 t5 t6 t7 t8 t35 R w
  )

def A113 : Ann where
  live := fun
    | 0 => [19]
    | _ => []
  wr := fun
    | 0 => fun i => Nat.beq i 19 || (Nat.ble 36 i && Nat.ble i 90)
    | _ => fun _ => false
  sched := fun
    | 7 => (.take 0 (.take 1 (.take 2 (.take 3 (.take 4 (.take 5 (.take 6 (.take 7 (.take 8 (.take 9 (.take 10 (.take 11 (.take 12 (.take 13 (.take 14 (.take 15 (.take 16 (.take 17 (.take 18 (.take 19 (.take 20 (.take 21 (.take 22 (.take 23 .done))))))))))))))))))))))))
    | 8 => (.take 0 (.take 1 (.take 2 (.take 3 (.take 4 (.take 5 (.take 6 (.take 7 (.take 8 (.take 9 (.take 10 (.take 11 (.take 12 (.take 14 (.take 17 (.take 18 (.take 19 (.take 20 (.take 21 (.take 22 (.take 23 (.eff 13 (.take 15 (.take 16 (.bar 24 .done)))))))))))))))))))))))))
    | _ => .done

set_option maxRecDepth 100000 in
theorem ok113 : (codeOk Try.f113.ntmps A113 (Try.f113.body.getD .skip) 0 && Nat.ble 9 Try.f113.ntmps) = true := by kernel_rfl
set_option maxRecDepth 100000 in
theorem lift113 {t0 t1 t2 t3 t4 t5 t6 t7 t8 : Value} {w : World} {R : Ending → World → Prop} (h : S113 t0 t1 t2 t3 t4 t5 t6 t7 t8 w R) : Calls Try.prog 113 #[t0, t1, t2, t3, t4, t5, t6, t7, t8] w R :=
  calls_of_cw (fn := Try.f113) (c := Try.f113.body.getD .skip) A113 mixes Try.func113 (by kernel_rfl) ok113
    ((by kernel_rfl : (S113 t0 t1 t2 t3 t4 t5 t6 t7 t8 w R) = cw Try.prog A113 (Try.f113.body.getD .skip) 0 (bodyQ Try.prog Try.f113 R) (frOf #[t0, t1, t2, t3, t4, t5, t6, t7, t8]) w).mp h)

def S34L3 (t12 t15 t26 t46 : Value) (next_3 : Value → World → Prop) (w : World) : Prop :=
  Loop1 (.int .i64 0) w fun _ t16 w next_4 =>
    ln1 t26 fun t55 =>
    binQ Try.prog w .lss 3 false t16 t55 fun t56 =>
    gd t56 true (fun k => k t12 w) w fun t58 w =>
    gd t56 true (fun k => k t15 w) w fun t59 w =>
    gd t56 true (fun k => iaS 1 t58 t59 fun v => k v w) w fun t60 w =>
    gd t56 true (fun k => ld1 w t60 fun v => k v w) w fun t61 w =>
    gd t56 true (fun k => binQ Try.prog w .gtr 3 true t61 (.int .i64 0) fun v => k v w) w fun t62 w =>
    pickQ t56 t62 (.bool false) fun t63 =>
    condW t63 (
      Drew w fun w =>
      iaS 1 t46 t16 fun t70 =>
      ld1 w t70 fun t71 =>
      iaS 1 t12 t15 fun t74 =>
      ld1 w t74 fun t75 =>
      iaS 1 t26 t15 fun t78 =>
      ld1 w t78 fun t79 =>
      iaS 1 t79 t16 fun t81 =>
      ld1 w t81 fun t82 =>
      mnQ false [t82, (.int .i64 1048576)] fun t83 =>
      binQ Try.prog w .mul 3 false t75 t83 fun t84 =>
      callW Try.prog (.func (.func 88) #[] #[]) [t84] w <| keepB w fun t85 w =>
      binQ Try.prog w .add 3 false t71 t85 fun t86 =>
      callW Try.prog (.func (.func 88) #[] #[]) [t86] w <| keepB w fun t87 w =>
      iaS 1 t46 t16 fun t88 =>
      stW Try.prog 3 t88 t87 w fun w =>
      binQ Try.prog w .add 3 true t16 (.int .i64 1) fun t65 =>
      next_4 t65 w
    ) (
      binQ Try.prog w .add 3 true t15 (.int .i64 1) fun t52 =>
      next_3 t52 w
    )

def S34L2 (t12 t13 t26 t46 : Value) (next_2 : Value → Value → World → Prop) (w : World) : Prop :=
  Loop1 (.int .i64 0) w fun _ t15 w next_3 =>
    ln1 t26 fun t49 =>
    binQ Try.prog w .lss 3 false t15 t49 fun t50 =>
    condW t50 (
      S34L3 t12 t15 t26 t46 next_3 w
    ) (
      binQ Try.prog w .add 3 true t13 (.int .i64 1) fun t43 =>
      next_2 t46 t43 w
    )

def S34L1 (t2 t10 t11 t26 t35 : Value) (next : Value → Value → World → Prop) (w : World) : Prop :=
  Loop2 t35 (.int .i64 0) w fun _ t12 t13 w next_2 =>
    binQ Try.prog w .lss 3 false t13 t2 fun t41 =>
    condW t41 (
      ln1 t26 fun t45 =>
      mkW Try.prog 30 t45 t45 w fun t46 w =>
      S34L2 t12 t13 t26 t46 next_2 w
    ) (
      iaS 1 t12 t11 fun t93 =>
      ld1 w t93 fun t94 =>
      binQ Try.prog w .add 3 false t10 t94 fun t95 =>
      callW Try.prog (.func (.func 88) #[] #[]) [t95] w fun t96 w =>
      binQ Try.prog w .add 3 true t11 (.int .i64 1) fun t32 =>
      next t96 t32 w
    )

def S34L0 (t2 t26 : Value) (R : Ending → World → Prop) (w : World) : Prop :=
  Loop2 (.int .i64 0) (.int .i64 0) w fun _ t10 t11 w next =>
    ln1 t26 fun t29 =>
    binQ Try.prog w .lss 3 false t11 t29 fun t30 =>
    condW t30 (
      ln1 t26 fun t34 =>
      mkW Try.prog 30 t34 t34 w fun t35 w =>
      iaS 1 t35 t11 fun t38 =>
      stW Try.prog 3 t38 (.int .i64 1) w fun w =>
      S34L1 t2 t10 t11 t26 t35 next w
    ) (
      binQ Try.prog w .gtr 3 true t10 (.int .i64 1099511627776) fun t98 =>
      condW t98 (
        R (.returned (.tuple #[(.int .i64 0), (.int .i64 8)])) w
      ) (
        R (.returned (.tuple #[t10, (.int .i64 0)])) w
      )
    )

def S34 (t0 t1 t2 : Value) (w : World) (R : Ending → World → Prop) : Prop :=
  callW Try.prog (.func (.func 23) #[] #[]) [t0, t1, t2] w fun t20 w =>
  binQ Try.prog w .neq 26 true t20 (.int .i64 0) fun t22 =>
  condW t22 (
    R (.returned (.tuple #[(.int .i64 0), t20])) w
  ) (
    callW Try.prog (.func (.func 87) #[] #[]) [t0, t1] w fun t26 w =>
    S34L0 t2 t26 R w
  )

def A34 : Ann where
  live := fun
    | 0 => [10, 11]
    | 2 => [12, 13]
    | 4 => [15]
    | 6 => [16]
    | _ => []
  wr := fun
    | 0 => fun i => (Nat.ble 10 i && Nat.ble i 16) || (Nat.ble 27 i && Nat.ble i 96)
    | 2 => fun i => (Nat.ble 12 i && Nat.ble i 16) || (Nat.ble 39 i && Nat.ble i 89)
    | 4 => fun i => (Nat.ble 15 i && Nat.ble i 16) || (Nat.ble 47 i && Nat.ble i 88)
    | 6 => fun i => Nat.beq i 16 || (Nat.ble 53 i && Nat.ble i 88)
    | _ => fun _ => false
  sched := fun
    | 21 => (.take 0 (.take 1 (.take 2 (.take 3 (.take 4 (.take 5 (.take 6 (.take 7 (.take 8 (.take 9 (.take 10 (.take 11 (.take 12 (.take 13 (.take 14 (.take 15 (.take 16 (.take 17 (.take 18 (.eff 19 (.take 20 (.eff 21 (.take 22 (.bar 23 .done))))))))))))))))))))))))
    | _ => .done

set_option maxRecDepth 100000 in
theorem ok34 : (codeOk Try.f34.ntmps A34 (Try.f34.body.getD .skip) 0 && Nat.ble 3 Try.f34.ntmps) = true := by kernel_rfl
set_option maxRecDepth 100000 in
theorem lift34 {t0 t1 t2 : Value} {w : World} {R : Ending → World → Prop} (h : S34 t0 t1 t2 w R) : Calls Try.prog 34 #[t0, t1, t2] w R :=
  calls_of_cw (fn := Try.f34) (c := Try.f34.body.getD .skip) A34 mixes Try.func34 (by kernel_rfl) ok34
    ((by kernel_rfl : (S34 t0 t1 t2 w R) = cw Try.prog A34 (Try.f34.body.getD .skip) 0 (bodyQ Try.prog Try.f34 R) (frOf #[t0, t1, t2]) w).mp h)

theorem fok111 : fnOk Try.prog 111 = true := by kernel_rfl
theorem fok112 : fnOk Try.prog 112 = true := by kernel_rfl
theorem fok33 : fnOk Try.prog 33 = true := by kernel_rfl
theorem fok86 : fnOk Try.prog 86 = true := by kernel_rfl
theorem fok87 : fnOk Try.prog 87 = true := by kernel_rfl
theorem fok113 : fnOk Try.prog 113 = true := by kernel_rfl
theorem fok34 : fnOk Try.prog 34 = true := by kernel_rfl
end Go.Proofs.Ytgalbokmgffhkaa
