/- Contracts of domino: Of, Has; regions. -/
import Derived.Test.YtbekeccfjmoonaaDoorTa
set_option linter.all false
namespace Go.Proofs.YtbekeccfjmoonaaDoor
open Go.Lf Go.RowKit

theorem neS_run (a b : ByteArray) (lit : Bool) (w : World) : (semBin .neq 9 lit (.string a) (.string b)).run Tryd.prog w = .ok (.value (.bool (!(a.toList == b.toList)))) w := by
  unfold semBin
  cases lit <;> simp [eqGuard, binOp, Op.stringOp]
theorem r_neS {a b : ByteArray} {lit : Bool} {w : World} {K : Value → Prop} (h : K (.bool (!(a.toList == b.toList)))) : binQ Tryd.prog w .neq 9 lit (.string a) (.string b) K := ⟨_, fun w' _ => neS_run a b lit w', h⟩
theorem ix9_run (s : ByteArray) (i : Nat) (hi : i < s.size) (w : World) : (ixS 9 (.string s) (.int .i64 i)).run Tryd.prog w = .ok (.value (.int .u8 ((s[i]'hi).toNat))) w := by
  unfold ixS
  simp [Instr.index, run_underlying und9, asIntOf, hi]
theorem r_ixS {s : ByteArray} {i : Nat} (hi : i < s.size) {w : World} {K : Value → World → Prop} (h : K (.int .u8 ((s[i]'hi).toNat)) w) : semW Tryd.prog (ixS 9 (.string s) (.int .i64 i)) w K := by
  simp only [semW, ix9_run s i hi w]; exact h
theorem empty_iff {r : ByteArray} {b : Bool} (h : r = ⟨#[]⟩ ↔ b = true) : (r.toList == (⟨#[]⟩ : ByteArray).toList) = b := by
  have e : (⟨#[]⟩ : ByteArray).toList = [] := by rw [Lib.toList_data]
  rw [e]
  cases b with
  | true => rw [h.2 rfl, e]; rfl
  | false =>
    cases q : (r.toList == []) with
    | false => rfl
    | true =>
      have h1 : r.toList = [] := by simpa using q
      rw [Lib.toList_data] at h1
      have : r = ⟨#[]⟩ := by
        obtain ⟨d⟩ := r
        have : d = #[] := Array.toList_eq_nil_iff.1 h1
        rw [this]
      exact absurd (h.1 this) (by simp)

abbrev dB : ByteArray := ⟨#[]⟩
abbrev ptrV (b : Nat) : Value := .pointer (some ⟨b, 0, none⟩)
/-- A row of a region that is not one. -/
def badR (n : Nat) (s : ByteArray) : Bool := !decide (s.size = n) || !plainB s
/-- Is this a region? -/
def ofB (m : Nat) (l : List ByteArray) : Bool := decide (1 ≤ l.length ∧ l.length ≤ m ∧ 1 ≤ (l.getD 0 dB).size ∧ (l.getD 0 dB).size ≤ m) && !(l.any (badR (l.getD 0 dB).size))
abbrev rgV (a b : Int) (v : Value) : Value := .agg #[.int .i64 a, .int .i64 b, v]

theorem size_small {w : World} {v : Value} {l : List ByteArray} (h : ∀ s ∈ l, s.size ≤ 9223372036854775807) {i : Nat} (hi : i < l.length) : (l.getD i dB).size ≤ 9223372036854775807 := h _ (getD_mem hi)

set_option maxRecDepth 100000 in
theorem ofBad_calls {v : Value} {l : List ByteArray} {s : ByteArray} {b : Nat} (w : World) (hb : w.cell? ⟨b, 0, none⟩ = some v) (hr : RdB w v l) (h0 : 0 < l.length) (hs : s.size ≤ 9223372036854775807) :
    Calls Tryd.prog 52 #[.string s, ptrV b] w fun e w' => e = .returned (.bool (badR (l.getD 0 dB).size s)) ∧ Kp w w' := by
  refine lift52 ?_
  unfold S52
  have h00 : ∀ K : Value → Prop, (iaS 1 v (.int .i64 0) fun p => ld1 w p K) = K (.string (l.getD 0 dB)) := fun K => str_at hr h0 K
  rw [r_lnS, r_ld hb, h00, r_lnS, r_neq]
  unfold badR
  by_cases hn : (s.size : Int) = ((l.getD 0 dB).size : Int)
  · have hn' : s.size = (l.getD 0 dB).size := by omega
    rw [decide_eq_true hn, decide_eq_true hn']
    simp only [Bool.not_true, r_gdFF]
    refine r_use (by kernel_rfl) (trim_calls s w hs) rfl ?_
    rintro _ w1 ⟨k1, r, rfl, hri⟩
    refine ⟨_, rfl, ?_⟩
    refine r_neS ?_
    rw [empty_iff hri, r_pickF]
    exact ⟨by simp, k1⟩
  · have hn' : ¬ s.size = (l.getD 0 dB).size := by omega
    rw [decide_eq_false hn, decide_eq_false hn']
    simp only [Bool.not_false, r_gdTF, r_gdU, r_pickT]
    exact ⟨by simp, Kp.refl _⟩

set_option maxRecDepth 100000 in
theorem idx80_calls {v : Value} {l : List ByteArray} {b : Nat} (w : World) (hb : w.cell? ⟨b, 0, none⟩ = some v) (hr : RdB w v l) (h0 : 0 < l.length) (hl : l.length ≤ 1000) (hs : ∀ s ∈ l, s.size ≤ 9223372036854775807) :
    Calls Tryd.prog 80 #[v, .func (.func 52) #[] #[ptrV b]] w fun e w' => Kp w w' ∧ ∃ p : Int, e = .returned (.int .i64 p) ∧ decide (0 ≤ p) = l.any (badR (l.getD 0 dB).size) := by
  obtain ⟨a, cap, ev, _⟩ := hr.len
  have lnv : ∀ K : Value → Prop, ln1 v K = K (.int .i64 l.length) := fun K => by rw [ev]; rfl
  refine lift80 ?_
  unfold S80
  rw [lnv]
  unfold S80L0
  refine ⟨fun t8 wr => ∃ i : Nat, i ≤ l.length ∧ t8 = .int .i64 i ∧ (∀ j, j < i → badR (l.getD 0 dB).size (l.getD j dB) = false) ∧ Kp w wr, fun t8 _ => l.length - (intOf t8).toNat, ⟨0, by omega, rfl, fun j hj => by omega, Kp.refl _⟩, ?_⟩
  rintro _ _ wr ⟨i, hi, rfl, hall, kr⟩
  by_cases hlt : i < l.length
  case neg =>
    have hlt' : ¬ (i : Int) < (l.length : Int) := by omega
    rw [r_lss, decide_eq_false hlt', r_condF]
    refine ⟨kr, -1, rfl, ?_⟩
    have : l.any (badR (l.getD 0 dB).size) = false := by
      rw [List.any_eq_false]
      intro s hs
      obtain ⟨j, hj, rfl⟩ := List.getElem_of_mem hs
      have := hall j (by omega)
      rw [getD_lt l j dB hj] at this
      rw [this]; decide
    rw [this]; rfl
  have hlt' : (i : Int) < (l.length : Int) := by omega
  rw [r_lss, decide_eq_true hlt', r_condT, str_at (hr.kp kr) hlt]
  refine r_use fok52 (ofBad_calls wr (cell_later kr hb) (hr.kp kr) h0 (size_small (w := w) (v := v) hs hlt)) rfl ?_
  rintro _ w2 ⟨rfl, k2⟩
  refine ⟨_, rfl, ?_⟩
  have k02 := Kp.trans kr k2
  cases q : badR (l.getD 0 dB).size (l.getD i dB) with
  | true =>
    rw [r_condT]
    refine ⟨k02, i, rfl, ?_⟩
    rw [decide_eq_true (by omega)]
    exact (List.any_eq_true.2 ⟨_, getD_mem hlt, q⟩).symm
  | false =>
    rw [r_condF, r_add _ _ (by omega) (by omega)]
    refine ⟨⟨i + 1, by omega, by go_num, fun j hj => ?_, k02⟩, by simp only [intOf]; omega⟩
    by_cases e : j = i
    · rw [e]; exact q
    · exact hall j (by omega)

set_option maxRecDepth 100000 in
theorem anyBad_calls {v : Value} {l : List ByteArray} {b : Nat} (w : World) (hb : w.cell? ⟨b, 0, none⟩ = some v) (hr : RdB w v l) (h0 : 0 < l.length) (hl : l.length ≤ 1000) (hs : ∀ s ∈ l, s.size ≤ 9223372036854775807) :
    Calls Tryd.prog 54 #[v, .func (.func 52) #[] #[ptrV b]] w fun e w' => e = .returned (.bool (l.any (badR (l.getD 0 dB).size))) ∧ Kp w w' := by
  refine lift54 ?_
  unfold S54
  refine r_use fok80 (idx80_calls w hb hr h0 hl hs) rfl ?_
  rintro _ w1 ⟨k1, p, rfl, hp⟩
  refine ⟨_, rfl, ?_⟩
  rw [r_geq, hp]
  exact ⟨rfl, k1⟩

set_option maxRecDepth 100000 in
theorem bd63_0 {K : Value → Prop} : bdQ Tryd.prog 63 [] K = K (rgV 0 0 nilS) := by kernel_rfl
set_option maxRecDepth 100000 in
theorem bd63 {x y : Int} {a : Option Addr} {m c : Nat} {K : Value → Prop} : bdQ Tryd.prog 63 [(0, .int .i64 x), (1, .int .i64 y), (2, .slice a m c)] K = K (rgV x y (.slice a m c)) := by kernel_rfl
set_option maxRecDepth 100000 in
theorem st63 {w : World} {b : Nat} {x y z : Value} {p q : Int} {a : Option Addr} {m c : Nat} {K : World → Prop} (h : w.heap[b]? = some (.cells #[x, y, z] 63 (0, 0))) (hk : ∀ w', Chg (fun k => k = b) w w' → w'.heap.size = w.heap.size → w'.heap[b]? = some (.cells #[.int .i64 p, .int .i64 q, .slice a m c] 63 (0, 0)) → K w') : stW Tryd.prog 63 (ptrV b) (rgV p q (.slice a m c)) w K :=
  r_stAll (n := 3) (by kernel_rfl) rfl (by intro u hu; simp [Value.cells] at hu; rcases hu with rfl | rfl | rfl <;> rfl) h rfl fun w' h1 h2 h3 => hk w' h1 h2 h3
theorem rg_box {w : World} {b : Nat} {x y : Int} {z : Value} (h : w.heap[b]? = some (.cells #[.int .i64 x, .int .i64 y, z] 63 (0, 0))) (K : Value → Prop) : ldN 3 w (ptrV b) K = K (rgV x y z) := r_ldRow h rfl

/-- The region that a list of strings is. -/
def regV (v : Value) (l : List ByteArray) : Value := if ofB 8 l = true then rgV (l.getD 0 dB).size l.length v else rgV 0 0 nilS
set_option maxRecDepth 100000 in
set_option maxHeartbeats 1000000 in
theorem Of_calls {v : Value} {l : List ByteArray} (w : World) (hr : RdB w v l) (hs : ∀ s ∈ l, s.size ≤ 9223372036854775807) :
    Calls Tryd.prog 21 #[v] w fun e w' => e = .returned (.tuple #[regV v l, .bool (ofB 8 l)]) ∧ Kp w w' := by
  obtain ⟨a, cap, ev, _⟩ := hr.len
  have lnv : ∀ K : Value → Prop, ln1 v K = K (.int .i64 l.length) := fun K => by rw [ev]; rfl
  refine lift21 ?_
  unfold S21
  refine r_box fun b1 w1 e1 s1 h1 k1 => ?_
  have h1' : w1.heap[b1]? = some (.cells #[v] 22 (0, 0)) := by rw [ev] at h1 ⊢; exact h1
  refine r_box fun b2 w2 e2 s2 h2 k2 => ?_
  have h2' : w2.heap[b2]? = some (.cells #[.int .i64 0, .int .i64 0, .slice none 0 0] 63 (0, 0)) := h2
  have k02 := Kp.trans k1 k2
  have sz1 := k1.size
  have sz2 := k02.size
  have hr2 := hr.kp k02
  have c1 : w2.cell? ⟨b1, 0, none⟩ = some v := by rw [cell_row (block_below h1' k2)]; rfl
  have none_ : ofB 8 l = false → ∀ w' : World, Kp w2 w' → bdQ Tryd.prog 63 [] fun t27 => stW Tryd.prog 63 (ptrV b2) t27 w' fun w_1 => ldN 3 w_1 (ptrV b2) fun r => (Ending.returned (Value.tuple #[r, .bool false]) = .returned (.tuple #[regV v l, .bool (ofB 8 l)]) ∧ Kp w w_1) := fun hf w' k' => by
    rw [bd63_0]
    refine st63 (block_below h2' k') fun w4 c4 s4 h4 => ?_
    rw [rg_box h4]
    unfold regV
    rw [hf]
    exact ⟨rfl, Kp.of_chg (Kp.trans k02 k') c4 fun q e => by omega⟩
  rw [r_ld c1, lnv, r_lss]
  by_cases g1 : (l.length : Int) < 1
  · have hf : ofB 8 l = false := by unfold ofB; rw [decide_eq_false (by omega)]; rfl
    rw [decide_eq_true g1]
    simp only [r_gdTF, r_gdU, r_pickT, r_condT]
    exact none_ hf w2 (Kp.refl _)
  rw [decide_eq_false g1]
  simp only [r_gdFF, r_ld c1, lnv, r_gtr, r_pickF]
  by_cases g2 : (8 : Int) < (l.length : Int)
  · have hf : ofB 8 l = false := by unfold ofB; rw [decide_eq_false (by omega)]; rfl
    rw [decide_eq_true g2]
    simp only [r_gdTF, r_gdU, r_pickT, r_condT]
    exact none_ hf w2 (Kp.refl _)
  rw [decide_eq_false g2]
  have h0 : 0 < l.length := by omega
  have h00 : ∀ w' : World, RdB w' v l → ∀ K : Value → Prop, (iaS 1 v (.int .i64 0) fun p => ld1 w' p K) = K (.string (l.getD 0 dB)) := fun w' h K => str_at h h0 K
  simp only [r_gdFF, r_ld c1, h00 w2 hr2, r_lnS, r_lss, r_gtr, r_pickF]
  by_cases g3 : ((l.getD 0 dB).size : Int) < 1
  · have hf : ofB 8 l = false := by unfold ofB; rw [decide_eq_false (by omega)]; rfl
    rw [decide_eq_true g3]
    simp only [r_gdTF, r_gdU, r_pickT, r_condT]
    exact none_ hf w2 (Kp.refl _)
  rw [decide_eq_false g3]
  simp only [r_gdFF, r_ld c1, h00 w2 hr2, r_lnS, r_gtr, r_pickF]
  by_cases g4 : (8 : Int) < ((l.getD 0 dB).size : Int)
  · have hf : ofB 8 l = false := by unfold ofB; rw [decide_eq_false (by omega)]; rfl
    rw [decide_eq_true g4, r_condT]
    exact none_ hf w2 (Kp.refl _)
  rw [decide_eq_false g4, r_condF]
  refine r_use fok54 (anyBad_calls w2 c1 hr2 h0 (by omega) hs) rfl ?_
  rintro _ w3 ⟨rfl, k3⟩
  refine ⟨_, rfl, ?_⟩
  cases q : l.any (badR (l.getD 0 dB).size) with
  | true =>
    have hf : ofB 8 l = false := by unfold ofB; rw [q]; simp
    rw [r_condT]
    exact none_ hf w3 k3
  | false =>
    have hT : ofB 8 l = true := by unfold ofB; rw [q, decide_eq_true (by omega)]; rfl
    rw [r_condF]
    refine r_drew fun w4 k4 _ => ?_
    have k24 := Kp.trans k3 k4
    have c14 := cell_later k24 c1
    rw [r_ld c14, h00 w4 (hr2.kp k24), r_lnS, r_ld c14, lnv, r_ld c14, ev, bd63]
    refine st63 (block_below h2' k24) fun w5 c5 s5 h5 => ?_
    rw [rg_box h5]
    unfold regV
    rw [hT, if_pos rfl]
    exact ⟨rfl, Kp.of_chg (Kp.trans k02 k24) c5 fun q e => by omega⟩

/-! ### cells -/
def byteAt (l : List ByteArray) (x y : Nat) : Nat := ((l.getD y dB).data.getD x 0).toNat
/-- Has the region this cell? -/
def hasB (l : List ByteArray) (x y : Int) : Bool := decide (0 ≤ x ∧ 0 ≤ y ∧ x < (l.getD 0 dB).size ∧ y < l.length) && decide (byteAt l x.toNat y.toNat = 35)
/-- A region that is one: the sizes of its rows. -/
structure RegOk (l : List ByteArray) (m : Nat) : Prop where
  len : 1 ≤ l.length ∧ l.length ≤ m
  wid : 1 ≤ (l.getD 0 dB).size ∧ (l.getD 0 dB).size ≤ m
  row : ∀ s ∈ l, s.size = (l.getD 0 dB).size ∧ plainB s = true
theorem reg_ok {m : Nat} {l : List ByteArray} (h : ofB m l = true) : RegOk l m := by
  unfold ofB at h
  rw [Bool.and_eq_true] at h
  have h1 := of_decide_eq_true h.1
  refine ⟨⟨h1.1, h1.2.1⟩, h1.2.2, fun s hs => ?_⟩
  have h2 : l.any (badR (l.getD 0 dB).size) = false := by simpa using h.2
  rw [List.any_eq_false] at h2
  have := h2 s hs
  unfold badR at this
  rw [Bool.or_eq_true, not_or] at this
  refine ⟨?_, ?_⟩
  · have := this.1; simpa using this
  · have := this.2; simpa using this

theorem fa_ld {w : World} {b o : Nat} {v : Value} (h : w.cell? ⟨b, o, none⟩ = some v) (K : Value → Prop) : (fa1 (ptrV b) o fun p => ld1 w p K) = K v := by
  rw [r_fa, Nat.zero_add, r_ld h]

set_option maxRecDepth 100000 in
set_option maxHeartbeats 1000000 in
theorem Has_calls {v : Value} {l : List ByteArray} {m : Nat} (x y : Int) (w : World) (hr : RdB w v l) (hR : RegOk l m) : Calls Tryd.prog 30 #[rgV (l.getD 0 dB).size l.length v, .int .i64 x, .int .i64 y] w fun e w' => e = .returned (.bool (hasB l x y)) ∧ Kp w w' := by
  obtain ⟨a, cap, ev, _⟩ := hr.len
  refine lift30 ?_
  unfold S30
  refine r_box fun b3 w1 e3 s3 h3 k1 => ?_
  have h3' : w1.heap[b3]? = some (.cells #[.int .i64 (l.getD 0 dB).size, .int .i64 l.length, v] 63 (0, 0)) := by rw [ev] at h3 ⊢; exact h3
  have c0 : w1.cell? ⟨b3, 0, none⟩ = some (.int .i64 (l.getD 0 dB).size) := by rw [cell_row h3']; rfl
  have c1 : w1.cell? ⟨b3, 1, none⟩ = some (.int .i64 l.length) := by rw [cell_row h3']; rfl
  have c2 : w1.cell? ⟨b3, 2, none⟩ = some v := by rw [cell_row h3']; rfl
  have no : ¬ (0 ≤ x ∧ 0 ≤ y ∧ x < (l.getD 0 dB).size ∧ y < l.length) → hasB l x y = false := fun h => by unfold hasB; rw [decide_eq_false h]; rfl
  by_cases g1 : 0 ≤ x
  case neg =>
    rw [no fun h => g1 h.1]
    simp (disch := omega) only [r_ln, r_pick, r_pickT, r_pickF, r_condT, r_condF, r_gdTT, r_gdFF, r_gdTF, r_gdFT, r_gqTT, r_gqFF, r_gqTF, r_gqFT, r_not, r_lss, r_leq, r_gtr, r_geq, r_eql, r_neq, r_add, r_sub, r_min2, r_max2, r_min3, r_max3, r_fa, r_iaS, r_iaA, r_ex2a, r_ex2b, r_ex3a, r_ex3b, r_ex3c, r_nc, r_keepE, Nat.zero_add, Nat.add_zero, Nat.mul_one, Int.toNat_natCast, toNat_sub1, toNat_add1, decide_true, decide_false, Bool.not_true, Bool.not_false, if_true, if_false, Bool.false_eq_true, reduceCtorEq, r_gdU, g1]
    exact ⟨by first | rfl | trivial, k1⟩
  by_cases g2 : 0 ≤ y
  case neg =>
    rw [no fun h => g2 h.2.1]
    simp (disch := omega) only [r_ln, r_pick, r_pickT, r_pickF, r_condT, r_condF, r_gdTT, r_gdFF, r_gdTF, r_gdFT, r_gqTT, r_gqFF, r_gqTF, r_gqFT, r_not, r_lss, r_leq, r_gtr, r_geq, r_eql, r_neq, r_add, r_sub, r_min2, r_max2, r_min3, r_max3, r_fa, r_iaS, r_iaA, r_ex2a, r_ex2b, r_ex3a, r_ex3b, r_ex3c, r_nc, r_keepE, Nat.zero_add, Nat.add_zero, Nat.mul_one, Int.toNat_natCast, toNat_sub1, toNat_add1, decide_true, decide_false, Bool.not_true, Bool.not_false, if_true, if_false, Bool.false_eq_true, reduceCtorEq, r_gdU, decide_eq_true g1, g2]
    exact ⟨by first | rfl | trivial, k1⟩
  by_cases g3 : x < ((l.getD 0 dB).size : Int)
  case neg =>
    rw [no fun h => g3 h.2.2.1]
    simp (disch := omega) only [r_ln, r_pick, r_pickT, r_pickF, r_condT, r_condF, r_gdTT, r_gdFF, r_gdTF, r_gdFT, r_gqTT, r_gqFF, r_gqTF, r_gqFT, r_not, r_lss, r_leq, r_gtr, r_geq, r_eql, r_neq, r_add, r_sub, r_min2, r_max2, r_min3, r_max3, r_fa, r_iaS, r_iaA, r_ex2a, r_ex2b, r_ex3a, r_ex3b, r_ex3c, r_nc, r_keepE, Nat.zero_add, Nat.add_zero, Nat.mul_one, Int.toNat_natCast, toNat_sub1, toNat_add1, decide_true, decide_false, Bool.not_true, Bool.not_false, if_true, if_false, Bool.false_eq_true, reduceCtorEq, r_gdU, decide_eq_true g1, decide_eq_true g2, r_ld c0, g3]
    exact ⟨by first | rfl | trivial, k1⟩
  by_cases g4 : y < (l.length : Int)
  case neg =>
    rw [no fun h => g4 h.2.2.2]
    simp (disch := omega) only [r_ln, r_pick, r_pickT, r_pickF, r_condT, r_condF, r_gdTT, r_gdFF, r_gdTF, r_gdFT, r_gqTT, r_gqFF, r_gqTF, r_gqFT, r_not, r_lss, r_leq, r_gtr, r_geq, r_eql, r_neq, r_add, r_sub, r_min2, r_max2, r_min3, r_max3, r_fa, r_iaS, r_iaA, r_ex2a, r_ex2b, r_ex3a, r_ex3b, r_ex3c, r_nc, r_keepE, Nat.zero_add, Nat.add_zero, Nat.mul_one, Int.toNat_natCast, toNat_sub1, toNat_add1, decide_true, decide_false, Bool.not_true, Bool.not_false, if_true, if_false, Bool.false_eq_true, reduceCtorEq, r_gdU, decide_eq_true g1, decide_eq_true g2, r_ld c0, r_ld c1, decide_eq_true g3, g4]
    exact ⟨by first | rfl | trivial, k1⟩
  obtain ⟨X, rfl⟩ : ∃ X : Nat, x = X := ⟨x.toNat, by omega⟩
  obtain ⟨Y, rfl⟩ : ∃ Y : Nat, y = Y := ⟨y.toNat, by omega⟩
  have hY : Y < l.length := by omega
  have hsz := (hR.row _ (getD_mem (d := dB) hY)).1
  have hX : X < (l.getD Y dB).size := by omega
  have hat : ∀ K : Value → Prop, (iaS 1 v (.int .i64 Y) fun p => ld1 w1 p K) = K (.string (l.getD Y dB)) := fun K => str_at (hr.kp k1) hY K
  have hb : (((l.getD Y dB)[X]'hX).toNat : Nat) = byteAt l X Y := by
    unfold byteAt
    have : (l.getD Y dB).data.getD X 0 = (l.getD Y dB)[X]'hX := by
      rw [Array.getD_eq_getD_getElem?, Array.getElem?_eq_getElem (by exact hX)]; rfl
    rw [this]
  simp (disch := omega) only [r_ln, r_pick, r_pickT, r_pickF, r_condT, r_condF, r_gdTT, r_gdFF, r_gdTF, r_gdFT, r_gqTT, r_gqFF, r_gqTF, r_gqFT, r_not, r_lss, r_leq, r_gtr, r_geq, r_eql, r_neq, r_add, r_sub, r_min2, r_max2, r_min3, r_max3, r_fa, r_iaS, r_iaA, r_ex2a, r_ex2b, r_ex3a, r_ex3b, r_ex3c, r_nc, r_keepE, Nat.zero_add, Nat.add_zero, Nat.mul_one, Int.toNat_natCast, toNat_sub1, toNat_add1, decide_true, decide_false, Bool.not_true, Bool.not_false, if_true, if_false, Bool.false_eq_true, reduceCtorEq, r_gdU, decide_eq_true g1, decide_eq_true g2, r_ld c0, r_ld c1, r_ld c2, decide_eq_true g3, decide_eq_true g4, hat]
  refine r_ixS hX ?_
  rw [hb, r_eql]
  have hE : hasB l X Y = decide (byteAt l X Y = 35) := by
    unfold hasB
    rw [decide_eq_true (by omega), Bool.true_and]; rfl
  rw [hE]
  refine ⟨ret_bool ?_, k1⟩
  by_cases q : byteAt l X Y = 35
  · rw [decide_eq_true q, decide_eq_true (by omega)]
  · rw [decide_eq_false q, decide_eq_false (by omega)]

end Go.Proofs.YtbekeccfjmoonaaDoor
