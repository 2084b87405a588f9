/- Contracts: the numbers' operations, IndexFunc at rows, the determinant of the program. -/
import Derived.Test.YtkdcldbedbagjaaDoorMt
import Derived.Test.YtkdcldbedbagjaaDoorSa
import Derived.Test.YtkdcldbedbagjaaDoorDb
set_option linter.all false
namespace Go.Proofs.YtkdcldbedbagjaaDoor
open Go.Lf Go.RowKit Go.Dt

theorem r_quoX {w : World} {K : Value → Prop} {t : TypeId} {lit : Bool} (x y z : Int) (hy : y ≠ 0) (e : x = y * z) (h0 : -9223372036854775808 ≤ z) (h1 : z ≤ 9223372036854775807) : binQ Tryd.prog w .quo t lit (.int .i64 x) (.int .i64 y) K = K (.int .i64 z) := by
  rw [r_bin (v := .int .i64 (IntKind.i64.wrap (x.tdiv y))) (by simp [intBin, hy]), e, Int.mul_tdiv_cancel_left _ hy, IntWalk.i64_in _ (by omega)]

abbrev fnV (n : Nat) : Value := .func (.func n) #[] #[]
/-- What the package's variable holds: how numbers are computed with. -/
abbrev kV : Value := .agg #[fnV 122, fnV 123, fnV 124]
abbrev ptrV (b : Nat) : Value := .pointer (some ⟨b, 0, none⟩)

theorem sub_calls {x y : Int} (w : World) (h0 : -9223372036854775808 ≤ x - y) (h1 : x - y ≤ 9223372036854775807) : Calls Tryd.prog 122 #[.int .i64 x, .int .i64 y] w fun e w' => e = .returned (.int .i64 (x - y)) ∧ w = w' := by
  refine lift122 ?_
  unfold S122
  rw [r_sub _ _ h0 h1]
  exact ⟨rfl, rfl⟩
theorem mul_calls {x y : Int} (w : World) (h0 : -9223372036854775808 ≤ x * y) (h1 : x * y ≤ 9223372036854775807) : Calls Tryd.prog 123 #[.int .i64 x, .int .i64 y] w fun e w' => e = .returned (.int .i64 (x * y)) ∧ w = w' := by
  refine lift123 ?_
  unfold S123
  rw [r_mul _ _ h0 h1]
  exact ⟨rfl, rfl⟩
theorem quo_calls {x y z : Int} (w : World) (hy : y ≠ 0) (e : x = y * z) (h0 : -9223372036854775808 ≤ z) (h1 : z ≤ 9223372036854775807) : Calls Tryd.prog 124 #[.int .i64 x, .int .i64 y] w fun e w' => e = .returned (.int .i64 z) ∧ w = w' := by
  refine lift124 ?_
  unfold S124
  rw [r_quoX x y z hy e h0 h1]
  exact ⟨rfl, rfl⟩

theorem nonzero_calls {u : Value} {l : List Int} {b i : Nat} (w : World) (hr : RdInts w u l) (hi : i < l.length) (hc : w.cell? ⟨b, 0, none⟩ = some (.int .i64 i)) : Calls Tryd.prog 85 #[u, ptrV b] w fun e w' => e = .returned (.bool (!decide (l.getD i 0 = 0))) ∧ w = w' := by
  refine lift85 ?_
  unfold S85
  rw [r_ld hc, ints_ldK hr hi, r_neq]
  exact ⟨rfl, rfl⟩

theorem RdRows.ldK {w : World} {v : Value} {R : List (List Int)} (h : RdRows w v R) {i : Nat} (hi : i < R.length) : ∃ u, RdInts w u (R.getD i []) ∧ ∀ K : Value → Prop, (iaS 1 v (.int .i64 i) fun p => ld1 w p K) = K u := by
  obtain ⟨b, off, cap, u, e, hc, hr⟩ := h.row hi
  have hii : (i : Int).toNat = i := by omega
  exact ⟨u, hr, fun K => by rw [e, r_iaS _ _ _ _ _ _ _ (by omega) (by omega), hii, Nat.mul_one, r_ld hc]⟩

set_option maxRecDepth 100000 in
/-- slices.IndexFunc: the first row whose number i is not 0. -/
theorem pivot_calls {v : Value} {L : List (List Int)} {b i : Nat} (w : World) (hr : RdRows w v L) (hl : L.length ≤ 1000) (hi : ∀ j, j < L.length → i < (L.getD j []).length) (hc : w.cell? ⟨b, 0, none⟩ = some (.int .i64 i)) :
    Calls Tryd.prog 84 #[v, .func (.func 85) #[] #[ptrV b]] w fun e w' => w = w' ∧ ∃ p : Int, e = .returned (.int .i64 p) ∧ ((p = -1 ∧ ∀ j, j < L.length → hat L j i = 0) ∨ (0 ≤ p ∧ p < L.length ∧ hat L p.toNat i ≠ 0)) := by
  obtain ⟨a, cap, ev, _⟩ := hr.len
  have lnv : ∀ K : Value → Prop, ln1 v K = K (.int .i64 L.length) := fun K => by rw [ev]; rfl
  refine lift84 ?_
  unfold S84 S84L0
  rw [lnv]
  refine ⟨fun t8 wr => ∃ j : Nat, j ≤ L.length ∧ t8 = .int .i64 j ∧ (∀ q, q < j → hat L q i = 0) ∧ w = wr, fun t8 _ => L.length - (intOf t8).toNat, ⟨0, by omega, rfl, by simp, rfl⟩, ?_⟩
  rintro _ _ _ ⟨j, hj, rfl, hz, rfl⟩
  by_cases hlt : j < L.length
  case neg =>
    have hlt' : ¬ (j : Int) < (L.length : Int) := by omega
    simp only [r_lss, hlt', decide_false, r_condF]
    exact ⟨by first | rfl | trivial, _, rfl, .inl ⟨rfl, fun q hq => hz q (by omega)⟩⟩
  have hlt' : (j : Int) < (L.length : Int) := by omega
  obtain ⟨u, hu, ldu⟩ := hr.ldK hlt
  simp only [r_lss, decide_eq_true hlt', r_condT]
  rw [ldu]
  refine r_use fok85 (nonzero_calls w hu (hi j hlt) hc) rfl ?_
  rintro _ _ ⟨rfl, rfl⟩
  refine ⟨_, rfl, ?_⟩
  by_cases h0 : hat L j i = 0
  · have h0' : (L.getD j []).getD i 0 = 0 := h0
    simp only [h0', decide_true, Bool.not_true, r_condF]
    rw [r_add _ _ (by omega) (by omega)]
    refine ⟨⟨j + 1, by omega, by go_num, fun q hq => ?_, by first | rfl | trivial⟩, by simp only [intOf]; omega⟩
    by_cases e : q = j
    · rw [e]; exact h0
    · exact hz q (by omega)
  · have h0' : ¬ (L.getD j []).getD i 0 = 0 := h0
    simp only [h0', decide_false, Bool.not_false, r_condT]
    exact ⟨by first | rfl | trivial, _, rfl, .inr ⟨by omega, by omega, by simpa using h0⟩⟩

theorem RdRows.from {w : World} {a : Option Addr} {c : Nat} {R : List (List Int)} (h : RdRows w (.slice a R.length c) R) (hc : R.length ≤ c) {i : Nat} (hi : i ≤ R.length) :
    RdRows w (.slice (if c = i then a else a.map fun x => x.add (i * 1)) (R.length - i) (c - i)) (R.drop i) := by
  obtain ⟨a', cap', vs, e, hl, hh, hrows⟩ := h
  cases e
  refine ⟨_, _, fun j => vs (i + j), by rw [List.length_drop], by rw [List.length_drop]; omega, fun h0 => ?_, fun j hj => ?_⟩
  · rw [List.length_drop] at h0
    obtain ⟨b, off, rfl, hc'⟩ := hh (by omega)
    refine ⟨b, off + i, ?_, fun j hj => ?_⟩
    · rw [if_neg (by omega), Option.map_some, r_addr, Nat.mul_one]
    · rw [List.length_drop] at hj
      have := hc' (i + j) (by omega)
      rw [← Nat.add_assoc] at this
      exact this
  · rw [List.length_drop] at hj
    have := hrows (i + j) (by omega)
    rw [List.getD_eq_getElem?_getD, List.getElem?_drop, ← List.getD_eq_getElem?_getD]
    exact this

theorem IMatV.rdr {base : Nat} {w : World} {v : Value} {vs : List Value} {R : List (List Int)} (h : IMatV base w v vs R) (hR : R.length ≤ 1000) (hr : ∀ i, i < R.length → (R.getD i []).length ≤ 1000) : RdRows w v R :=
  IRows.rd (IMat.rows ⟨vs, h⟩) (by omega) fun r hm => by
    obtain ⟨i, hi, rfl⟩ := List.getElem_of_mem hm
    have := hr i hi
    rw [getD_lt _ _ _ hi] at this
    omega

theorem hat_drop (R : List (List Int)) (i j k : Nat) : hat (R.drop i) j k = hat R (i + j) k := by
  have e : (R.drop i).getD j [] = R.getD (i + j) [] := by rw [List.getD_eq_getElem?_getD, List.getElem?_drop, ← List.getD_eq_getElem?_getD]
  unfold hat
  rw [e]

section
variable {n : Nat} {base : Nat}

/-- What a determinant's step i has, up to row r and column c of the step. -/
structure DSt (n base : Nat) (A : Nat → Nat → Int) (q : Nat → Nat) (i r c : Nat) (v : Value) (vs : List Value) (R : List (List Int)) (w : World) : Prop where
  mat : IMatV base w v vs R
  siz : Sized n n R
  row : Rowed n A q
  sum : sumU q n ≤ 60
  nz : det i A ≠ 0
  at' : ∀ a b, i ≤ a → a < n → i ≤ b → b < n → hat R a b = if i < a ∧ i < b ∧ (a < r ∨ (a = r ∧ b < c)) then bar A (i + 1) a b else bar A i a b

theorem DSt.kp {A : Nat → Nat → Int} {q : Nat → Nat} {i r c : Nat} {v : Value} {vs : List Value} {R : List (List Int)} {w w' : World} (h : DSt n base A q i r c v vs R w) (k : Kp w w') : DSt n base A q i r c v vs R w' :=
  ⟨h.mat.kp k, h.siz, h.row, h.sum, h.nz, h.at'⟩

theorem small30 {x : Int} (h : x.natAbs ≤ 2 ^ 30) : -1073741824 ≤ x ∧ x ≤ 1073741824 := by
  have : (2 : Nat) ^ 30 = 1073741824 := rfl
  omega
theorem prod30 {x y : Int} (hx : x.natAbs ≤ 2 ^ 30) (hy : y.natAbs ≤ 2 ^ 30) : -1152921504606846976 ≤ x * y ∧ x * y ≤ 1152921504606846976 := by
  have h : (x * y).natAbs ≤ 2 ^ 30 * 2 ^ 30 := by rw [Int.natAbs_mul]; exact Nat.mul_le_mul hx hy
  have : (2 : Nat) ^ 30 * 2 ^ 30 = 1152921504606846976 := rfl
  omega

set_option maxRecDepth 100000 in
set_option maxHeartbeats 1000000 in
/-- The innermost loop: row r. -/
theorem r70_2 {A : Nat → Nat → Int} {q : Nat → Nat} {i r b2 b7 top : Nat} {v : Value} {vs : List Value} {R : List (List Int)} {w0 : World} {next : Value → World → Prop} (hn : n ≤ 1000) (hi : i < n) (hr : i < r) (hrn : r < n)
    (hst : DSt n base A q i r (i + 1) v vs R w0) (htop : TopV top v vs) (h2 : w0.heap[b2]? = some (.cells #[fnV 122, fnV 123, fnV 124] 100 (0, 0))) (h7 : w0.heap[b7]? = some (.cells #[.int .i64 i] 3 (0, 0)))
    (t2 : top ≤ b2) (t7 : top ≤ b7) (hb : base ≤ w0.heap.size)
    (hnext : ∀ w' R', DSt n base A q i (r + 1) (i + 1) v vs R' w' → Below base w0 w' → w'.heap[b2]? = some (.cells #[fnV 122, fnV 123, fnV 124] 100 (0, 0)) → w'.heap[b7]? = some (.cells #[.int .i64 i] 3 (0, 0)) → next (.int .i64 ((r : Int) + 1)) w') :
    S70L2 v (ptrV b2) (.int .i64 (det i A)) (ptrV b7) (.int .i64 r) (.int .i64 ((i + 1 : Nat) : Int)) next w0 := by
  obtain ⟨va, vc, ev, _⟩ := IMat.len ⟨vs, hst.mat⟩
  have hRl : R.length = n := hst.siz.1
  have lnv : ∀ K : Value → Prop, ln1 v K = K (.int .i64 n) := fun K => by rw [ev, hRl]; rfl
  unfold S70L2
  refine ⟨fun t wr => ∃ (c : Nat) (R' : List (List Int)), i < c ∧ c ≤ n ∧ t = .int .i64 c ∧ DSt n base A q i r c v vs R' wr ∧ Below base w0 wr ∧ wr.heap[b2]? = some (.cells #[fnV 122, fnV 123, fnV 124] 100 (0, 0)) ∧ wr.heap[b7]? = some (.cells #[.int .i64 i] 3 (0, 0)), fun t _ => n - (intOf t).toNat,
    ⟨i + 1, R, by omega, by omega, rfl, hst, Below.refl _ _, h2, h7⟩, ?_⟩
  rintro _ _ wr ⟨c, R', hic, hcn, rfl, hs, kr, g2, g7⟩
  rw [lnv]
  by_cases hlt : c < n
  case neg =>
    have hlt' : ¬ (c : Int) < (n : Int) := by omega
    simp only [r_lss, hlt', decide_false, r_condF]
    rw [r_add _ _ (by omega) (by omega)]
    refine hnext wr R' ⟨hs.mat, hs.siz, hs.row, hs.sum, hs.nz, fun a b h1 h2 h3 h4 => ?_⟩ kr g2 g7
    rw [hs.at' a b h1 h2 h3 h4]
    by_cases e : i < a ∧ i < b ∧ (a < r ∨ (a = r ∧ b < c))
    · rw [if_pos e, if_pos (by omega)]
    · rw [if_neg e, if_neg (by omega)]
  have hlt' : (c : Int) < (n : Int) := by omega
  simp only [r_lss, decide_eq_true hlt', r_condT]
  refine r_drew fun w1 k1 he1 => ?_
  have hs1 := hs.kp k1
  have g21 := block_below g2 k1
  have g71 := block_below g7 k1
  have hR'l : R'.length = n := hs1.siz.1
  have hrow : ∀ a, a < n → (R'.getD a []).length = n := hs1.siz.2
  obtain ⟨ur, _, Ir, ldr⟩ := hs1.mat.ldK (i := r) (by omega)
  obtain ⟨ui, _, Ii, ldi⟩ := hs1.mat.ldK (i := i) (by omega)
  have c7 : w1.cell? ⟨b7, 0, none⟩ = some (.int .i64 i) := by rw [cell_row g71]; rfl
  have f0 : w1.cell? ⟨b2, 0, none⟩ = some (fnV 122) := by rw [cell_row g21]; rfl
  have f1 : w1.cell? ⟨b2, 0 + 1, none⟩ = some (fnV 123) := by rw [cell_row g21]; rfl
  have f2 : w1.cell? ⟨b2, 0 + 2, none⟩ = some (fnV 124) := by rw [cell_row g21]; rfl
  have e1 : (R'.getD r []).getD c 0 = bar A i r c := by
    have := hs1.at' r c (by omega) hrn (by omega) hlt
    rw [if_neg (by omega)] at this
    exact this
  have e2 : (R'.getD i []).getD i 0 = bar A i i i := by
    have := hs1.at' i i (by omega) hi (by omega) hi
    rw [if_neg (by omega)] at this
    exact this
  have e3 : (R'.getD r []).getD i 0 = bar A i r i := by
    have := hs1.at' r i (by omega) hrn (by omega) hi
    rw [if_neg (by omega)] at this
    exact this
  have e4 : (R'.getD i []).getD c 0 = bar A i i c := by
    have := hs1.at' i c (by omega) hi (by omega) hlt
    rw [if_neg (by omega)] at this
    exact this
  have B : ∀ a b, i ≤ a → a < n → i ≤ b → b < n → (bar A i a b).natAbs ≤ 2 ^ 30 := fun a b h1 h2 h3 h4 => bar_abs hs.row hs.sum h1 h2 h3 h4
  have p1 := prod30 (B r c (by omega) hrn (by omega) hlt) (B i i (by omega) hi (by omega) hi)
  have p2 := prod30 (B r i (by omega) hrn (by omega) hi) (B i c (by omega) hi (by omega) hlt)
  have p3 := small30 (bar_abs hs.row hs.sum (i := i + 1) (r := r) (c := c) (by omega) hrn (by omega) hlt)
  rw [ldr, r_fa, r_ld f2, r_fa, r_ld f0, r_fa, r_ld f1, ldr, own_ldK Ir (by rw [hrow r hrn]; exact hlt), r_ld c7, ldi, r_ld c7, own_ldK Ii (by rw [hrow i hi]; exact hi), r_fa, r_ld f1, ldr, r_ld c7, own_ldK Ir (by rw [hrow r hrn]; exact hi), r_ld c7, ldi, own_ldK Ii (by rw [hrow i hi]; exact hlt)]
  rw [e1, e2, e3, e4]
  refine r_use fok123 (mul_calls w1 (by omega) (by omega)) rfl ?_
  rintro _ _ ⟨rfl, rfl⟩
  refine ⟨_, rfl, r_keep (Below.refl _ _) ?_⟩
  refine r_use fok123 (mul_calls w1 (by omega) (by omega)) rfl ?_
  rintro _ _ ⟨rfl, rfl⟩
  refine ⟨_, rfl, r_keep (Below.refl _ _) ?_⟩
  refine r_use fok122 (sub_calls w1 (by omega) (by omega)) rfl ?_
  rintro _ _ ⟨rfl, rfl⟩
  refine ⟨_, rfl, r_keep (Below.refl _ _) ?_⟩
  refine r_use fok124 (quo_calls (z := bar A (i + 1) r c) w1 hs.nz (bar_step r c hs.nz) (by omega) (by omega)) rfl ?_
  rintro _ _ ⟨rfl, rfl⟩
  refine ⟨_, rfl, r_keep (Below.refl _ _) ?_⟩
  obtain ⟨g, cap, d, cc, ev', hcell, hbg, hbd, dcell, dfr, ⟨u', hu', hd'⟩, hput⟩ := hs1.mat.put (i := r) (j := c) (by omega) (by rw [hrow r hrn]; exact hlt)
  obtain ⟨d0, c0, eur, _⟩ := Ir.put (q := c) (by rw [hrow r hrn]; exact hlt) 0
  have hur : ur = .slice (some ⟨d, 0, none⟩) (R'.getD r []).length cc := by
    have h9 := ldr fun x => x = ur
    have hrr : (r : Int).toNat = r := by omega
    rw [ev', r_iaS _ _ _ _ _ _ _ (by omega) (by omega), hrr, Nat.mul_one, Nat.zero_add, r_ld hcell] at h9
    exact (h9.mpr rfl).symm
  have hcc : (c : Int).toNat = c := by omega
  rw [hur, r_iaS _ _ _ _ _ _ _ (by omega) (by rw [hrow r hrn]; omega), hcc, Nat.mul_one, Nat.zero_add, st3 dcell dfr]
  have hdt : d < top := htop.2 r u' hu' d hd'
  have hch : Chg (fun k => k = d) w1 (w1.setCell ⟨d, c, none⟩ (.int .i64 (bar A (i + 1) r c))) := Chg.setCell _ _ rfl
  rw [r_add _ _ (by omega) (by omega)]
  refine ⟨⟨c + 1, _, by omega, by omega, by go_num, ⟨hput (bar A (i + 1) r c), put2_sized hs1.siz hrn _, hs.row, hs.sum, hs.nz, fun a b h1 h2 h3 h4 => ?_⟩, ?_, ?_, ?_⟩, by simp only [intOf]; omega⟩
  · rw [put2_hat _ _ _ _ _ _ (by omega) (by rw [hrow r hrn]; exact hlt)]
    by_cases e : a = r ∧ b = c
    · rw [if_pos e, if_pos (by omega), e.1, e.2]
    · rw [if_neg e, hs1.at' a b h1 h2 h3 h4]
      by_cases e' : i < a ∧ i < b ∧ (a < r ∨ (a = r ∧ b < c))
      · rw [if_pos e', if_pos (by omega)]
      · rw [if_neg e', if_neg (by omega)]
  · have hsz := kr.size
    have hs1' := k1.size
    exact kr.trans ((Below.mono k1 (by omega)).trans (hch.below (by omega) fun k e => by omega))
  · exact hch.at g21 (by omega)
  · exact hch.at g71 (by omega)

end
end Go.Proofs.YtkdcldbedbagjaaDoor
