/- Texts of my own, merged by program: Pb Pc. -/
import Derived.Test.YtfmppkplmfbjpaaGreatDoorM14
import Derived.Test.YtfmppkplmfbjpaaGreatDoorM15
set_option linter.all false
/- Contracts of pattern: mod, to, colour, keeps. -/
namespace Go.Proofs.YtfmppkplmfbjpaaGreatDoor
open Go.Lf Go.RowKit Go.Ht Go.Pt

theorem tmod_bound {x m : Int} (h : 0 < m) : -m < x.tmod m ∧ x.tmod m < m := by
  have h1 := Int.emod_nonneg x (show m ≠ 0 by omega)
  have h2 := Int.emod_lt_of_pos x h
  rw [Int.tmod_eq_emod]
  split <;> omega
theorem mod_val {x m : Int} (h : 0 < m) : (x.tmod m + m).tmod m = x % m := by
  have h1 := Int.emod_nonneg x (show m ≠ 0 by omega)
  have h2 := Int.emod_lt_of_pos x h
  have h3 := tmod_bound (x := x) h
  rw [Int.tmod_eq_emod_of_nonneg (by omega), Int.tmod_eq_emod]
  split
  · rw [show x % m - ((0 : Nat) : Int) + m = x % m + m by omega, Int.add_emod_right, Int.emod_emod_of_dvd _ (Int.dvd_refl m)]
  · rw [show x % m - (m.natAbs : Int) + m = x % m by omega, Int.emod_emod_of_dvd _ (Int.dvd_refl m)]
theorem mod_calls (x : Int) {m : Int} (w : World) (h : 0 < m) (hm : m ≤ 1000) : Calls Tryz.prog 72 #[.int .i64 x, .int .i64 m] w fun e w' => e = .returned (.int .i64 (x % m)) ∧ w = w' := by
  refine lift72 ?_
  unfold S72
  have hb := tmod_bound (x := x) h
  rw [r_tmod _ _ h, r_add _ _ (by omega) (by omega), r_tmod _ _ h, mod_val h]
  exact ⟨rfl, rfl⟩

/-- A move: A, B, C, D, E, F. -/
abbrev Mv := Int × Int × Int × Int × Int × Int
def mvC (m : Mv) : List Value := [.int .i64 m.1, .int .i64 m.2.1, .int .i64 m.2.2.1, .int .i64 m.2.2.2.1, .int .i64 m.2.2.2.2.1, .int .i64 m.2.2.2.2.2]
abbrev mvV (m : Mv) : Value := .agg #[.int .i64 m.1, .int .i64 m.2.1, .int .i64 m.2.2.1, .int .i64 m.2.2.2.1, .int .i64 m.2.2.2.2.1, .int .i64 m.2.2.2.2.2]
theorem mvC_len (m : Mv) : (mvC m).length = 6 := rfl
theorem mvC_one (m : Mv) : ∀ u ∈ mvC m, u.oneCell' = true := by
  intro u hu
  simp [mvC] at hu
  rcases hu with rfl | rfl | rfl | rfl | rfl | rfl <;> rfl
def txM (m : Mv) (x y : Int) : Int := m.1 * x + m.2.1 * y + m.2.2.2.2.1
def tyM (m : Mv) (x y : Int) : Int := m.2.2.1 * x + m.2.2.2.1 * y + m.2.2.2.2.2
/-- A move within the measures that are looked at. -/
structure MvOk (m : Mv) : Prop where
  a : -1 ≤ m.1 ∧ m.1 ≤ 1
  b : -1 ≤ m.2.1 ∧ m.2.1 ≤ 1
  c : -1 ≤ m.2.2.1 ∧ m.2.2.1 ≤ 1
  d : -1 ≤ m.2.2.2.1 ∧ m.2.2.2.1 ≤ 1
  e : -200 ≤ m.2.2.2.2.1 ∧ m.2.2.2.2.1 ≤ 200
  f : -200 ≤ m.2.2.2.2.2 ∧ m.2.2.2.2.2 ≤ 200
theorem mul_small {a x : Int} (h : -1 ≤ a ∧ a ≤ 1) (hx : -1000 ≤ x ∧ x ≤ 1000) : -1000 ≤ a * x ∧ a * x ≤ 1000 := by
  have : a = -1 ∨ a = 0 ∨ a = 1 := by omega
  rcases this with rfl | rfl | rfl <;> omega
theorem mv_cells {w : World} {b : Nat} {m : Mv} {t : TypeId} {fr : Nat × Nat} (h : w.heap[b]? = some (.cells (mvV m).cells t fr)) :
    w.cell? ⟨b, 0, none⟩ = some (.int .i64 m.1) ∧ w.cell? ⟨b, 1, none⟩ = some (.int .i64 m.2.1) ∧ w.cell? ⟨b, 2, none⟩ = some (.int .i64 m.2.2.1) ∧ w.cell? ⟨b, 3, none⟩ = some (.int .i64 m.2.2.2.1) ∧ w.cell? ⟨b, 4, none⟩ = some (.int .i64 m.2.2.2.2.1) ∧ w.cell? ⟨b, 5, none⟩ = some (.int .i64 m.2.2.2.2.2) :=
  ⟨by rw [cell_row h]; rfl, by rw [cell_row h]; rfl, by rw [cell_row h]; rfl, by rw [cell_row h]; rfl, by rw [cell_row h]; rfl, by rw [cell_row h]; rfl⟩
theorem mv_ld {w : World} {b : Nat} {m : Mv} {t : TypeId} {fr : Nat × Nat} (h : w.heap[b]? = some (.cells (mvV m).cells t fr)) (K : Value → Prop) : ldN 6 w (ptrV b) K = K (mvV m) := r_ldRow h rfl
theorem to_rng {m : Mv} (hm : MvOk m) {x y : Int} (hx : -1000 ≤ x ∧ x ≤ 1000) (hy : -1000 ≤ y ∧ y ≤ 1000) : (-2200 ≤ txM m x y ∧ txM m x y ≤ 2200) ∧ (-2200 ≤ tyM m x y ∧ tyM m x y ≤ 2200) := by
  have h1 := mul_small hm.a hx
  have h2 := mul_small hm.b hy
  have h3 := mul_small hm.c hx
  have h4 := mul_small hm.d hy
  have h5 := hm.e
  have h6 := hm.f
  unfold txM tyM
  omega

set_option maxRecDepth 100000 in
theorem to_calls {m : Mv} (hm : MvOk m) {x y : Int} (hx : -1000 ≤ x ∧ x ≤ 1000) (hy : -1000 ≤ y ∧ y ≤ 1000) (w : World) : Calls Tryz.prog 21 #[mvV m, .int .i64 x, .int .i64 y] w fun e w' => e = .returned (.tuple #[.int .i64 (txM m x y), .int .i64 (tyM m x y)]) ∧ Kp w w' := by
  refine lift21 ?_
  unfold S21
  refine r_box fun b w1 e1 s1 h1 k1 => ?_
  refine r_drew fun w2 k2 _ => ?_
  obtain ⟨c0, c1, c2, c3, c4, c5⟩ := mv_cells (block_below h1 k2)
  have m1 := mul_small hm.a hx
  have m2 := mul_small hm.b hy
  have m3 := mul_small hm.c hx
  have m4 := mul_small hm.d hy
  have m5 := hm.e
  have m6 := hm.f
  unfold txM tyM
  obtain ⟨A, B, C, D, E, F⟩ := m
  dsimp only at *
  simp (disch := omega) only [r_ln, r_pick, r_pickT, r_pickF, r_condT, r_condF, r_gdTT, r_gdFF, r_gdTF, r_gdFT, r_gqTT, r_gqFF, r_gqTF, r_gqFT, r_not, r_lss, r_leq, r_gtr, r_geq, r_eql, r_neq, r_add, r_sub, r_min2, r_max2, r_min3, r_max3, r_fa, r_iaS, r_iaA, r_ex2a, r_ex2b, r_ex3a, r_ex3b, r_ex3c, r_nc, r_keepE, Nat.zero_add, Nat.add_zero, Nat.mul_one, Int.toNat_natCast, toNat_sub1, toNat_add1, decide_true, decide_false, Bool.not_true, Bool.not_false, if_true, if_false, Bool.false_eq_true, reduceCtorEq, r_mul, r_ld c0, r_ld c1, r_ld c2, r_ld c3, r_ld c4, r_ld c5]
  exact ⟨by first | rfl | trivial, Kp.trans k1 k2⟩

/-! ### floors -/
def patW (l : List ByteArray) : Nat := (l.getD 0 dB).size
structure PatOk (l : List ByteArray) : Prop where
  len : 1 ≤ l.length ∧ l.length ≤ 6
  wid : 1 ≤ patW l ∧ patW l ≤ 6
  row : ∀ i, i < l.length → (l.getD i dB).size = patW l
def byteN (s : ByteArray) (i : Nat) : Nat := if h : i < s.size then (s[i]'h).toNat else 0
/-- The colour of a cell. -/
def colP (l : List ByteArray) (x y : Int) : Nat := byteN (l.getD (y % l.length).toNat dB) (x % patW l).toNat
structure FlAt (w : World) (b : Nat) (l : List ByteArray) : Prop where
  blk : ∃ v, w.heap[b]? = some (.cells #[.int .i64 (patW l : Nat), .int .i64 l.length, v] 63 (0, 0)) ∧ RdB w v l
  ok : PatOk l
theorem FlAt.kp {w w' : World} {b : Nat} {l : List ByteArray} (h : FlAt w b l) (k : Kp w w') : FlAt w' b l :=
  ⟨let ⟨v, h1, h2⟩ := h.blk; ⟨v, block_below h1 k, h2.kp k⟩, h.ok⟩
theorem FlAt.cells {w : World} {b : Nat} {l : List ByteArray} (h : FlAt w b l) : ∃ v, w.cell? ⟨b, 0, none⟩ = some (.int .i64 (patW l : Nat)) ∧ w.cell? ⟨b, 1, none⟩ = some (.int .i64 l.length) ∧ w.cell? ⟨b, 2, none⟩ = some v ∧ RdB w v l := by
  obtain ⟨v, h1, h2⟩ := h.blk
  exact ⟨v, by rw [cell_row h1]; rfl, by rw [cell_row h1]; rfl, by rw [cell_row h1]; rfl, h2⟩
theorem patPer {l : List ByteArray} (h : PatOk l) : Per (colP l) (patW l) l.length := by
  have h1 := h.len
  have h2 := h.wid
  refine ⟨by omega, by omega, fun x y => ?_, fun x y => ?_⟩
  · unfold colP
    rw [Int.add_emod_right]
  · unfold colP
    rw [Int.add_emod_right]

set_option maxRecDepth 100000 in
theorem shade_calls {w : World} {b : Nat} {l : List ByteArray} (h : FlAt w b l) (x y : Int) : Calls Tryz.prog 71 #[ptrV b, .int .i64 x, .int .i64 y] w fun e w' => e = .returned (.int .u8 (colP l x y)) ∧ Kp w w' := by
  have hl := h.ok.len
  have hw := h.ok.wid
  refine lift71 ?_
  unfold S71
  refine r_drew fun w1 k1 _ => ?_
  obtain ⟨v, c0, c1, c2, hr⟩ := (h.kp k1).cells
  simp (disch := omega) only [r_ln, r_pick, r_pickT, r_pickF, r_condT, r_condF, r_gdTT, r_gdFF, r_gdTF, r_gdFT, r_gqTT, r_gqFF, r_gqTF, r_gqFT, r_not, r_lss, r_leq, r_gtr, r_geq, r_eql, r_neq, r_add, r_sub, r_min2, r_max2, r_min3, r_max3, r_fa, r_iaS, r_iaA, r_ex2a, r_ex2b, r_ex3a, r_ex3b, r_ex3c, r_nc, r_keepE, Nat.zero_add, Nat.add_zero, Nat.mul_one, Int.toNat_natCast, toNat_sub1, toNat_add1, decide_true, decide_false, Bool.not_true, Bool.not_false, if_true, if_false, Bool.false_eq_true, reduceCtorEq, r_ld c0, r_ld c1, r_ld c2]
  refine r_use fok72 (mod_calls y w1 (m := (l.length : Nat)) (by omega) (by omega)) rfl ?_
  rintro _ _ ⟨rfl, rfl⟩
  refine ⟨_, rfl, Kp.refl _, ?_⟩
  have y1 := Int.emod_nonneg y (show ((l.length : Nat) : Int) ≠ 0 by omega)
  have y2 := Int.emod_lt_of_pos y (show (0 : Int) < (l.length : Nat) by omega)
  have ey : y % ((l.length : Nat) : Int) = ((y % ((l.length : Nat) : Int)).toNat : Nat) := by omega
  have hyl : (y % ((l.length : Nat) : Int)).toNat < l.length := by omega
  rw [ey]
  dsimp only
  rw [str_at hr hyl]
  refine r_use fok72 (mod_calls x w1 (m := (patW l : Nat)) (by omega) (by omega)) rfl ?_
  rintro _ _ ⟨rfl, rfl⟩
  refine ⟨_, rfl, Kp.refl _, ?_⟩
  have x1 := Int.emod_nonneg x (show ((patW l : Nat) : Int) ≠ 0 by omega)
  have x2 := Int.emod_lt_of_pos x (show (0 : Int) < (patW l : Nat) by omega)
  have ex : x % ((patW l : Nat) : Int) = ((x % ((patW l : Nat) : Int)).toNat : Nat) := by omega
  have hrow := h.ok.row _ hyl
  rw [ex]
  dsimp only
  refine r_ixS (by rw [hrow]; omega) ?_
  refine ⟨?_, k1⟩
  unfold colP byteN
  rw [dif_pos (by rw [hrow]; omega)]

/-! ### keeps -/
def keepC (l : List ByteArray) (m : Mv) (y x : Nat) : Bool := decide (colP l (txM m x y) (tyM m x y) = colP l x y)
def keepR (l : List ByteArray) (m : Mv) (y : Nat) : Bool := (List.range (patW l * l.length)).all fun x => keepC l m y x
/-- Is the move a symmetry? -/
def keepsB (l : List ByteArray) (m : Mv) : Bool := (List.range (patW l * l.length)).all fun y => keepR l m y

theorem area_le {l : List ByteArray} (h : PatOk l) : 1 ≤ patW l * l.length ∧ patW l * l.length ≤ 36 ∧ patW l ≤ patW l * l.length ∧ l.length ≤ patW l * l.length := by
  have h1 := h.len
  have h2 := h.wid
  have h3 : patW l * l.length ≤ 6 * 6 := Nat.mul_le_mul h2.2 h1.2
  have h4 : patW l * 1 ≤ patW l * l.length := Nat.mul_le_mul_left _ h1.1
  have h5 : 1 * l.length ≤ patW l * l.length := Nat.mul_le_mul_right _ h2.1
  omega

set_option maxRecDepth 100000 in
theorem r41_1 {l : List ByteArray} {b bm y : Nat} {m : Mv} {w0 w : World} {next : Value → World → Prop} {R : Ending → World → Prop} (hm : MvOk m) (hf : FlAt w0 b l) (hb : w0.heap[bm]? = some (.cells (mvV m).cells 71 (0, 0))) (hk : Kp w0 w) (hy : y < patW l * l.length)
    (hF : ∀ w', Kp w0 w' → keepR l m y = false → R (.returned (.bool false)) w') (hN : ∀ w', Kp w0 w' → keepR l m y = true → next (.int .i64 ((y : Int) + 1)) w') : S41L1 (ptrV b) (ptrV bm) (.int .i64 (patW l * l.length : Nat)) (.int .i64 y) next R w := by
  have ha := area_le hf.ok
  unfold S41L1
  refine ⟨fun t24 wr => ∃ x : Nat, x ≤ patW l * l.length ∧ t24 = .int .i64 x ∧ (∀ j, j < x → keepC l m y j = true) ∧ Kp w0 wr, fun t24 _ => patW l * l.length - (intOf t24).toNat, ⟨0, by omega, rfl, fun j hj => by omega, hk⟩, ?_⟩
  rintro _ _ wr ⟨x, hx, rfl, hall, kr⟩
  by_cases hlt : x < patW l * l.length
  case neg =>
    have hlt' : ¬ (x : Int) < ((patW l * l.length : Nat) : Int) := by omega
    rw [r_lss, decide_eq_false hlt', r_condF, r_add _ _ (by omega) (by omega)]
    exact hN _ kr (List.all_eq_true.2 fun j hj => hall j (by have := List.mem_range.1 hj; omega))
  have hlt' : (x : Int) < ((patW l * l.length : Nat) : Int) := by omega
  rw [r_lss, decide_eq_true hlt', r_condT, mv_ld (block_below hb kr)]
  refine r_use fok21 (to_calls hm (x := x) (y := y) (by omega) (by omega) wr) rfl ?_
  rintro _ w1 ⟨rfl, k1⟩
  refine ⟨_, rfl, ?_⟩
  rw [r_ex2a, r_ex2b]
  have k01 := Kp.trans kr k1
  refine r_use fok71 (shade_calls (hf.kp k01) _ _) rfl ?_
  rintro _ w2 ⟨rfl, k2⟩
  refine ⟨_, rfl, ?_⟩
  have k02 := Kp.trans k01 k2
  refine r_use fok71 (shade_calls (hf.kp k02) _ _) rfl ?_
  rintro _ w3 ⟨rfl, k3⟩
  refine ⟨_, rfl, ?_⟩
  have k03 := Kp.trans k02 k3
  rw [r_neq]
  by_cases he : colP l (txM m x y) (tyM m x y) = colP l x y
  · have he' : ((colP l (txM m x y) (tyM m x y) : Nat) : Int) = ((colP l x y : Nat) : Int) := by omega
    rw [decide_eq_true he', Bool.not_true, r_condF, r_add _ _ (by omega) (by omega)]
    refine ⟨⟨x + 1, by omega, by go_num, fun j hj => ?_, k03⟩, by simp only [intOf]; omega⟩
    by_cases e : j = x
    · subst e; exact decide_eq_true he
    · exact hall j (by omega)
  · have he' : ¬ ((colP l (txM m x y) (tyM m x y) : Nat) : Int) = ((colP l x y : Nat) : Int) := by omega
    rw [decide_eq_false he', Bool.not_false, r_condT]
    refine hF _ k03 ?_
    cases q : keepR l m y with
    | false => rfl
    | true => exact absurd (of_decide_eq_true (List.all_eq_true.1 q x (List.mem_range.2 hlt))) he

set_option maxRecDepth 100000 in
theorem keeps_calls {w : World} {b : Nat} {l : List ByteArray} (h : FlAt w b l) {m : Mv} (hm : MvOk m) : Calls Tryz.prog 41 #[ptrV b, mvV m] w fun e w' => e = .returned (.bool (keepsB l m)) ∧ Kp w w' := by
  have ha := area_le h.ok
  have hl := h.ok.len
  have hw := h.ok.wid
  refine lift41 ?_
  unfold S41
  refine r_box fun bm w1 e1 s1 h1 k1 => ?_
  refine r_drew fun w2 k2 _ => ?_
  have k02 := Kp.trans k1 k2
  obtain ⟨v, c0, c1, _, _⟩ := (h.kp k02).cells
  simp (disch := omega) only [r_ln, r_pick, r_pickT, r_pickF, r_condT, r_condF, r_gdTT, r_gdFF, r_gdTF, r_gdFT, r_gqTT, r_gqFF, r_gqTF, r_gqFT, r_not, r_lss, r_leq, r_gtr, r_geq, r_eql, r_neq, r_add, r_sub, r_min2, r_max2, r_min3, r_max3, r_fa, r_iaS, r_iaA, r_ex2a, r_ex2b, r_ex3a, r_ex3b, r_ex3c, r_nc, r_keepE, Nat.zero_add, Nat.add_zero, Nat.mul_one, Int.toNat_natCast, toNat_sub1, toNat_add1, decide_true, decide_false, Bool.not_true, Bool.not_false, if_true, if_false, Bool.false_eq_true, reduceCtorEq, r_ld c0, r_ld c1]
  rw [r_mulN _ _ (by omega)]
  unfold S41L0
  refine ⟨fun t20 wr => ∃ y : Nat, y ≤ patW l * l.length ∧ t20 = .int .i64 y ∧ (∀ j, j < y → keepR l m j = true) ∧ Kp w2 wr, fun t20 _ => patW l * l.length - (intOf t20).toNat, ⟨0, by omega, rfl, fun j hj => by omega, Kp.refl _⟩, ?_⟩
  rintro _ _ wr ⟨y, hy, rfl, hall, kr⟩
  by_cases hlt : y < patW l * l.length
  case neg =>
    have hlt' : ¬ (y : Int) < ((patW l * l.length : Nat) : Int) := by omega
    rw [r_lss, decide_eq_false hlt', r_condF]
    have : keepsB l m = true := List.all_eq_true.2 fun j hj => hall j (by have := List.mem_range.1 hj; omega)
    exact ⟨by rw [this], Kp.trans k02 kr⟩
  have hlt' : (y : Int) < ((patW l * l.length : Nat) : Int) := by omega
  rw [r_lss, decide_eq_true hlt', r_condT]
  refine r41_1 hm (h.kp k02) (block_below h1 k2) kr hlt (fun w' k' hq => ?_) fun w' k' hq => ?_
  · have : keepsB l m = false := by
      cases q : keepsB l m with
      | false => rfl
      | true => have := List.all_eq_true.1 q y (List.mem_range.2 hlt); rw [hq] at this; cases this
    exact ⟨by rw [this], Kp.trans k02 k'⟩
  · refine ⟨⟨y + 1, by omega, by go_num, fun j hj => ?_, k'⟩, by simp only [intOf]; omega⟩
    by_cases e : j = y
    · subst e; exact hq
    · exact hall j (by omega)

/-- A translation. -/
def shM (x y : Int) : Mv := (1, 0, 0, 1, x, y)
theorem keeps_tr {l : List ByteArray} (h : PatOk l) (a b : Int) : keepsB l (shM a b) = true ↔ Tr (colP l) a b := by
  have ha := area_le h
  have e1 : ∀ x y : Int, txM (shM a b) x y = x + a := fun x y => by unfold txM shM; dsimp only; omega
  have e2 : ∀ x y : Int, tyM (shM a b) x y = y + b := fun x y => by unfold tyM shM; dsimp only; omega
  constructor
  · intro hk
    refine tr_of_cells (patPer h) (n := patW l * l.length) ha.2.2.1 ha.2.2.2 fun y hy x hx => ?_
    have h1 := List.all_eq_true.1 hk y (List.mem_range.2 hy)
    have h2 := of_decide_eq_true (List.all_eq_true.1 h1 x (List.mem_range.2 hx))
    rw [e1, e2] at h2
    exact h2
  · intro ht
    refine List.all_eq_true.2 fun y _ => List.all_eq_true.2 fun x _ => decide_eq_true ?_
    rw [e1, e2]
    exact ht x y

theorem bd71 {x y : Int} {K : Value → Prop} : bdQ Tryz.prog 71 [(0, (.int .i64 1)), (3, (.int .i64 1)), (4, .int .i64 x), (5, .int .i64 y)] K = K (mvV (shM x y)) := by kernel_rfl
theorem shift_calls {w : World} {b bp : Nat} {l : List ByteArray} (h : FlAt w b l) (hp : w.cell? ⟨bp, 0, none⟩ = some (ptrV b)) {x y : Int} (hx : -100 ≤ x ∧ x ≤ 100) (hy : -100 ≤ y ∧ y ≤ 100) : Calls Tryz.prog 40 #[.int .i64 x, .int .i64 y, ptrV bp] w fun e w' => e = .returned (.bool (keepsB l (shM x y))) ∧ Kp w w' := by
  refine lift40 ?_
  unfold S40
  rw [r_ld hp, bd71]
  refine r_use fok41 (keeps_calls h (m := shM x y) ⟨by unfold shM; dsimp only; omega, by unfold shM; dsimp only; omega, by unfold shM; dsimp only; omega, by unfold shM; dsimp only; omega, by unfold shM; dsimp only; omega, by unfold shM; dsimp only; omega⟩) rfl ?_
  rintro _ w1 ⟨rfl, k1⟩
  exact ⟨_, rfl, rfl, k1⟩

end Go.Proofs.YtfmppkplmfbjpaaGreatDoor

/- Contract of pattern: lattice. -/
namespace Go.Proofs.YtfmppkplmfbjpaaGreatDoor
open Go.Lf Go.RowKit Go.Ht Go.Pt

abbrev gdV (A B D : Int) : Value := .agg #[.int .i64 A, .int .i64 B, .int .i64 D]
theorem bd36 {a d : Int} {K : Value → Prop} : bdQ Tryz.prog 36 [(0, .int .i64 a), (2, .int .i64 d)] K = K (gdV a 0 d) := by kernel_rfl
theorem bd36_0 {K : Value → Prop} : bdQ Tryz.prog 36 [] K = K (gdV 0 0 0) := by kernel_rfl
theorem gdV_one {A B D : Int} : ∀ u ∈ (gdV A B D).cells.toList, u.oneCell' = true := by
  intro u hu; simp [Value.cells] at hu; rcases hu with rfl | rfl | rfl <;> rfl
set_option maxRecDepth 100000 in
theorem st_gd {w : World} {b : Nat} {cs : Array Value} {A B D : Int} {K : World → Prop} (hb : w.heap[b]? = some (.cells cs 36 (0, 0))) (hn : cs.size = 3) (hk : ∀ w', Chg (fun k => k = b) w w' → w'.heap.size = w.heap.size → w'.heap[b]? = some (.cells #[.int .i64 A, .int .i64 B, .int .i64 D] 36 (0, 0)) → K w') : stW Tryz.prog 36 (ptrV b) (gdV A B D) w K :=
  r_stAll (n := 3) (ty := 36) (by kernel_rfl) rfl gdV_one hb hn hk

structure LSt (w wr : World) (b b1 b2 b3 : Nat) (A B D : Int) : Prop where
  k : Kp w wr
  n1 : w.heap.size ≤ b1
  n2 : w.heap.size ≤ b2
  n3 : w.heap.size ≤ b3
  d13 : b1 ≠ b3
  d23 : b2 ≠ b3
  g1 : wr.heap[b1]? = some (.cells #[ptrV b] 51 (0, 0))
  g2 : ∃ cs : Array Value, cs.size = 3 ∧ wr.heap[b2]? = some (.cells cs 36 (0, 0))
  g3 : wr.heap[b3]? = some (.cells #[.int .i64 A, .int .i64 B, .int .i64 D] 36 (0, 0))

section
variable {w wr : World} {b b1 b2 b3 : Nat} {A B D : Int}
theorem LSt.kp {w' : World} (h : LSt w wr b b1 b2 b3 A B D) (k' : Kp wr w') : LSt w w' b b1 b2 b3 A B D :=
  ⟨Kp.trans h.k k', h.n1, h.n2, h.n3, h.d13, h.d23, block_below h.g1 k', let ⟨cs, q1, q2⟩ := h.g2; ⟨cs, q1, block_below q2 k'⟩, block_below h.g3 k'⟩
set_option maxRecDepth 100000 in
theorem LSt.fin (h : LSt w wr b b1 b2 b3 A B D) {R : Ending → World → Prop} (hR : ∀ w', Kp w w' → R (.returned (gdV A B D)) w') :
    ldN 3 wr (ptrV b3) fun t => stW Tryz.prog 36 (ptrV b2) t wr fun w => ldN 3 w (ptrV b2) fun r => R (.returned r) w := by
  have e1 : ∀ K : Value → Prop, ldN 3 wr (ptrV b3) K = K (gdV A B D) := fun K => r_ldRow h.g3 rfl
  rw [e1]
  obtain ⟨cs, q1, q2⟩ := h.g2
  refine st_gd q2 q1 fun w' c' _ h' => ?_
  have e2 : ∀ K : Value → Prop, ldN 3 w' (ptrV b2) K = K (gdV A B D) := fun K => r_ldRow h' rfl
  rw [e2]
  exact hR _ (Kp.of_chg h.k c' fun i e => by have := h.n2; omega)
theorem LSt.cells (h : LSt w wr b b1 b2 b3 A B D) : wr.cell? ⟨b1, 0, none⟩ = some (ptrV b) ∧ wr.cell? ⟨b3, 0, none⟩ = some (.int .i64 A) ∧ wr.cell? ⟨b3, 1, none⟩ = some (.int .i64 B) ∧ wr.cell? ⟨b3, 2, none⟩ = some (.int .i64 D) :=
  ⟨by rw [cell_row h.g1]; rfl, by rw [cell_row h.g3]; rfl, by rw [cell_row h.g3]; rfl, by rw [cell_row h.g3]; rfl⟩
theorem LSt.upd (h : LSt w wr b b1 b2 b3 A B D) {w' : World} {A' B' D' : Int} (hc : Chg (fun k => k = b3) wr w') (h3 : w'.heap[b3]? = some (.cells #[.int .i64 A', .int .i64 B', .int .i64 D'] 36 (0, 0))) : LSt w w' b b1 b2 b3 A' B' D' :=
  ⟨Kp.of_chg h.k hc fun i e => by have := h.n3; omega, h.n1, h.n2, h.n3, h.d13, h.d23, hc.at h.g1 h.d13, let ⟨cs, q1, q2⟩ := h.g2; ⟨cs, q1, hc.at q2 h.d23⟩, h3⟩
theorem LSt.setA (h : LSt w wr b b1 b2 b3 A B D) (x : Int) {K : World → Prop} (hK : ∀ w', LSt w w' b b1 b2 b3 x B D → K w') : stW Tryz.prog 3 (.pointer (some ⟨b3, 0, none⟩)) (.int .i64 x) wr K := by
  rw [st3 h.cells.2.1 (frozen_row h.g3)]
  exact hK _ (h.upd (Chg.setCell _ _ rfl) (setCell_block h.g3 rfl))
theorem LSt.setB (h : LSt w wr b b1 b2 b3 A B D) (x : Int) {K : World → Prop} (hK : ∀ w', LSt w w' b b1 b2 b3 A x D → K w') : stW Tryz.prog 3 (.pointer (some ⟨b3, 1, none⟩)) (.int .i64 x) wr K := by
  rw [st3 h.cells.2.2.1 (frozen_row h.g3)]
  exact hK _ (h.upd (Chg.setCell _ _ rfl) (setCell_block h.g3 rfl))
theorem LSt.setD (h : LSt w wr b b1 b2 b3 A B D) (x : Int) {K : World → Prop} (hK : ∀ w', LSt w w' b b1 b2 b3 A B x → K w') : stW Tryz.prog 3 (.pointer (some ⟨b3, 2, none⟩)) (.int .i64 x) wr K := by
  rw [st3 h.cells.2.2.2 (frozen_row h.g3)]
  exact hK _ (h.upd (Chg.setCell _ _ rfl) (setCell_block h.g3 rfl))
end

theorem keeps_not {l : List ByteArray} (h : PatOk l) {a b : Int} (hk : keepsB l (shM a b) = false) : ¬ Tr (colP l) a b := fun ht => by
  rw [(keeps_tr h a b).2 ht] at hk; cases hk

set_option maxRecDepth 100000 in
theorem r17_2 {l : List ByteArray} {w wr : World} {b b1 b2 b3 D x : Nat} {next_2 : Value → World → Prop} {R : Ending → World → Prop} (hf : FlAt w b l) (hS : LSt w wr b b1 b2 b3 (patW l : Nat) 0 D) (hD : D ≤ 6) (hx : x ≤ 6)
    (hR : ∀ (y : Nat) w', y < D → Tr (colP l) x y → Kp w w' → R (.returned (gdV x y D)) w') (hN : ∀ w', LSt w w' b b1 b2 b3 (patW l : Nat) 0 D → (∀ y : Nat, y < D → ¬ Tr (colP l) x y) → next_2 (.int .i64 ((x : Int) + 1)) w') :
    S17L2 (ptrV b1) (ptrV b2) (ptrV b3) (.int .i64 x) (.int .i64 D) next_2 R wr := by
  unfold S17L2
  refine ⟨fun t42 wq => ∃ y : Nat, y ≤ D ∧ t42 = .int .i64 y ∧ (∀ j : Nat, j < y → ¬ Tr (colP l) x j) ∧ LSt w wq b b1 b2 b3 (patW l : Nat) 0 D, fun t42 _ => D - (intOf t42).toNat, ⟨0, by omega, rfl, fun j hj => by omega, hS⟩, ?_⟩
  rintro _ _ wq ⟨y, hy, rfl, hall, hq⟩
  by_cases hlt : y < D
  case neg =>
    have hlt' : ¬ (y : Int) < (D : Int) := by omega
    rw [r_lss, decide_eq_false hlt', r_condF, r_add _ _ (by omega) (by omega)]
    exact hN _ hq fun j hj => hall j (by omega)
  have hlt' : (y : Int) < (D : Int) := by omega
  rw [r_lss, decide_eq_true hlt', r_condT]
  refine r_use fok40 (shift_calls (hf.kp hq.k) hq.cells.1 (x := x) (y := y) (by omega) (by omega)) rfl ?_
  rintro _ w1 ⟨rfl, k1⟩
  refine ⟨_, rfl, ?_⟩
  have hq1 := hq.kp k1
  cases hb : keepsB l (shM x y) with
  | true =>
    rw [r_condT, r_fa, Nat.add_zero]
    refine hq1.setA _ fun w2 h2 => ?_
    rw [r_fa, Nat.zero_add]
    refine h2.setB _ fun w3 h3 => ?_
    exact h3.fin fun w' k' => hR y w' hlt ((keeps_tr hf.ok _ _).1 hb) k'
  | false =>
    rw [r_condF, r_add _ _ (by omega) (by omega)]
    refine ⟨⟨y + 1, by omega, by go_num, fun j hj => ?_, hq1⟩, by simp only [intOf]; omega⟩
    by_cases e : j = y
    · subst e; exact keeps_not hf.ok hb
    · exact hall j (by omega)

set_option maxRecDepth 100000 in
theorem r17_1 {l : List ByteArray} {w wr : World} {b b1 b2 b3 D : Nat} {R : Ending → World → Prop} (hf : FlAt w b l) (hS : LSt w wr b b1 b2 b3 (patW l : Nat) 0 D) (h1 : 1 ≤ D) (hh : D ≤ l.length) (ht : Tr (colP l) 0 D) (hd : ∀ y : Nat, 1 ≤ y → y < D → ¬ Tr (colP l) 0 y)
    (hR : ∀ (A B : Nat) w', LatOk (colP l) (patW l) l.length A B D → Kp w w' → R (.returned (gdV A B D)) w') : S17L1 (ptrV b1) (ptrV b2) (ptrV b3) R wr := by
  have hl := hf.ok.len
  have hw := hf.ok.wid
  unfold S17L1
  refine ⟨fun t6 wq => ∃ x : Nat, 1 ≤ x ∧ x ≤ patW l ∧ t6 = .int .i64 x ∧ (∀ j : Nat, 1 ≤ j → j < x → ∀ y : Nat, y < D → ¬ Tr (colP l) j y) ∧ LSt w wq b b1 b2 b3 (patW l : Nat) 0 D, fun t6 _ => patW l - (intOf t6).toNat, ⟨1, by omega, by omega, rfl, fun j hj hj2 => by omega, hS⟩, ?_⟩
  rintro _ _ wq ⟨x, hx1, hx, rfl, hall, hq⟩
  obtain ⟨v, c0, _, _, _⟩ := (hf.kp hq.k).cells
  rw [r_ld hq.cells.1, r_nc, r_fa, Nat.add_zero, r_ld c0]
  by_cases hlt : x < patW l
  case neg =>
    have hlt' : ¬ (x : Int) < ((patW l : Nat) : Int) := by omega
    rw [r_lss, decide_eq_false hlt', r_condF]
    refine hq.fin fun w' k' => hR (patW l) 0 w' ⟨h1, hh, by omega, Nat.le_refl _, by omega, ht, hd, (patPer hf.ok).tw, fun j hj hj2 => hall j hj (by omega)⟩ k'
  have hlt' : (x : Int) < ((patW l : Nat) : Int) := by omega
  rw [r_lss, decide_eq_true hlt', r_condT, r_fa, Nat.zero_add, r_ld hq.cells.2.2.2]
  refine r17_2 hf hq (by omega) (by omega) (fun y w' hy hty k' => hR x y w' ⟨h1, hh, hx1, by omega, hy, ht, hd, hty, hall⟩ k') fun w' hq' hno => ?_
  refine ⟨⟨x + 1, by omega, by omega, by go_num, fun j hj hj2 y hy => ?_, hq'⟩, by simp only [intOf]; omega⟩
  by_cases e : j = x
  · subst e; exact hno y hy
  · exact hall j hj (by omega) y hy

set_option maxRecDepth 100000 in
theorem lattice_calls {w : World} {b : Nat} {l : List ByteArray} (hf : FlAt w b l) : Calls Tryz.prog 17 #[ptrV b] w fun e w' => ∃ A B D : Nat, LatOk (colP l) (patW l) l.length A B D ∧ e = .returned (gdV A B D) ∧ Kp w w' := by
  have hl := hf.ok.len
  have hw := hf.ok.wid
  refine lift17 ?_
  unfold S17
  refine r_box fun b1 w1 e1 s1 h1 k1 => ?_
  refine r_box fun b2 w2 e2 s2 h2 k2 => ?_
  refine r_drew fun w3 k3 hh3 => ?_
  have k03 := Kp.trans k1 (Kp.trans k2 k3)
  obtain ⟨v, c0, c1, _, _⟩ := (hf.kp k03).cells
  have h13 : w3.heap[b1]? = some (.cells #[ptrV b] 51 (0, 0)) := block_below h1 (Kp.trans k2 k3)
  have h23 := block_below h2 k3
  have cb1 : w3.cell? ⟨b1, 0, none⟩ = some (ptrV b) := by rw [cell_row h13]; rfl
  simp only [r_ld cb1, r_nc, r_fa, Nat.add_zero, Nat.zero_add, r_ld c0, r_ld c1, bd36]
  refine r_box fun b3 w4 e3 s4 h4 k4 => r_keep k4 ?_
  refine st_gd (A := (patW l : Nat)) (B := 0) (D := (l.length : Nat)) h4 rfl fun w5 c5 s5 h5 => ?_
  have l1 := block_lt h13
  have l2 := block_lt h23
  have z1 := k03.size
  have S0 : LSt w w5 b b1 b2 b3 (patW l : Nat) 0 l.length :=
    ⟨Kp.of_chg (Kp.trans k03 k4) c5 fun i e => by omega, by omega, by have := k1.size; omega, by omega, by omega, by omega, c5.at (block_below h13 k4) (by omega), ⟨_, rfl, c5.at (block_below h23 k4) (by omega)⟩, h5⟩
  obtain ⟨_, cq1, _, _, _⟩ := (hf.kp S0.k).blk
  obtain ⟨v', c0', c1', _, _⟩ := (hf.kp S0.k).cells
  simp only [r_ld S0.cells.1, r_nc, r_fa, Nat.add_zero, Nat.zero_add, r_ld c1']
  rw [r_sub _ _ (by omega) (by omega)]
  unfold S17L0
  refine ⟨fun t5 wq => ∃ y D : Nat, y < D ∧ D ≤ l.length ∧ t5 = .int .i64 y ∧ Tr (colP l) 0 D ∧ (∀ z : Nat, y < z → z < D → ¬ Tr (colP l) 0 z) ∧ LSt w wq b b1 b2 b3 (patW l : Nat) 0 D, fun t5 _ => (intOf t5).toNat,
    ⟨l.length - 1, l.length, by omega, by omega, by go_num, (patPer hf.ok).th, fun z hz hz2 => by omega, S0⟩, ?_⟩
  rintro _ _ wq ⟨y, D, hyD, hDl, rfl, htD, hno, hq⟩
  by_cases hlt : 0 < y
  case neg =>
    have hlt' : ¬ (0 : Int) < (y : Int) := by omega
    rw [r_gtr, decide_eq_false hlt', r_condF]
    refine r17_1 hf hq (by omega) hDl htD (fun z hz hz2 => hno z (by omega) hz2) fun A B w' hok k' => ⟨A, B, D, hok, rfl, k'⟩
  have hlt' : (0 : Int) < (y : Int) := by omega
  rw [r_gtr, decide_eq_true hlt', r_condT]
  refine r_use fok40 (shift_calls (hf.kp hq.k) hq.cells.1 (x := 0) (y := y) (by omega) (by omega)) rfl ?_
  rintro _ w6 ⟨rfl, k6⟩
  refine ⟨_, rfl, ?_⟩
  have hq6 := hq.kp k6
  refine r_join0 (fun w' => ∃ D' : Nat, y - 1 < D' ∧ D' ≤ l.length ∧ Tr (colP l) 0 D' ∧ (∀ z : Nat, y - 1 < z → z < D' → ¬ Tr (colP l) 0 z) ∧ LSt w w' b b1 b2 b3 (patW l : Nat) 0 D') ?_ fun k' hk' => ?_
  · rintro w' ⟨D', p1, p2, p3, p4, p5⟩
    rw [r_sub _ _ (by omega) (by omega)]
    exact ⟨⟨y - 1, D', p1, p2, by go_num, p3, p4, p5⟩, by simp only [intOf]; omega⟩
  cases hb : keepsB l (shM 0 y) with
  | true =>
    rw [r_condT, r_fa, Nat.zero_add]
    refine hq6.setD _ fun w7 h7 => ?_
    exact hk' _ ⟨y, by omega, by omega, (keeps_tr hf.ok _ _).1 hb, fun z hz hz2 => by omega, h7⟩
  | false =>
    rw [r_condF]
    refine hk' _ ⟨D, by omega, hDl, htD, fun z hz hz2 => ?_, hq6⟩
    by_cases e : z = y
    · subst e; exact keeps_not hf.ok hb
    · exact hno z (by omega) hz2

end Go.Proofs.YtfmppkplmfbjpaaGreatDoor
