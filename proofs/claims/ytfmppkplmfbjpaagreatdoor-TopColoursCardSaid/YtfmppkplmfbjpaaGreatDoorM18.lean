/- Texts of my own, merged by program: Pf Pg. -/
import Derived.Test.YtfmppkplmfbjpaaGreatDoorM17
set_option linter.all false
/- Contracts of pattern: reduced, has, cells and the number of each. -/
namespace Go.Proofs.YtfmppkplmfbjpaaGreatDoor
open Go.Lf Go.RowKit Go.Ht Go.Pt

theorem r_quoE {w : World} {K : Value → Prop} {t : TypeId} {lit : Bool} (y q : Int) (h1 : 0 < y) (h2 : -100000 ≤ q ∧ q ≤ 100000) : binQ Tryz.prog w .quo t lit (.int .i64 (y * q)) (.int .i64 y) K = K (.int .i64 q) := by
  have hy : y ≠ 0 := by omega
  have e : (y * q).tdiv y = q := Int.mul_tdiv_cancel_left q hy
  rw [r_bin (v := .int .i64 (IntKind.i64.wrap ((y * q).tdiv y))) (by simp [intBin, hy]), e, IntWalk.i64_in _ (by omega)]
theorem six {a : Nat} (h : 1 ≤ a ∧ a ≤ 6) : a = 1 ∨ a = 2 ∨ a = 3 ∨ a = 4 ∨ a = 5 ∨ a = 6 := by omega
theorem div_rng {x : Int} {A : Nat} (hA : 1 ≤ A ∧ A ≤ 6) (hx : -3000 ≤ x ∧ x ≤ 3000) : -3000 ≤ x / A ∧ x / A ≤ 3000 := by
  rcases six hA with rfl | rfl | rfl | rfl | rfl | rfl <;> omega
theorem mul_rng {q : Int} {B : Nat} (hB : B ≤ 6) (hq : -3000 ≤ q ∧ q ≤ 3000) : -18000 ≤ q * B ∧ q * B ≤ 18000 := by
  have : B = 0 ∨ B = 1 ∨ B = 2 ∨ B = 3 ∨ B = 4 ∨ B = 5 ∨ B = 6 := by omega
  rcases this with rfl | rfl | rfl | rfl | rfl | rfl | rfl <;> omega

def redF (A B D : Nat) (x y : Int) : Int := (y - x / A * B) % D

set_option maxRecDepth 100000 in
theorem reduced_calls {A B D : Nat} (hA : 1 ≤ A ∧ A ≤ 6) (hB : B ≤ 6) (hD : 1 ≤ D ∧ D ≤ 6) {x y : Int} (hx : -3000 ≤ x ∧ x ≤ 3000) (hy : -3000 ≤ y ∧ y ≤ 3000) (w : World) :
    Calls Tryz.prog 43 #[gdV A B D, .int .i64 x, .int .i64 y] w fun e w' => e = .returned (.tuple #[.int .i64 (x % A), .int .i64 (redF A B D x y)]) ∧ Kp w w' := by
  refine lift43 ?_
  unfold S43
  refine r_box fun b w1 e1 s1 h1 k1 => ?_
  have cs : ∀ w' : World, w'.heap[b]? = some (.cells (gdV A B D).cells 36 (0, 0)) → w'.cell? ⟨b, 0, none⟩ = some (.int .i64 A) ∧ w'.cell? ⟨b, 1, none⟩ = some (.int .i64 B) ∧ w'.cell? ⟨b, 2, none⟩ = some (.int .i64 D) := fun w' h => ⟨by rw [cell_row h]; rfl, by rw [cell_row h]; rfl, by rw [cell_row h]; rfl⟩
  rw [r_fa, Nat.zero_add, r_ld (cs w1 h1).1]
  refine r_use fok72 (mod_calls x w1 (m := (A : Nat)) (by omega) (by omega)) rfl ?_
  rintro _ _ ⟨rfl, rfl⟩
  refine ⟨_, rfl, ?_⟩
  refine r_drew fun w2 k2 _ => ?_
  obtain ⟨c0, c1, c2⟩ := cs w2 (block_below h1 k2)
  have hm := Int.emod_nonneg x (show ((A : Nat) : Int) ≠ 0 by omega)
  have hm2 := Int.emod_lt_of_pos x (show (0 : Int) < (A : Nat) by omega)
  have hq := div_rng hA hx
  have hqb := mul_rng hB hq
  have ed : x - x % A = A * (x / A) := by have := Int.emod_add_mul_ediv x A; omega
  rw [r_sub _ _ (by omega) (by omega), ed, r_fa, Nat.zero_add, r_ld c0, r_quoE _ _ (by omega) (by omega), r_fa, Nat.zero_add, r_ld c1, r_mul _ _ (by omega) (by omega), r_sub _ _ (by omega) (by omega), r_fa, Nat.zero_add, r_ld c2]
  refine r_use fok72 (mod_calls (y - x / A * B) w2 (m := (D : Nat)) (by omega) (by omega)) rfl ?_
  rintro _ _ ⟨rfl, rfl⟩
  exact ⟨_, rfl, Kp.refl _, rfl, Kp.trans k1 k2⟩

theorem red_rng {A B D : Nat} (hA : 1 ≤ A ∧ A ≤ 6) (hD : 1 ≤ D ∧ D ≤ 6) (x y : Int) : ∃ e f : Nat, e < A ∧ f < D ∧ x % (A : Int) = e ∧ redF A B D x y = f := by
  have hm := Int.emod_nonneg x (show ((A : Nat) : Int) ≠ 0 by omega)
  have hm2 := Int.emod_lt_of_pos x (show (0 : Int) < (A : Nat) by omega)
  have hn := Int.emod_nonneg (y - x / A * B) (show ((D : Nat) : Int) ≠ 0 by omega)
  have hn2 := Int.emod_lt_of_pos (y - x / A * B) (show (0 : Int) < (D : Nat) by omega)
  exact ⟨(x % A).toNat, (redF A B D x y).toNat, by omega, by unfold redF; omega, by omega, by unfold redF; omega⟩

set_option maxRecDepth 100000 in
theorem gr_ld {w : World} {bg A B D : Nat} {vs : Value} {own : Nat → Bool} (h : GrC w bg A B D vs own) (K : Value → Prop) : ldN 3 w (ptrV bg) K = K (gdV A B D) := by
  obtain ⟨c0, c1, c2, _⟩ := h.cells
  refine r_ldCells (n := 3) (l := [.int .i64 A, .int .i64 B, .int .i64 D]) rfl fun j u hu => ?_
  match j, hu with
  | 0, hu => cases hu; exact c0
  | 1, hu => cases hu; exact c1
  | 2, hu => cases hu; exact c2

set_option maxRecDepth 100000 in
theorem has_calls {w : World} {bg A B D i : Nat} {vs : Value} {own : Nat → Bool} (h : GrC w bg A B D vs own) (hA : 1 ≤ A ∧ A ≤ 6) (hB : B ≤ 6) (hD : 1 ≤ D ∧ D ≤ 6) (hi : i < 8) {m : Mv} (hx : -3000 ≤ m.2.2.2.2.1 ∧ m.2.2.2.2.1 ≤ 3000) (hy : -3000 ≤ m.2.2.2.2.2 ∧ m.2.2.2.2.2 ≤ 3000) :
    Calls Tryz.prog 75 #[ptrV bg, .int .i64 i, mvV m] w fun e w' => e = .returned (.bool (own (i * 36 + (m.2.2.2.2.1 % (A : Int)).toNat * 6 + (redF A B D m.2.2.2.2.1 m.2.2.2.2.2).toNat))) ∧ Kp w w' := by
  refine lift75 ?_
  unfold S75
  refine r_box fun b w1 e1 s1 h1 k1 => ?_
  refine r_drew fun w2 k2 _ => ?_
  have k02 := Kp.trans k1 k2
  obtain ⟨_, _, _, _, c4, c5⟩ := mv_cells (block_below h1 k2)
  rw [r_nc, r_fa, Nat.zero_add, gr_ld (h.kp k02), r_fa, Nat.zero_add, r_ld c4, r_fa, Nat.zero_add, r_ld c5]
  refine r_use fok43 (reduced_calls hA hB hD hx hy w2) rfl ?_
  rintro _ w3 ⟨rfl, k3⟩
  refine ⟨_, rfl, ?_⟩
  obtain ⟨e, f, he, hf, ee, ef⟩ := red_rng (B := B) hA hD m.2.2.2.2.1 m.2.2.2.2.2
  rw [ee, ef]
  have k03 := Kp.trans k02 k3
  obtain ⟨_, _, _, _, cell⟩ := (h.kp k03).cells
  have hii : (i : Int).toNat = i := by omega
  have hee : (e : Int).toNat = e := by omega
  have hff : (f : Int).toNat = f := by omega
  rw [r_ex2a, r_ex2b, r_nc, r_fa, Nat.zero_add, r_iaA _ _ _ _ _ _ (by omega) (by omega), r_iaA _ _ _ _ _ _ (by omega) (by omega), r_iaA _ _ _ _ _ _ (by omega) (by omega), hii, hee, hff, Nat.mul_one, Nat.add_assoc, Nat.add_assoc, r_ld (cell _ (by omega))]
  exact ⟨by rw [Nat.add_assoc], k03⟩

/-- The number of a cell. -/
def numG (A B D : Nat) (x y : Int) : Nat := (x % (A : Int)).toNat * D + (redF A B D x y).toNat
theorem numG_lt {A B D : Nat} (hA : 1 ≤ A ∧ A ≤ 6) (hD : 1 ≤ D ∧ D ≤ 6) (x y : Int) : numG A B D x y < A * D := by
  obtain ⟨e, f, he, hf, ee, ef⟩ := red_rng (B := B) hA hD x y
  unfold numG
  rw [ee, ef, Int.toNat_natCast, Int.toNat_natCast]
  have : (e + 1) * D ≤ A * D := Nat.mul_le_mul_right _ he
  rw [Nat.add_mul, Nat.one_mul] at this
  omega

set_option maxRecDepth 100000 in
theorem number_calls {w : World} {bg bp A B D : Nat} {vs : Value} {own : Nat → Bool} (h : GrC w bg A B D vs own) (hp : w.cell? ⟨bp, 0, none⟩ = some (ptrV bg)) (hA : 1 ≤ A ∧ A ≤ 6) (hB : B ≤ 6) (hD : 1 ≤ D ∧ D ≤ 6) {x y : Int} (hx : -3000 ≤ x ∧ x ≤ 3000) (hy : -3000 ≤ y ∧ y ≤ 3000) :
    Calls Tryz.prog 42 #[.int .i64 x, .int .i64 y, ptrV bp] w fun e w' => e = .returned (.int .i64 (numG A B D x y)) ∧ Kp w w' := by
  refine lift42 ?_
  unfold S42
  rw [r_ld hp, r_nc, r_fa, Nat.zero_add, gr_ld h]
  refine r_use fok43 (reduced_calls hA hB hD hx hy w) rfl ?_
  rintro _ w1 ⟨rfl, k1⟩
  refine ⟨_, rfl, ?_⟩
  obtain ⟨_, _, c2, _⟩ := (h.kp k1).cells
  obtain ⟨e, f, he, hf, ee, ef⟩ := red_rng (B := B) hA hD x y
  have hmul : e * D ≤ 6 * 6 := Nat.mul_le_mul (by omega) (by omega)
  rw [r_ex2a, r_ex2b, r_ld (cell_later k1 hp), r_nc, r_fa, r_fa, Nat.zero_add, r_ld c2, ee, ef, r_mulN _ _ (by omega), r_add _ _ (by omega) (by omega)]
  refine ⟨?_, k1⟩
  unfold numG
  rw [ee, ef, Int.toNat_natCast, Int.toNat_natCast, Int.natCast_add]

set_option maxRecDepth 100000 in
set_option maxHeartbeats 1000000 in
theorem cells_calls {w : World} {bg A B D : Nat} {vs : Value} {own : Nat → Bool} (h : GrC w bg A B D vs own) (hA : 1 ≤ A ∧ A ≤ 6) (hD : 1 ≤ D ∧ D ≤ 6) :
    Calls Tryz.prog 19 #[ptrV bg] w fun e w' => ∃ (a : Option Addr) (c bp : Nat), e = .returned (.tuple #[.slice a (A * D) c, .func (.func 42) #[] #[ptrV bp]]) ∧ w'.cell? ⟨bp, 0, none⟩ = some (ptrV bg) ∧ Kp w w' := by
  refine lift19 ?_
  unfold S19
  refine r_box fun bp w1 e1 s1 h1 k1 => ?_
  have cp : w1.cell? ⟨bp, 0, none⟩ = some (ptrV bg) := by rw [cell_row h1]; rfl
  obtain ⟨c0, _⟩ := (h.kp k1).cells
  rw [r_ld cp]
  simp only [r_nc, r_fa, Nat.zero_add, r_ld c0]
  unfold S19L0
  refine ⟨fun t4 t12 wq => ∃ (x : Nat) (P : List C2), x ≤ A ∧ t12 = .int .i64 x ∧ P.length = x * D ∧ RecAt 100 2 cC w1.heap.size wq t4 P ∧ Kp w1 wq, fun _ t12 _ => A - (intOf t12).toNat, ⟨0, [], by omega, rfl, by simp, RecAt.nil, Kp.refl _⟩, ?_⟩
  rintro _ t4 _ wq ⟨x, P, hx, rfl, hP, hr, kq⟩
  have cpq := cell_later kq cp
  by_cases hlt : x < A
  case neg =>
    have hlt' : ¬ (x : Int) < (A : Int) := by omega
    rw [r_lss, decide_eq_false hlt', r_condF]
    obtain ⟨a, c, rfl, _⟩ := hr.len
    obtain rfl : x = A := by omega
    exact ⟨a, c, bp, by rw [hP], cpq, Kp.trans k1 kq⟩
  have hlt' : (x : Int) < (A : Int) := by omega
  obtain ⟨_, _, c2, _⟩ := (h.kp (Kp.trans k1 kq)).cells
  rw [r_lss, decide_eq_true hlt', r_condT, r_ld cpq]
  simp only [r_nc, r_fa, Nat.zero_add, r_ld c2]
  have hxD : x * D ≤ 6 * 6 := Nat.mul_le_mul (by omega) (by omega)
  have ex1 : (x + 1) * D = x * D + D := by rw [Nat.add_mul, Nat.one_mul]
  unfold S19L1
  refine ⟨fun t4 t20 wz => ∃ (y : Nat) (Q : List C2), y ≤ D ∧ t20 = .int .i64 y ∧ Q.length = x * D + y ∧ RecAt 100 2 cC w1.heap.size wz t4 Q ∧ Kp w1 wz, fun _ t20 _ => D - (intOf t20).toNat, ⟨0, P, by omega, rfl, by omega, hr, kq⟩, ?_⟩
  rintro _ t4' _ wz ⟨y, Q, hy, rfl, hQ, hrz, kz⟩
  by_cases hly : y < D
  case neg =>
    have hly' : ¬ (y : Int) < (D : Int) := by omega
    rw [r_lss, decide_eq_false hly', r_condF, r_add _ _ (by omega) (by omega)]
    exact ⟨⟨x + 1, Q, by omega, by go_num, by omega, hrz, kz⟩, by simp only [intOf]; omega⟩
  have hly' : (y : Int) < (D : Int) := by omega
  rw [r_lss, decide_eq_true hly', r_condT, bd43]
  refine r_pushRec (x := (((x : Nat) : Int), ((y : Nat) : Int))) slt39 cC_len rfl (bs39 _ _) (cC_one _) (by omega) hrz (by omega) (by have := kz.size; omega) fun v' w' r' c' _ => ?_
  rw [r_add _ _ (by omega) (by omega)]
  refine ⟨⟨y + 1, _, by omega, by go_num, by simp; omega, r', Kp.of_chg kz c' fun k hk => (hrz.lt hk).1⟩, by simp only [intOf]; omega⟩

end Go.Proofs.YtfmppkplmfbjpaaGreatDoor

/- Contracts of pattern: of, Lattice. -/
namespace Go.Proofs.YtfmppkplmfbjpaaGreatDoor
open Go.Lf Go.RowKit Go.Ht Go.Pt Go.Shelf

abbrev cut4 : List UInt8 := [97, 98, 99, 100]
/-- A pattern. -/
structure PatC (l : List ByteArray) : Prop where
  ok : PatOk l
  ch : ∀ i, i < l.length → ((l.getD i dB).data.toList.all fun b => cut4.contains b) = true

theorem trim_all {s c : List UInt8} (h : (s.all fun b => c.contains b) = true) : Lib.trimS s c = [] := by
  unfold Lib.trimS Lib.trimLeftS Lib.trimRightS
  have h1 : (s.reverse.dropWhile fun x => c.contains x) = [] := by
    rw [dropWhile_all, List.all_reverse]; exact h
  rw [h1]; rfl

set_option maxRecDepth 100000 in
theorem trim4_calls (s : ByteArray) (w : World) (hs : s.size ≤ 1000) (h : (s.data.toList.all fun b => cut4.contains b) = true) : Calls Tryz.prog 39 #[.string s, .string ⟨#[97, 98, 99, 100]⟩] w fun e w' => e = .returned (.string ⟨#[]⟩) ∧ Kp w w' := by
  have hc := Any.strings_Trim_laid trimR (by kernel_rfl) s ⟨#[97, 98, 99, 100]⟩ w (by omega) (by decide) (ascii_of_all (by decide))
  refine hc.mono ?_
  rintro e w' ⟨rfl, hB⟩
  refine ⟨?_, hB⟩
  have e0 : Lib.trimS s.data.toList [97, 98, 99, 100] = [] := trim_all h
  show Ending.returned (.string (⟨(Lib.trimS s.data.toList [97, 98, 99, 100]).toArray⟩ : ByteArray)) = _
  rw [e0]

set_option maxRecDepth 100000 in
theorem ofGood_calls {v : Value} {l : List ByteArray} {b i : Nat} (w : World) (hb : w.cell? ⟨b, 0, none⟩ = some v) (hr : RdB w v l) (h : PatC l) (hi : i < l.length) :
    Calls Tryz.prog 38 #[.string (l.getD i dB), ptrV b] w fun e w' => e = .returned (.bool false) ∧ Kp w w' := by
  have hrow := h.ok.row i hi
  have hw := h.ok.wid
  refine lift38 ?_
  unfold S38
  have h00 : ∀ K : Value → Prop, (iaS 1 v (.int .i64 0) fun p => ld1 w p K) = K (.string (l.getD 0 dB)) := fun K => str_at hr (i := 0) (by omega) K
  rw [r_lnS, r_ld hb, h00, r_lnS, r_neq]
  have hn : ((l.getD i dB).size : Int) = ((l.getD 0 dB).size : Int) := by rw [hrow]; rfl
  rw [decide_eq_true hn]
  simp only [Bool.not_true, r_gdFF]
  refine r_use (by kernel_rfl) (trim4_calls _ w (by omega) (h.ch i hi)) rfl ?_
  rintro _ w1 ⟨rfl, k1⟩
  refine ⟨_, rfl, ?_⟩
  refine r_neS ?_
  rw [r_pickF]
  exact ⟨by simp, k1⟩

set_option maxRecDepth 100000 in
theorem anyGood_calls {v : Value} {l : List ByteArray} {b : Nat} (w : World) (hb : w.cell? ⟨b, 0, none⟩ = some v) (hr : RdB w v l) (h : PatC l) :
    Calls Tryz.prog 37 #[v, .func (.func 38) #[] #[ptrV b]] w fun e w' => e = .returned (.bool false) ∧ Kp w w' := by
  have hl := h.ok.len
  obtain ⟨a, cap, ev, _⟩ := hr.len
  have lnv : ∀ K : Value → Prop, ln1 v K = K (.int .i64 l.length) := fun K => by rw [ev]; rfl
  have hc : Calls Tryz.prog 63 #[v, .func (.func 38) #[] #[ptrV b]] w fun e w' => e = .returned (.int .i64 (-1)) ∧ Kp w w' := by
    refine lift63 ?_
    unfold S63
    rw [lnv]
    unfold S63L0
    refine ⟨fun t8 wr => ∃ i : Nat, i ≤ l.length ∧ t8 = .int .i64 i ∧ Kp w wr, fun t8 _ => l.length - (intOf t8).toNat, ⟨0, by omega, rfl, Kp.refl _⟩, ?_⟩
    rintro _ _ wr ⟨i, hi, rfl, kr⟩
    by_cases hlt : i < l.length
    case neg =>
      have hlt' : ¬ (i : Int) < (l.length : Int) := by omega
      rw [r_lss, decide_eq_false hlt', r_condF]
      exact ⟨rfl, kr⟩
    have hlt' : (i : Int) < (l.length : Int) := by omega
    rw [r_lss, decide_eq_true hlt', r_condT, str_at (hr.kp kr) hlt]
    refine r_use fok38 (ofGood_calls wr (cell_later kr hb) (hr.kp kr) h hlt) rfl ?_
    rintro _ w2 ⟨rfl, k2⟩
    refine ⟨_, rfl, ?_⟩
    rw [r_condF, r_add _ _ (by omega) (by omega)]
    exact ⟨⟨i + 1, by omega, by go_num, Kp.trans kr k2⟩, by simp only [intOf]; omega⟩
  refine lift37 ?_
  unfold S37
  refine r_use fok63 hc rfl ?_
  rintro _ w1 ⟨rfl, k1⟩
  refine ⟨_, rfl, ?_⟩
  rw [r_geq]
  exact ⟨rfl, k1⟩

set_option maxRecDepth 100000 in
theorem bd63p {a b : Int} {x : Option Addr} {n c : Nat} {K : Value → Prop} : bdQ Tryz.prog 63 [(0, .int .i64 a), (1, .int .i64 b), (2, .slice x n c)] K = K (.agg #[.int .i64 a, .int .i64 b, .slice x n c]) := by kernel_rfl

set_option maxRecDepth 100000 in
theorem pof_calls {v : Value} {l : List ByteArray} (w : World) (hr : RdB w v l) (h : PatC l) : Calls Tryz.prog 16 #[v] w fun e w' => ∃ b, e = .returned (.tuple #[ptrV b, .bool true]) ∧ FlAt w' b l ∧ Kp w w' := by
  have hl := h.ok.len
  have hw := h.ok.wid
  have hw' : 1 ≤ (l.getD 0 dB).size ∧ (l.getD 0 dB).size ≤ 6 := hw
  obtain ⟨a, cap, ev, _⟩ := hr.len
  refine lift16 ?_
  unfold S16
  refine r_box fun b w1 e1 s1 h1 k1 => ?_
  have cs : ∀ w' : World, Kp w1 w' → w'.cell? ⟨b, 0, none⟩ = some v := fun w' k => by
    rw [cell_row (block_below h1 k), ev]; rfl
  have lnv : ∀ K : Value → Prop, ln1 v K = K (.int .i64 l.length) := fun K => by rw [ev]; rfl
  have h00 : ∀ w', Kp w w' → ∀ K : Value → Prop, (iaS 1 v (.int .i64 0) fun p => ld1 w' p K) = K (.string (l.getD 0 dB)) := fun w' k K => str_at (hr.kp k) (i := 0) (by omega) K
  have n1 : ¬ (l.length : Int) < 1 := by omega
  have n2 : ¬ (6 : Int) < (l.length : Int) := by omega
  have n3 : ¬ ((l.getD 0 dB).size : Int) < 1 := by omega
  have n4 : ¬ (6 : Int) < ((l.getD 0 dB).size : Int) := by omega
  simp only [r_ld (cs w1 (Kp.refl _)), lnv, r_lss, r_gtr, n1, n2, n3, n4, decide_false, r_gdFF, r_pickF, h00 w1 k1, r_lnS, r_condF]
  refine r_use fok37 (anyGood_calls w1 (cs w1 (Kp.refl _)) (hr.kp k1) h) rfl ?_
  rintro _ w2 ⟨rfl, k2⟩
  refine ⟨_, rfl, ?_⟩
  rw [r_condF]
  refine r_drew fun w3 k3 _ => ?_
  have k13 := Kp.trans k2 k3
  simp only [r_ld (cs w3 k13), lnv, h00 w3 (Kp.trans k1 k13), r_lnS]
  rw [ev, bd63p, ← ev]
  refine r_box fun bf w4 e4 s4 h4 k4 => ?_
  have k04 := Kp.trans (Kp.trans k1 k13) k4
  exact ⟨bf, rfl, ⟨⟨v, by rw [ev]; rw [ev] at h4; exact h4, hr.kp k04⟩, h.ok⟩, k04⟩

set_option maxRecDepth 100000 in
theorem lat_calls {v : Value} {l : List ByteArray} (w : World) (hr : RdB w v l) (h : PatC l) : Calls Tryz.prog 7 #[v] w fun e w' => ∃ A B D : Nat, LatOk (colP l) (patW l) l.length A B D ∧ e = .returned (.tuple #[gdV A B D, .int .i64 0]) ∧ Kp w w' := by
  refine lift7 ?_
  unfold S7
  refine r_box fun b2 w1 e1 s1 h1 k1 => ?_
  refine r_use fok16 (pof_calls w1 (hr.kp k1) h) rfl ?_
  rintro _ w2 ⟨b, rfl, hf, k2⟩
  refine ⟨_, rfl, ?_⟩
  rw [r_ex2a, r_ex2b, r_not, Bool.not_true, r_condF]
  refine r_use fok17 (lattice_calls hf) rfl ?_
  rintro _ w3 ⟨A, B, D, hlat, rfl, k3⟩
  refine ⟨_, rfl, ?_⟩
  refine st_gd (block_below h1 (Kp.trans k2 k3)) rfl fun w4 c4 _ h4 => ?_
  have e2 : ∀ K : Value → Prop, ldN 3 w4 (.pointer (some ⟨b2, 0, none⟩)) K = K (gdV A B D) := fun K => r_ldRow h4 rfl
  rw [e2]
  exact ⟨A, B, D, hlat, rfl, Kp.of_chg (Kp.trans k1 (Kp.trans k2 k3)) c4 fun i e => by omega⟩

end Go.Proofs.YtfmppkplmfbjpaaGreatDoor
