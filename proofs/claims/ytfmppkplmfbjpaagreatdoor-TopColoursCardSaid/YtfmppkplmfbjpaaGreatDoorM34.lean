/- Texts of my own, merged by program: Za Zb. -/
import Derived.Test.YtfmppkplmfbjpaaGreatDoorM28
import Derived.Test.YtfmppkplmfbjpaaGreatDoorM33
import Derived.Laws.IdiomStrings
set_option linter.all false
/- The law TopColours, plainly: a closed board as a pattern, its lattice. -/
namespace Go.Proofs.YtfmppkplmfbjpaaGreatDoor
open Go.Lf Go.RowKit Go.Ht Go.Pt Go.Wg

def u8L (M : List Nat) : List UInt8 := M.map fun i => UInt8.ofNat (97 + i)
def rowS (W : Nat) (M : List Nat) (y : Nat) : ByteArray := ⟨(u8L ((M.drop (y * W)).take W)).toArray⟩
/-- The pattern of a board. -/
def patS (W H : Nat) (M : List Nat) : List ByteArray := (List.range H).map (rowS W M)
theorem patS_len (W H : Nat) (M : List Nat) : (patS W H M).length = H := by simp [patS]
theorem patS_at {W H : Nat} {M : List Nat} {y : Nat} (hy : y < H) : (patS W H M).getD y dB = rowS W M y := by
  rw [getD_lt _ _ _ (by rw [patS_len]; exact hy)]; simp [patS]
theorem rowS_size {W H : Nat} {M : List Nat} (hM : M.length = W * H) {y : Nat} (hy : y < H) : (rowS W M y).size = W := by
  have := row_in (W := W) hy
  show (u8L ((M.drop (y * W)).take W)).toArray.size = W
  simp [u8L]
  omega
theorem rowS_byte {W H : Nat} {M : List Nat} (hM : M.length = W * H) (h4 : ∀ i ∈ M, i < 4) {y x : Nat} (hy : y < H) (hx : x < W) : byteN (rowS W M y) x = 97 + TM M W y x := by
  have hin := row_in (W := W) hy
  have hs := rowS_size hM hy
  unfold byteN
  rw [dif_pos (by rw [hs]; exact hx)]
  have e : (rowS W M y)[x]'(by rw [hs]; exact hx) = UInt8.ofNat (97 + M.getD (y * W + x) 0) := by
    show (u8L ((M.drop (y * W)).take W)).toArray[x]'_ = _
    simp only [u8L, List.getElem_toArray, List.getElem_map, List.getElem_take, List.getElem_drop]
    rw [getD_lt _ _ _ (by omega)]
  rw [e]
  have hlt : M.getD (y * W + x) 0 < 4 := h4 _ (getD_mem (by omega))
  unfold TM
  show (97 + M.getD (y * W + x) 0) % 256 = _
  omega
section
variable {W H : Nat} {M : List Nat}
theorem patS_w (hM : M.length = W * H) (hH : 1 ≤ H) : patW (patS W H M) = W := by
  unfold patW
  rw [patS_at (by omega), rowS_size hM (by omega)]
theorem patS_c (hM : M.length = W * H) (h4 : ∀ i ∈ M, i < 4) (hW : 1 ≤ W ∧ W ≤ 4) (hH : 1 ≤ H ∧ H ≤ 4) : PatC (patS W H M) := by
  refine ⟨⟨by rw [patS_len]; omega, by rw [patS_w hM hH.1]; omega, fun i hi => ?_⟩, fun i hi => ?_⟩
  · rw [patS_len] at hi
    rw [patS_w hM hH.1, patS_at hi, rowS_size hM hi]
  · rw [patS_len] at hi
    rw [patS_at hi]
    show (u8L ((M.drop (i * W)).take W)).toArray.toList.all _ = true
    rw [List.all_eq_true]
    intro b hb
    have hb' : b ∈ u8L ((M.drop (i * W)).take W) := by simpa using hb
    obtain ⟨n, hn, rfl⟩ := List.mem_map.1 hb'
    have := h4 n (List.mem_of_mem_drop (List.mem_of_mem_take hn))
    have : n = 0 ∨ n = 1 ∨ n = 2 ∨ n = 3 := by omega
    rcases this with rfl | rfl | rfl | rfl <;> decide
theorem patS_col (hM : M.length = W * H) (h4 : ∀ i ∈ M, i < 4) (hW : 1 ≤ W) (hH : 1 ≤ H) (x y : Nat) : colP (patS W H M) x y = 97 + TM M W (y % H) (x % W) := by
  unfold colP
  rw [patS_w hM hH, patS_len]
  have e1 : ((y : Int) % (H : Int)).toNat = y % H := by rw [← Int.natCast_emod, Int.toNat_natCast]
  have e2 : ((x : Int) % (W : Int)).toNat = x % W := by rw [← Int.natCast_emod, Int.toNat_natCast]
  rw [e1, e2, patS_at (Nat.mod_lt _ (by omega)), rowS_byte hM h4 (Nat.mod_lt _ (by omega)) (Nat.mod_lt _ (by omega))]

/-- What repeats straight is a closed board. -/
theorem straight_closed {l : List Tile} (hM : M.length = W * H) (h4 : ∀ i ∈ M, i < 4) (hW : 1 ≤ W) (hH : 1 ≤ H) (c : ClT l (TM M W) W H) {A D : Nat} (hA : A ≤ W) (hD : D ≤ H) (p : Per (colP (patS W H M)) A D) : ClT l (TM M W) A D := by
  have a0 := p.w0
  have d0 := p.h0
  have ex : ∀ y x, y < D → x < A → TM M W y ((x + 1) % W) = TM M W y ((x + 1) % A) := fun y x hy hx => by
    have h1 := per_mod p ((x + 1 : Nat) : Int) (y : Int)
    have e1 : ((x + 1 : Nat) : Int) % (A : Int) = ((x + 1) % A : Nat) := (Int.natCast_emod _ _).symm
    have e2 : (y : Int) % (D : Int) = (y : Nat) := by rw [← Int.natCast_emod, Nat.mod_eq_of_lt hy]
    rw [e1, e2, patS_col hM h4 hW hH, patS_col hM h4 hW hH] at h1
    have hlt : (x + 1) % A < A := Nat.mod_lt _ a0
    rw [Nat.mod_eq_of_lt (by omega : y < H), Nat.mod_eq_of_lt (by omega : (x + 1) % A < W)] at h1
    omega
  have ey : ∀ y x, y < D → x < A → TM M W ((y + 1) % H) x = TM M W ((y + 1) % D) x := fun y x hy hx => by
    have h1 := per_mod p (x : Int) ((y + 1 : Nat) : Int)
    have e1 : ((y + 1 : Nat) : Int) % (D : Int) = ((y + 1) % D : Nat) := (Int.natCast_emod _ _).symm
    have e2 : (x : Int) % (A : Int) = (x : Nat) := by rw [← Int.natCast_emod, Nat.mod_eq_of_lt hx]
    rw [e1, e2, patS_col hM h4 hW hH, patS_col hM h4 hW hH] at h1
    have hlt : (y + 1) % D < D := Nat.mod_lt _ d0
    rw [Nat.mod_eq_of_lt (by omega : x < W), Nat.mod_eq_of_lt (by omega : (y + 1) % D < H)] at h1
    omega
  refine ⟨fun y x hy hx => c.lt y x (by omega) (by omega), fun y x hy hx => ?_, fun y x hy hx => ?_⟩
  · rw [← ex y x hy hx]; exact c.ew y x (by omega) (by omega)
  · rw [← ey y x hy hx]; exact c.sn y x (by omega) (by omega)
end

/-- A board of tiles at places as a list. -/
def listT (T : Nat → Nat → Nat) (W H : Nat) : List Nat := (List.range (W * H)).map fun n => T (n / W) (n % W)
theorem listT_TM {T : Nat → Nat → Nat} {W H y x : Nat} (hy : y < H) (hx : x < W) : TM (listT T W H) W y x = T y x := by
  have hin := row_in (W := W) hy
  unfold TM listT
  rw [getD_lt _ _ _ (by simp; omega)]
  simp only [List.getElem_map, List.getElem_range]
  have e1 : (y * W + x) / W = y := by rw [Nat.mul_comm, Nat.mul_add_div (by omega), Nat.div_eq_of_lt hx, Nat.add_zero]
  have e2 : (y * W + x) % W = x := by rw [Nat.mul_comm, Nat.mul_add_mod, Nat.mod_eq_of_lt hx]
  rw [e1, e2]
theorem listT_len (T : Nat → Nat → Nat) (W H : Nat) : (listT T W H).length = W * H := by simp [listT]
theorem listT_lt {l : List Tile} {T : Nat → Nat → Nat} {W H : Nat} (hW : 0 < W) (c : ClT l T W H) : ∀ i ∈ listT T W H, i < l.length := by
  intro i hi
  obtain ⟨n, hn, rfl⟩ := List.mem_map.1 hi
  have hn' := List.mem_range.1 hn
  exact c.lt _ _ (Nat.div_lt_of_lt_mul hn') (Nat.mod_lt _ hW)
theorem listT_cl {l : List Tile} {T : Nat → Nat → Nat} {W H : Nat} (hW : 0 < W) (hH : 0 < H) (c : ClT l T W H) : ClT l (TM (listT T W H) W) W H := by
  refine ⟨fun y x hy hx => ?_, fun y x hy hx => ?_, fun y x hy hx => ?_⟩
  · rw [listT_TM hy hx]; exact c.lt y x hy hx
  · rw [listT_TM hy hx, listT_TM hy (Nat.mod_lt _ hW)]; exact c.ew y x hy hx
  · rw [listT_TM hy hx, listT_TM (Nat.mod_lt _ hH) hx]; exact c.sn y x hy hx

end Go.Proofs.YtfmppkplmfbjpaaGreatDoor

/- Contract: TopColours returns true. -/
namespace Go.Proofs.YtfmppkplmfbjpaaGreatDoor
open Go.Lf Go.RowKit Go.Ht Go.Pt Go.Wg

def uC (n : Nat) : List Value := [.int .u8 n]
theorem uC_len (n : Nat) : (uC n).length = 1 := rfl
theorem slt33 : SlT 33 5 1 1 := SlT.mk' (z := .int .u8 0) (by kernel_rfl) (by kernel_rfl) rfl (by decide)
theorem bs33 (k : IntKind) (x : Int) (w : World) (K : Value → World → Prop) : bsW Tryz.prog 33 1 [(0, .int k x)] w K = K (.slice (some ⟨w.heap.size, 0, none⟩) 1 1) (w.alloc (.cells #[.int k x] 5)) := by kernel_rfl
theorem slt32 : SlT 32 9 1 16 := SlT.mk' (z := .string ⟨#[]⟩) (by kernel_rfl) (by kernel_rfl) rfl (by decide)
theorem bs32 (s : ByteArray) (w : World) (K : Value → World → Prop) : bsW Tryz.prog 32 1 [(0, .string s)] w K = K (.slice (some ⟨w.heap.size, 0, none⟩) 1 1) (w.alloc (.cells #[.string s] 9)) := by kernel_rfl
theorem und5z : Tryz.prog.underlying 5 = some (.int .u8) := by kernel_rfl
theorem und33 : Tryz.prog.underlying 33 = some (.slice 5) := by kernel_rfl

theorem r_letter {n : Nat} (h : n < 4) {w : World} (K : Value → Prop) : (cv1 .u8 (.int .i64 n) fun t => binQ Tryz.prog w .add 5 true (.int .u8 97) t K) = K (.int .u8 (97 + n : Nat)) := by
  rw [r_cv, IntWalk.u8_in _ (by omega), r_bin (v := .int .u8 (IntKind.u8.wrap (97 + n))) rfl, IntWalk.u8_in _ (by omega)]
  rfl

set_option maxRecDepth 100000 in
theorem r_str {w : World} {v : Value} {L : List Nat} (h : Rd 1 uC w v (L.map fun i => 97 + i)) (hL : 0 < L.length) (h4 : ∀ i ∈ L, i < 4) {K : Value → Prop} (hK : K (.string ⟨(u8L L).toArray⟩)) : cvQ Tryz.prog w 33 9 v K := by
  have e : cvQ Tryz.prog w 33 9 v K = genQ Tryz.prog w (cvS 33 9 v) K := by
    unfold cvQ
    rw [und33, und9]
  rw [e]
  obtain ⟨a, cap, rfl, hle, hh⟩ := h
  obtain ⟨b, off, rfl, hc⟩ := hh (by simpa using hL)
  refine ⟨_, fun w' hw' => ?_, hK⟩
  have hl : (L.map fun i => 97 + i).length = (u8L L).length := by simp [u8L]
  have hrun := run_convert_bytes_back (P := Tryz.prog) w' 33 9 5 ⟨b, off, none⟩ cap (u8L L) und33 und5z und9 (fun j hj => by
    have hjL : j < L.length := by simpa [u8L] using hj
    have := hc j (97 + L[j]) (by simp [hjL]) 0 _ rfl
    rw [Nat.mul_one, Nat.add_zero] at this
    rw [r_addr, cell_later hw' this]
    have h4' := h4 L[j] (List.getElem_mem hjL)
    have : (u8L L)[j].toNat = 97 + L[j] := by
      simp only [u8L, List.getElem_map]
      show (97 + L[j]) % 256 = _
      omega
    rw [this])
  rw [← hl] at hrun
  simp only [cvS, Sem.run_bind, hrun, Result.andThen_ok, Sem.run_pure]

section
variable {W H : Nat} {M : List Nat} {bv : Value} {w0 : World}

set_option maxRecDepth 100000 in
set_option maxHeartbeats 1000000 in
theorem r3_2 {y : Nat} {t11 : Value} {wr : World} {next_2 : Value → Value → World → Prop} (hM : M.length = W * H) (h4 : ∀ i ∈ M, i < 4) (hW : 1 ≤ W ∧ W ≤ 4) (hH : 1 ≤ H ∧ H ≤ 4) (hb : RdRows w0 bv (rowsOf W H M)) (hy : y < H) (k0 : Kp w0 wr) (hp : RecAt 9 1 sC w0.heap.size wr t11 ((List.range y).map (rowS W M)))
    (hN : ∀ t w', Kp w0 w' → RecAt 9 1 sC w0.heap.size w' t ((List.range (y + 1)).map (rowS W M)) → next_2 t (.int .i64 ((y : Int) + 1)) w') : S3L2 t11 (.int .i64 y) (.int .i64 W) bv next_2 wr := by
  have hin := row_in (W := W) hy
  unfold S3L2
  refine ⟨fun t13 t14 wq => ∃ x : Nat, x ≤ W ∧ t14 = .int .i64 x ∧ Kp w0 wq ∧ RecAt 5 1 uC w0.heap.size wq t13 (((M.drop (y * W)).take x).map fun i => 97 + i) ∧ RecAt 9 1 sC w0.heap.size wq t11 ((List.range y).map (rowS W M)), fun _ t14 _ => W - (intOf t14).toNat, ⟨0, by omega, rfl, k0, by simpa using RecAt.nil, hp⟩, ?_⟩
  rintro _ t13 _ wq ⟨x, hx, rfl, kq, hrow, hpq⟩
  have hrl : (((M.drop (y * W)).take x).map fun i => 97 + i).length = x := by simp; omega
  by_cases hlt : x < W
  case neg =>
    have hlt' : ¬ (x : Int) < (W : Int) := by omega
    obtain rfl : x = W := by omega
    rw [r_lss, decide_eq_false hlt', r_condF]
    refine r_str (L := (M.drop (y * x)).take x) (hrow.rd uC_len) (by simp; omega) (fun i hi => h4 i (List.mem_of_mem_drop (List.mem_of_mem_take hi))) ?_
    refine r_pushRec (x := rowS x M y) slt32 sC_len rfl (bs32 _ _) (by intro u hu; simp [sC] at hu; subst hu; rfl) (by omega) hpq (by simp; omega) kq.size fun v' w' p1 p2 _ => ?_
    rw [r_add _ _ (by omega) (by omega)]
    refine hN v' w' (Kp.of_chg kq p2 fun k hk => (hpq.lt hk).1) ?_
    rw [List.range_succ, List.map_append]
    exact p1
  have hlt' : (x : Int) < (W : Int) := by omega
  rw [r_lss, decide_eq_true hlt', r_condT]
  obtain ⟨b1, o1, c1, b2, o2, c2, eb, hc1, hc2⟩ := (hb.below kq).cell2 (y := y) (x := x) (by rw [rowsOf_len]; exact hy) (by rw [rowsOf_row hM hy]; exact hlt)
  rw [rowsOf_cell hM hy hlt] at hc2
  rw [rowsOf_row hM hy] at hc1
  have hyy : (y : Int).toNat = y := by omega
  have hxx : (x : Int).toNat = x := by omega
  rw [eb, r_iaS _ _ _ _ _ _ _ (by omega) (by rw [rowsOf_len]; omega), hyy, Nat.mul_one, r_ld hc1, r_iaS _ _ _ _ _ _ _ (by omega) (by omega), hxx, Nat.mul_one, r_ld hc2]
  have htm : TM M W y x < 4 := by unfold TM; exact h4 _ (getD_mem (by omega))
  rw [r_letter htm]
  refine r_pushRec (x := 97 + TM M W y x) slt33 uC_len rfl (bs33 _ _ _) (by intro u hu; simp [uC] at hu; subst hu; rfl) (by omega) hrow (by rw [hrl]; omega) kq.size fun v' w' p1 p2 _ => ?_
  rw [r_add _ _ (by omega) (by omega)]
  refine ⟨⟨x + 1, by omega, by go_num, Kp.of_chg kq p2 fun k hk => (hrow.lt hk).1, ?_, hpq.chg p2 fun k hk e => rec_ne hpq hrow (by decide) k hk e⟩, by simp only [intOf]; omega⟩
  have e1 : (M.drop (y * W)).take (x + 1) = (M.drop (y * W)).take x ++ [TM M W y x] := by
    rw [take_succ' _ _ (by simp; omega)]
    congr 2
    unfold TM
    rw [List.getElem_drop, getD_lt _ _ _ (by omega)]
  rw [e1, List.map_append]
  exact p1

set_option maxRecDepth 100000 in
set_option maxHeartbeats 2000000 in
theorem r3_1 {wr : World} {R : Ending → World → Prop} (hWk : Wk w0) (hM : M.length = W * H) (h4 : ∀ i ∈ M, i < 4) (hW : 1 ≤ W ∧ W ≤ 4) (hH : 1 ≤ H ∧ H ≤ 4) (hb : RdRows w0 bv (rowsOf W H M)) (k0 : Kp w0 wr)
    (hmin : ∀ A B D : Nat, LatOk (colP (patS W H M)) W H A B D → B = 0 → ¬ A * D < W * H) (hR : ∀ w', Kp w0 w' → R (.returned (.bool true)) w') : S3L1 (.int .i64 W) (.int .i64 H) bv R wr := by
  unfold S3L1
  refine ⟨fun t11 t12 wq => ∃ y : Nat, y ≤ H ∧ t12 = .int .i64 y ∧ Kp w0 wq ∧ RecAt 9 1 sC w0.heap.size wq t11 ((List.range y).map (rowS W M)), fun _ t12 _ => H - (intOf t12).toNat, ⟨0, by omega, rfl, k0, by simpa using RecAt.nil⟩, ?_⟩
  rintro _ t11 _ wq ⟨y, hy, rfl, kq, hp⟩
  by_cases hlt : y < H
  case pos =>
    have hlt' : (y : Int) < (H : Int) := by omega
    rw [r_lss, decide_eq_true hlt', r_condT]
    refine r3_2 hM h4 hW hH hb hlt kq hp fun t w' g1 g2 => ?_
    exact ⟨⟨y + 1, by omega, by go_num, g1, g2⟩, by simp only [intOf]; omega⟩
  have hlt' : ¬ (y : Int) < (H : Int) := by omega
  obtain rfl : y = H := by omega
  rw [r_lss, decide_eq_false hlt', r_condF]
  have hpc := patS_c hM h4 hW hH
  have hrd : RdB wq t11 (patS W y M) := hp.rd sC_len
  refine r_use fok7 (lat_calls wq hrd hpc) rfl ?_
  rintro _ w1 ⟨A, B, D, hlat, rfl, k1⟩
  refine ⟨_, rfl, ?_⟩
  have hPer := patPer hpc.ok
  rw [patS_w hM hH.1, patS_len] at hlat hPer
  have a1 := hlat.a1
  have aw := hlat.aw
  have d1 := hlat.d1
  have dh := hlat.dh
  have bd := hlat.bd
  have dvw := hlat.dvd_w hPer
  have dvh := hlat.dvd_h hPer
  have dvb := hlat.dvd_b hPer
  have hm := hmin A B D hlat
  rw [r_ex2a, r_ex2b]
  refine r_box fun b15 w2 e2 s2 h2 k2 => ?_
  refine st_gd h2 rfl fun w3 c3 s3 h3 => ?_
  refine r_drew fun w4 k4 _ => ?_
  have h34 := block_below h3 k4
  have k13 : Kp w1 w3 := Kp.of_chg k2 c3 fun i e => by omega
  have k04 : Kp w0 w4 := Kp.trans kq (Kp.trans k1 (Kp.trans k13 k4))
  have c0 : w4.cell? ⟨b15, 0, none⟩ = some (.int .i64 A) := by rw [cell_row h34]; rfl
  have c1 : w4.cell? ⟨b15, 1, none⟩ = some (.int .i64 B) := by rw [cell_row h34]; rfl
  have c2 : w4.cell? ⟨b15, 2, none⟩ = some (.int .i64 D) := by rw [cell_row h34]; rfl
  have n1 : ¬ (A : Int) < 1 := by omega
  have n2 : ¬ (D : Int) < 1 := by omega
  have q1 : W / A * B ≤ 4 * 4 := Nat.mul_le_mul (Nat.le_trans (Nat.div_le_self _ _) hW.2) (by omega)
  have m1 : W % A = 0 := Nat.mod_eq_zero_of_dvd dvw
  have m2 : y % D = 0 := Nat.mod_eq_zero_of_dvd dvh
  have m3 : (0 - ((W / A * B : Nat) : Int)).tmod (D : Int) = 0 := by
    rw [Int.zero_sub, Int.neg_tmod]
    have : ((W / A * B : Nat) : Int).tmod (D : Int) = 0 := by
      rw [Int.tmod_eq_emod_of_nonneg (by omega), ← Int.natCast_emod, Nat.mod_eq_zero_of_dvd dvb]; rfl
    rw [this]; rfl
  have z0 : ((0 : Nat) : Int) = 0 := rfl
  simp (disch := omega) only [r_neq, decide_true, Bool.not_true, r_gqFF, r_fa, Nat.zero_add, r_ld c0, r_ld c1, r_ld c2, r_lss, n1, n2, decide_false, r_pickF, r_remN, m1, z0, r_quoN, r_mulN, r_sub, r_tmod, m3, m2, r_condF]
  have hAD : A * D ≤ 4 * 4 := Nat.mul_le_mul (by omega) (by omega)
  have hWH : W * y ≤ 4 * 4 := Nat.mul_le_mul hW.2 hH.2
  rw [r_eql]
  have orb : ∀ w5 : World, Kp w0 w5 → RdB w5 t11 (patS W y M) → callW Tryz.prog (.func (.func 8) #[] #[]) [t11] w5 fun t219 w =>
      exQ t219 0 fun t220 =>
      exQ t219 1 fun t221 =>
      binQ Tryz.prog w .eql 26 true t221 (.int .i64 0) fun t223 =>
      gd t223 true (fun k => k t220 w) w fun t225 w =>
      gd t223 true (fun k => ln1 t225 fun v => k v w) w fun t226 w =>
      gd t223 true (fun k => k (.int .i64 (y : Nat)) w) w fun t227 w =>
      gd t223 true (fun k => binQ Tryz.prog w .eql 3 false t226 t227 fun v => k v w) w fun t228 w =>
      pickQ t223 t228 (.bool false) fun t229 =>
      gd t229 true (fun k => callW Tryz.prog (.func (.func 4) #[] #[]) [] w k) w fun t231 w =>
      pickQ t229 t231 (.bool false) fun t232 =>
      R (.returned t232) w := fun w5 k5 hr5 => by
    refine r_use fok8 (orbits_calls w5 (hWk.kp k5) hr5 hpc) rfl ?_
    rintro _ w6 ⟨oa, oc, rfl, k6⟩
    refine ⟨_, rfl, ?_⟩
    simp only [r_ex2a, r_ex2b, r_eql, decide_true, r_gdTT, r_ln, patS_len, r_pickT]
    refine r_use fok4 (sided_calls w6 (hWk.kp (Kp.trans k5 k6))) rfl ?_
    rintro _ w7 ⟨rfl, k7⟩
    refine ⟨_, rfl, ?_⟩
    exact hR _ (Kp.trans k5 (Kp.trans k6 k7))
  have hrd4 : RdB w4 t11 (patS W y M) := hrd.kp (Kp.trans k1 (Kp.trans k13 k4))
  by_cases hB : B = 0
  · have hB' : (B : Int) = 0 := by omega
    have hl : ¬ ((A * D : Nat) : Int) < ((W * y : Nat) : Int) := by have := hm hB; omega
    simp (disch := omega) only [decide_eq_true hB', r_gdTT, r_fa, Nat.zero_add, r_ld c0, r_ld c2, r_mulN, r_lss, hl, decide_false, r_pickT, r_condF]
    exact orb w4 k04 hrd4
  · have hB' : ¬ (B : Int) = 0 := by omega
    simp only [decide_eq_false hB', r_gdFT, r_gdU, r_pickF, r_condF]
    exact orb w4 k04 hrd4
end

set_option maxRecDepth 100000 in
set_option maxHeartbeats 2000000 in
theorem law_colours {v : Value} {l : List Tile} (s : Value) (w : World) (hWk : Wk w) (hr : RdT w v l) : Calls Tryz.prog 3 #[v, s] w fun e w' => e = .returned (.bool true) ∧ Kp w w' := by
  obtain ⟨va, vc, ev, _⟩ := hr.len
  have lnv : ∀ K : Value → Prop, ln1 v K = K (.int .i64 l.length) := fun K => by rw [ev]; rfl
  refine lift3 ?_
  unfold S3
  have fin : ∀ w', Kp w w' → callW Tryz.prog (.func (.func 4) #[] #[]) [] w' fun t21 w'' => (fun (e : Ending) w' => e = .returned (.bool true) ∧ Kp w w') (.returned t21) w'' := fun w' k => by
    refine r_use fok4 (sided_calls w' (hWk.kp k)) rfl ?_
    rintro _ w'' ⟨rfl, k2⟩
    exact ⟨_, rfl, rfl, Kp.trans k k2⟩
  rw [lnv, r_gtr]
  by_cases h4 : (4 : Int) < (l.length : Int)
  · rw [decide_eq_true h4, r_condT]
    exact fin w (Kp.refl _)
  rw [decide_eq_false h4, r_condF]
  unfold S3L0
  refine ⟨fun t5 wq => ∃ i : Nat, i ≤ l.length ∧ t5 = .int .i64 i ∧ Kp w wq, fun t5 _ => l.length - (intOf t5).toNat, ⟨0, by omega, rfl, Kp.refl _⟩, ?_⟩
  rintro _ _ wq ⟨i, hi, rfl, kq⟩
  rw [lnv]
  by_cases hlt : i < l.length
  case pos =>
    have hlt' : (i : Int) < (l.length : Int) := by omega
    rw [r_lss, decide_eq_true hlt', r_condT]
    have hrq := hr.kp kq
    have fN : ∀ K : Value → Prop, (iaS 4 v (.int .i64 i) fun p => fa1 p 0 fun z => ld1 wq z K) = K (.int .i64 (tN (tl l i))) := fun K => tile_fld hrq hlt rfl K
    have fE : ∀ K : Value → Prop, (iaS 4 v (.int .i64 i) fun p => fa1 p 1 fun z => ld1 wq z K) = K (.int .i64 (tE (tl l i))) := fun K => tile_fld hrq hlt rfl K
    have fS : ∀ K : Value → Prop, (iaS 4 v (.int .i64 i) fun p => fa1 p 2 fun z => ld1 wq z K) = K (.int .i64 (tS (tl l i))) := fun K => tile_fld hrq hlt rfl K
    have fW : ∀ K : Value → Prop, (iaS 4 v (.int .i64 i) fun p => fa1 p 3 fun z => ld1 wq z K) = K (.int .i64 (tW (tl l i))) := fun K => tile_fld hrq hlt rfl K
    have step : (∃ i_1 : Nat, i_1 ≤ l.length ∧ Value.int .i64 ((i : Int) + 1) = .int .i64 i_1 ∧ Kp w wq) ∧ l.length - (intOf (.int .i64 ((i : Int) + 1))).toNat < l.length - (intOf (.int .i64 i)).toNat := ⟨⟨i + 1, by omega, by go_num, kq⟩, by simp only [intOf]; omega⟩
    generalize tN (tl l i) = n at *
    generalize tE (tl l i) = e at *
    generalize tS (tl l i) = so at *
    generalize tW (tl l i) = we at *
    rw [fN, r_lss]
    cases decide (n < 0) with
    | true => simp only [r_gdTF, r_gdU, r_pickT, r_condT]; exact fin wq kq
    | false =>
    simp only [r_gdFF, fN, r_gtr, r_pickF]
    cases decide (1 < n) with
    | true => simp only [r_gdTF, r_gdU, r_pickT, r_condT]; exact fin wq kq
    | false =>
    simp only [r_gdFF, fS, r_lss, r_pickF]
    cases decide (so < 0) with
    | true => simp only [r_gdTF, r_gdU, r_pickT, r_condT]; exact fin wq kq
    | false =>
    simp only [r_gdFF, fS, r_gtr, r_pickF]
    cases decide (1 < so) with
    | true => simp only [r_gdTF, r_gdU, r_pickT, r_condT]; exact fin wq kq
    | false =>
    simp only [r_gdFF, fE, r_lss, r_pickF]
    cases decide (e < 0) with
    | true => simp only [r_gdTF, r_gdU, r_pickT, r_condT]; exact fin wq kq
    | false =>
    simp only [r_gdFF, fE, r_gtr, r_pickF]
    cases decide (1 < e) with
    | true => simp only [r_gdTF, r_gdU, r_pickT, r_condT]; exact fin wq kq
    | false =>
    simp only [r_gdFF, fW, r_lss, r_pickF]
    cases decide (we < 0) with
    | true => simp only [r_gdTF, r_gdU, r_pickT, r_condT]; exact fin wq kq
    | false =>
    simp only [r_gdFF, fW, r_gtr, r_pickF]
    cases decide (1 < we) with
    | true => simp only [r_condT]; exact fin wq kq
    | false =>
    rw [r_condF, r_add _ _ (by omega) (by omega)]
    exact step
  have hlt' : ¬ (i : Int) < (l.length : Int) := by omega
  rw [r_lss, decide_eq_false hlt', r_condF]
  refine r_use fok5 (least_calls wq (hr.kp kq)) rfl ?_
  rintro _ w1 ⟨rfl, k1⟩
  refine ⟨_, rfl, ?_⟩
  have k01 := Kp.trans kq k1
  unfold leastV
  cases hset : setB l with
  | false =>
    have e1 : ¬ ((2 : Int) = 0) := by decide
    simp only [Bool.false_eq_true, if_false, r_ex3a, r_ex3b, r_ex3c, r_neq, e1, decide_false, Bool.not_false, r_condT, r_eql, decide_true, r_gdTF, r_gdU, r_pickT, r_gdTT]
    refine r_use fok4 (sided_calls w1 (hWk.kp k01)) rfl ?_
    rintro _ w'' ⟨rfl, k2⟩
    refine ⟨_, rfl, ?_⟩
    exact ⟨rfl, Kp.trans k01 k2⟩
  | true =>
  have hs := isSet_of hset
  cases hm : leastM l with
  | none =>
    have e1 : ¬ ((10 : Int) = 0) := by decide
    have e2 : ¬ ((10 : Int) = 2) := by decide
    simp only [if_true, r_ex3a, r_ex3b, r_ex3c, r_neq, e1, e2, decide_false, Bool.not_false, r_condT, r_eql, decide_true, r_gdFF, r_pickF, r_gdTT]
    refine r_use fok4 (sided_calls w1 (hWk.kp k01)) rfl ?_
    rintro _ w'' ⟨rfl, k2⟩
    refine ⟨_, rfl, ?_⟩
    exact ⟨rfl, Kp.trans k01 k2⟩
  | some m =>
  obtain ⟨W, H⟩ := m
  obtain ⟨hW, hH, hpos, hleast⟩ := least_spec hs hm
  dsimp only at hW hH hpos hleast
  have n1 : ¬ (W : Int) < 1 := by omega
  have n2 : ¬ (H : Int) < 1 := by omega
  have n3 : ¬ (4 : Int) < (W : Int) := by omega
  have n4 : ¬ (4 : Int) < (H : Int) := by omega
  simp only [if_true, r_ex3a, r_ex3b, r_ex3c, r_neq, decide_true, Bool.not_true, r_condF, r_lss, r_gtr, n1, n2, n3, n4, decide_false, r_gdFF, r_pickF]
  refine r_use fok6 (find_calls hset hW hH (W * H) [] nilS w1 (by simp) (by simp) (hr.kp k01) ⟨none, 0, rfl, by simp [intsN], fun h => by simp [intsN] at h⟩ fun _ => rfl) rfl ?_
  rintro _ w2 ⟨k2, bv, ok, rfl, hT, hF⟩
  refine ⟨_, rfl, ?_⟩
  rw [r_ex2a, r_ex2b, r_not]
  cases ok with
  | false =>
    exfalso
    obtain ⟨T, c⟩ := closed_of_pos hs hW hH.1 hpos
    exact hF rfl (listT T W H) (by rw [List.nil_append, listT_len]) (listT_lt hW.1 c) (by rw [List.nil_append]; exact listT_cl hW.1 hH.1 c)
  | true =>
  rw [Bool.not_true, r_condF]
  obtain ⟨M, hM, hMl, hc, hB⟩ := hT rfl
  have k02 := Kp.trans k01 k2
  have hM4 : ∀ i ∈ M, i < 4 := fun i hi => by have := hMl i hi; omega
  refine r3_1 (w0 := w2) (hWk.kp k02) hM hM4 hW hH hB (Kp.refl _) (fun A B D hlat hB0 hlt => ?_) fun w' k' => ⟨rfl, Kp.trans k02 k'⟩
  have hst := straight_closed hM hM4 hW.1 hH.1 hc hlat.aw hlat.dh (hlat.straight hB0)
  have a1 := hlat.a1
  have aw := hlat.aw
  have d1 := hlat.d1
  have dh := hlat.dh
  have h1 := pos_of_closed hs (w := A) (h := D) (by omega) (by omega) hst
  have h2 := hleast A D (by omega) (by omega) hlt
  omega

end Go.Proofs.YtfmppkplmfbjpaaGreatDoor
