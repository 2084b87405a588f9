/- Texts of my own, merged by program: We Wf. -/
import Derived.Test.YtfmppkplmfbjpaaGreatDoorM23
import Derived.Laws.CopyRow
set_option linter.all false
/- Lists of integers and of booleans of one's own; copy; slices.Repeat of one element. -/
namespace Go.Proofs.YtfmppkplmfbjpaaGreatDoor
open Go.Lf Go.RowKit Go.Wg

theorem slt91 : SlT 91 4 1 1 := SlT.mk' (z := .bool false) (by kernel_rfl) (by kernel_rfl) rfl (by decide)
theorem bs91 (b : Bool) (w : World) (K : Value → World → Prop) : bsW Tryz.prog 91 1 [(0, .bool b)] w K = K (.slice (some ⟨w.heap.size, 0, none⟩) 1 1) (w.alloc (.cells #[.bool b] 4)) := by kernel_rfl
/-- make([]bool, n) -/
theorem mk91 {n : Nat} {w : World} {K : Value → World → Prop} (hn : n ≤ 1000000) (h : ∀ v w', BoolsAt w.heap.size w' v (List.replicate n false) → Kp w w' → v.ownBlock = some w.heap.size → K v w') :
    mkW Tryz.prog 91 (.int .i64 n) (.int .i64 n) w K := by
  have e : ∀ (l : Int) (K : Value → World → Prop), mkW Tryz.prog 91 (.int .i64 l) (.int .i64 l) w K = (0 ≤ l ∧ l ≤ l ∧ l ≤ 4611686018427387904 ∧ ((1 : Nat) : Int) * l ≤ 281474976710656 ∧ 0 < 1 ∧
      K (.slice (some ⟨w.heap.size, 0, none⟩) l.toNat l.toNat) (w.alloc (.cells (mkCells #[.bool false] (l.toNat * 1)) 4))) := fun l K => by kernel_rfl
  rw [e]
  refine ⟨by omega, by omega, by omega, by omega, by omega, ?_⟩
  rw [Nat.mul_one, mkCells_one, Int.toNat_natCast]
  exact h _ _ (made_rec (x := false) (enc := bC) rfl hn w) (below_alloc _) rfl
/-! ### slices.Repeat -/

abbrev MulOk (n : Nat) : Prop := (1 ≤ n ∧ n ≤ 36) ∨ n = 64 ∨ n = 512 ∨ n = 4096
theorem mul_cases {n : Nat} (h : MulOk n) : n = 1 ∨ n = 2 ∨ n = 3 ∨ n = 4 ∨ n = 5 ∨ n = 6 ∨ n = 7 ∨ n = 8 ∨ n = 9 ∨ n = 10 ∨ n = 11 ∨ n = 12 ∨ n = 13 ∨ n = 14 ∨ n = 15 ∨ n = 16 ∨ n = 17 ∨ n = 18 ∨ n = 19 ∨ n = 20 ∨ n = 21 ∨ n = 22 ∨ n = 23 ∨ n = 24 ∨ n = 25 ∨ n = 26 ∨ n = 27 ∨ n = 28 ∨ n = 29 ∨ n = 30 ∨ n = 31 ∨ n = 32 ∨ n = 33 ∨ n = 34 ∨ n = 35 ∨ n = 36 ∨ n = 64 ∨ n = 512 ∨ n = 4096 := by omega
theorem mulOk {a : Nat} (h : 1 ≤ a ∧ a ≤ 4) : MulOk (8 ^ a) := by
  have : a = 1 ∨ a = 2 ∨ a = 3 ∨ a = 4 := by omega
  rcases this with rfl | rfl | rfl | rfl <;> decide
theorem b_gen {op : BinOp} {t : TypeId} {lit : Bool} {k : IntKind} {x y : Int} {v : Value} {w : World} {K : Value → Prop} (h : ∀ w', (semBin op t lit (.int k x) (.int k y)).run Tryz.prog w' = .ok (.value v) w') (hn : intBin op k x y = none) (hk : K v) : binQ Tryz.prog w op t lit (.int k x) (.int k y) K := by
  have e : binQ Tryz.prog w op t lit (.int k x) (.int k y) K = genQ Tryz.prog w (semBin op t lit (.int k x) (.int k y)) K := by
    simp [binQ, hn]
  rw [e]
  exact ⟨v, fun w' _ => h w', hk⟩
theorem b_int {op : BinOp} {t : TypeId} {lit : Bool} {k : IntKind} {x y : Int} {v : Value} {w : World} {K : Value → Prop} (h : intBin op k x y = some v) (hk : K v) : binQ Tryz.prog w op t lit (.int k x) (.int k y) K := by
  rw [r_bin h]; exact hk
set_option maxRecDepth 100000 in
theorem mul64_calls {n : Nat} (hn : MulOk n) (w : World) : Calls Tryz.prog 74 #[.int .u64 1, .int .u64 n] w fun e w' => e = .returned (.tuple #[.int .u64 0, .int .u64 n]) ∧ w = w' := by
  have hand : ∀ w', (semBin .and 157 true (.int .u64 n) (.int .u64 4294967295)).run Tryz.prog w' = .ok (.value (.int .u64 n)) w' := fun w' => by
    rcases mul_cases hn with rfl | rfl | rfl | rfl | rfl | rfl | rfl | rfl | rfl | rfl | rfl | rfl | rfl | rfl | rfl | rfl | rfl | rfl | rfl | rfl | rfl | rfl | rfl | rfl | rfl | rfl | rfl | rfl | rfl | rfl | rfl | rfl | rfl | rfl | rfl | rfl | rfl | rfl | rfl <;> kernel_rfl
  have hshr : ∀ w', (semBin .shr 157 true (.int .u64 n) (.int .u64 32)).run Tryz.prog w' = .ok (.value (.int .u64 0)) w' := fun w' => by
    rcases mul_cases hn with rfl | rfl | rfl | rfl | rfl | rfl | rfl | rfl | rfl | rfl | rfl | rfl | rfl | rfl | rfl | rfl | rfl | rfl | rfl | rfl | rfl | rfl | rfl | rfl | rfl | rfl | rfl | rfl | rfl | rfl | rfl | rfl | rfl | rfl | rfl | rfl | rfl | rfl | rfl <;> kernel_rfl
  have h4 : n ≤ 4096 := by omega
  have hmul : intBin .mul .u64 1 n = some (.int .u64 n) := by
    show some (Value.int .u64 (IntKind.u64.wrap (1 * (n : Int)))) = _
    rw [IntWalk.u64_in _ (by omega), Int.one_mul]
  have hmul0 : intBin .mul .u64 0 n = some (.int .u64 0) := by
    show some (Value.int .u64 (IntKind.u64.wrap (0 * (n : Int)))) = _
    rw [Int.zero_mul]; rfl
  refine lift74 ?_
  unfold S74
  refine b_gen (v := .int .u64 1) (fun _ => by kernel_rfl) rfl ?_
  refine b_gen (v := .int .u64 0) (fun _ => by kernel_rfl) rfl ?_
  refine b_gen hand rfl ?_
  refine b_gen hshr rfl ?_
  refine b_int hmul ?_
  refine b_int hmul0 ?_
  refine b_gen hshr rfl ?_
  refine b_int (v := .int .u64 0) rfl ?_
  refine b_gen (v := .int .u64 0) (fun _ => by kernel_rfl) rfl ?_
  refine b_gen (v := .int .u64 0) (fun _ => by kernel_rfl) rfl ?_
  refine b_int (v := .int .u64 0) rfl ?_
  refine b_int (v := .int .u64 0) rfl ?_
  refine b_int (v := .int .u64 0) rfl ?_
  refine b_int (v := .int .u64 0) rfl ?_
  refine b_gen (v := .int .u64 0) (fun _ => by kernel_rfl) rfl ?_
  refine b_int (v := .int .u64 0) rfl ?_
  refine b_int hmul ?_
  exact ⟨rfl, rfl⟩
theorem mul_calls {n : Nat} (hn : MulOk n) (w : World) : Calls Tryz.prog 44 #[.int .u64 1, .int .u64 n] w fun e w' => e = .returned (.tuple #[.int .u64 0, .int .u64 n]) ∧ w = w' := by
  refine lift44 ?_
  unfold S44
  simp only [r_ln, r_pick, r_pickT, r_pickF, r_condT, r_condF, r_gdTT, r_gdFF, r_gdTF, r_gdFT, r_gqTT, r_gqFF, r_gqTF, r_gqFT, r_not, r_lss, r_leq, r_gtr, r_geq, r_eql, r_neq, r_add, r_sub, r_min2, r_max2, r_min3, r_max3, r_fa, r_iaS, r_iaA, r_ex2a, r_ex2b, r_ex3a, r_ex3b, r_ex3c, r_nc, r_keepE, Nat.zero_add, Nat.add_zero, Nat.mul_one, Int.toNat_natCast, toNat_sub1, toNat_add1, decide_true, decide_false, Bool.not_true, Bool.not_false, if_true, if_false, Bool.false_eq_true, reduceCtorEq]
  refine r_use fok74 (mul64_calls hn w) rfl ?_
  rintro _ _ ⟨rfl, rfl⟩
  refine ⟨_, rfl, ?_⟩
  simp only [r_ln, r_pick, r_pickT, r_pickF, r_condT, r_condF, r_gdTT, r_gdFF, r_gdTF, r_gdFT, r_gqTT, r_gqFF, r_gqTF, r_gqFT, r_not, r_lss, r_leq, r_gtr, r_geq, r_eql, r_neq, r_add, r_sub, r_min2, r_max2, r_min3, r_max3, r_fa, r_iaS, r_iaA, r_ex2a, r_ex2b, r_ex3a, r_ex3b, r_ex3c, r_nc, r_keepE, Nat.zero_add, Nat.add_zero, Nat.mul_one, Int.toNat_natCast, toNat_sub1, toNat_add1, decide_true, decide_false, Bool.not_true, Bool.not_false, if_true, if_false, Bool.false_eq_true, reduceCtorEq]
  exact ⟨by first | rfl | trivial, by first | rfl | trivial⟩


set_option maxRecDepth 100000 in
set_option maxHeartbeats 400000 in
/-- slices.Repeat of one integer. -/
theorem repeatI_calls {n b off c : Nat} {x : Int} (hn : MulOk n) (w : World) (hc : w.cell? ⟨b, off, none⟩ = some (.int .i64 x)) : Calls Tryz.prog 20 #[.slice (some ⟨b, off, none⟩) 1 c, .int .i64 n] w fun e w' => ∃ v, e = .returned v ∧ Kp w w' ∧ IntsAt w.heap.size w' v (List.replicate n x) := by
  have h4 : 1 ≤ n ∧ n ≤ 4096 := by omega
  refine lift20 ?_
  unfold S20
  have n0 : ¬ (n : Int) < 0 := by omega
  simp (disch := omega) only [r_ln, r_pick, r_pickT, r_pickF, r_condT, r_condF, r_gdTT, r_gdFF, r_gdTF, r_gdFT, r_gqTT, r_gqFF, r_gqTF, r_gqFT, r_not, r_lss, r_leq, r_gtr, r_geq, r_eql, r_neq, r_add, r_sub, r_min2, r_max2, r_min3, r_max3, r_fa, r_iaS, r_iaA, r_ex2a, r_ex2b, r_ex3a, r_ex3b, r_ex3c, r_nc, r_keepE, Nat.zero_add, Nat.add_zero, Nat.mul_one, Int.toNat_natCast, toNat_sub1, toNat_add1, decide_true, decide_false, Bool.not_true, Bool.not_false, if_true, if_false, Bool.false_eq_true, reduceCtorEq, n0]
  refine r_join0 (fun w' => w = w') ?_ fun kk hkk => hkk w rfl
  rintro _ rfl
  simp (disch := omega) only [r_ln, r_pick, r_pickT, r_pickF, r_condT, r_condF, r_gdTT, r_gdFF, r_gdTF, r_gdFT, r_gqTT, r_gqFF, r_gqTF, r_gqFT, r_not, r_lss, r_leq, r_gtr, r_geq, r_eql, r_neq, r_add, r_sub, r_min2, r_max2, r_min3, r_max3, r_fa, r_iaS, r_iaA, r_ex2a, r_ex2b, r_ex3a, r_ex3b, r_ex3c, r_nc, r_keepE, Nat.zero_add, Nat.add_zero, Nat.mul_one, Int.toNat_natCast, toNat_sub1, toNat_add1, decide_true, decide_false, Bool.not_true, Bool.not_false, if_true, if_false, Bool.false_eq_true, reduceCtorEq, r_cv]
  have e1 : IntKind.u64.wrap ((1 : Nat) : Int) = 1 := rfl
  rw [e1, IntWalk.u64_in _ (by omega)]
  refine r_use fok44 (mul_calls hn w) rfl ?_
  rintro _ _ ⟨rfl, rfl⟩
  refine ⟨_, rfl, ?_⟩
  clear hn
  have g1 : ¬ (9223372036854775807 : Int) < (n : Int) := by omega
  have g0 : ¬ (0 : Int) < 0 := by omega
  simp (disch := omega) only [r_ln, r_pick, r_pickT, r_pickF, r_condT, r_condF, r_gdTT, r_gdFF, r_gdTF, r_gdFT, r_gqTT, r_gqFF, r_gqTF, r_gqFT, r_not, r_lss, r_leq, r_gtr, r_geq, r_eql, r_neq, r_add, r_sub, r_min2, r_max2, r_min3, r_max3, r_fa, r_iaS, r_iaA, r_ex2a, r_ex2b, r_ex3a, r_ex3b, r_ex3c, r_nc, r_keepE, Nat.zero_add, Nat.add_zero, Nat.mul_one, Int.toNat_natCast, toNat_sub1, toNat_add1, decide_true, decide_false, Bool.not_true, Bool.not_false, if_true, if_false, Bool.false_eq_true, reduceCtorEq, g0, g1]
  refine r_join0 (fun w' => w = w') ?_ fun kk hkk => hkk w rfl
  rintro _ rfl
  simp (disch := omega) only [r_ln, r_pick, r_pickT, r_pickF, r_condT, r_condF, r_gdTT, r_gdFF, r_gdTF, r_gdFT, r_gqTT, r_gqFF, r_gqTF, r_gqFT, r_not, r_lss, r_leq, r_gtr, r_geq, r_eql, r_neq, r_add, r_sub, r_min2, r_max2, r_min3, r_max3, r_fa, r_iaS, r_iaA, r_ex2a, r_ex2b, r_ex3a, r_ex3b, r_ex3c, r_nc, r_keepE, Nat.zero_add, Nat.add_zero, Nat.mul_one, Int.toNat_natCast, toNat_sub1, toNat_add1, decide_true, decide_false, Bool.not_true, Bool.not_false, if_true, if_false, Bool.false_eq_true, reduceCtorEq, r_cv]
  rw [IntWalk.i64_in _ (by omega)]
  refine mk31' (by omega) fun v w1 hv k1 hvb => ?_
  have hv0 := hv.lt hvb
  obtain ⟨g, cap, cur, rfl, hgb, hg, hle, hcm, hsz, _⟩ := hv.blk (by rw [List.length_replicate]; omega)
  rw [List.length_replicate] at hle
  have hlr : (List.replicate n (0 : Int)).length = n := List.length_replicate
  rw [hlr]
  have fin : ∀ (w' : World) (cur' : Array Value), w'.heap[g]? = some (.cells cur' 3 (0, 0)) → cur'.size = cur.size → (∀ j, j < n → cur'[j]? = some (.int .i64 x)) → IntsAt w.heap.size w' (.slice (some ⟨g, 0, none⟩) n cap) (List.replicate n x) := fun w' cur' h1 h2 h3 => by
    refine ⟨by rw [rec_ints]; simp, .inr ⟨g, cap, cur', by simp, hgb, h1, by simpa using hle, hcm, by omega, ?_⟩⟩
    rw [rec_ints]
    refine List.ext_getElem? fun j => ?_
    rw [List.getElem?_take]
    simp only [List.length_replicate, Nat.mul_one, List.map_replicate, List.getElem?_replicate]
    split
    · rename_i hj
      have := h3 j hj
      simpa using this
    · rfl
  have k1s := k1.size
  have hcw1 := cell_later k1 hc
  have ea : ∀ j (u : Value), [Value.int .i64 x][j]? = some u → w1.cell? ((⟨b, off, none⟩ : Addr).add j) = some u := fun j u hj => by
    cases j with
    | zero => cases hj; simpa [r_addr] using hcw1
    | succ j => simp at hj
  refine r_cp (cs := [.int .i64 x]) slt31 hg (by simp; omega) ea (by simp; omega) (by intro u hu; simp at hu; subst hu; rfl) fun w2 c2 s2 h2 => ?_
  refine ⟨fun t8 wr => ∃ (m : Nat) (cur' : Array Value), 1 ≤ m ∧ m ≤ n ∧ t8 = .int .i64 m ∧ wr.heap[g]? = some (.cells cur' 3 (0, 0)) ∧ cur'.size = cur.size ∧ (∀ j, j < m → cur'[j]? = some (.int .i64 x)) ∧ Chg (fun k => k = g) w1 wr, fun t8 _ => n - (intOf t8).toNat,
    ⟨1, _, by omega, by omega, rfl, h2, by simp; omega, fun j hj => by
      have : j = 0 := by omega
      subst this
      simp, c2⟩, ?_⟩
  rintro _ _ wr ⟨m, cur', hm1, hmn, rfl, hgr, hsr, hxr, hcr⟩
  by_cases hlt : m < n
  case neg =>
    have hlt' : ¬ (m : Int) < (n : Int) := by omega
    have em : m = n := by omega
    subst em
    simp (disch := omega) only [r_ln, r_pick, r_pickT, r_pickF, r_condT, r_condF, r_gdTT, r_gdFF, r_gdTF, r_gdFT, r_gqTT, r_gqFF, r_gqTF, r_gqFT, r_not, r_lss, r_leq, r_gtr, r_geq, r_eql, r_neq, r_add, r_sub, r_min2, r_max2, r_min3, r_max3, r_fa, r_iaS, r_iaA, r_ex2a, r_ex2b, r_ex3a, r_ex3b, r_ex3c, r_nc, r_keepE, Nat.zero_add, Nat.add_zero, Nat.mul_one, Int.toNat_natCast, toNat_sub1, toNat_add1, decide_true, decide_false, Bool.not_true, Bool.not_false, if_true, if_false, Bool.false_eq_true, reduceCtorEq, hlt']
    exact ⟨_, rfl, Kp.of_chg k1 hcr fun k e => by omega, fin _ _ hgr hsr hxr⟩
  have hlt' : (m : Int) < (n : Int) := by omega
  simp (disch := omega) only [r_ln, r_pick, r_pickT, r_pickF, r_condT, r_condF, r_gdTT, r_gdFF, r_gdTF, r_gdFT, r_gqTT, r_gqFF, r_gqTF, r_gqFT, r_not, r_lss, r_leq, r_gtr, r_geq, r_eql, r_neq, r_add, r_sub, r_min2, r_max2, r_min3, r_max3, r_fa, r_iaS, r_iaA, r_ex2a, r_ex2b, r_ex3a, r_ex3b, r_ex3c, r_nc, r_keepE, Nat.zero_add, Nat.add_zero, Nat.mul_one, Int.toNat_natCast, toNat_sub1, toNat_add1, decide_true, decide_false, Bool.not_true, Bool.not_false, if_true, if_false, Bool.false_eq_true, reduceCtorEq, decide_eq_true hlt']
  refine r_drew fun wx kx _ => ?_
  refine ⟨fun k => k = g, ?_⟩
  have hcm' : ¬ cap = m := by omega
  simp (disch := omega) only [r_ln, r_pick, r_pickT, r_pickF, r_condT, r_condF, r_gdTT, r_gdFF, r_gdTF, r_gdFT, r_gqTT, r_gqFF, r_gqTF, r_gqFT, r_not, r_lss, r_leq, r_gtr, r_geq, r_eql, r_neq, r_add, r_sub, r_min2, r_max2, r_min3, r_max3, r_fa, r_iaS, r_iaA, r_ex2a, r_ex2b, r_ex3a, r_ex3b, r_ex3c, r_nc, r_keepE, Nat.zero_add, Nat.add_zero, Nat.mul_one, Int.toNat_natCast, toNat_sub1, toNat_add1, decide_true, decide_false, Bool.not_true, Bool.not_false, if_true, if_false, Bool.false_eq_true, reduceCtorEq, r_tx, r_slTo, r_slFrom, hcm']
  have hgx := block_below hgr kx
  have ead : (⟨g, 0, none⟩ : Addr).add m = ⟨g, m, none⟩ := by rw [r_addr, Nat.zero_add]
  have hmin : min m (n - m) ≤ m ∧ m + min m (n - m) ≤ n ∧ 1 ≤ min m (n - m) := by omega
  have hexp : (((n : Int) - (m : Int)).toNat) = n - m := by omega
  simp only [Option.map_some, ead]
  generalize hq : min m (n - m) = q at *
  have hlq : (List.replicate q (Value.int .i64 x)).length = q := List.length_replicate
  refine r_cp (cs := List.replicate q (.int .i64 x)) slt31 hgx (by rw [hlq, hq]) (fun j u hj => ?_) (by rw [hlq]; omega) (by intro u hu; rw [List.eq_of_mem_replicate hu]; rfl) fun w3 c3 s3 h3 => ?_
  · rw [List.getElem?_replicate] at hj
    split at hj
    · rename_i hjq
      cases hj
      rw [r_addr, Nat.zero_add, cell_row hgx]
      exact hxr j (by omega)
    · cases hj
  rw [hlq, r_keepXE]
  refine ⟨BX.of_chgW c3, ?_⟩
  try simp (disch := omega) only [r_ln, r_pick, r_pickT, r_pickF, r_condT, r_condF, r_gdTT, r_gdFF, r_gdTF, r_gdFT, r_gqTT, r_gqFF, r_gqTF, r_gqFT, r_not, r_lss, r_leq, r_gtr, r_geq, r_eql, r_neq, r_add, r_sub, r_min2, r_max2, r_min3, r_max3, r_fa, r_iaS, r_iaA, r_ex2a, r_ex2b, r_ex3a, r_ex3b, r_ex3c, r_nc, r_keepE, Nat.zero_add, Nat.add_zero, Nat.mul_one, Int.toNat_natCast, toNat_sub1, toNat_add1, decide_true, decide_false, Bool.not_true, Bool.not_false, if_true, if_false, Bool.false_eq_true, reduceCtorEq, r_tx]
  refine ⟨⟨m + q, _, by omega, by omega, by go_num, h3, ?_, fun j hj => ?_, (hcr.trans (Chg.of_kp kx)).trans c3⟩, by simp only [intOf]; omega⟩
  · simp only [hlq, List.size_toArray, List.length_append, List.length_take, List.length_drop, Array.length_toList, List.length_replicate]
    omega
  · have hcs : cur'.toList.length = cur.size := by simpa using hsr
    simp only [List.getElem?_toArray]
    by_cases hjm : j < m
    · rw [List.append_assoc, List.getElem?_append_left (by rw [List.length_take]; omega), List.getElem?_take, if_pos hjm]
      have := hxr j hjm
      simpa using this
    · rw [List.getElem?_append_left (by rw [List.length_append, List.length_take, hlq]; omega), List.getElem?_append_right (by rw [List.length_take]; omega), List.length_take, List.getElem?_replicate, if_pos (by omega)]

end Go.Proofs.YtfmppkplmfbjpaaGreatDoor

/- Contracts: steps, Count of the program. -/
namespace Go.Proofs.YtfmppkplmfbjpaaGreatDoor
open Go.Lf Go.RowKit Go.Wg

theorem RdL.line {w : World} {v : Value} {L : List Line} (h : RdL w v L) {i : Nat} {x : Line} (hi : L[i]? = some x) :
    ∃ b off cap, v = .slice (some ⟨b, off, none⟩) L.length cap ∧ i < L.length ∧ ∀ K : Value → Prop, ldN 7 w (.pointer (some ⟨b, off + i * 7, none⟩)) K = K (lnV x) := by
  obtain ⟨b, off, cap, e, hlt, hc⟩ := h.at hi
  exact ⟨b, off, cap, e, hlt, fun K => r_ldCells (l := lnC x) rfl hc⟩

/-- Lines whose numbers are below N. -/
def LnOk (N : Nat) (L : List Line) : Prop := ∀ x ∈ L, (0 ≤ x.2.1 ∧ x.2.1 < N) ∧ 0 ≤ x.2.2.1 ∧ x.2.2.1 < N
def Rng (l : List Int) : Prop := ∀ x ∈ l, 0 ≤ x ∧ x ≤ 1099511627777

def stepF (fr nx : List Int) (x : Line) : List Int := nx.set x.2.2.1.toNat (min (nx.getD x.2.2.1.toNat 0 + fr.getD x.2.1.toNat 0) 1099511627777)
def stepL (L : List Line) (fr : List Int) : List Int := L.foldl (stepF fr) (List.replicate fr.length 0)
def stepsL (L : List Line) (fr : List Int) : Nat → List Int
  | 0 => fr
  | k + 1 => stepL L (stepsL L fr k)

theorem rng_getD {l : List Int} (h : Rng l) (i : Nat) : 0 ≤ l.getD i 0 ∧ l.getD i 0 ≤ 1099511627777 := by
  by_cases hi : i < l.length
  · exact h _ (getD_mem hi)
  · rw [List.getD_eq_getElem?_getD, List.getElem?_eq_none (by omega)]
    exact ⟨Int.le_refl _, by decide⟩
theorem stepF_rng {fr nx : List Int} (h1 : Rng fr) (h2 : Rng nx) (x : Line) : Rng (stepF fr nx x) ∧ (stepF fr nx x).length = nx.length := by
  refine ⟨fun y hy => ?_, by simp [stepF]⟩
  rcases List.mem_or_eq_of_mem_set hy with h | rfl
  · exact h2 y h
  · have := rng_getD h1 x.2.1.toNat
    have := rng_getD h2 x.2.2.1.toNat
    omega
theorem fold_rng {fr : List Int} (h1 : Rng fr) : ∀ (L : List Line) (nx : List Int), Rng nx → Rng (L.foldl (stepF fr) nx) ∧ (L.foldl (stepF fr) nx).length = nx.length
  | [], nx, h => ⟨h, rfl⟩
  | x :: L, nx, h => by
    have h2 := stepF_rng h1 h x
    have h3 := fold_rng h1 L _ h2.1
    exact ⟨h3.1, by rw [List.foldl_cons, h3.2, h2.2]⟩
theorem rng_zero (n : Nat) : Rng (List.replicate n 0) := fun x hx => by rw [List.eq_of_mem_replicate hx]; decide
theorem steps_rng {L : List Line} {fr : List Int} (h : Rng fr) : ∀ k, Rng (stepsL L fr k) ∧ (stepsL L fr k).length = fr.length
  | 0 => ⟨h, rfl⟩
  | k + 1 => by
    have h1 := steps_rng (L := L) h k
    have h2 := fold_rng h1.1 L _ (rng_zero (stepsL L fr k).length)
    refine ⟨h2.1, ?_⟩
    rw [stepsL, stepL, h2.2, List.length_replicate, h1.2]

set_option maxRecDepth 100000 in
set_option maxHeartbeats 400000 in
theorem steps_calls {lv fv : Value} {L : List Line} {fr : List Int} {h : Nat} (w : World) (hL : RdL w lv L) (hok : LnOk fr.length L) (hf : RdInts w fv fr) (hr : Rng fr) (hLl : L.length ≤ 1000000) (hfl : fr.length ≤ 1000000) (hh : h ≤ 4) :
    Calls Tryz.prog 23 #[lv, fv, .int .i64 h] w fun e w' => ∃ v', e = .returned v' ∧ Kp w w' ∧ RdInts w' v' (stepsL L fr h) := by
  obtain ⟨la, lcap, rfl, hlc⟩ := hL.len
  refine lift23 ?_
  unfold S23
  refine ⟨fun t1 t11 wr => ∃ k : Nat, k ≤ h ∧ t11 = .int .i64 k ∧ Kp w wr ∧ RdInts wr t1 (stepsL L fr k), fun _ t11 _ => h - (intOf t11).toNat, ⟨0, by omega, rfl, Kp.refl _, hf⟩, ?_⟩
  rintro _ t1 _ wr ⟨k, hk, rfl, hkr, hfr⟩
  have hrk := steps_rng (L := L) hr k
  have hnext : stepsL L fr (k + 1) = stepL L (stepsL L fr k) := rfl
  by_cases hlt : k < h
  case neg =>
    have hlt' : ¬ (k : Int) < (h : Int) := by omega
    have : k = h := by omega
    subst this
    simp (disch := omega) only [r_ln, r_pick, r_pickT, r_pickF, r_condT, r_condF, r_gdTT, r_gdFF, r_gdTF, r_gdFT, r_gqTT, r_gqFF, r_gqTF, r_gqFT, r_not, r_lss, r_leq, r_gtr, r_geq, r_eql, r_neq, r_add, r_sub, r_min2, r_max2, r_min3, r_max3, r_fa, r_iaS, r_iaA, r_ex2a, r_ex2b, r_ex3a, r_ex3b, r_ex3c, r_nc, r_keepE, Nat.zero_add, Nat.add_zero, Nat.mul_one, Int.toNat_natCast, toNat_sub1, toNat_add1, decide_true, decide_false, Bool.not_true, Bool.not_false, if_true, if_false, Bool.false_eq_true, reduceCtorEq, hlt']
    exact ⟨_, rfl, hkr, hfr⟩
  have hlt' : (k : Int) < (h : Int) := by omega
  generalize stepsL L fr k = F at *
  obtain ⟨hrF, hlF⟩ := hrk
  obtain ⟨fa, fcap, rfl, _⟩ := hfr.len
  simp (disch := omega) only [r_ln, r_pick, r_pickT, r_pickF, r_condT, r_condF, r_gdTT, r_gdFF, r_gdTF, r_gdFT, r_gqTT, r_gqFF, r_gqTF, r_gqFT, r_not, r_lss, r_leq, r_gtr, r_geq, r_eql, r_neq, r_add, r_sub, r_min2, r_max2, r_min3, r_max3, r_fa, r_iaS, r_iaA, r_ex2a, r_ex2b, r_ex3a, r_ex3b, r_ex3c, r_nc, r_keepE, Nat.zero_add, Nat.add_zero, Nat.mul_one, Int.toNat_natCast, toNat_sub1, toNat_add1, decide_true, decide_false, Bool.not_true, Bool.not_false, if_true, if_false, Bool.false_eq_true, reduceCtorEq, hlt']
  refine mk31' (by omega) fun v w1 hv k1 hvb => ?_
  have k1s := k1.size
  refine ⟨fun t18 wq => ∃ i : Nat, i ≤ L.length ∧ t18 = .int .i64 i ∧ Kp wr wq ∧ IntsAt wr.heap.size wq v ((L.take i).foldl (stepF F) (List.replicate F.length 0)), fun t18 _ => L.length - (intOf t18).toNat,
    ⟨0, by omega, rfl, k1, by simpa using hv⟩, ?_⟩
  rintro _ _ wq ⟨i, hi, rfl, hkq, hvq⟩
  by_cases hil : i < L.length
  case neg =>
    have hil' : ¬ (i : Int) < (L.length : Int) := by omega
    rw [List.take_of_length_le (by omega)] at hvq
    simp (disch := omega) only [r_ln, r_pick, r_pickT, r_pickF, r_condT, r_condF, r_gdTT, r_gdFF, r_gdTF, r_gdFT, r_gqTT, r_gqFF, r_gqTF, r_gqFT, r_not, r_lss, r_leq, r_gtr, r_geq, r_eql, r_neq, r_add, r_sub, r_min2, r_max2, r_min3, r_max3, r_fa, r_iaS, r_iaA, r_ex2a, r_ex2b, r_ex3a, r_ex3b, r_ex3c, r_nc, r_keepE, Nat.zero_add, Nat.add_zero, Nat.mul_one, Int.toNat_natCast, toNat_sub1, toNat_add1, decide_true, decide_false, Bool.not_true, Bool.not_false, if_true, if_false, Bool.false_eq_true, reduceCtorEq, hil']
    refine ⟨⟨k + 1, by omega, by go_num, Kp.trans hkr hkq, ?_⟩, by simp only [intOf]; omega⟩
    rw [hnext]
    refine (hvq.rd iC_len).ints ?_
    have := (fold_rng hrF L _ (rng_zero F.length)).2
    rw [this, List.length_replicate]
    omega
  have hil' : (i : Int) < (L.length : Int) := by omega
  obtain ⟨x, hx⟩ : ∃ x, L[i]? = some x := ⟨_, List.getElem?_eq_getElem hil⟩
  obtain ⟨lb, lo, lc, el, _, hld⟩ := RdL.line (hL.kp (Kp.trans hkr hkq)) hx
  cases el
  simp (disch := omega) only [r_ln, r_pick, r_pickT, r_pickF, r_condT, r_condF, r_gdTT, r_gdFF, r_gdTF, r_gdFT, r_gqTT, r_gqFF, r_gqTF, r_gqFT, r_not, r_lss, r_leq, r_gtr, r_geq, r_eql, r_neq, r_add, r_sub, r_min2, r_max2, r_min3, r_max3, r_fa, r_iaS, r_iaA, r_ex2a, r_ex2b, r_ex3a, r_ex3b, r_ex3c, r_nc, r_keepE, Nat.zero_add, Nat.add_zero, Nat.mul_one, Int.toNat_natCast, toNat_sub1, toNat_add1, decide_true, decide_false, Bool.not_true, Bool.not_false, if_true, if_false, Bool.false_eq_true, reduceCtorEq, decide_eq_true hil', hld]
  refine r_box fun b9 w2 e9 s9 h9 k9 => ?_
  refine r_stAll (n := 7) (ty := 89) (by kernel_rfl) rfl (by intro u hu; simp [Value.cells] at hu; rcases hu with rfl | rfl | rfl | rfl | rfl | rfl | rfl <;> rfl) h9 rfl fun w3 cg3 s3 h93 => ?_
  have k03 : Kp wq w3 := Kp.of_chg k9 cg3 fun i e => by omega
  refine r_drew fun w4 k4 _ => ?_
  have kq4 := Kp.trans k03 k4
  have h94 := block_below h93 k4
  have c4 : w4.cell? ⟨b9, 4, none⟩ = some (.int .i64 x.2.1) := by rw [cell_row h94]; rfl
  have c5 : w4.cell? ⟨b9, 5, none⟩ = some (.int .i64 x.2.2.1) := by rw [cell_row h94]; rfl
  obtain ⟨⟨x1, x2⟩, x3, x4⟩ := hok x (List.mem_of_getElem? hx)
  have hNx := fold_rng hrF (L.take i) _ (rng_zero F.length)
  rw [List.length_replicate] at hNx
  have htake : (L.take (i + 1)).foldl (stepF F) (List.replicate F.length 0) = stepF F ((L.take i).foldl (stepF F) (List.replicate F.length 0)) x := by
    rw [List.take_add_one, hx]
    simp
  obtain ⟨hrN, hlN⟩ := hNx
  generalize (L.take i).foldl (stepF F) (List.replicate F.length 0) = N at *
  obtain ⟨g, cap, ev, hgb, gc, gf, gset⟩ := IntsAt.put (hvq.kp kq4) (q := x.2.2.1.toNat) (by omega) (min (N.getD x.2.2.1.toNat 0 + F.getD x.2.1.toNat 0) 1099511627777)
  have hF4 := hfr.below (Kp.trans hkq kq4)
  obtain ⟨fb, fo, _, ef, fc⟩ := hF4.at (j := x.2.1.toNat) (by omega)
  cases ef
  have y1 := rng_getD hrN x.2.2.1.toNat
  have y2 := rng_getD hrF x.2.1.toNat
  subst ev
  simp (disch := omega) only [r_ln, r_pick, r_pickT, r_pickF, r_condT, r_condF, r_gdTT, r_gdFF, r_gdTF, r_gdFT, r_gqTT, r_gqFF, r_gqTF, r_gqFT, r_not, r_lss, r_leq, r_gtr, r_geq, r_eql, r_neq, r_add, r_sub, r_min2, r_max2, r_min3, r_max3, r_fa, r_iaS, r_iaA, r_ex2a, r_ex2b, r_ex3a, r_ex3b, r_ex3c, r_nc, r_keepE, Nat.zero_add, Nat.add_zero, Nat.mul_one, Int.toNat_natCast, toNat_sub1, toNat_add1, decide_true, decide_false, Bool.not_true, Bool.not_false, if_true, if_false, Bool.false_eq_true, reduceCtorEq, r_ld c4, r_ld c5, r_ld gc, r_ld fc]
  rw [st3 gc gf]
  try simp (disch := omega) only [r_ln, r_pick, r_pickT, r_pickF, r_condT, r_condF, r_gdTT, r_gdFF, r_gdTF, r_gdFT, r_gqTT, r_gqFF, r_gqTF, r_gqFT, r_not, r_lss, r_leq, r_gtr, r_geq, r_eql, r_neq, r_add, r_sub, r_min2, r_max2, r_min3, r_max3, r_fa, r_iaS, r_iaA, r_ex2a, r_ex2b, r_ex3a, r_ex3b, r_ex3c, r_nc, r_keepE, Nat.zero_add, Nat.add_zero, Nat.mul_one, Int.toNat_natCast, toNat_sub1, toNat_add1, decide_true, decide_false, Bool.not_true, Bool.not_false, if_true, if_false, Bool.false_eq_true, reduceCtorEq]
  refine ⟨⟨i + 1, by omega, by go_num, Kp.of_chg (Kp.trans hkq kq4) (Chg.setCell (S := fun k => k = g) _ _ rfl) fun k e => by omega, ?_⟩, by simp only [intOf]; omega⟩
  rw [htake]
  exact gset

def sumC (fr : List Int) : Int := fr.foldl (fun s n => min (s + n) 1099511627777) 0
def linesL (l : List Tile) (w : Nat) : List Line := (rowsL l w).map (lineOf l)
def limV (n : Int) : Value := if 1099511627776 < n then .tuple #[.int .i64 0, .int .i64 8] else .tuple #[.int .i64 n, .int .i64 0]

theorem lines_ok {l : List Tile} (hs : IsSet l) {a : Nat} (ha : a ≤ 4) : LnOk (8 ^ a) (linesL l a) := by
  intro x hx
  simp only [linesL, List.mem_map] at hx
  obtain ⟨r, hr, rfl⟩ := hx
  obtain ⟨hl, hrow⟩ := mem_rowsL.1 hr
  obtain ⟨q1, q2⟩ := cols_norths hs hrow.lt
  have q3 := code_range q1 (by simp [norths]; omega)
  have q4 := code_range q2 (by simp [souths]; omega)
  have e1 : (norths l r).length = a := by simp [norths, hl]
  have e2 : (souths l r).length = a := by simp [souths, hl]
  rw [e1] at q3
  rw [e2] at q4
  have e3 : ((8 ^ a : Nat) : Int) = 8 ^ a := by simp
  rw [e3]
  exact ⟨⟨q3.1, q3.2.1⟩, q4.1, q4.2.1⟩
theorem lines_len {l : List Tile} (hs : IsSet l) {a : Nat} (ha : a ≤ 4) : (linesL l a).length ≤ 65536 := by
  rw [linesL, List.length_map]
  exact Nat.le_trans (exts_length_le hs.most a []) (pow16_le ha)

theorem limited_calls (n : Int) (w : World) : Calls Tryz.prog 26 #[.int .i64 n] w fun e w' => e = .returned (limV n) ∧ w = w' := by
  refine lift26 ?_
  unfold S26 limV
  by_cases h : (1099511627776 : Int) < n
  · simp only [r_ln, r_pick, r_pickT, r_pickF, r_condT, r_condF, r_gdTT, r_gdFF, r_gdTF, r_gdFT, r_gqTT, r_gqFF, r_gqTF, r_gqFT, r_not, r_lss, r_leq, r_gtr, r_geq, r_eql, r_neq, r_add, r_sub, r_min2, r_max2, r_min3, r_max3, r_fa, r_iaS, r_iaA, r_ex2a, r_ex2b, r_ex3a, r_ex3b, r_ex3c, r_nc, r_keepE, Nat.zero_add, Nat.add_zero, Nat.mul_one, Int.toNat_natCast, toNat_sub1, toNat_add1, decide_true, decide_false, Bool.not_true, Bool.not_false, if_true, if_false, Bool.false_eq_true, reduceCtorEq, h]
    exact ⟨by first | rfl | trivial, by first | rfl | trivial⟩
  · simp only [r_ln, r_pick, r_pickT, r_pickF, r_condT, r_condF, r_gdTT, r_gdFF, r_gdTF, r_gdFT, r_gqTT, r_gqFF, r_gqTF, r_gqFT, r_not, r_lss, r_leq, r_gtr, r_geq, r_eql, r_neq, r_add, r_sub, r_min2, r_max2, r_min3, r_max3, r_fa, r_iaS, r_iaA, r_ex2a, r_ex2b, r_ex3a, r_ex3b, r_ex3c, r_nc, r_keepE, Nat.zero_add, Nat.add_zero, Nat.mul_one, Int.toNat_natCast, toNat_sub1, toNat_add1, decide_true, decide_false, Bool.not_true, Bool.not_false, if_true, if_false, Bool.false_eq_true, reduceCtorEq, h]
    exact ⟨by first | rfl | trivial, by first | rfl | trivial⟩

/-- What Count returns. -/
def countV (l : List Tile) (w h : Int) : Value := if ordErr l w h = 0 then limV (sumC (stepsL (linesL l w.toNat) (List.replicate (8 ^ w.toNat) 1) h.toNat)) else .tuple #[.int .i64 0, .int .i64 2]

theorem sum_rng {l : List Int} (h : Rng l) (i : Nat) : 0 ≤ sumC (l.take i) ∧ sumC (l.take i) ≤ 1099511627777 := by
  have key : ∀ (l : List Int) (s : Int), Rng l → 0 ≤ s → s ≤ 1099511627777 → 0 ≤ l.foldl (fun s n => min (s + n) 1099511627777) s ∧ l.foldl (fun s n => min (s + n) 1099511627777) s ≤ 1099511627777 := by
    intro l
    induction l with
    | nil => intro s _ h1 h2; exact ⟨h1, h2⟩
    | cons x l ih =>
      intro s h h1 h2
      have := h x (by simp)
      exact ih _ (fun y hy => h y (by simp [hy])) (by show 0 ≤ min (s + x) 1099511627777; omega) (by show min (s + x) 1099511627777 ≤ 1099511627777; omega)
  exact key _ 0 (fun x hx => h x (List.mem_of_mem_take hx)) (by decide) (by decide)

set_option maxRecDepth 100000 in
set_option maxHeartbeats 400000 in
theorem count_calls {v : Value} {l : List Tile} (a b : Int) (w : World) (hr : RdT w v l) : Calls Tryz.prog 9 #[v, .int .i64 a, .int .i64 b] w fun e w' => e = .returned (countV l a b) ∧ Kp w w' := by
  refine lift9 ?_
  unfold S9
  refine r_use fok22 (board_calls a b w hr) rfl ?_
  rintro _ w1 ⟨rfl, k1⟩
  refine ⟨_, rfl, ?_⟩
  unfold countV
  have h20 : ¬ ((2 : Int) = 0) := by decide
  rcases ordErr_cases l a b with he | he
  rotate_left
  · simp (disch := omega) only [r_ln, r_pick, r_pickT, r_pickF, r_condT, r_condF, r_gdTT, r_gdFF, r_gdTF, r_gdFT, r_gqTT, r_gqFF, r_gqTF, r_gqFT, r_not, r_lss, r_leq, r_gtr, r_geq, r_eql, r_neq, r_add, r_sub, r_min2, r_max2, r_min3, r_max3, r_fa, r_iaS, r_iaA, r_ex2a, r_ex2b, r_ex3a, r_ex3b, r_ex3c, r_nc, r_keepE, Nat.zero_add, Nat.add_zero, Nat.mul_one, Int.toNat_natCast, toNat_sub1, toNat_add1, decide_true, decide_false, Bool.not_true, Bool.not_false, if_true, if_false, Bool.false_eq_true, reduceCtorEq, he, h20]
    exact ⟨by first | rfl | trivial, k1⟩
  obtain ⟨hs, a, b, rfl, rfl, ha, hb⟩ := ord_ok he
  simp (disch := omega) only [r_ln, r_pick, r_pickT, r_pickF, r_condT, r_condF, r_gdTT, r_gdFF, r_gdTF, r_gdFT, r_gqTT, r_gqFF, r_gqTF, r_gqFT, r_not, r_lss, r_leq, r_gtr, r_geq, r_eql, r_neq, r_add, r_sub, r_min2, r_max2, r_min3, r_max3, r_fa, r_iaS, r_iaA, r_ex2a, r_ex2b, r_ex3a, r_ex3b, r_ex3c, r_nc, r_keepE, Nat.zero_add, Nat.add_zero, Nat.mul_one, Int.toNat_natCast, toNat_sub1, toNat_add1, decide_true, decide_false, Bool.not_true, Bool.not_false, if_true, if_false, Bool.false_eq_true, reduceCtorEq, he, decide_eq_true (rfl : (0 : Int) = 0)]
  refine r_use fok24 (rows_calls hs ha w1 (hr.kp k1)) rfl ?_
  rintro _ w2 ⟨lv, rfl, k2, hL⟩
  refine ⟨_, rfl, ?_⟩
  rw [bs31]
  have k3 : Kp w2 (w2.alloc (.cells #[.int .i64 1] 3)) := below_alloc _
  have n3 := heap_alloc_new w2 (.cells #[.int .i64 1] 3)
  generalize w2.alloc (.cells #[.int .i64 1] 3) = w3 at *
  refine r_use fok25 (codes_calls w3 ha.2) rfl ?_
  rintro _ _ ⟨rfl, rfl⟩
  refine ⟨_, rfl, ?_⟩
  have h8 := pow8N_le ha.2
  have hm := mulOk ha
  have hlo := lines_ok hs ha.2
  have hll := lines_len hs ha.2
  change LnAt _ _ _ (linesL l a) at hL
  generalize 8 ^ a = N at *
  refine r_use fok20 (repeatI_calls (b := w2.heap.size) (off := 0) (x := 1) hm w3 (by rw [cell_row n3]; rfl)) rfl ?_
  rintro _ w4 ⟨rv, rfl, k4, hrv⟩
  refine ⟨_, rfl, ?_⟩
  have k24 := Kp.trans k3 k4
  have hone : Rng (List.replicate N (1 : Int)) := fun x hx => by rw [List.eq_of_mem_replicate hx]; decide
  refine r_use fok23 (steps_calls (h := b) w4 ((hL.rd lnC_len).kp k24) (by rw [List.length_replicate]; exact hlo) ((hrv.rd iC_len).ints (by rw [List.length_replicate]; omega)) hone (by omega) (by rw [List.length_replicate]; omega) hb.2) rfl ?_
  rintro _ w5 ⟨sv, rfl, k5, hsv⟩
  refine ⟨_, rfl, ?_⟩
  obtain ⟨hr5, hl5⟩ := steps_rng (L := linesL l a) hone b
  try simp only [Int.toNat_natCast]
  rw [List.length_replicate] at hl5
  generalize stepsL (linesL l a) (List.replicate N 1) b = F at *
  obtain ⟨sa, scap, rfl, _⟩ := hsv.len
  have kall := Kp.trans (Kp.trans k1 k2) (Kp.trans k24 k5)
  try simp only [r_ln, r_pick, r_pickT, r_pickF, r_condT, r_condF, r_gdTT, r_gdFF, r_gdTF, r_gdFT, r_gqTT, r_gqFF, r_gqTF, r_gqFT, r_not, r_lss, r_leq, r_gtr, r_geq, r_eql, r_neq, r_add, r_sub, r_min2, r_max2, r_min3, r_max3, r_fa, r_iaS, r_iaA, r_ex2a, r_ex2b, r_ex3a, r_ex3b, r_ex3c, r_nc, r_keepE, Nat.zero_add, Nat.add_zero, Nat.mul_one, Int.toNat_natCast, toNat_sub1, toNat_add1, decide_true, decide_false, Bool.not_true, Bool.not_false, if_true, if_false, Bool.false_eq_true, reduceCtorEq]
  refine ⟨fun t9 t29 wr => ∃ i : Nat, i ≤ F.length ∧ t29 = .int .i64 i ∧ t9 = .int .i64 (sumC (F.take i)) ∧ w5 = wr, fun _ t29 _ => F.length - (intOf t29).toNat, ⟨0, by omega, rfl, rfl, rfl⟩, ?_⟩
  rintro _ _ _ _ ⟨i, hi, rfl, rfl, rfl⟩
  by_cases hlt : i < F.length
  case neg =>
    have hlt' : ¬ (i : Int) < (F.length : Int) := by omega
    rw [List.take_of_length_le (by omega)]
    simp (disch := omega) only [r_ln, r_pick, r_pickT, r_pickF, r_condT, r_condF, r_gdTT, r_gdFF, r_gdTF, r_gdFT, r_gqTT, r_gqFF, r_gqTF, r_gqFT, r_not, r_lss, r_leq, r_gtr, r_geq, r_eql, r_neq, r_add, r_sub, r_min2, r_max2, r_min3, r_max3, r_fa, r_iaS, r_iaA, r_ex2a, r_ex2b, r_ex3a, r_ex3b, r_ex3c, r_nc, r_keepE, Nat.zero_add, Nat.add_zero, Nat.mul_one, Int.toNat_natCast, toNat_sub1, toNat_add1, decide_true, decide_false, Bool.not_true, Bool.not_false, if_true, if_false, Bool.false_eq_true, reduceCtorEq, hlt']
    refine r_use fok26 (limited_calls _ w5) rfl ?_
    rintro _ _ ⟨rfl, rfl⟩
    refine ⟨_, rfl, ?_⟩
    unfold limV
    by_cases hc : (1099511627776 : Int) < sumC F
    · rw [if_pos hc]
      simp only [r_ln, r_pick, r_pickT, r_pickF, r_condT, r_condF, r_gdTT, r_gdFF, r_gdTF, r_gdFT, r_gqTT, r_gqFF, r_gqTF, r_gqFT, r_not, r_lss, r_leq, r_gtr, r_geq, r_eql, r_neq, r_add, r_sub, r_min2, r_max2, r_min3, r_max3, r_fa, r_iaS, r_iaA, r_ex2a, r_ex2b, r_ex3a, r_ex3b, r_ex3c, r_nc, r_keepE, Nat.zero_add, Nat.add_zero, Nat.mul_one, Int.toNat_natCast, toNat_sub1, toNat_add1, decide_true, decide_false, Bool.not_true, Bool.not_false, if_true, if_false, Bool.false_eq_true, reduceCtorEq]
      exact ⟨by first | rfl | trivial, kall⟩
    · rw [if_neg hc]
      simp only [r_ln, r_pick, r_pickT, r_pickF, r_condT, r_condF, r_gdTT, r_gdFF, r_gdTF, r_gdFT, r_gqTT, r_gqFF, r_gqTF, r_gqFT, r_not, r_lss, r_leq, r_gtr, r_geq, r_eql, r_neq, r_add, r_sub, r_min2, r_max2, r_min3, r_max3, r_fa, r_iaS, r_iaA, r_ex2a, r_ex2b, r_ex3a, r_ex3b, r_ex3c, r_nc, r_keepE, Nat.zero_add, Nat.add_zero, Nat.mul_one, Int.toNat_natCast, toNat_sub1, toNat_add1, decide_true, decide_false, Bool.not_true, Bool.not_false, if_true, if_false, Bool.false_eq_true, reduceCtorEq]
      exact ⟨by first | rfl | trivial, kall⟩
  have hlt' : (i : Int) < (F.length : Int) := by omega
  obtain ⟨fb, fo, _, ef, fc⟩ := hsv.at hlt
  cases ef
  have y1 := sum_rng hr5 i
  have y2 := rng_getD hr5 i
  simp (disch := omega) only [r_ln, r_pick, r_pickT, r_pickF, r_condT, r_condF, r_gdTT, r_gdFF, r_gdTF, r_gdFT, r_gqTT, r_gqFF, r_gqTF, r_gqFT, r_not, r_lss, r_leq, r_gtr, r_geq, r_eql, r_neq, r_add, r_sub, r_min2, r_max2, r_min3, r_max3, r_fa, r_iaS, r_iaA, r_ex2a, r_ex2b, r_ex3a, r_ex3b, r_ex3c, r_nc, r_keepE, Nat.zero_add, Nat.add_zero, Nat.mul_one, Int.toNat_natCast, toNat_sub1, toNat_add1, decide_true, decide_false, Bool.not_true, Bool.not_false, if_true, if_false, Bool.false_eq_true, reduceCtorEq, decide_eq_true hlt', r_ld fc]
  refine ⟨⟨i + 1, by omega, by go_num, ?_, by first | rfl | trivial⟩, by simp only [intOf]; omega⟩
  rw [take_succ' _ _ hlt, sumC, sumC, List.foldl_append, ← getD_lt F i 0 hlt]
  rfl

end Go.Proofs.YtfmppkplmfbjpaaGreatDoor
