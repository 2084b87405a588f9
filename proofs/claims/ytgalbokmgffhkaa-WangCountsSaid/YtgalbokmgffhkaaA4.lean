/- Lists of integers and of booleans of one's own; copy; slices.Repeat of one element. -/
import Derived.Test.YtgalbokmgffhkaaA3
import Derived.Laws.CopyRow
set_option linter.all false
namespace Go.Proofs.Ytgalbokmgffhkaa
open Go.Lf Go.RowKit Go.Wg

def iC (n : Int) : List Value := [.int .i64 n]
def bC (b : Bool) : List Value := [.bool b]
theorem iC_len (n : Int) : (iC n).length = 1 := rfl
theorem bC_len (b : Bool) : (bC b).length = 1 := rfl
abbrev IntsAt (base : Nat) (w : World) (v : Value) (l : List Int) : Prop := RecAt 3 1 iC base w v l
abbrev BoolsAt (base : Nat) (w : World) (v : Value) (l : List Bool) : Prop := RecAt 4 1 bC base w v l
theorem rec_ints : ∀ l : List Int, recCells iC l = l.map (.int .i64)
  | [] => rfl
  | a :: l => by
    have := rec_ints l
    simp only [recCells, List.flatMap_cons, List.map_cons] at this ⊢
    rw [this]; rfl
theorem rec_bools : ∀ l : List Bool, recCells bC l = l.map .bool
  | [] => rfl
  | a :: l => by
    have := rec_bools l
    simp only [recCells, List.flatMap_cons, List.map_cons] at this ⊢
    rw [this]; rfl

theorem Rd.ints {w : World} {v : Value} {l : List Int} (h : Rd 1 iC w v l) (hl : l.length ≤ 1000000) : RdInts w v l := by
  obtain ⟨a, cap, rfl, hlc, hh⟩ := h
  refine ⟨a, cap, rfl, by omega, fun h0 => ?_⟩
  obtain ⟨b, off, rfl, hc⟩ := hh h0
  refine ⟨b, off, rfl, fun i hi => ?_⟩
  have := hc i l[i] (List.getElem?_eq_getElem hi) 0 _ rfl
  rw [getD_lt _ _ _ hi]
  simpa using this

theorem slt91 : SlT 91 4 1 1 := SlT.mk' (z := .bool false) (by kernel_rfl) (by kernel_rfl) rfl (by decide)
theorem bs91 (b : Bool) (w : World) (K : Value → World → Prop) : bsW Try.prog 91 1 [(0, .bool b)] w K = K (.slice (some ⟨w.heap.size, 0, none⟩) 1 1) (w.alloc (.cells #[.bool b] 4)) := by kernel_rfl
theorem slt88 : SlT 88 91 1 24 := SlT.mk' (z := .slice none 0 0) (by kernel_rfl) (by kernel_rfl) rfl (by decide)
theorem bs88 (a : Option Addr) (n c : Nat) (w : World) (K : Value → World → Prop) : bsW Try.prog 88 1 [(0, .slice a n c)] w K = K (.slice (some ⟨w.heap.size, 0, none⟩) 1 1) (w.alloc (.cells #[.slice a n c] 91)) := by kernel_rfl

/-- A block that was made holds so many of one. -/
theorem made_rec {α : Type} {e : TypeId} {enc : α → List Value} {x : α} {z : Value} (hz : enc x = [z]) {n : Nat} (hn : n ≤ 1000000) (w : World) : RecAt e 1 enc w.heap.size (w.alloc (.cells (Array.replicate n z) e)) (.slice (some ⟨w.heap.size, 0, none⟩) n n) (List.replicate n x) := by
  have e1 : recCells enc (List.replicate n x) = List.replicate n z := by
    unfold recCells
    induction n with
    | zero => rfl
    | succ n ih => rw [List.replicate_succ, List.flatMap_cons, ih (by omega), hz]; rfl
  refine ⟨by rw [e1]; simp, .inr ⟨w.heap.size, n, _, by simp, Nat.le_refl _, heap_alloc_new w _, by simp, by unfold maxLen; omega, by simp, ?_⟩⟩
  rw [e1]
  simp

/-- make([]bool, n) -/
theorem mk91 {n : Nat} {w : World} {K : Value → World → Prop} (hn : n ≤ 1000000) (h : ∀ v w', BoolsAt w.heap.size w' v (List.replicate n false) → Kp w w' → v.ownBlock = some w.heap.size → K v w') :
    mkW Try.prog 91 (.int .i64 n) (.int .i64 n) w K := by
  have e : ∀ (l : Int) (K : Value → World → Prop), mkW Try.prog 91 (.int .i64 l) (.int .i64 l) w K = (0 ≤ l ∧ l ≤ l ∧ l ≤ 4611686018427387904 ∧ ((1 : Nat) : Int) * l ≤ 281474976710656 ∧ 0 < 1 ∧
      K (.slice (some ⟨w.heap.size, 0, none⟩) l.toNat l.toNat) (w.alloc (.cells (mkCells #[.bool false] (l.toNat * 1)) 4))) := fun l K => by kernel_rfl
  rw [e]
  refine ⟨by omega, by omega, by omega, by omega, by omega, ?_⟩
  rw [Nat.mul_one, mkCells_one, Int.toNat_natCast]
  exact h _ _ (made_rec (x := false) (enc := bC) rfl hn w) (below_alloc _) rfl
set_option maxRecDepth 100000 in
/-- make([]int, n) -/
theorem mk30' {n : Nat} {w : World} {K : Value → World → Prop} (hn : n ≤ 1000000) (h : ∀ v w', IntsAt w.heap.size w' v (List.replicate n 0) → Kp w w' → v.ownBlock = some w.heap.size → K v w') :
    mkW Try.prog 30 (.int .i64 n) (.int .i64 n) w K :=
  mk30 (by omega) (h _ _ (made_rec (x := (0 : Int)) (enc := iC) rfl hn w) (below_alloc _) rfl)

set_option maxRecDepth 100000 in
/-- copy(d, s) at elements of one cell. -/
theorem r_cp {t elem : TypeId} {bytes : Nat} (T : SlT t elem 1 bytes) {w : World} {g o dLen dCap : Nat} {a : Addr} {sLen sCap : Nat} {cur : Array Value} {ty : TypeId} {cs : List Value} {K : Value → World → Prop}
    (hg : w.heap[g]? = some (.cells cur ty (0, 0))) (hn : cs.length = min sLen dLen) (hsrc : ∀ j v, cs[j]? = some v → w.cell? (a.add j) = some v) (hfit : o + cs.length ≤ cur.size) (h1 : ∀ v ∈ cs, v.oneCell' = true)
    (hk : ∀ w', Chg (fun k => k = g) w w' → w'.heap.size = w.heap.size → w'.heap[g]? = some (.cells (cur.toList.take o ++ cs ++ cur.toList.drop (o + cs.length)).toArray ty (0, 0)) → K (.int .i64 cs.length) w') :
    semW Try.prog (cpS [t, t] 3 [.slice (some ⟨g, o, none⟩) dLen dCap, .slice (some a) sLen sCap]) w K := by
  obtain ⟨i, z, i1, i2, i3, i4, i5⟩ := T.info
  have hr := run_copy_row (P := Try.prog) w t t 3 elem g o dLen dCap a sLen sCap cur ty cs T.und (by simp [i1, i3]) hg hn hsrc hfit h1
  refine semW_of_run (v := goInt cs.length) (w' := w.setRow g (cur.toList.take o ++ cs ++ cur.toList.drop (o + cs.length)).toArray) (by simp [cpS, hr]) (hk _ ⟨rfl, rfl, rfl, by simp [World.setRow], fun k _ hne => by simp [World.setRow, Array.getElem?_modify, Ne.symm hne]⟩ (by simp [World.setRow]) (setRow_heap _ _ _ _ _ _ hg))

/-! ### slices.Repeat -/

abbrev MulOk (n : Nat) : Prop := n = 8 ∨ n = 64 ∨ n = 512 ∨ n = 4096
theorem mulOk {a : Nat} (h : 1 ≤ a ∧ a ≤ 4) : MulOk (8 ^ a) := by
  have : a = 1 ∨ a = 2 ∨ a = 3 ∨ a = 4 := by omega
  rcases this with rfl | rfl | rfl | rfl <;> decide
theorem b_gen {op : BinOp} {t : TypeId} {lit : Bool} {k : IntKind} {x y : Int} {v : Value} {w : World} {K : Value → Prop} (h : ∀ w', (semBin op t lit (.int k x) (.int k y)).run Try.prog w' = .ok (.value v) w') (hn : intBin op k x y = none) (hk : K v) : binQ Try.prog w op t lit (.int k x) (.int k y) K := by
  have e : binQ Try.prog w op t lit (.int k x) (.int k y) K = genQ Try.prog w (semBin op t lit (.int k x) (.int k y)) K := by
    simp [binQ, hn]
  rw [e]
  exact ⟨v, fun w' _ => h w', hk⟩
theorem b_int {op : BinOp} {t : TypeId} {lit : Bool} {k : IntKind} {x y : Int} {v : Value} {w : World} {K : Value → Prop} (h : intBin op k x y = some v) (hk : K v) : binQ Try.prog w op t lit (.int k x) (.int k y) K := by
  rw [r_bin h]; exact hk
set_option maxRecDepth 100000 in
theorem mul64_calls {n : Nat} (hn : MulOk n) (w : World) : Calls Try.prog 120 #[.int .u64 1, .int .u64 n] w fun e w' => e = .returned (.tuple #[.int .u64 0, .int .u64 n]) ∧ w = w' := by
  have hand : ∀ w', (semBin .and 125 true (.int .u64 n) (.int .u64 4294967295)).run Try.prog w' = .ok (.value (.int .u64 n)) w' := fun w' => by
    rcases hn with rfl | rfl | rfl | rfl <;> kernel_rfl
  have hshr : ∀ w', (semBin .shr 125 true (.int .u64 n) (.int .u64 32)).run Try.prog w' = .ok (.value (.int .u64 0)) w' := fun w' => by
    rcases hn with rfl | rfl | rfl | rfl <;> kernel_rfl
  have h4 : n ≤ 4096 := by omega
  have hmul : intBin .mul .u64 1 n = some (.int .u64 n) := by
    show some (Value.int .u64 (IntKind.u64.wrap (1 * (n : Int)))) = _
    rw [IntWalk.u64_in _ (by omega), Int.one_mul]
  have hmul0 : intBin .mul .u64 0 n = some (.int .u64 0) := by
    show some (Value.int .u64 (IntKind.u64.wrap (0 * (n : Int)))) = _
    rw [Int.zero_mul]; rfl
  refine lift120 ?_
  unfold S120
  refine b_gen (v := .int .u64 1) (fun _ => by kernel_rfl) rfl ?_
  refine b_gen (v := .int .u64 0) (fun _ => by kernel_rfl) rfl ?_
  refine b_gen hand rfl ?_
  refine b_gen hshr rfl ?_
  refine b_int hmul ?_
  refine b_int hmul0 ?_
  refine b_gen hshr rfl ?_
  refine b_int (v := .int .u64 0) rfl ?_
  refine b_gen (v := .int .u64 0) (fun _ => by kernel_rfl) rfl ?_
  refine b_gen (v := .int .u64 0) (fun _ => by kernel_rfl) rfl ?_
  refine b_int (v := .int .u64 0) rfl ?_
  refine b_int (v := .int .u64 0) rfl ?_
  refine b_int (v := .int .u64 0) rfl ?_
  refine b_int (v := .int .u64 0) rfl ?_
  refine b_gen (v := .int .u64 0) (fun _ => by kernel_rfl) rfl ?_
  refine b_int (v := .int .u64 0) rfl ?_
  refine b_int hmul ?_
  exact ⟨rfl, rfl⟩
theorem mul_calls {n : Nat} (hn : MulOk n) (w : World) : Calls Try.prog 105 #[.int .u64 1, .int .u64 n] w fun e w' => e = .returned (.tuple #[.int .u64 0, .int .u64 n]) ∧ w = w' := by
  refine lift105 ?_
  unfold S105
  simp only [r_ln, r_pick, r_pickT, r_pickF, r_condT, r_condF, r_gdTT, r_gdFF, r_gdTF, r_gdFT, r_gqTT, r_gqFF, r_gqTF, r_gqFT, r_not, r_lss, r_leq, r_gtr, r_geq, r_eql, r_neq, r_add, r_sub, r_min2, r_max2, r_min3, r_max3, r_fa, r_iaS, r_iaA, r_ex2a, r_ex2b, r_ex3a, r_ex3b, r_ex3c, r_nc, r_keepE, Nat.zero_add, Nat.add_zero, Nat.mul_one, Int.toNat_natCast, toNat_sub1, toNat_add1, decide_true, decide_false, Bool.not_true, Bool.not_false, if_true, if_false, Bool.false_eq_true, reduceCtorEq]
  refine r_use fok120 (mul64_calls hn w) rfl ?_
  rintro _ _ ⟨rfl, rfl⟩
  refine ⟨_, rfl, ?_⟩
  simp only [r_ln, r_pick, r_pickT, r_pickF, r_condT, r_condF, r_gdTT, r_gdFF, r_gdTF, r_gdFT, r_gqTT, r_gqFF, r_gqTF, r_gqFT, r_not, r_lss, r_leq, r_gtr, r_geq, r_eql, r_neq, r_add, r_sub, r_min2, r_max2, r_min3, r_max3, r_fa, r_iaS, r_iaA, r_ex2a, r_ex2b, r_ex3a, r_ex3b, r_ex3c, r_nc, r_keepE, Nat.zero_add, Nat.add_zero, Nat.mul_one, Int.toNat_natCast, toNat_sub1, toNat_add1, decide_true, decide_false, Bool.not_true, Bool.not_false, if_true, if_false, Bool.false_eq_true, reduceCtorEq]
  exact ⟨by first | rfl | trivial, by first | rfl | trivial⟩


set_option maxRecDepth 100000 in
set_option maxHeartbeats 400000 in
/-- slices.Repeat of one boolean. -/
theorem repeatB_calls {n b off c : Nat} {x : Bool} (hn : MulOk n) (w : World) (hc : w.cell? ⟨b, off, none⟩ = some (.bool x)) : Calls Try.prog 106 #[.slice (some ⟨b, off, none⟩) 1 c, .int .i64 n] w fun e w' => ∃ v, e = .returned v ∧ Kp w w' ∧ BoolsAt w.heap.size w' v (List.replicate n x) := by
  have h4 : 8 ≤ n ∧ n ≤ 4096 := by omega
  refine lift106 ?_
  unfold S106
  have n0 : ¬ (n : Int) < 0 := by omega
  simp (disch := omega) only [r_ln, r_pick, r_pickT, r_pickF, r_condT, r_condF, r_gdTT, r_gdFF, r_gdTF, r_gdFT, r_gqTT, r_gqFF, r_gqTF, r_gqFT, r_not, r_lss, r_leq, r_gtr, r_geq, r_eql, r_neq, r_add, r_sub, r_min2, r_max2, r_min3, r_max3, r_fa, r_iaS, r_iaA, r_ex2a, r_ex2b, r_ex3a, r_ex3b, r_ex3c, r_nc, r_keepE, Nat.zero_add, Nat.add_zero, Nat.mul_one, Int.toNat_natCast, toNat_sub1, toNat_add1, decide_true, decide_false, Bool.not_true, Bool.not_false, if_true, if_false, Bool.false_eq_true, reduceCtorEq, n0]
  refine r_join0 (fun w' => w = w') ?_ fun kk hkk => hkk w rfl
  rintro _ rfl
  simp (disch := omega) only [r_ln, r_pick, r_pickT, r_pickF, r_condT, r_condF, r_gdTT, r_gdFF, r_gdTF, r_gdFT, r_gqTT, r_gqFF, r_gqTF, r_gqFT, r_not, r_lss, r_leq, r_gtr, r_geq, r_eql, r_neq, r_add, r_sub, r_min2, r_max2, r_min3, r_max3, r_fa, r_iaS, r_iaA, r_ex2a, r_ex2b, r_ex3a, r_ex3b, r_ex3c, r_nc, r_keepE, Nat.zero_add, Nat.add_zero, Nat.mul_one, Int.toNat_natCast, toNat_sub1, toNat_add1, decide_true, decide_false, Bool.not_true, Bool.not_false, if_true, if_false, Bool.false_eq_true, reduceCtorEq, r_cv]
  have e1 : IntKind.u64.wrap ((1 : Nat) : Int) = 1 := rfl
  rw [e1, IntWalk.u64_in _ (by omega)]
  refine r_use fok105 (mul_calls hn w) rfl ?_
  rintro _ _ ⟨rfl, rfl⟩
  refine ⟨_, rfl, ?_⟩
  clear hn
  have g1 : ¬ (9223372036854775807 : Int) < (n : Int) := by omega
  have g0 : ¬ (0 : Int) < 0 := by omega
  simp (disch := omega) only [r_ln, r_pick, r_pickT, r_pickF, r_condT, r_condF, r_gdTT, r_gdFF, r_gdTF, r_gdFT, r_gqTT, r_gqFF, r_gqTF, r_gqFT, r_not, r_lss, r_leq, r_gtr, r_geq, r_eql, r_neq, r_add, r_sub, r_min2, r_max2, r_min3, r_max3, r_fa, r_iaS, r_iaA, r_ex2a, r_ex2b, r_ex3a, r_ex3b, r_ex3c, r_nc, r_keepE, Nat.zero_add, Nat.add_zero, Nat.mul_one, Int.toNat_natCast, toNat_sub1, toNat_add1, decide_true, decide_false, Bool.not_true, Bool.not_false, if_true, if_false, Bool.false_eq_true, reduceCtorEq, g0, g1]
  refine r_join0 (fun w' => w = w') ?_ fun kk hkk => hkk w rfl
  rintro _ rfl
  simp (disch := omega) only [r_ln, r_pick, r_pickT, r_pickF, r_condT, r_condF, r_gdTT, r_gdFF, r_gdTF, r_gdFT, r_gqTT, r_gqFF, r_gqTF, r_gqFT, r_not, r_lss, r_leq, r_gtr, r_geq, r_eql, r_neq, r_add, r_sub, r_min2, r_max2, r_min3, r_max3, r_fa, r_iaS, r_iaA, r_ex2a, r_ex2b, r_ex3a, r_ex3b, r_ex3c, r_nc, r_keepE, Nat.zero_add, Nat.add_zero, Nat.mul_one, Int.toNat_natCast, toNat_sub1, toNat_add1, decide_true, decide_false, Bool.not_true, Bool.not_false, if_true, if_false, Bool.false_eq_true, reduceCtorEq, r_cv]
  rw [IntWalk.i64_in _ (by omega)]
  refine mk91 (by omega) fun v w1 hv k1 hvb => ?_
  have hv0 := hv.lt hvb
  obtain ⟨g, cap, cur, rfl, hgb, hg, hle, hcm, hsz, _⟩ := hv.blk (by rw [List.length_replicate]; omega)
  rw [List.length_replicate] at hle
  have hlr : (List.replicate n false).length = n := List.length_replicate
  rw [hlr]
  have fin : ∀ (w' : World) (cur' : Array Value), w'.heap[g]? = some (.cells cur' 4 (0, 0)) → cur'.size = cur.size → (∀ j, j < n → cur'[j]? = some (.bool x)) → BoolsAt w.heap.size w' (.slice (some ⟨g, 0, none⟩) n cap) (List.replicate n x) := fun w' cur' h1 h2 h3 => by
    refine ⟨by rw [rec_bools]; simp, .inr ⟨g, cap, cur', by simp, hgb, h1, by simpa using hle, hcm, by omega, ?_⟩⟩
    rw [rec_bools]
    refine List.ext_getElem? fun j => ?_
    rw [List.getElem?_take]
    simp only [List.length_replicate, Nat.mul_one, List.map_replicate, List.getElem?_replicate]
    split
    · rename_i hj
      have := h3 j hj
      simpa using this
    · rfl
  have k1s := k1.size
  have hcw1 := cell_later k1 hc
  have ea : ∀ j (u : Value), [Value.bool x][j]? = some u → w1.cell? ((⟨b, off, none⟩ : Addr).add j) = some u := fun j u hj => by
    cases j with
    | zero => cases hj; simpa [r_addr] using hcw1
    | succ j => simp at hj
  refine r_cp (cs := [.bool x]) slt91 hg (by simp; omega) ea (by simp; omega) (by intro u hu; simp at hu; subst hu; rfl) fun w2 c2 s2 h2 => ?_
  refine ⟨fun t8 wr => ∃ (m : Nat) (cur' : Array Value), 1 ≤ m ∧ m ≤ n ∧ t8 = .int .i64 m ∧ wr.heap[g]? = some (.cells cur' 4 (0, 0)) ∧ cur'.size = cur.size ∧ (∀ j, j < m → cur'[j]? = some (.bool x)) ∧ Chg (fun k => k = g) w1 wr, fun t8 _ => n - (intOf t8).toNat,
    ⟨1, _, by omega, by omega, rfl, h2, by simp; omega, fun j hj => by
      have : j = 0 := by omega
      subst this
      simp, c2⟩, ?_⟩
  rintro _ _ wr ⟨m, cur', hm1, hmn, rfl, hgr, hsr, hxr, hcr⟩
  by_cases hlt : m < n
  case neg =>
    have hlt' : ¬ (m : Int) < (n : Int) := by omega
    have em : m = n := by omega
    subst em
    simp (disch := omega) only [r_ln, r_pick, r_pickT, r_pickF, r_condT, r_condF, r_gdTT, r_gdFF, r_gdTF, r_gdFT, r_gqTT, r_gqFF, r_gqTF, r_gqFT, r_not, r_lss, r_leq, r_gtr, r_geq, r_eql, r_neq, r_add, r_sub, r_min2, r_max2, r_min3, r_max3, r_fa, r_iaS, r_iaA, r_ex2a, r_ex2b, r_ex3a, r_ex3b, r_ex3c, r_nc, r_keepE, Nat.zero_add, Nat.add_zero, Nat.mul_one, Int.toNat_natCast, toNat_sub1, toNat_add1, decide_true, decide_false, Bool.not_true, Bool.not_false, if_true, if_false, Bool.false_eq_true, reduceCtorEq, hlt']
    exact ⟨_, rfl, Kp.of_chg k1 hcr fun k e => by omega, fin _ _ hgr hsr hxr⟩
  have hlt' : (m : Int) < (n : Int) := by omega
  simp (disch := omega) only [r_ln, r_pick, r_pickT, r_pickF, r_condT, r_condF, r_gdTT, r_gdFF, r_gdTF, r_gdFT, r_gqTT, r_gqFF, r_gqTF, r_gqFT, r_not, r_lss, r_leq, r_gtr, r_geq, r_eql, r_neq, r_add, r_sub, r_min2, r_max2, r_min3, r_max3, r_fa, r_iaS, r_iaA, r_ex2a, r_ex2b, r_ex3a, r_ex3b, r_ex3c, r_nc, r_keepE, Nat.zero_add, Nat.add_zero, Nat.mul_one, Int.toNat_natCast, toNat_sub1, toNat_add1, decide_true, decide_false, Bool.not_true, Bool.not_false, if_true, if_false, Bool.false_eq_true, reduceCtorEq, decide_eq_true hlt']
  refine r_drew fun wx kx _ => ?_
  refine ⟨fun k => k = g, ?_⟩
  have hcm' : ¬ cap = m := by omega
  simp (disch := omega) only [r_ln, r_pick, r_pickT, r_pickF, r_condT, r_condF, r_gdTT, r_gdFF, r_gdTF, r_gdFT, r_gqTT, r_gqFF, r_gqTF, r_gqFT, r_not, r_lss, r_leq, r_gtr, r_geq, r_eql, r_neq, r_add, r_sub, r_min2, r_max2, r_min3, r_max3, r_fa, r_iaS, r_iaA, r_ex2a, r_ex2b, r_ex3a, r_ex3b, r_ex3c, r_nc, r_keepE, Nat.zero_add, Nat.add_zero, Nat.mul_one, Int.toNat_natCast, toNat_sub1, toNat_add1, decide_true, decide_false, Bool.not_true, Bool.not_false, if_true, if_false, Bool.false_eq_true, reduceCtorEq, r_tx, r_slTo, r_slFrom, hcm']
  have hgx := block_below hgr kx
  have ead : (⟨g, 0, none⟩ : Addr).add m = ⟨g, m, none⟩ := by rw [r_addr, Nat.zero_add]
  have hmin : min m (n - m) ≤ m ∧ m + min m (n - m) ≤ n ∧ 1 ≤ min m (n - m) := by omega
  have hexp : (((n : Int) - (m : Int)).toNat) = n - m := by omega
  simp only [Option.map_some, ead]
  generalize hq : min m (n - m) = q at *
  have hlq : (List.replicate q (Value.bool x)).length = q := List.length_replicate
  refine r_cp (cs := List.replicate q (.bool x)) slt91 hgx (by rw [hlq, hq]) (fun j u hj => ?_) (by rw [hlq]; omega) (by intro u hu; rw [List.eq_of_mem_replicate hu]; rfl) fun w3 c3 s3 h3 => ?_
  · rw [List.getElem?_replicate] at hj
    split at hj
    · rename_i hjq
      cases hj
      rw [r_addr, Nat.zero_add, cell_row hgx]
      exact hxr j (by omega)
    · cases hj
  rw [hlq, r_keepXE]
  refine ⟨BX.of_chg c3, ?_⟩
  try simp (disch := omega) only [r_ln, r_pick, r_pickT, r_pickF, r_condT, r_condF, r_gdTT, r_gdFF, r_gdTF, r_gdFT, r_gqTT, r_gqFF, r_gqTF, r_gqFT, r_not, r_lss, r_leq, r_gtr, r_geq, r_eql, r_neq, r_add, r_sub, r_min2, r_max2, r_min3, r_max3, r_fa, r_iaS, r_iaA, r_ex2a, r_ex2b, r_ex3a, r_ex3b, r_ex3c, r_nc, r_keepE, Nat.zero_add, Nat.add_zero, Nat.mul_one, Int.toNat_natCast, toNat_sub1, toNat_add1, decide_true, decide_false, Bool.not_true, Bool.not_false, if_true, if_false, Bool.false_eq_true, reduceCtorEq, r_tx]
  refine ⟨⟨m + q, _, by omega, by omega, by go_num, h3, ?_, fun j hj => ?_, (hcr.trans (Chg.of_kp kx)).trans c3⟩, by simp only [intOf]; omega⟩
  · simp only [hlq, List.size_toArray, List.length_append, List.length_take, List.length_drop, Array.length_toList, List.length_replicate]
    omega
  · have hcs : cur'.toList.length = cur.size := by simpa using hsr
    simp only [List.getElem?_toArray]
    by_cases hjm : j < m
    · rw [List.append_assoc, List.getElem?_append_left (by rw [List.length_take]; omega), List.getElem?_take, if_pos hjm]
      have := hxr j hjm
      simpa using this
    · rw [List.getElem?_append_left (by rw [List.length_append, List.length_take, hlq]; omega), List.getElem?_append_right (by rw [List.length_take]; omega), List.length_take, List.getElem?_replicate, if_pos (by omega)]

set_option maxRecDepth 100000 in
set_option maxHeartbeats 400000 in
/-- slices.Repeat of one integer. -/
theorem repeatI_calls {n b off c : Nat} {x : Int} (hn : MulOk n) (w : World) (hc : w.cell? ⟨b, off, none⟩ = some (.int .i64 x)) : Calls Try.prog 72 #[.slice (some ⟨b, off, none⟩) 1 c, .int .i64 n] w fun e w' => ∃ v, e = .returned v ∧ Kp w w' ∧ IntsAt w.heap.size w' v (List.replicate n x) := by
  have h4 : 8 ≤ n ∧ n ≤ 4096 := by omega
  refine lift72 ?_
  unfold S72
  have n0 : ¬ (n : Int) < 0 := by omega
  simp (disch := omega) only [r_ln, r_pick, r_pickT, r_pickF, r_condT, r_condF, r_gdTT, r_gdFF, r_gdTF, r_gdFT, r_gqTT, r_gqFF, r_gqTF, r_gqFT, r_not, r_lss, r_leq, r_gtr, r_geq, r_eql, r_neq, r_add, r_sub, r_min2, r_max2, r_min3, r_max3, r_fa, r_iaS, r_iaA, r_ex2a, r_ex2b, r_ex3a, r_ex3b, r_ex3c, r_nc, r_keepE, Nat.zero_add, Nat.add_zero, Nat.mul_one, Int.toNat_natCast, toNat_sub1, toNat_add1, decide_true, decide_false, Bool.not_true, Bool.not_false, if_true, if_false, Bool.false_eq_true, reduceCtorEq, n0]
  refine r_join0 (fun w' => w = w') ?_ fun kk hkk => hkk w rfl
  rintro _ rfl
  simp (disch := omega) only [r_ln, r_pick, r_pickT, r_pickF, r_condT, r_condF, r_gdTT, r_gdFF, r_gdTF, r_gdFT, r_gqTT, r_gqFF, r_gqTF, r_gqFT, r_not, r_lss, r_leq, r_gtr, r_geq, r_eql, r_neq, r_add, r_sub, r_min2, r_max2, r_min3, r_max3, r_fa, r_iaS, r_iaA, r_ex2a, r_ex2b, r_ex3a, r_ex3b, r_ex3c, r_nc, r_keepE, Nat.zero_add, Nat.add_zero, Nat.mul_one, Int.toNat_natCast, toNat_sub1, toNat_add1, decide_true, decide_false, Bool.not_true, Bool.not_false, if_true, if_false, Bool.false_eq_true, reduceCtorEq, r_cv]
  have e1 : IntKind.u64.wrap ((1 : Nat) : Int) = 1 := rfl
  rw [e1, IntWalk.u64_in _ (by omega)]
  refine r_use fok105 (mul_calls hn w) rfl ?_
  rintro _ _ ⟨rfl, rfl⟩
  refine ⟨_, rfl, ?_⟩
  clear hn
  have g1 : ¬ (9223372036854775807 : Int) < (n : Int) := by omega
  have g0 : ¬ (0 : Int) < 0 := by omega
  simp (disch := omega) only [r_ln, r_pick, r_pickT, r_pickF, r_condT, r_condF, r_gdTT, r_gdFF, r_gdTF, r_gdFT, r_gqTT, r_gqFF, r_gqTF, r_gqFT, r_not, r_lss, r_leq, r_gtr, r_geq, r_eql, r_neq, r_add, r_sub, r_min2, r_max2, r_min3, r_max3, r_fa, r_iaS, r_iaA, r_ex2a, r_ex2b, r_ex3a, r_ex3b, r_ex3c, r_nc, r_keepE, Nat.zero_add, Nat.add_zero, Nat.mul_one, Int.toNat_natCast, toNat_sub1, toNat_add1, decide_true, decide_false, Bool.not_true, Bool.not_false, if_true, if_false, Bool.false_eq_true, reduceCtorEq, g0, g1]
  refine r_join0 (fun w' => w = w') ?_ fun kk hkk => hkk w rfl
  rintro _ rfl
  simp (disch := omega) only [r_ln, r_pick, r_pickT, r_pickF, r_condT, r_condF, r_gdTT, r_gdFF, r_gdTF, r_gdFT, r_gqTT, r_gqFF, r_gqTF, r_gqFT, r_not, r_lss, r_leq, r_gtr, r_geq, r_eql, r_neq, r_add, r_sub, r_min2, r_max2, r_min3, r_max3, r_fa, r_iaS, r_iaA, r_ex2a, r_ex2b, r_ex3a, r_ex3b, r_ex3c, r_nc, r_keepE, Nat.zero_add, Nat.add_zero, Nat.mul_one, Int.toNat_natCast, toNat_sub1, toNat_add1, decide_true, decide_false, Bool.not_true, Bool.not_false, if_true, if_false, Bool.false_eq_true, reduceCtorEq, r_cv]
  rw [IntWalk.i64_in _ (by omega)]
  refine mk30' (by omega) fun v w1 hv k1 hvb => ?_
  have hv0 := hv.lt hvb
  obtain ⟨g, cap, cur, rfl, hgb, hg, hle, hcm, hsz, _⟩ := hv.blk (by rw [List.length_replicate]; omega)
  rw [List.length_replicate] at hle
  have hlr : (List.replicate n (0 : Int)).length = n := List.length_replicate
  rw [hlr]
  have fin : ∀ (w' : World) (cur' : Array Value), w'.heap[g]? = some (.cells cur' 3 (0, 0)) → cur'.size = cur.size → (∀ j, j < n → cur'[j]? = some (.int .i64 x)) → IntsAt w.heap.size w' (.slice (some ⟨g, 0, none⟩) n cap) (List.replicate n x) := fun w' cur' h1 h2 h3 => by
    refine ⟨by rw [rec_ints]; simp, .inr ⟨g, cap, cur', by simp, hgb, h1, by simpa using hle, hcm, by omega, ?_⟩⟩
    rw [rec_ints]
    refine List.ext_getElem? fun j => ?_
    rw [List.getElem?_take]
    simp only [List.length_replicate, Nat.mul_one, List.map_replicate, List.getElem?_replicate]
    split
    · rename_i hj
      have := h3 j hj
      simpa using this
    · rfl
  have k1s := k1.size
  have hcw1 := cell_later k1 hc
  have ea : ∀ j (u : Value), [Value.int .i64 x][j]? = some u → w1.cell? ((⟨b, off, none⟩ : Addr).add j) = some u := fun j u hj => by
    cases j with
    | zero => cases hj; simpa [r_addr] using hcw1
    | succ j => simp at hj
  refine r_cp (cs := [.int .i64 x]) slt30 hg (by simp; omega) ea (by simp; omega) (by intro u hu; simp at hu; subst hu; rfl) fun w2 c2 s2 h2 => ?_
  refine ⟨fun t8 wr => ∃ (m : Nat) (cur' : Array Value), 1 ≤ m ∧ m ≤ n ∧ t8 = .int .i64 m ∧ wr.heap[g]? = some (.cells cur' 3 (0, 0)) ∧ cur'.size = cur.size ∧ (∀ j, j < m → cur'[j]? = some (.int .i64 x)) ∧ Chg (fun k => k = g) w1 wr, fun t8 _ => n - (intOf t8).toNat,
    ⟨1, _, by omega, by omega, rfl, h2, by simp; omega, fun j hj => by
      have : j = 0 := by omega
      subst this
      simp, c2⟩, ?_⟩
  rintro _ _ wr ⟨m, cur', hm1, hmn, rfl, hgr, hsr, hxr, hcr⟩
  by_cases hlt : m < n
  case neg =>
    have hlt' : ¬ (m : Int) < (n : Int) := by omega
    have em : m = n := by omega
    subst em
    simp (disch := omega) only [r_ln, r_pick, r_pickT, r_pickF, r_condT, r_condF, r_gdTT, r_gdFF, r_gdTF, r_gdFT, r_gqTT, r_gqFF, r_gqTF, r_gqFT, r_not, r_lss, r_leq, r_gtr, r_geq, r_eql, r_neq, r_add, r_sub, r_min2, r_max2, r_min3, r_max3, r_fa, r_iaS, r_iaA, r_ex2a, r_ex2b, r_ex3a, r_ex3b, r_ex3c, r_nc, r_keepE, Nat.zero_add, Nat.add_zero, Nat.mul_one, Int.toNat_natCast, toNat_sub1, toNat_add1, decide_true, decide_false, Bool.not_true, Bool.not_false, if_true, if_false, Bool.false_eq_true, reduceCtorEq, hlt']
    exact ⟨_, rfl, Kp.of_chg k1 hcr fun k e => by omega, fin _ _ hgr hsr hxr⟩
  have hlt' : (m : Int) < (n : Int) := by omega
  simp (disch := omega) only [r_ln, r_pick, r_pickT, r_pickF, r_condT, r_condF, r_gdTT, r_gdFF, r_gdTF, r_gdFT, r_gqTT, r_gqFF, r_gqTF, r_gqFT, r_not, r_lss, r_leq, r_gtr, r_geq, r_eql, r_neq, r_add, r_sub, r_min2, r_max2, r_min3, r_max3, r_fa, r_iaS, r_iaA, r_ex2a, r_ex2b, r_ex3a, r_ex3b, r_ex3c, r_nc, r_keepE, Nat.zero_add, Nat.add_zero, Nat.mul_one, Int.toNat_natCast, toNat_sub1, toNat_add1, decide_true, decide_false, Bool.not_true, Bool.not_false, if_true, if_false, Bool.false_eq_true, reduceCtorEq, decide_eq_true hlt']
  refine r_drew fun wx kx _ => ?_
  refine ⟨fun k => k = g, ?_⟩
  have hcm' : ¬ cap = m := by omega
  simp (disch := omega) only [r_ln, r_pick, r_pickT, r_pickF, r_condT, r_condF, r_gdTT, r_gdFF, r_gdTF, r_gdFT, r_gqTT, r_gqFF, r_gqTF, r_gqFT, r_not, r_lss, r_leq, r_gtr, r_geq, r_eql, r_neq, r_add, r_sub, r_min2, r_max2, r_min3, r_max3, r_fa, r_iaS, r_iaA, r_ex2a, r_ex2b, r_ex3a, r_ex3b, r_ex3c, r_nc, r_keepE, Nat.zero_add, Nat.add_zero, Nat.mul_one, Int.toNat_natCast, toNat_sub1, toNat_add1, decide_true, decide_false, Bool.not_true, Bool.not_false, if_true, if_false, Bool.false_eq_true, reduceCtorEq, r_tx, r_slTo, r_slFrom, hcm']
  have hgx := block_below hgr kx
  have ead : (⟨g, 0, none⟩ : Addr).add m = ⟨g, m, none⟩ := by rw [r_addr, Nat.zero_add]
  have hmin : min m (n - m) ≤ m ∧ m + min m (n - m) ≤ n ∧ 1 ≤ min m (n - m) := by omega
  have hexp : (((n : Int) - (m : Int)).toNat) = n - m := by omega
  simp only [Option.map_some, ead]
  generalize hq : min m (n - m) = q at *
  have hlq : (List.replicate q (Value.int .i64 x)).length = q := List.length_replicate
  refine r_cp (cs := List.replicate q (.int .i64 x)) slt30 hgx (by rw [hlq, hq]) (fun j u hj => ?_) (by rw [hlq]; omega) (by intro u hu; rw [List.eq_of_mem_replicate hu]; rfl) fun w3 c3 s3 h3 => ?_
  · rw [List.getElem?_replicate] at hj
    split at hj
    · rename_i hjq
      cases hj
      rw [r_addr, Nat.zero_add, cell_row hgx]
      exact hxr j (by omega)
    · cases hj
  rw [hlq, r_keepXE]
  refine ⟨BX.of_chg c3, ?_⟩
  try simp (disch := omega) only [r_ln, r_pick, r_pickT, r_pickF, r_condT, r_condF, r_gdTT, r_gdFF, r_gdTF, r_gdFT, r_gqTT, r_gqFF, r_gqTF, r_gqFT, r_not, r_lss, r_leq, r_gtr, r_geq, r_eql, r_neq, r_add, r_sub, r_min2, r_max2, r_min3, r_max3, r_fa, r_iaS, r_iaA, r_ex2a, r_ex2b, r_ex3a, r_ex3b, r_ex3c, r_nc, r_keepE, Nat.zero_add, Nat.add_zero, Nat.mul_one, Int.toNat_natCast, toNat_sub1, toNat_add1, decide_true, decide_false, Bool.not_true, Bool.not_false, if_true, if_false, Bool.false_eq_true, reduceCtorEq, r_tx]
  refine ⟨⟨m + q, _, by omega, by omega, by go_num, h3, ?_, fun j hj => ?_, (hcr.trans (Chg.of_kp kx)).trans c3⟩, by simp only [intOf]; omega⟩
  · simp only [hlq, List.size_toArray, List.length_append, List.length_take, List.length_drop, Array.length_toList, List.length_replicate]
    omega
  · have hcs : cur'.toList.length = cur.size := by simpa using hsr
    simp only [List.getElem?_toArray]
    by_cases hjm : j < m
    · rw [List.append_assoc, List.getElem?_append_left (by rw [List.length_take]; omega), List.getElem?_take, if_pos hjm]
      have := hxr j hjm
      simpa using this
    · rw [List.getElem?_append_left (by rw [List.length_append, List.length_take, hlq]; omega), List.getElem?_append_right (by rw [List.length_take]; omega), List.length_take, List.getElem?_replicate, if_pos (by omega)]

end Go.Proofs.Ytgalbokmgffhkaa
