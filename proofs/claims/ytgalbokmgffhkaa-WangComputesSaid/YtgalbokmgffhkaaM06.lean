/- Texts of my own, merged by program: A4 A5 B1. -/
import Derived.Test.YtgalbokmgffhkaaM05
import Derived.Laws.CopyRow
import Derived.Maps.Keyed
import Derived.Maps.RangeRun
set_option linter.all false
/- Lists of integers and of booleans of one's own; copy; slices.Repeat of one element. -/
namespace Go.Proofs.Ytgalbokmgffhkaa
open Go.Lf Go.RowKit Go.Wg

def iC (n : Int) : List Value := [.int .i64 n]
def bC (b : Bool) : List Value := [.bool b]
theorem iC_len (n : Int) : (iC n).length = 1 := rfl
theorem bC_len (b : Bool) : (bC b).length = 1 := rfl
abbrev IntsAt (base : Nat) (w : World) (v : Value) (l : List Int) : Prop := RecAt 3 1 iC base w v l
abbrev BoolsAt (base : Nat) (w : World) (v : Value) (l : List Bool) : Prop := RecAt 4 1 bC base w v l
theorem rec_ints : ∀ l : List Int, recCells iC l = l.map (.int .i64)
  | [] => rfl
  | a :: l => by
    have := rec_ints l
    simp only [recCells, List.flatMap_cons, List.map_cons] at this ⊢
    rw [this]; rfl
theorem rec_bools : ∀ l : List Bool, recCells bC l = l.map .bool
  | [] => rfl
  | a :: l => by
    have := rec_bools l
    simp only [recCells, List.flatMap_cons, List.map_cons] at this ⊢
    rw [this]; rfl

theorem Rd.ints {w : World} {v : Value} {l : List Int} (h : Rd 1 iC w v l) (hl : l.length ≤ 1000000) : RdInts w v l := by
  obtain ⟨a, cap, rfl, hlc, hh⟩ := h
  refine ⟨a, cap, rfl, by omega, fun h0 => ?_⟩
  obtain ⟨b, off, rfl, hc⟩ := hh h0
  refine ⟨b, off, rfl, fun i hi => ?_⟩
  have := hc i l[i] (List.getElem?_eq_getElem hi) 0 _ rfl
  rw [getD_lt _ _ _ hi]
  simpa using this

theorem slt91 : SlT 91 4 1 1 := SlT.mk' (z := .bool false) (by kernel_rfl) (by kernel_rfl) rfl (by decide)
theorem bs91 (b : Bool) (w : World) (K : Value → World → Prop) : bsW Try.prog 91 1 [(0, .bool b)] w K = K (.slice (some ⟨w.heap.size, 0, none⟩) 1 1) (w.alloc (.cells #[.bool b] 4)) := by kernel_rfl
theorem slt88 : SlT 88 91 1 24 := SlT.mk' (z := .slice none 0 0) (by kernel_rfl) (by kernel_rfl) rfl (by decide)
theorem bs88 (a : Option Addr) (n c : Nat) (w : World) (K : Value → World → Prop) : bsW Try.prog 88 1 [(0, .slice a n c)] w K = K (.slice (some ⟨w.heap.size, 0, none⟩) 1 1) (w.alloc (.cells #[.slice a n c] 91)) := by kernel_rfl

/-- A block that was made holds so many of one. -/
theorem made_rec {α : Type} {e : TypeId} {enc : α → List Value} {x : α} {z : Value} (hz : enc x = [z]) {n : Nat} (hn : n ≤ 1000000) (w : World) : RecAt e 1 enc w.heap.size (w.alloc (.cells (Array.replicate n z) e)) (.slice (some ⟨w.heap.size, 0, none⟩) n n) (List.replicate n x) := by
  have e1 : recCells enc (List.replicate n x) = List.replicate n z := by
    unfold recCells
    induction n with
    | zero => rfl
    | succ n ih => rw [List.replicate_succ, List.flatMap_cons, ih (by omega), hz]; rfl
  refine ⟨by rw [e1]; simp, .inr ⟨w.heap.size, n, _, by simp, Nat.le_refl _, heap_alloc_new w _, by simp, by unfold maxLen; omega, by simp, ?_⟩⟩
  rw [e1]
  simp

/-- make([]bool, n) -/
theorem mk91 {n : Nat} {w : World} {K : Value → World → Prop} (hn : n ≤ 1000000) (h : ∀ v w', BoolsAt w.heap.size w' v (List.replicate n false) → Kp w w' → v.ownBlock = some w.heap.size → K v w') :
    mkW Try.prog 91 (.int .i64 n) (.int .i64 n) w K := by
  have e : ∀ (l : Int) (K : Value → World → Prop), mkW Try.prog 91 (.int .i64 l) (.int .i64 l) w K = (0 ≤ l ∧ l ≤ l ∧ l ≤ 4611686018427387904 ∧ ((1 : Nat) : Int) * l ≤ 281474976710656 ∧ 0 < 1 ∧
      K (.slice (some ⟨w.heap.size, 0, none⟩) l.toNat l.toNat) (w.alloc (.cells (mkCells #[.bool false] (l.toNat * 1)) 4))) := fun l K => by kernel_rfl
  rw [e]
  refine ⟨by omega, by omega, by omega, by omega, by omega, ?_⟩
  rw [Nat.mul_one, mkCells_one, Int.toNat_natCast]
  exact h _ _ (made_rec (x := false) (enc := bC) rfl hn w) (below_alloc _) rfl
set_option maxRecDepth 100000 in
/-- make([]int, n) -/
theorem mk30' {n : Nat} {w : World} {K : Value → World → Prop} (hn : n ≤ 1000000) (h : ∀ v w', IntsAt w.heap.size w' v (List.replicate n 0) → Kp w w' → v.ownBlock = some w.heap.size → K v w') :
    mkW Try.prog 30 (.int .i64 n) (.int .i64 n) w K :=
  mk30 (by omega) (h _ _ (made_rec (x := (0 : Int)) (enc := iC) rfl hn w) (below_alloc _) rfl)

set_option maxRecDepth 100000 in
/-- copy(d, s) at elements of one cell. -/
theorem r_cp {t elem : TypeId} {bytes : Nat} (T : SlT t elem 1 bytes) {w : World} {g o dLen dCap : Nat} {a : Addr} {sLen sCap : Nat} {cur : Array Value} {ty : TypeId} {cs : List Value} {K : Value → World → Prop}
    (hg : w.heap[g]? = some (.cells cur ty (0, 0))) (hn : cs.length = min sLen dLen) (hsrc : ∀ j v, cs[j]? = some v → w.cell? (a.add j) = some v) (hfit : o + cs.length ≤ cur.size) (h1 : ∀ v ∈ cs, v.oneCell' = true)
    (hk : ∀ w', Chg (fun k => k = g) w w' → w'.heap.size = w.heap.size → w'.heap[g]? = some (.cells (cur.toList.take o ++ cs ++ cur.toList.drop (o + cs.length)).toArray ty (0, 0)) → K (.int .i64 cs.length) w') :
    semW Try.prog (cpS [t, t] 3 [.slice (some ⟨g, o, none⟩) dLen dCap, .slice (some a) sLen sCap]) w K := by
  obtain ⟨i, z, i1, i2, i3, i4, i5⟩ := T.info
  have hr := run_copy_row (P := Try.prog) w t t 3 elem g o dLen dCap a sLen sCap cur ty cs T.und (by simp [i1, i3]) hg hn hsrc hfit h1
  refine semW_of_run (v := goInt cs.length) (w' := w.setRow g (cur.toList.take o ++ cs ++ cur.toList.drop (o + cs.length)).toArray) (by simp [cpS, hr]) (hk _ ⟨rfl, rfl, rfl, by simp [World.setRow], fun k _ hne => by simp [World.setRow, Array.getElem?_modify, Ne.symm hne]⟩ (by simp [World.setRow]) (setRow_heap _ _ _ _ _ _ hg))

/-! ### slices.Repeat -/

abbrev MulOk (n : Nat) : Prop := n = 8 ∨ n = 64 ∨ n = 512 ∨ n = 4096
theorem mulOk {a : Nat} (h : 1 ≤ a ∧ a ≤ 4) : MulOk (8 ^ a) := by
  have : a = 1 ∨ a = 2 ∨ a = 3 ∨ a = 4 := by omega
  rcases this with rfl | rfl | rfl | rfl <;> decide
theorem b_gen {op : BinOp} {t : TypeId} {lit : Bool} {k : IntKind} {x y : Int} {v : Value} {w : World} {K : Value → Prop} (h : ∀ w', (semBin op t lit (.int k x) (.int k y)).run Try.prog w' = .ok (.value v) w') (hn : intBin op k x y = none) (hk : K v) : binQ Try.prog w op t lit (.int k x) (.int k y) K := by
  have e : binQ Try.prog w op t lit (.int k x) (.int k y) K = genQ Try.prog w (semBin op t lit (.int k x) (.int k y)) K := by
    simp [binQ, hn]
  rw [e]
  exact ⟨v, fun w' _ => h w', hk⟩
theorem b_int {op : BinOp} {t : TypeId} {lit : Bool} {k : IntKind} {x y : Int} {v : Value} {w : World} {K : Value → Prop} (h : intBin op k x y = some v) (hk : K v) : binQ Try.prog w op t lit (.int k x) (.int k y) K := by
  rw [r_bin h]; exact hk
set_option maxRecDepth 100000 in
theorem mul64_calls {n : Nat} (hn : MulOk n) (w : World) : Calls Try.prog 120 #[.int .u64 1, .int .u64 n] w fun e w' => e = .returned (.tuple #[.int .u64 0, .int .u64 n]) ∧ w = w' := by
  have hand : ∀ w', (semBin .and 125 true (.int .u64 n) (.int .u64 4294967295)).run Try.prog w' = .ok (.value (.int .u64 n)) w' := fun w' => by
    rcases hn with rfl | rfl | rfl | rfl <;> kernel_rfl
  have hshr : ∀ w', (semBin .shr 125 true (.int .u64 n) (.int .u64 32)).run Try.prog w' = .ok (.value (.int .u64 0)) w' := fun w' => by
    rcases hn with rfl | rfl | rfl | rfl <;> kernel_rfl
  have h4 : n ≤ 4096 := by omega
  have hmul : intBin .mul .u64 1 n = some (.int .u64 n) := by
    show some (Value.int .u64 (IntKind.u64.wrap (1 * (n : Int)))) = _
    rw [IntWalk.u64_in _ (by omega), Int.one_mul]
  have hmul0 : intBin .mul .u64 0 n = some (.int .u64 0) := by
    show some (Value.int .u64 (IntKind.u64.wrap (0 * (n : Int)))) = _
    rw [Int.zero_mul]; rfl
  refine lift120 ?_
  unfold S120
  refine b_gen (v := .int .u64 1) (fun _ => by kernel_rfl) rfl ?_
  refine b_gen (v := .int .u64 0) (fun _ => by kernel_rfl) rfl ?_
  refine b_gen hand rfl ?_
  refine b_gen hshr rfl ?_
  refine b_int hmul ?_
  refine b_int hmul0 ?_
  refine b_gen hshr rfl ?_
  refine b_int (v := .int .u64 0) rfl ?_
  refine b_gen (v := .int .u64 0) (fun _ => by kernel_rfl) rfl ?_
  refine b_gen (v := .int .u64 0) (fun _ => by kernel_rfl) rfl ?_
  refine b_int (v := .int .u64 0) rfl ?_
  refine b_int (v := .int .u64 0) rfl ?_
  refine b_int (v := .int .u64 0) rfl ?_
  refine b_int (v := .int .u64 0) rfl ?_
  refine b_gen (v := .int .u64 0) (fun _ => by kernel_rfl) rfl ?_
  refine b_int (v := .int .u64 0) rfl ?_
  refine b_int hmul ?_
  exact ⟨rfl, rfl⟩
theorem mul_calls {n : Nat} (hn : MulOk n) (w : World) : Calls Try.prog 105 #[.int .u64 1, .int .u64 n] w fun e w' => e = .returned (.tuple #[.int .u64 0, .int .u64 n]) ∧ w = w' := by
  refine lift105 ?_
  unfold S105
  simp only [r_ln, r_pick, r_pickT, r_pickF, r_condT, r_condF, r_gdTT, r_gdFF, r_gdTF, r_gdFT, r_gqTT, r_gqFF, r_gqTF, r_gqFT, r_not, r_lss, r_leq, r_gtr, r_geq, r_eql, r_neq, r_add, r_sub, r_min2, r_max2, r_min3, r_max3, r_fa, r_iaS, r_iaA, r_ex2a, r_ex2b, r_ex3a, r_ex3b, r_ex3c, r_nc, r_keepE, Nat.zero_add, Nat.add_zero, Nat.mul_one, Int.toNat_natCast, toNat_sub1, toNat_add1, decide_true, decide_false, Bool.not_true, Bool.not_false, if_true, if_false, Bool.false_eq_true, reduceCtorEq]
  refine r_use fok120 (mul64_calls hn w) rfl ?_
  rintro _ _ ⟨rfl, rfl⟩
  refine ⟨_, rfl, ?_⟩
  simp only [r_ln, r_pick, r_pickT, r_pickF, r_condT, r_condF, r_gdTT, r_gdFF, r_gdTF, r_gdFT, r_gqTT, r_gqFF, r_gqTF, r_gqFT, r_not, r_lss, r_leq, r_gtr, r_geq, r_eql, r_neq, r_add, r_sub, r_min2, r_max2, r_min3, r_max3, r_fa, r_iaS, r_iaA, r_ex2a, r_ex2b, r_ex3a, r_ex3b, r_ex3c, r_nc, r_keepE, Nat.zero_add, Nat.add_zero, Nat.mul_one, Int.toNat_natCast, toNat_sub1, toNat_add1, decide_true, decide_false, Bool.not_true, Bool.not_false, if_true, if_false, Bool.false_eq_true, reduceCtorEq]
  exact ⟨by first | rfl | trivial, by first | rfl | trivial⟩


set_option maxRecDepth 100000 in
set_option maxHeartbeats 400000 in
/-- slices.Repeat of one boolean. -/
theorem repeatB_calls {n b off c : Nat} {x : Bool} (hn : MulOk n) (w : World) (hc : w.cell? ⟨b, off, none⟩ = some (.bool x)) : Calls Try.prog 106 #[.slice (some ⟨b, off, none⟩) 1 c, .int .i64 n] w fun e w' => ∃ v, e = .returned v ∧ Kp w w' ∧ BoolsAt w.heap.size w' v (List.replicate n x) := by
  have h4 : 8 ≤ n ∧ n ≤ 4096 := by omega
  refine lift106 ?_
  unfold S106
  have n0 : ¬ (n : Int) < 0 := by omega
  simp (disch := omega) only [r_ln, r_pick, r_pickT, r_pickF, r_condT, r_condF, r_gdTT, r_gdFF, r_gdTF, r_gdFT, r_gqTT, r_gqFF, r_gqTF, r_gqFT, r_not, r_lss, r_leq, r_gtr, r_geq, r_eql, r_neq, r_add, r_sub, r_min2, r_max2, r_min3, r_max3, r_fa, r_iaS, r_iaA, r_ex2a, r_ex2b, r_ex3a, r_ex3b, r_ex3c, r_nc, r_keepE, Nat.zero_add, Nat.add_zero, Nat.mul_one, Int.toNat_natCast, toNat_sub1, toNat_add1, decide_true, decide_false, Bool.not_true, Bool.not_false, if_true, if_false, Bool.false_eq_true, reduceCtorEq, n0]
  refine r_join0 (fun w' => w = w') ?_ fun kk hkk => hkk w rfl
  rintro _ rfl
  simp (disch := omega) only [r_ln, r_pick, r_pickT, r_pickF, r_condT, r_condF, r_gdTT, r_gdFF, r_gdTF, r_gdFT, r_gqTT, r_gqFF, r_gqTF, r_gqFT, r_not, r_lss, r_leq, r_gtr, r_geq, r_eql, r_neq, r_add, r_sub, r_min2, r_max2, r_min3, r_max3, r_fa, r_iaS, r_iaA, r_ex2a, r_ex2b, r_ex3a, r_ex3b, r_ex3c, r_nc, r_keepE, Nat.zero_add, Nat.add_zero, Nat.mul_one, Int.toNat_natCast, toNat_sub1, toNat_add1, decide_true, decide_false, Bool.not_true, Bool.not_false, if_true, if_false, Bool.false_eq_true, reduceCtorEq, r_cv]
  have e1 : IntKind.u64.wrap ((1 : Nat) : Int) = 1 := rfl
  rw [e1, IntWalk.u64_in _ (by omega)]
  refine r_use fok105 (mul_calls hn w) rfl ?_
  rintro _ _ ⟨rfl, rfl⟩
  refine ⟨_, rfl, ?_⟩
  clear hn
  have g1 : ¬ (9223372036854775807 : Int) < (n : Int) := by omega
  have g0 : ¬ (0 : Int) < 0 := by omega
  simp (disch := omega) only [r_ln, r_pick, r_pickT, r_pickF, r_condT, r_condF, r_gdTT, r_gdFF, r_gdTF, r_gdFT, r_gqTT, r_gqFF, r_gqTF, r_gqFT, r_not, r_lss, r_leq, r_gtr, r_geq, r_eql, r_neq, r_add, r_sub, r_min2, r_max2, r_min3, r_max3, r_fa, r_iaS, r_iaA, r_ex2a, r_ex2b, r_ex3a, r_ex3b, r_ex3c, r_nc, r_keepE, Nat.zero_add, Nat.add_zero, Nat.mul_one, Int.toNat_natCast, toNat_sub1, toNat_add1, decide_true, decide_false, Bool.not_true, Bool.not_false, if_true, if_false, Bool.false_eq_true, reduceCtorEq, g0, g1]
  refine r_join0 (fun w' => w = w') ?_ fun kk hkk => hkk w rfl
  rintro _ rfl
  simp (disch := omega) only [r_ln, r_pick, r_pickT, r_pickF, r_condT, r_condF, r_gdTT, r_gdFF, r_gdTF, r_gdFT, r_gqTT, r_gqFF, r_gqTF, r_gqFT, r_not, r_lss, r_leq, r_gtr, r_geq, r_eql, r_neq, r_add, r_sub, r_min2, r_max2, r_min3, r_max3, r_fa, r_iaS, r_iaA, r_ex2a, r_ex2b, r_ex3a, r_ex3b, r_ex3c, r_nc, r_keepE, Nat.zero_add, Nat.add_zero, Nat.mul_one, Int.toNat_natCast, toNat_sub1, toNat_add1, decide_true, decide_false, Bool.not_true, Bool.not_false, if_true, if_false, Bool.false_eq_true, reduceCtorEq, r_cv]
  rw [IntWalk.i64_in _ (by omega)]
  refine mk91 (by omega) fun v w1 hv k1 hvb => ?_
  have hv0 := hv.lt hvb
  obtain ⟨g, cap, cur, rfl, hgb, hg, hle, hcm, hsz, _⟩ := hv.blk (by rw [List.length_replicate]; omega)
  rw [List.length_replicate] at hle
  have hlr : (List.replicate n false).length = n := List.length_replicate
  rw [hlr]
  have fin : ∀ (w' : World) (cur' : Array Value), w'.heap[g]? = some (.cells cur' 4 (0, 0)) → cur'.size = cur.size → (∀ j, j < n → cur'[j]? = some (.bool x)) → BoolsAt w.heap.size w' (.slice (some ⟨g, 0, none⟩) n cap) (List.replicate n x) := fun w' cur' h1 h2 h3 => by
    refine ⟨by rw [rec_bools]; simp, .inr ⟨g, cap, cur', by simp, hgb, h1, by simpa using hle, hcm, by omega, ?_⟩⟩
    rw [rec_bools]
    refine List.ext_getElem? fun j => ?_
    rw [List.getElem?_take]
    simp only [List.length_replicate, Nat.mul_one, List.map_replicate, List.getElem?_replicate]
    split
    · rename_i hj
      have := h3 j hj
      simpa using this
    · rfl
  have k1s := k1.size
  have hcw1 := cell_later k1 hc
  have ea : ∀ j (u : Value), [Value.bool x][j]? = some u → w1.cell? ((⟨b, off, none⟩ : Addr).add j) = some u := fun j u hj => by
    cases j with
    | zero => cases hj; simpa [r_addr] using hcw1
    | succ j => simp at hj
  refine r_cp (cs := [.bool x]) slt91 hg (by simp; omega) ea (by simp; omega) (by intro u hu; simp at hu; subst hu; rfl) fun w2 c2 s2 h2 => ?_
  refine ⟨fun t8 wr => ∃ (m : Nat) (cur' : Array Value), 1 ≤ m ∧ m ≤ n ∧ t8 = .int .i64 m ∧ wr.heap[g]? = some (.cells cur' 4 (0, 0)) ∧ cur'.size = cur.size ∧ (∀ j, j < m → cur'[j]? = some (.bool x)) ∧ Chg (fun k => k = g) w1 wr, fun t8 _ => n - (intOf t8).toNat,
    ⟨1, _, by omega, by omega, rfl, h2, by simp; omega, fun j hj => by
      have : j = 0 := by omega
      subst this
      simp, c2⟩, ?_⟩
  rintro _ _ wr ⟨m, cur', hm1, hmn, rfl, hgr, hsr, hxr, hcr⟩
  by_cases hlt : m < n
  case neg =>
    have hlt' : ¬ (m : Int) < (n : Int) := by omega
    have em : m = n := by omega
    subst em
    simp (disch := omega) only [r_ln, r_pick, r_pickT, r_pickF, r_condT, r_condF, r_gdTT, r_gdFF, r_gdTF, r_gdFT, r_gqTT, r_gqFF, r_gqTF, r_gqFT, r_not, r_lss, r_leq, r_gtr, r_geq, r_eql, r_neq, r_add, r_sub, r_min2, r_max2, r_min3, r_max3, r_fa, r_iaS, r_iaA, r_ex2a, r_ex2b, r_ex3a, r_ex3b, r_ex3c, r_nc, r_keepE, Nat.zero_add, Nat.add_zero, Nat.mul_one, Int.toNat_natCast, toNat_sub1, toNat_add1, decide_true, decide_false, Bool.not_true, Bool.not_false, if_true, if_false, Bool.false_eq_true, reduceCtorEq, hlt']
    exact ⟨_, rfl, Kp.of_chg k1 hcr fun k e => by omega, fin _ _ hgr hsr hxr⟩
  have hlt' : (m : Int) < (n : Int) := by omega
  simp (disch := omega) only [r_ln, r_pick, r_pickT, r_pickF, r_condT, r_condF, r_gdTT, r_gdFF, r_gdTF, r_gdFT, r_gqTT, r_gqFF, r_gqTF, r_gqFT, r_not, r_lss, r_leq, r_gtr, r_geq, r_eql, r_neq, r_add, r_sub, r_min2, r_max2, r_min3, r_max3, r_fa, r_iaS, r_iaA, r_ex2a, r_ex2b, r_ex3a, r_ex3b, r_ex3c, r_nc, r_keepE, Nat.zero_add, Nat.add_zero, Nat.mul_one, Int.toNat_natCast, toNat_sub1, toNat_add1, decide_true, decide_false, Bool.not_true, Bool.not_false, if_true, if_false, Bool.false_eq_true, reduceCtorEq, decide_eq_true hlt']
  refine r_drew fun wx kx _ => ?_
  refine ⟨fun k => k = g, ?_⟩
  have hcm' : ¬ cap = m := by omega
  simp (disch := omega) only [r_ln, r_pick, r_pickT, r_pickF, r_condT, r_condF, r_gdTT, r_gdFF, r_gdTF, r_gdFT, r_gqTT, r_gqFF, r_gqTF, r_gqFT, r_not, r_lss, r_leq, r_gtr, r_geq, r_eql, r_neq, r_add, r_sub, r_min2, r_max2, r_min3, r_max3, r_fa, r_iaS, r_iaA, r_ex2a, r_ex2b, r_ex3a, r_ex3b, r_ex3c, r_nc, r_keepE, Nat.zero_add, Nat.add_zero, Nat.mul_one, Int.toNat_natCast, toNat_sub1, toNat_add1, decide_true, decide_false, Bool.not_true, Bool.not_false, if_true, if_false, Bool.false_eq_true, reduceCtorEq, r_tx, r_slTo, r_slFrom, hcm']
  have hgx := block_below hgr kx
  have ead : (⟨g, 0, none⟩ : Addr).add m = ⟨g, m, none⟩ := by rw [r_addr, Nat.zero_add]
  have hmin : min m (n - m) ≤ m ∧ m + min m (n - m) ≤ n ∧ 1 ≤ min m (n - m) := by omega
  have hexp : (((n : Int) - (m : Int)).toNat) = n - m := by omega
  simp only [Option.map_some, ead]
  generalize hq : min m (n - m) = q at *
  have hlq : (List.replicate q (Value.bool x)).length = q := List.length_replicate
  refine r_cp (cs := List.replicate q (.bool x)) slt91 hgx (by rw [hlq, hq]) (fun j u hj => ?_) (by rw [hlq]; omega) (by intro u hu; rw [List.eq_of_mem_replicate hu]; rfl) fun w3 c3 s3 h3 => ?_
  · rw [List.getElem?_replicate] at hj
    split at hj
    · rename_i hjq
      cases hj
      rw [r_addr, Nat.zero_add, cell_row hgx]
      exact hxr j (by omega)
    · cases hj
  rw [hlq, r_keepXE]
  refine ⟨BX.of_chg c3, ?_⟩
  try simp (disch := omega) only [r_ln, r_pick, r_pickT, r_pickF, r_condT, r_condF, r_gdTT, r_gdFF, r_gdTF, r_gdFT, r_gqTT, r_gqFF, r_gqTF, r_gqFT, r_not, r_lss, r_leq, r_gtr, r_geq, r_eql, r_neq, r_add, r_sub, r_min2, r_max2, r_min3, r_max3, r_fa, r_iaS, r_iaA, r_ex2a, r_ex2b, r_ex3a, r_ex3b, r_ex3c, r_nc, r_keepE, Nat.zero_add, Nat.add_zero, Nat.mul_one, Int.toNat_natCast, toNat_sub1, toNat_add1, decide_true, decide_false, Bool.not_true, Bool.not_false, if_true, if_false, Bool.false_eq_true, reduceCtorEq, r_tx]
  refine ⟨⟨m + q, _, by omega, by omega, by go_num, h3, ?_, fun j hj => ?_, (hcr.trans (Chg.of_kp kx)).trans c3⟩, by simp only [intOf]; omega⟩
  · simp only [hlq, List.size_toArray, List.length_append, List.length_take, List.length_drop, Array.length_toList, List.length_replicate]
    omega
  · have hcs : cur'.toList.length = cur.size := by simpa using hsr
    simp only [List.getElem?_toArray]
    by_cases hjm : j < m
    · rw [List.append_assoc, List.getElem?_append_left (by rw [List.length_take]; omega), List.getElem?_take, if_pos hjm]
      have := hxr j hjm
      simpa using this
    · rw [List.getElem?_append_left (by rw [List.length_append, List.length_take, hlq]; omega), List.getElem?_append_right (by rw [List.length_take]; omega), List.length_take, List.getElem?_replicate, if_pos (by omega)]

set_option maxRecDepth 100000 in
set_option maxHeartbeats 400000 in
/-- slices.Repeat of one integer. -/
theorem repeatI_calls {n b off c : Nat} {x : Int} (hn : MulOk n) (w : World) (hc : w.cell? ⟨b, off, none⟩ = some (.int .i64 x)) : Calls Try.prog 72 #[.slice (some ⟨b, off, none⟩) 1 c, .int .i64 n] w fun e w' => ∃ v, e = .returned v ∧ Kp w w' ∧ IntsAt w.heap.size w' v (List.replicate n x) := by
  have h4 : 8 ≤ n ∧ n ≤ 4096 := by omega
  refine lift72 ?_
  unfold S72
  have n0 : ¬ (n : Int) < 0 := by omega
  simp (disch := omega) only [r_ln, r_pick, r_pickT, r_pickF, r_condT, r_condF, r_gdTT, r_gdFF, r_gdTF, r_gdFT, r_gqTT, r_gqFF, r_gqTF, r_gqFT, r_not, r_lss, r_leq, r_gtr, r_geq, r_eql, r_neq, r_add, r_sub, r_min2, r_max2, r_min3, r_max3, r_fa, r_iaS, r_iaA, r_ex2a, r_ex2b, r_ex3a, r_ex3b, r_ex3c, r_nc, r_keepE, Nat.zero_add, Nat.add_zero, Nat.mul_one, Int.toNat_natCast, toNat_sub1, toNat_add1, decide_true, decide_false, Bool.not_true, Bool.not_false, if_true, if_false, Bool.false_eq_true, reduceCtorEq, n0]
  refine r_join0 (fun w' => w = w') ?_ fun kk hkk => hkk w rfl
  rintro _ rfl
  simp (disch := omega) only [r_ln, r_pick, r_pickT, r_pickF, r_condT, r_condF, r_gdTT, r_gdFF, r_gdTF, r_gdFT, r_gqTT, r_gqFF, r_gqTF, r_gqFT, r_not, r_lss, r_leq, r_gtr, r_geq, r_eql, r_neq, r_add, r_sub, r_min2, r_max2, r_min3, r_max3, r_fa, r_iaS, r_iaA, r_ex2a, r_ex2b, r_ex3a, r_ex3b, r_ex3c, r_nc, r_keepE, Nat.zero_add, Nat.add_zero, Nat.mul_one, Int.toNat_natCast, toNat_sub1, toNat_add1, decide_true, decide_false, Bool.not_true, Bool.not_false, if_true, if_false, Bool.false_eq_true, reduceCtorEq, r_cv]
  have e1 : IntKind.u64.wrap ((1 : Nat) : Int) = 1 := rfl
  rw [e1, IntWalk.u64_in _ (by omega)]
  refine r_use fok105 (mul_calls hn w) rfl ?_
  rintro _ _ ⟨rfl, rfl⟩
  refine ⟨_, rfl, ?_⟩
  clear hn
  have g1 : ¬ (9223372036854775807 : Int) < (n : Int) := by omega
  have g0 : ¬ (0 : Int) < 0 := by omega
  simp (disch := omega) only [r_ln, r_pick, r_pickT, r_pickF, r_condT, r_condF, r_gdTT, r_gdFF, r_gdTF, r_gdFT, r_gqTT, r_gqFF, r_gqTF, r_gqFT, r_not, r_lss, r_leq, r_gtr, r_geq, r_eql, r_neq, r_add, r_sub, r_min2, r_max2, r_min3, r_max3, r_fa, r_iaS, r_iaA, r_ex2a, r_ex2b, r_ex3a, r_ex3b, r_ex3c, r_nc, r_keepE, Nat.zero_add, Nat.add_zero, Nat.mul_one, Int.toNat_natCast, toNat_sub1, toNat_add1, decide_true, decide_false, Bool.not_true, Bool.not_false, if_true, if_false, Bool.false_eq_true, reduceCtorEq, g0, g1]
  refine r_join0 (fun w' => w = w') ?_ fun kk hkk => hkk w rfl
  rintro _ rfl
  simp (disch := omega) only [r_ln, r_pick, r_pickT, r_pickF, r_condT, r_condF, r_gdTT, r_gdFF, r_gdTF, r_gdFT, r_gqTT, r_gqFF, r_gqTF, r_gqFT, r_not, r_lss, r_leq, r_gtr, r_geq, r_eql, r_neq, r_add, r_sub, r_min2, r_max2, r_min3, r_max3, r_fa, r_iaS, r_iaA, r_ex2a, r_ex2b, r_ex3a, r_ex3b, r_ex3c, r_nc, r_keepE, Nat.zero_add, Nat.add_zero, Nat.mul_one, Int.toNat_natCast, toNat_sub1, toNat_add1, decide_true, decide_false, Bool.not_true, Bool.not_false, if_true, if_false, Bool.false_eq_true, reduceCtorEq, r_cv]
  rw [IntWalk.i64_in _ (by omega)]
  refine mk30' (by omega) fun v w1 hv k1 hvb => ?_
  have hv0 := hv.lt hvb
  obtain ⟨g, cap, cur, rfl, hgb, hg, hle, hcm, hsz, _⟩ := hv.blk (by rw [List.length_replicate]; omega)
  rw [List.length_replicate] at hle
  have hlr : (List.replicate n (0 : Int)).length = n := List.length_replicate
  rw [hlr]
  have fin : ∀ (w' : World) (cur' : Array Value), w'.heap[g]? = some (.cells cur' 3 (0, 0)) → cur'.size = cur.size → (∀ j, j < n → cur'[j]? = some (.int .i64 x)) → IntsAt w.heap.size w' (.slice (some ⟨g, 0, none⟩) n cap) (List.replicate n x) := fun w' cur' h1 h2 h3 => by
    refine ⟨by rw [rec_ints]; simp, .inr ⟨g, cap, cur', by simp, hgb, h1, by simpa using hle, hcm, by omega, ?_⟩⟩
    rw [rec_ints]
    refine List.ext_getElem? fun j => ?_
    rw [List.getElem?_take]
    simp only [List.length_replicate, Nat.mul_one, List.map_replicate, List.getElem?_replicate]
    split
    · rename_i hj
      have := h3 j hj
      simpa using this
    · rfl
  have k1s := k1.size
  have hcw1 := cell_later k1 hc
  have ea : ∀ j (u : Value), [Value.int .i64 x][j]? = some u → w1.cell? ((⟨b, off, none⟩ : Addr).add j) = some u := fun j u hj => by
    cases j with
    | zero => cases hj; simpa [r_addr] using hcw1
    | succ j => simp at hj
  refine r_cp (cs := [.int .i64 x]) slt30 hg (by simp; omega) ea (by simp; omega) (by intro u hu; simp at hu; subst hu; rfl) fun w2 c2 s2 h2 => ?_
  refine ⟨fun t8 wr => ∃ (m : Nat) (cur' : Array Value), 1 ≤ m ∧ m ≤ n ∧ t8 = .int .i64 m ∧ wr.heap[g]? = some (.cells cur' 3 (0, 0)) ∧ cur'.size = cur.size ∧ (∀ j, j < m → cur'[j]? = some (.int .i64 x)) ∧ Chg (fun k => k = g) w1 wr, fun t8 _ => n - (intOf t8).toNat,
    ⟨1, _, by omega, by omega, rfl, h2, by simp; omega, fun j hj => by
      have : j = 0 := by omega
      subst this
      simp, c2⟩, ?_⟩
  rintro _ _ wr ⟨m, cur', hm1, hmn, rfl, hgr, hsr, hxr, hcr⟩
  by_cases hlt : m < n
  case neg =>
    have hlt' : ¬ (m : Int) < (n : Int) := by omega
    have em : m = n := by omega
    subst em
    simp (disch := omega) only [r_ln, r_pick, r_pickT, r_pickF, r_condT, r_condF, r_gdTT, r_gdFF, r_gdTF, r_gdFT, r_gqTT, r_gqFF, r_gqTF, r_gqFT, r_not, r_lss, r_leq, r_gtr, r_geq, r_eql, r_neq, r_add, r_sub, r_min2, r_max2, r_min3, r_max3, r_fa, r_iaS, r_iaA, r_ex2a, r_ex2b, r_ex3a, r_ex3b, r_ex3c, r_nc, r_keepE, Nat.zero_add, Nat.add_zero, Nat.mul_one, Int.toNat_natCast, toNat_sub1, toNat_add1, decide_true, decide_false, Bool.not_true, Bool.not_false, if_true, if_false, Bool.false_eq_true, reduceCtorEq, hlt']
    exact ⟨_, rfl, Kp.of_chg k1 hcr fun k e => by omega, fin _ _ hgr hsr hxr⟩
  have hlt' : (m : Int) < (n : Int) := by omega
  simp (disch := omega) only [r_ln, r_pick, r_pickT, r_pickF, r_condT, r_condF, r_gdTT, r_gdFF, r_gdTF, r_gdFT, r_gqTT, r_gqFF, r_gqTF, r_gqFT, r_not, r_lss, r_leq, r_gtr, r_geq, r_eql, r_neq, r_add, r_sub, r_min2, r_max2, r_min3, r_max3, r_fa, r_iaS, r_iaA, r_ex2a, r_ex2b, r_ex3a, r_ex3b, r_ex3c, r_nc, r_keepE, Nat.zero_add, Nat.add_zero, Nat.mul_one, Int.toNat_natCast, toNat_sub1, toNat_add1, decide_true, decide_false, Bool.not_true, Bool.not_false, if_true, if_false, Bool.false_eq_true, reduceCtorEq, decide_eq_true hlt']
  refine r_drew fun wx kx _ => ?_
  refine ⟨fun k => k = g, ?_⟩
  have hcm' : ¬ cap = m := by omega
  simp (disch := omega) only [r_ln, r_pick, r_pickT, r_pickF, r_condT, r_condF, r_gdTT, r_gdFF, r_gdTF, r_gdFT, r_gqTT, r_gqFF, r_gqTF, r_gqFT, r_not, r_lss, r_leq, r_gtr, r_geq, r_eql, r_neq, r_add, r_sub, r_min2, r_max2, r_min3, r_max3, r_fa, r_iaS, r_iaA, r_ex2a, r_ex2b, r_ex3a, r_ex3b, r_ex3c, r_nc, r_keepE, Nat.zero_add, Nat.add_zero, Nat.mul_one, Int.toNat_natCast, toNat_sub1, toNat_add1, decide_true, decide_false, Bool.not_true, Bool.not_false, if_true, if_false, Bool.false_eq_true, reduceCtorEq, r_tx, r_slTo, r_slFrom, hcm']
  have hgx := block_below hgr kx
  have ead : (⟨g, 0, none⟩ : Addr).add m = ⟨g, m, none⟩ := by rw [r_addr, Nat.zero_add]
  have hmin : min m (n - m) ≤ m ∧ m + min m (n - m) ≤ n ∧ 1 ≤ min m (n - m) := by omega
  have hexp : (((n : Int) - (m : Int)).toNat) = n - m := by omega
  simp only [Option.map_some, ead]
  generalize hq : min m (n - m) = q at *
  have hlq : (List.replicate q (Value.int .i64 x)).length = q := List.length_replicate
  refine r_cp (cs := List.replicate q (.int .i64 x)) slt30 hgx (by rw [hlq, hq]) (fun j u hj => ?_) (by rw [hlq]; omega) (by intro u hu; rw [List.eq_of_mem_replicate hu]; rfl) fun w3 c3 s3 h3 => ?_
  · rw [List.getElem?_replicate] at hj
    split at hj
    · rename_i hjq
      cases hj
      rw [r_addr, Nat.zero_add, cell_row hgx]
      exact hxr j (by omega)
    · cases hj
  rw [hlq, r_keepXE]
  refine ⟨BX.of_chg c3, ?_⟩
  try simp (disch := omega) only [r_ln, r_pick, r_pickT, r_pickF, r_condT, r_condF, r_gdTT, r_gdFF, r_gdTF, r_gdFT, r_gqTT, r_gqFF, r_gqTF, r_gqFT, r_not, r_lss, r_leq, r_gtr, r_geq, r_eql, r_neq, r_add, r_sub, r_min2, r_max2, r_min3, r_max3, r_fa, r_iaS, r_iaA, r_ex2a, r_ex2b, r_ex3a, r_ex3b, r_ex3c, r_nc, r_keepE, Nat.zero_add, Nat.add_zero, Nat.mul_one, Int.toNat_natCast, toNat_sub1, toNat_add1, decide_true, decide_false, Bool.not_true, Bool.not_false, if_true, if_false, Bool.false_eq_true, reduceCtorEq, r_tx]
  refine ⟨⟨m + q, _, by omega, by omega, by go_num, h3, ?_, fun j hj => ?_, (hcr.trans (Chg.of_kp kx)).trans c3⟩, by simp only [intOf]; omega⟩
  · simp only [hlq, List.size_toArray, List.length_append, List.length_take, List.length_drop, Array.length_toList, List.length_replicate]
    omega
  · have hcs : cur'.toList.length = cur.size := by simpa using hsr
    simp only [List.getElem?_toArray]
    by_cases hjm : j < m
    · rw [List.append_assoc, List.getElem?_append_left (by rw [List.length_take]; omega), List.getElem?_take, if_pos hjm]
      have := hxr j hjm
      simpa using this
    · rw [List.getElem?_append_left (by rw [List.length_append, List.length_take, hlq]; omega), List.getElem?_append_right (by rw [List.length_take]; omega), List.length_take, List.getElem?_replicate, if_pos (by omega)]

end Go.Proofs.Ytgalbokmgffhkaa

/- Contracts: steps, Count of the program. -/
namespace Go.Proofs.Ytgalbokmgffhkaa
open Go.Lf Go.RowKit Go.Wg

theorem IntsAt.put {base : Nat} {w : World} {v : Value} {l : List Int} (h : IntsAt base w v l) {q : Nat} (hq : q < l.length) (x : Int) :
    ∃ g cap, v = .slice (some ⟨g, 0, none⟩) l.length cap ∧ base ≤ g ∧ w.cell? ⟨g, q, none⟩ = some (.int .i64 (l.getD q 0)) ∧ w.frozen? ⟨g, q, none⟩ = false ∧ IntsAt base (w.setCell ⟨g, q, none⟩ (.int .i64 x)) v (l.set q x) := by
  obtain ⟨g, cap, e, hb, _, hf, hr⟩ := RecAt.set (j := 0) (p' := x) (u := .int .i64 x) iC_len h (List.getElem?_eq_getElem hq) (by omega) rfl
  simp only [Nat.mul_one, Nat.add_zero] at hf hr
  refine ⟨g, cap, e, hb, ?_, hf, hr⟩
  obtain ⟨b, off, _, e2, _, hc⟩ := (h.rd iC_len).at (List.getElem?_eq_getElem hq)
  rw [e] at e2
  cases e2
  have := hc 0 _ rfl
  rw [getD_lt _ _ _ hq]
  simpa using this
theorem BoolsAt.put {base : Nat} {w : World} {v : Value} {l : List Bool} (h : BoolsAt base w v l) {q : Nat} (hq : q < l.length) (x : Bool) :
    ∃ g cap, v = .slice (some ⟨g, 0, none⟩) l.length cap ∧ base ≤ g ∧ w.cell? ⟨g, q, none⟩ = some (.bool (l.getD q false)) ∧ w.frozen? ⟨g, q, none⟩ = false ∧ BoolsAt base (w.setCell ⟨g, q, none⟩ (.bool x)) v (l.set q x) := by
  obtain ⟨g, cap, e, hb, _, hf, hr⟩ := RecAt.set (j := 0) (p' := x) (u := .bool x) bC_len h (List.getElem?_eq_getElem hq) (by omega) rfl
  simp only [Nat.mul_one, Nat.add_zero] at hf hr
  refine ⟨g, cap, e, hb, ?_, hf, hr⟩
  obtain ⟨b, off, _, e2, _, hc⟩ := (h.rd bC_len).at (List.getElem?_eq_getElem hq)
  rw [e] at e2
  cases e2
  have := hc 0 _ rfl
  rw [getD_lt _ _ _ hq]
  simpa using this

theorem RdL.line {w : World} {v : Value} {L : List Line} (h : RdL w v L) {i : Nat} {x : Line} (hi : L[i]? = some x) :
    ∃ b off cap, v = .slice (some ⟨b, off, none⟩) L.length cap ∧ i < L.length ∧ ∀ K : Value → Prop, ldN 7 w (.pointer (some ⟨b, off + i * 7, none⟩)) K = K (lnV x) := by
  obtain ⟨b, off, cap, e, hlt, hc⟩ := h.at hi
  exact ⟨b, off, cap, e, hlt, fun K => r_ldCells (l := lnC x) rfl hc⟩

/-- Lines whose numbers are below N. -/
def LnOk (N : Nat) (L : List Line) : Prop := ∀ x ∈ L, (0 ≤ x.2.1 ∧ x.2.1 < N) ∧ 0 ≤ x.2.2.1 ∧ x.2.2.1 < N
def Rng (l : List Int) : Prop := ∀ x ∈ l, 0 ≤ x ∧ x ≤ 1099511627777

def stepF (fr nx : List Int) (x : Line) : List Int := nx.set x.2.2.1.toNat (min (nx.getD x.2.2.1.toNat 0 + fr.getD x.2.1.toNat 0) 1099511627777)
def stepL (L : List Line) (fr : List Int) : List Int := L.foldl (stepF fr) (List.replicate fr.length 0)
def stepsL (L : List Line) (fr : List Int) : Nat → List Int
  | 0 => fr
  | k + 1 => stepL L (stepsL L fr k)

theorem rng_getD {l : List Int} (h : Rng l) (i : Nat) : 0 ≤ l.getD i 0 ∧ l.getD i 0 ≤ 1099511627777 := by
  by_cases hi : i < l.length
  · exact h _ (getD_mem hi)
  · rw [List.getD_eq_getElem?_getD, List.getElem?_eq_none (by omega)]
    exact ⟨Int.le_refl _, by decide⟩
theorem stepF_rng {fr nx : List Int} (h1 : Rng fr) (h2 : Rng nx) (x : Line) : Rng (stepF fr nx x) ∧ (stepF fr nx x).length = nx.length := by
  refine ⟨fun y hy => ?_, by simp [stepF]⟩
  rcases List.mem_or_eq_of_mem_set hy with h | rfl
  · exact h2 y h
  · have := rng_getD h1 x.2.1.toNat
    have := rng_getD h2 x.2.2.1.toNat
    omega
theorem fold_rng {fr : List Int} (h1 : Rng fr) : ∀ (L : List Line) (nx : List Int), Rng nx → Rng (L.foldl (stepF fr) nx) ∧ (L.foldl (stepF fr) nx).length = nx.length
  | [], nx, h => ⟨h, rfl⟩
  | x :: L, nx, h => by
    have h2 := stepF_rng h1 h x
    have h3 := fold_rng h1 L _ h2.1
    exact ⟨h3.1, by rw [List.foldl_cons, h3.2, h2.2]⟩
theorem rng_zero (n : Nat) : Rng (List.replicate n 0) := fun x hx => by rw [List.eq_of_mem_replicate hx]; decide
theorem steps_rng {L : List Line} {fr : List Int} (h : Rng fr) : ∀ k, Rng (stepsL L fr k) ∧ (stepsL L fr k).length = fr.length
  | 0 => ⟨h, rfl⟩
  | k + 1 => by
    have h1 := steps_rng (L := L) h k
    have h2 := fold_rng h1.1 L _ (rng_zero (stepsL L fr k).length)
    refine ⟨h2.1, ?_⟩
    rw [stepsL, stepL, h2.2, List.length_replicate, h1.2]

set_option maxRecDepth 100000 in
set_option maxHeartbeats 400000 in
theorem steps_calls {lv fv : Value} {L : List Line} {fr : List Int} {h : Nat} (w : World) (hL : RdL w lv L) (hok : LnOk fr.length L) (hf : RdInts w fv fr) (hr : Rng fr) (hLl : L.length ≤ 1000000) (hfl : fr.length ≤ 1000000) (hh : h ≤ 4) :
    Calls Try.prog 71 #[lv, fv, .int .i64 h] w fun e w' => ∃ v', e = .returned v' ∧ Kp w w' ∧ RdInts w' v' (stepsL L fr h) := by
  obtain ⟨la, lcap, rfl, hlc⟩ := hL.len
  refine lift71 ?_
  unfold S71
  refine ⟨fun t1 t11 wr => ∃ k : Nat, k ≤ h ∧ t11 = .int .i64 k ∧ Kp w wr ∧ RdInts wr t1 (stepsL L fr k), fun _ t11 _ => h - (intOf t11).toNat, ⟨0, by omega, rfl, Kp.refl _, hf⟩, ?_⟩
  rintro _ t1 _ wr ⟨k, hk, rfl, hkr, hfr⟩
  have hrk := steps_rng (L := L) hr k
  have hnext : stepsL L fr (k + 1) = stepL L (stepsL L fr k) := rfl
  by_cases hlt : k < h
  case neg =>
    have hlt' : ¬ (k : Int) < (h : Int) := by omega
    have : k = h := by omega
    subst this
    simp (disch := omega) only [r_ln, r_pick, r_pickT, r_pickF, r_condT, r_condF, r_gdTT, r_gdFF, r_gdTF, r_gdFT, r_gqTT, r_gqFF, r_gqTF, r_gqFT, r_not, r_lss, r_leq, r_gtr, r_geq, r_eql, r_neq, r_add, r_sub, r_min2, r_max2, r_min3, r_max3, r_fa, r_iaS, r_iaA, r_ex2a, r_ex2b, r_ex3a, r_ex3b, r_ex3c, r_nc, r_keepE, Nat.zero_add, Nat.add_zero, Nat.mul_one, Int.toNat_natCast, toNat_sub1, toNat_add1, decide_true, decide_false, Bool.not_true, Bool.not_false, if_true, if_false, Bool.false_eq_true, reduceCtorEq, hlt']
    exact ⟨_, rfl, hkr, hfr⟩
  have hlt' : (k : Int) < (h : Int) := by omega
  generalize stepsL L fr k = F at *
  obtain ⟨hrF, hlF⟩ := hrk
  obtain ⟨fa, fcap, rfl, _⟩ := hfr.len
  simp (disch := omega) only [r_ln, r_pick, r_pickT, r_pickF, r_condT, r_condF, r_gdTT, r_gdFF, r_gdTF, r_gdFT, r_gqTT, r_gqFF, r_gqTF, r_gqFT, r_not, r_lss, r_leq, r_gtr, r_geq, r_eql, r_neq, r_add, r_sub, r_min2, r_max2, r_min3, r_max3, r_fa, r_iaS, r_iaA, r_ex2a, r_ex2b, r_ex3a, r_ex3b, r_ex3c, r_nc, r_keepE, Nat.zero_add, Nat.add_zero, Nat.mul_one, Int.toNat_natCast, toNat_sub1, toNat_add1, decide_true, decide_false, Bool.not_true, Bool.not_false, if_true, if_false, Bool.false_eq_true, reduceCtorEq, hlt']
  refine mk30' (by omega) fun v w1 hv k1 hvb => ?_
  have k1s := k1.size
  refine ⟨fun t18 wq => ∃ i : Nat, i ≤ L.length ∧ t18 = .int .i64 i ∧ Kp wr wq ∧ IntsAt wr.heap.size wq v ((L.take i).foldl (stepF F) (List.replicate F.length 0)), fun t18 _ => L.length - (intOf t18).toNat,
    ⟨0, by omega, rfl, k1, by simpa using hv⟩, ?_⟩
  rintro _ _ wq ⟨i, hi, rfl, hkq, hvq⟩
  by_cases hil : i < L.length
  case neg =>
    have hil' : ¬ (i : Int) < (L.length : Int) := by omega
    rw [List.take_of_length_le (by omega)] at hvq
    simp (disch := omega) only [r_ln, r_pick, r_pickT, r_pickF, r_condT, r_condF, r_gdTT, r_gdFF, r_gdTF, r_gdFT, r_gqTT, r_gqFF, r_gqTF, r_gqFT, r_not, r_lss, r_leq, r_gtr, r_geq, r_eql, r_neq, r_add, r_sub, r_min2, r_max2, r_min3, r_max3, r_fa, r_iaS, r_iaA, r_ex2a, r_ex2b, r_ex3a, r_ex3b, r_ex3c, r_nc, r_keepE, Nat.zero_add, Nat.add_zero, Nat.mul_one, Int.toNat_natCast, toNat_sub1, toNat_add1, decide_true, decide_false, Bool.not_true, Bool.not_false, if_true, if_false, Bool.false_eq_true, reduceCtorEq, hil']
    refine ⟨⟨k + 1, by omega, by go_num, Kp.trans hkr hkq, ?_⟩, by simp only [intOf]; omega⟩
    rw [hnext]
    refine (hvq.rd iC_len).ints ?_
    have := (fold_rng hrF L _ (rng_zero F.length)).2
    rw [this, List.length_replicate]
    omega
  have hil' : (i : Int) < (L.length : Int) := by omega
  obtain ⟨x, hx⟩ : ∃ x, L[i]? = some x := ⟨_, List.getElem?_eq_getElem hil⟩
  obtain ⟨lb, lo, lc, el, _, hld⟩ := RdL.line (hL.kp (Kp.trans hkr hkq)) hx
  cases el
  simp (disch := omega) only [r_ln, r_pick, r_pickT, r_pickF, r_condT, r_condF, r_gdTT, r_gdFF, r_gdTF, r_gdFT, r_gqTT, r_gqFF, r_gqTF, r_gqFT, r_not, r_lss, r_leq, r_gtr, r_geq, r_eql, r_neq, r_add, r_sub, r_min2, r_max2, r_min3, r_max3, r_fa, r_iaS, r_iaA, r_ex2a, r_ex2b, r_ex3a, r_ex3b, r_ex3c, r_nc, r_keepE, Nat.zero_add, Nat.add_zero, Nat.mul_one, Int.toNat_natCast, toNat_sub1, toNat_add1, decide_true, decide_false, Bool.not_true, Bool.not_false, if_true, if_false, Bool.false_eq_true, reduceCtorEq, decide_eq_true hil', hld]
  refine r_box fun b9 w2 e9 s9 h9 k9 => ?_
  refine r_stAll (n := 7) (ty := 78) (by kernel_rfl) rfl (by intro u hu; simp [Value.cells] at hu; rcases hu with rfl | rfl | rfl | rfl | rfl | rfl | rfl <;> rfl) h9 rfl fun w3 cg3 s3 h93 => ?_
  have k03 : Kp wq w3 := Kp.of_chg k9 cg3 fun i e => by omega
  refine r_drew fun w4 k4 _ => ?_
  have kq4 := Kp.trans k03 k4
  have h94 := block_below h93 k4
  have c4 : w4.cell? ⟨b9, 4, none⟩ = some (.int .i64 x.2.1) := by rw [cell_row h94]; rfl
  have c5 : w4.cell? ⟨b9, 5, none⟩ = some (.int .i64 x.2.2.1) := by rw [cell_row h94]; rfl
  obtain ⟨⟨x1, x2⟩, x3, x4⟩ := hok x (List.mem_of_getElem? hx)
  have hNx := fold_rng hrF (L.take i) _ (rng_zero F.length)
  rw [List.length_replicate] at hNx
  have htake : (L.take (i + 1)).foldl (stepF F) (List.replicate F.length 0) = stepF F ((L.take i).foldl (stepF F) (List.replicate F.length 0)) x := by
    rw [List.take_add_one, hx]
    simp
  obtain ⟨hrN, hlN⟩ := hNx
  generalize (L.take i).foldl (stepF F) (List.replicate F.length 0) = N at *
  obtain ⟨g, cap, ev, hgb, gc, gf, gset⟩ := IntsAt.put (hvq.kp kq4) (q := x.2.2.1.toNat) (by omega) (min (N.getD x.2.2.1.toNat 0 + F.getD x.2.1.toNat 0) 1099511627777)
  have hF4 := hfr.below (Kp.trans hkq kq4)
  obtain ⟨fb, fo, _, ef, fc⟩ := hF4.at (j := x.2.1.toNat) (by omega)
  cases ef
  have y1 := rng_getD hrN x.2.2.1.toNat
  have y2 := rng_getD hrF x.2.1.toNat
  subst ev
  simp (disch := omega) only [r_ln, r_pick, r_pickT, r_pickF, r_condT, r_condF, r_gdTT, r_gdFF, r_gdTF, r_gdFT, r_gqTT, r_gqFF, r_gqTF, r_gqFT, r_not, r_lss, r_leq, r_gtr, r_geq, r_eql, r_neq, r_add, r_sub, r_min2, r_max2, r_min3, r_max3, r_fa, r_iaS, r_iaA, r_ex2a, r_ex2b, r_ex3a, r_ex3b, r_ex3c, r_nc, r_keepE, Nat.zero_add, Nat.add_zero, Nat.mul_one, Int.toNat_natCast, toNat_sub1, toNat_add1, decide_true, decide_false, Bool.not_true, Bool.not_false, if_true, if_false, Bool.false_eq_true, reduceCtorEq, r_ld c4, r_ld c5, r_ld gc, r_ld fc]
  rw [st3 gc gf]
  try simp (disch := omega) only [r_ln, r_pick, r_pickT, r_pickF, r_condT, r_condF, r_gdTT, r_gdFF, r_gdTF, r_gdFT, r_gqTT, r_gqFF, r_gqTF, r_gqFT, r_not, r_lss, r_leq, r_gtr, r_geq, r_eql, r_neq, r_add, r_sub, r_min2, r_max2, r_min3, r_max3, r_fa, r_iaS, r_iaA, r_ex2a, r_ex2b, r_ex3a, r_ex3b, r_ex3c, r_nc, r_keepE, Nat.zero_add, Nat.add_zero, Nat.mul_one, Int.toNat_natCast, toNat_sub1, toNat_add1, decide_true, decide_false, Bool.not_true, Bool.not_false, if_true, if_false, Bool.false_eq_true, reduceCtorEq]
  refine ⟨⟨i + 1, by omega, by go_num, Kp.of_chg (Kp.trans hkq kq4) (Chg.setCell (S := fun k => k = g) _ _ rfl) fun k e => by omega, ?_⟩, by simp only [intOf]; omega⟩
  rw [htake]
  exact gset

def sumC (fr : List Int) : Int := fr.foldl (fun s n => min (s + n) 1099511627777) 0
def linesL (l : List Tile) (w : Nat) : List Line := (rowsL l w).map (lineOf l)
def limV (n : Int) : Value := if 1099511627776 < n then .tuple #[.int .i64 0, .int .i64 8] else .tuple #[.int .i64 n, .int .i64 0]

theorem lines_ok {l : List Tile} (hs : IsSet l) {a : Nat} (ha : a ≤ 4) : LnOk (8 ^ a) (linesL l a) := by
  intro x hx
  simp only [linesL, List.mem_map] at hx
  obtain ⟨r, hr, rfl⟩ := hx
  obtain ⟨hl, hrow⟩ := mem_rowsL.1 hr
  obtain ⟨q1, q2⟩ := cols_norths hs hrow.lt
  have q3 := code_range q1 (by simp [norths]; omega)
  have q4 := code_range q2 (by simp [souths]; omega)
  have e1 : (norths l r).length = a := by simp [norths, hl]
  have e2 : (souths l r).length = a := by simp [souths, hl]
  rw [e1] at q3
  rw [e2] at q4
  have e3 : ((8 ^ a : Nat) : Int) = 8 ^ a := by simp
  rw [e3]
  exact ⟨⟨q3.1, q3.2.1⟩, q4.1, q4.2.1⟩
theorem lines_len {l : List Tile} (hs : IsSet l) {a : Nat} (ha : a ≤ 4) : (linesL l a).length ≤ 65536 := by
  rw [linesL, List.length_map]
  exact Nat.le_trans (exts_length_le hs.most a []) (pow16_le ha)

theorem limited_calls (n : Int) (w : World) : Calls Try.prog 74 #[.int .i64 n] w fun e w' => e = .returned (limV n) ∧ w = w' := by
  refine lift74 ?_
  unfold S74 limV
  by_cases h : (1099511627776 : Int) < n
  · simp only [r_ln, r_pick, r_pickT, r_pickF, r_condT, r_condF, r_gdTT, r_gdFF, r_gdTF, r_gdFT, r_gqTT, r_gqFF, r_gqTF, r_gqFT, r_not, r_lss, r_leq, r_gtr, r_geq, r_eql, r_neq, r_add, r_sub, r_min2, r_max2, r_min3, r_max3, r_fa, r_iaS, r_iaA, r_ex2a, r_ex2b, r_ex3a, r_ex3b, r_ex3c, r_nc, r_keepE, Nat.zero_add, Nat.add_zero, Nat.mul_one, Int.toNat_natCast, toNat_sub1, toNat_add1, decide_true, decide_false, Bool.not_true, Bool.not_false, if_true, if_false, Bool.false_eq_true, reduceCtorEq, h]
    exact ⟨by first | rfl | trivial, by first | rfl | trivial⟩
  · simp only [r_ln, r_pick, r_pickT, r_pickF, r_condT, r_condF, r_gdTT, r_gdFF, r_gdTF, r_gdFT, r_gqTT, r_gqFF, r_gqTF, r_gqFT, r_not, r_lss, r_leq, r_gtr, r_geq, r_eql, r_neq, r_add, r_sub, r_min2, r_max2, r_min3, r_max3, r_fa, r_iaS, r_iaA, r_ex2a, r_ex2b, r_ex3a, r_ex3b, r_ex3c, r_nc, r_keepE, Nat.zero_add, Nat.add_zero, Nat.mul_one, Int.toNat_natCast, toNat_sub1, toNat_add1, decide_true, decide_false, Bool.not_true, Bool.not_false, if_true, if_false, Bool.false_eq_true, reduceCtorEq, h]
    exact ⟨by first | rfl | trivial, by first | rfl | trivial⟩

/-- What Count returns. -/
def countV (l : List Tile) (w h : Int) : Value := if ordErr l w h = 0 then limV (sumC (stepsL (linesL l w.toNat) (List.replicate (8 ^ w.toNat) 1) h.toNat)) else .tuple #[.int .i64 0, .int .i64 2]

theorem sum_rng {l : List Int} (h : Rng l) (i : Nat) : 0 ≤ sumC (l.take i) ∧ sumC (l.take i) ≤ 1099511627777 := by
  have key : ∀ (l : List Int) (s : Int), Rng l → 0 ≤ s → s ≤ 1099511627777 → 0 ≤ l.foldl (fun s n => min (s + n) 1099511627777) s ∧ l.foldl (fun s n => min (s + n) 1099511627777) s ≤ 1099511627777 := by
    intro l
    induction l with
    | nil => intro s _ h1 h2; exact ⟨h1, h2⟩
    | cons x l ih =>
      intro s h h1 h2
      have := h x (by simp)
      exact ih _ (fun y hy => h y (by simp [hy])) (by show 0 ≤ min (s + x) 1099511627777; omega) (by show min (s + x) 1099511627777 ≤ 1099511627777; omega)
  exact key _ 0 (fun x hx => h x (List.mem_of_mem_take hx)) (by decide) (by decide)

set_option maxRecDepth 100000 in
set_option maxHeartbeats 400000 in
theorem count_calls {v : Value} {l : List Tile} (a b : Int) (w : World) (hr : RdT w v l) : Calls Try.prog 25 #[v, .int .i64 a, .int .i64 b] w fun e w' => e = .returned (countV l a b) ∧ Kp w w' := by
  refine lift25 ?_
  unfold S25
  refine r_use fok53 (board_calls a b w hr) rfl ?_
  rintro _ w1 ⟨rfl, k1⟩
  refine ⟨_, rfl, ?_⟩
  unfold countV
  have h20 : ¬ ((2 : Int) = 0) := by decide
  rcases ordErr_cases l a b with he | he
  rotate_left
  · simp (disch := omega) only [r_ln, r_pick, r_pickT, r_pickF, r_condT, r_condF, r_gdTT, r_gdFF, r_gdTF, r_gdFT, r_gqTT, r_gqFF, r_gqTF, r_gqFT, r_not, r_lss, r_leq, r_gtr, r_geq, r_eql, r_neq, r_add, r_sub, r_min2, r_max2, r_min3, r_max3, r_fa, r_iaS, r_iaA, r_ex2a, r_ex2b, r_ex3a, r_ex3b, r_ex3c, r_nc, r_keepE, Nat.zero_add, Nat.add_zero, Nat.mul_one, Int.toNat_natCast, toNat_sub1, toNat_add1, decide_true, decide_false, Bool.not_true, Bool.not_false, if_true, if_false, Bool.false_eq_true, reduceCtorEq, he, h20]
    exact ⟨by first | rfl | trivial, k1⟩
  obtain ⟨hs, a, b, rfl, rfl, ha, hb⟩ := ord_ok he
  simp (disch := omega) only [r_ln, r_pick, r_pickT, r_pickF, r_condT, r_condF, r_gdTT, r_gdFF, r_gdTF, r_gdFT, r_gqTT, r_gqFF, r_gqTF, r_gqFT, r_not, r_lss, r_leq, r_gtr, r_geq, r_eql, r_neq, r_add, r_sub, r_min2, r_max2, r_min3, r_max3, r_fa, r_iaS, r_iaA, r_ex2a, r_ex2b, r_ex3a, r_ex3b, r_ex3c, r_nc, r_keepE, Nat.zero_add, Nat.add_zero, Nat.mul_one, Int.toNat_natCast, toNat_sub1, toNat_add1, decide_true, decide_false, Bool.not_true, Bool.not_false, if_true, if_false, Bool.false_eq_true, reduceCtorEq, he, decide_eq_true (rfl : (0 : Int) = 0)]
  refine r_use fok59 (rows_calls hs ha w1 (hr.kp k1)) rfl ?_
  rintro _ w2 ⟨lv, rfl, k2, hL⟩
  refine ⟨_, rfl, ?_⟩
  rw [bs30]
  have k3 : Kp w2 (w2.alloc (.cells #[.int .i64 1] 3)) := below_alloc _
  have n3 := heap_alloc_new w2 (.cells #[.int .i64 1] 3)
  generalize w2.alloc (.cells #[.int .i64 1] 3) = w3 at *
  refine r_use fok73 (codes_calls w3 ha.2) rfl ?_
  rintro _ _ ⟨rfl, rfl⟩
  refine ⟨_, rfl, ?_⟩
  have h8 := pow8N_le ha.2
  have hm := mulOk ha
  have hlo := lines_ok hs ha.2
  have hll := lines_len hs ha.2
  change LnAt _ _ _ (linesL l a) at hL
  generalize 8 ^ a = N at *
  refine r_use fok72 (repeatI_calls (b := w2.heap.size) (off := 0) (x := 1) hm w3 (by rw [cell_row n3]; rfl)) rfl ?_
  rintro _ w4 ⟨rv, rfl, k4, hrv⟩
  refine ⟨_, rfl, ?_⟩
  have k24 := Kp.trans k3 k4
  have hone : Rng (List.replicate N (1 : Int)) := fun x hx => by rw [List.eq_of_mem_replicate hx]; decide
  refine r_use fok71 (steps_calls (h := b) w4 ((hL.rd lnC_len).kp k24) (by rw [List.length_replicate]; exact hlo) ((hrv.rd iC_len).ints (by rw [List.length_replicate]; omega)) hone (by omega) (by rw [List.length_replicate]; omega) hb.2) rfl ?_
  rintro _ w5 ⟨sv, rfl, k5, hsv⟩
  refine ⟨_, rfl, ?_⟩
  obtain ⟨hr5, hl5⟩ := steps_rng (L := linesL l a) hone b
  try simp only [Int.toNat_natCast]
  rw [List.length_replicate] at hl5
  generalize stepsL (linesL l a) (List.replicate N 1) b = F at *
  obtain ⟨sa, scap, rfl, _⟩ := hsv.len
  have kall := Kp.trans (Kp.trans k1 k2) (Kp.trans k24 k5)
  try simp only [r_ln, r_pick, r_pickT, r_pickF, r_condT, r_condF, r_gdTT, r_gdFF, r_gdTF, r_gdFT, r_gqTT, r_gqFF, r_gqTF, r_gqFT, r_not, r_lss, r_leq, r_gtr, r_geq, r_eql, r_neq, r_add, r_sub, r_min2, r_max2, r_min3, r_max3, r_fa, r_iaS, r_iaA, r_ex2a, r_ex2b, r_ex3a, r_ex3b, r_ex3c, r_nc, r_keepE, Nat.zero_add, Nat.add_zero, Nat.mul_one, Int.toNat_natCast, toNat_sub1, toNat_add1, decide_true, decide_false, Bool.not_true, Bool.not_false, if_true, if_false, Bool.false_eq_true, reduceCtorEq]
  refine ⟨fun t9 t29 wr => ∃ i : Nat, i ≤ F.length ∧ t29 = .int .i64 i ∧ t9 = .int .i64 (sumC (F.take i)) ∧ w5 = wr, fun _ t29 _ => F.length - (intOf t29).toNat, ⟨0, by omega, rfl, rfl, rfl⟩, ?_⟩
  rintro _ _ _ _ ⟨i, hi, rfl, rfl, rfl⟩
  by_cases hlt : i < F.length
  case neg =>
    have hlt' : ¬ (i : Int) < (F.length : Int) := by omega
    rw [List.take_of_length_le (by omega)]
    simp (disch := omega) only [r_ln, r_pick, r_pickT, r_pickF, r_condT, r_condF, r_gdTT, r_gdFF, r_gdTF, r_gdFT, r_gqTT, r_gqFF, r_gqTF, r_gqFT, r_not, r_lss, r_leq, r_gtr, r_geq, r_eql, r_neq, r_add, r_sub, r_min2, r_max2, r_min3, r_max3, r_fa, r_iaS, r_iaA, r_ex2a, r_ex2b, r_ex3a, r_ex3b, r_ex3c, r_nc, r_keepE, Nat.zero_add, Nat.add_zero, Nat.mul_one, Int.toNat_natCast, toNat_sub1, toNat_add1, decide_true, decide_false, Bool.not_true, Bool.not_false, if_true, if_false, Bool.false_eq_true, reduceCtorEq, hlt']
    refine r_use fok74 (limited_calls _ w5) rfl ?_
    rintro _ _ ⟨rfl, rfl⟩
    refine ⟨_, rfl, ?_⟩
    unfold limV
    by_cases hc : (1099511627776 : Int) < sumC F
    · rw [if_pos hc]
      simp only [r_ln, r_pick, r_pickT, r_pickF, r_condT, r_condF, r_gdTT, r_gdFF, r_gdTF, r_gdFT, r_gqTT, r_gqFF, r_gqTF, r_gqFT, r_not, r_lss, r_leq, r_gtr, r_geq, r_eql, r_neq, r_add, r_sub, r_min2, r_max2, r_min3, r_max3, r_fa, r_iaS, r_iaA, r_ex2a, r_ex2b, r_ex3a, r_ex3b, r_ex3c, r_nc, r_keepE, Nat.zero_add, Nat.add_zero, Nat.mul_one, Int.toNat_natCast, toNat_sub1, toNat_add1, decide_true, decide_false, Bool.not_true, Bool.not_false, if_true, if_false, Bool.false_eq_true, reduceCtorEq]
      exact ⟨by first | rfl | trivial, kall⟩
    · rw [if_neg hc]
      simp only [r_ln, r_pick, r_pickT, r_pickF, r_condT, r_condF, r_gdTT, r_gdFF, r_gdTF, r_gdFT, r_gqTT, r_gqFF, r_gqTF, r_gqFT, r_not, r_lss, r_leq, r_gtr, r_geq, r_eql, r_neq, r_add, r_sub, r_min2, r_max2, r_min3, r_max3, r_fa, r_iaS, r_iaA, r_ex2a, r_ex2b, r_ex3a, r_ex3b, r_ex3c, r_nc, r_keepE, Nat.zero_add, Nat.add_zero, Nat.mul_one, Int.toNat_natCast, toNat_sub1, toNat_add1, decide_true, decide_false, Bool.not_true, Bool.not_false, if_true, if_false, Bool.false_eq_true, reduceCtorEq]
      exact ⟨by first | rfl | trivial, kall⟩
  have hlt' : (i : Int) < (F.length : Int) := by omega
  obtain ⟨fb, fo, _, ef, fc⟩ := hsv.at hlt
  cases ef
  have y1 := sum_rng hr5 i
  have y2 := rng_getD hr5 i
  simp (disch := omega) only [r_ln, r_pick, r_pickT, r_pickF, r_condT, r_condF, r_gdTT, r_gdFF, r_gdTF, r_gdFT, r_gqTT, r_gqFF, r_gqTF, r_gqFT, r_not, r_lss, r_leq, r_gtr, r_geq, r_eql, r_neq, r_add, r_sub, r_min2, r_max2, r_min3, r_max3, r_fa, r_iaS, r_iaA, r_ex2a, r_ex2b, r_ex3a, r_ex3b, r_ex3c, r_nc, r_keepE, Nat.zero_add, Nat.add_zero, Nat.mul_one, Int.toNat_natCast, toNat_sub1, toNat_add1, decide_true, decide_false, Bool.not_true, Bool.not_false, if_true, if_false, Bool.false_eq_true, reduceCtorEq, decide_eq_true hlt', r_ld fc]
  refine ⟨⟨i + 1, by omega, by go_num, ?_, by first | rfl | trivial⟩, by simp only [intOf]; omega⟩
  rw [take_succ' _ _ hlt, sumC, sumC, List.foldl_append, ← getD_lt F i 0 hlt]
  rfl

end Go.Proofs.Ytgalbokmgffhkaa

/- Maps with whole numbers as keys: made, looked up, written, walked through. -/
namespace Go.Proofs.Ytgalbokmgffhkaa
open Go.Lf Go.RowKit Go.Wg Go.MapKept Go.ChangeMaps

theorem keyed3 : Maps.Keyed Try.prog 3 := Maps.int_keyed (q := .i64) (by kernel_rfl)
def IKey (k : Int) : Prop := -9223372036854775808 ≤ k ∧ k ≤ 9223372036854775807
theorem IKey.key {k : Int} (h : IKey k) : keyOf Try.prog 3 (.int .i64 k) = some (.int .i64 k) := by
  refine Maps.keyOf_int_mk (by kernel_rfl) ?_
  have e1 : IntKind.i64.min = -9223372036854775808 := by decide
  have e2 : IntKind.i64.max = 9223372036854775807 := by decide
  simpa [IKey, Lit.wf, e1, e2] using h

abbrev iK (k : Int) : Value := .int .i64 k
def upd {α : Type} (f : Int → α) (k : Int) (v : α) : Int → α := fun x => if x = k then v else f x
theorem upd_same {α : Type} (f : Int → α) (k : Int) (v : α) : upd f k v k = v := by simp [upd]
theorem upd_ne {α : Type} {f : Int → α} {k x : Int} {v : α} (h : x ≠ k) : upd f k v x = f x := by simp [upd, h]

/-- The entries of a map that is f, where it is not z. -/
structure EntsOk (es : Array MapEntry) (clock : Nat) (z : Value) (f : Int → Value) : Prop where
  st : Stamped es clock
  val : ∀ e ∈ es.toList, ∃ k, IKey k ∧ e.key = iK k ∧ e.val = f k ∧ f k ≠ z
  all : ∀ k, f k ≠ z → ∃ e ∈ es.toList, e.key = iK k
def MapF (w : World) (b : Nat) (z : Value) (f : Int → Value) : Prop := ∃ es clock, w.heap[b]? = some (.map es clock) ∧ EntsOk es clock z f

theorem MapF.lt {w : World} {b : Nat} {z : Value} {f : Int → Value} (h : MapF w b z f) : b < w.heap.size := let ⟨_, _, h1, _⟩ := h; block_lt h1
theorem MapF.chg {S : Nat → Prop} {w w' : World} {b : Nat} {z : Value} {f : Int → Value} (h : MapF w b z f) (hc : Chg S w w') (hs : ¬ S b) : MapF w' b z f :=
  let ⟨es, c, h1, h2⟩ := h; ⟨es, c, hc.at h1 hs, h2⟩
theorem MapF.kp {w w' : World} {b : Nat} {z : Value} {f : Int → Value} (h : MapF w b z f) (hk : Kp w w') : MapF w' b z f :=
  let ⟨es, c, h1, h2⟩ := h; ⟨es, c, block_below h1 hk, h2⟩
theorem map_new (w : World) (z : Value) : MapF (w.alloc (.map #[] 0)) w.heap.size z (fun _ => z) := ⟨#[], 0, heap_alloc_new w _, ⟨stamped_empty 0, by simp, fun k h => absurd rfl h⟩⟩

theorem EntsOk.keys {es : Array MapEntry} {clock : Nat} {z : Value} {f : Int → Value} (h : EntsOk es clock z f) : ∀ e ∈ es.toList, ∃ l, keyOf Try.prog 3 e.key = some l := fun e he => by
  obtain ⟨k, hk, e1, _, _⟩ := h.val e he
  rw [e1]; exact ⟨_, hk.key⟩
theorem iK_inj {a b : Int} (h : iK a = iK b) : a = b := by injection h

section
variable {t e : TypeId} {z : Value} (ht : Try.prog.underlying t = some (.map 3 e)) (hz : ∀ w, (zeroValue e).run Try.prog w = .ok z w)
include ht hz

set_option maxRecDepth 100000 in
theorem run_lkF {w : World} {b : Nat} {f : Int → Value} {k : Int} (h : MapF w b z f) (hk : IKey k) : (lkS t (.map (some b)) (iK k) false).run Try.prog w = .ok (.value (f k)) w := by
  obtain ⟨es, c, hb, hes⟩ := h
  rcases keyed3.find w hk.key es.toList hes.keys with ⟨g1, g2⟩ | ⟨j, e0, g1, g2, g3⟩
  · have hfz : f k = z := by
      refine Classical.byContradiction fun hne => ?_
      obtain ⟨e0, he, hek⟩ := hes.all k hne
      exact g2 e0 he hek
    simp [lkS, Instr.lookup, run_underlying ht, MapKept.run_getObj_map hb, keyed3.check w _ hk.key, g1, hz, hfz, Result.andThen]
  · obtain ⟨k', _, e1, e2, _⟩ := hes.val e0 (List.mem_of_getElem? g2)
    have : k' = k := iK_inj (e1.symm.trans g3)
    subst this
    simp [lkS, Instr.lookup, run_underlying ht, MapKept.run_getObj_map hb, keyed3.check w _ hk.key, g1, e2, Result.andThen]
theorem r_lkF {w : World} {b : Nat} {f : Int → Value} {k : Int} {K : Value → World → Prop} (h : MapF w b z f) (hk : IKey k) : semW Try.prog (lkS t (.map (some b)) (iK k) false) w K = K (f k) w := by
  have := run_lkF ht hz h hk
  simp only [semW, this]
theorem r_lkG {w : World} {b : Nat} {f : Int → Value} {k : Int} {K : Value → Prop} (h : MapF w b z f) (hk : IKey k) (hK : K (f k)) : genQ Try.prog w (lkS t (.map (some b)) (iK k) false) K :=
  ⟨f k, fun w' hw => run_lkF ht hz (h.kp hw) hk, hK⟩

set_option maxRecDepth 100000 in
theorem r_muF {w : World} {b : Nat} {f : Int → Value} {k : Int} {v : Value} {K : Value → World → Prop} (h : MapF w b z f) (hk : IKey k) (hv : v ≠ z)
    (hK : ∀ w', MapF w' b z (upd f k v) → Chg (fun i => i = b) w w' → w'.heap.size = w.heap.size → K undef w') : semW Try.prog (muS t (.map (some b)) (iK k) v) w K := by
  obtain ⟨es, c, hb, hes⟩ := h
  have hset : ∀ o : Obj, Chg (fun k => k = b) w { w with heap := w.heap.setIfInBounds b o } ∧ ({ w with heap := w.heap.setIfInBounds b o } : World).heap.size = w.heap.size ∧ ({ w with heap := w.heap.setIfInBounds b o } : World).heap[b]? = some o := fun o =>
    ⟨⟨rfl, rfl, rfl, by simp, fun i _ hn => by simp [Array.getElem?_setIfInBounds_ne (Ne.symm hn)]⟩, by simp, by simp [Array.getElem?_setIfInBounds_self_of_lt (block_lt hb)]⟩
  rcases keyed3.find w hk.key es.toList hes.keys with ⟨g1, g2⟩ | ⟨j, e0, g1, g2, g3⟩
  · obtain ⟨s1, s2, s3⟩ := hset (.map (es.push ⟨iK k, v, c⟩) (c + 1))
    refine semW_of_skip (by simp [muS, Instr.mapUpdate, run_underlying ht, MapKept.run_getObj_map hb, keyed3.check w _ hk.key, g1, MapKept.run_setObj_map _ hb, Result.andThen]) (hK _ ⟨_, _, s3, ⟨stamped_push hes.st g2, fun e he => ?_, fun k' hk' => ?_⟩⟩ s1 s2)
    · simp only [Array.toList_push, List.mem_append, List.mem_singleton] at he
      rcases he with he | rfl
      · obtain ⟨k', h1, h2, h3, h4⟩ := hes.val e he
        have hne : k' ≠ k := fun e' => g2 e he (by rw [h2, e'])
        exact ⟨k', h1, h2, by rw [upd_ne hne]; exact h3, by rw [upd_ne hne]; exact h4⟩
      · exact ⟨k, hk, rfl, (upd_same f k v).symm, by rw [upd_same]; exact hv⟩
    · by_cases hkk : k' = k
      · subst hkk
        exact ⟨⟨iK k', v, c⟩, by simp, rfl⟩
      · rw [upd_ne hkk] at hk'
        obtain ⟨e0, he, hek⟩ := hes.all k' hk'
        exact ⟨e0, by simp only [Array.toList_push, List.mem_append]; exact .inl he, hek⟩
  · have hj : es[j]? = some e0 := by simpa using g2
    obtain ⟨s1, s2, s3⟩ := hset (.map (es.modify j fun e => { e with key := iK k, val := v }) c)
    have hmem : ∀ i (hi : i < es.toList.length), ∃ e', (es.modify j fun e => { e with key := iK k, val := v }).toList[i]? = some e' ∧ e'.key = es.toList[i].key ∧ e'.val = if i = j then v else es.toList[i].val := fun i hi => by
      rw [Array.toList_modify, List.getElem?_modify, List.getElem?_eq_getElem hi]
      by_cases hij : j = i
      · subst hij
        refine ⟨_, by simp; rfl, ?_, by simp⟩
        have : es.toList[j] = e0 := (List.getElem?_eq_some_iff.1 g2).2
        simp only [this]
        exact g3.symm
      · refine ⟨es.toList[i], by simp [hij], rfl, by simp [Ne.symm hij]⟩
    refine semW_of_skip (by simp [muS, Instr.mapUpdate, run_underlying ht, MapKept.run_getObj_map hb, keyed3.check w _ hk.key, g1, hj, g3, keyed3.stays w hk.key, MapKept.run_setObj_map _ hb, Result.andThen]) (hK _ ⟨_, _, s3, ⟨?_, fun e he => ?_, fun k' hk' => ?_⟩⟩ s1 s2)
    · refine stamped_modify hes.st j _ (fun _ _ => rfl) fun e _ he => ?_
      have : e = e0 := Option.some.inj (he.symm.trans hj)
      rw [this]; exact g3.symm
    · obtain ⟨i, hi, ex⟩ := List.getElem_of_mem he
      have hi' : i < es.toList.length := by rw [Array.toList_modify, List.length_modify] at hi; exact hi
      obtain ⟨e', q1, q2, q3⟩ := hmem i hi'
      rw [List.getElem?_eq_getElem hi, ex] at q1
      cases q1
      obtain ⟨k', h1, h2, h3, h4⟩ := hes.val es.toList[i] (List.getElem_mem hi')
      by_cases hij : i = j
      · subst hij
        have : es.toList[i] = e0 := (List.getElem?_eq_some_iff.1 g2).2
        rw [if_pos rfl] at q3
        refine ⟨k, hk, by rw [q2, this]; exact g3, by rw [upd_same]; exact q3, by rw [upd_same]; exact hv⟩
      · rw [if_neg hij] at q3
        have hne : k' ≠ k := fun e' => by
          have hp := ((stamped_iff es c).1 hes.st).2.2
          have hjl : j < es.toList.length := (List.getElem?_eq_some_iff.1 g2).1
          have hej : es.toList[j] = e0 := (List.getElem?_eq_some_iff.1 g2).2
          rw [List.pairwise_iff_getElem] at hp
          rcases Nat.lt_or_gt_of_ne hij with hlt | hlt
          · exact hp i j hi' hjl hlt (by rw [h2, hej, g3, e'])
          · exact hp j i hjl hi' hlt (by rw [h2, hej, g3, e'])
        exact ⟨k', h1, by rw [q2, h2], by rw [upd_ne hne, q3, h3], by rw [upd_ne hne]; exact h4⟩
    · have hex : ∃ e1 ∈ es.toList, e1.key = iK k' := by
        by_cases hkk : k' = k
        · subst hkk
          exact ⟨e0, List.mem_of_getElem? g2, g3⟩
        · rw [upd_ne hkk] at hk'
          exact hes.all k' hk'
      obtain ⟨e1, he1, hk1⟩ := hex
      obtain ⟨i, hi, ex⟩ := List.getElem_of_mem he1
      obtain ⟨e', q1, q2, _⟩ := hmem i hi
      exact ⟨e', List.mem_of_getElem? q1, by rw [q2, ex]; exact hk1⟩
end

/-! ### walking through -/

/-- Block r walks through the map b: what it has seen. -/
def IterF (w : World) (b r : Nat) (z : Value) (f : Int → Value) (left : Nat) (seen : Int → Prop) : Prop :=
  ∃ es clock since sn c0, w.heap[b]? = some (.map es clock) ∧ EntsOk es clock z f ∧ w.heap[r]? = some (.mapIter (some b) since sn c0) ∧ (∀ x ∈ es.toList, x.born < since) ∧ since ≤ c0 ∧ since ≤ clock ∧ (leftOf es sn).size = left ∧
    ∀ x ∈ es.toList, sn.contains x.born = true → ∀ k, x.key = iK k → seen k

theorem IterF.chg {S : Nat → Prop} {w w' : World} {b r left : Nat} {z : Value} {f : Int → Value} {seen : Int → Prop} (h : IterF w b r z f left seen) (hc : Chg S w w') (hb : ¬ S b) (hr : ¬ S r) : IterF w' b r z f left seen :=
  let ⟨es, c, s, sn, c0, h1, h2, h3, h4⟩ := h; ⟨es, c, s, sn, c0, hc.at h1 hb, h2, hc.at h3 hr, h4⟩
theorem IterF.map {w : World} {b r left : Nat} {z : Value} {f : Int → Value} {seen : Int → Prop} (h : IterF w b r z f left seen) : MapF w b z f :=
  let ⟨es, c, _, _, _, h1, h2, _⟩ := h; ⟨es, c, h1, h2⟩

set_option maxRecDepth 100000 in
theorem r_rgF {t e : TypeId} {z : Value} (ht : Try.prog.underlying t = some (.map 3 e)) {w : World} {b : Nat} {f : Int → Value} {K : Value → World → Prop} (h : MapF w b z f)
    (hK : ∀ w' left, IterF w' b w.heap.size z f left (fun _ => False) → Kp w w' → K (.pointer (some ⟨w.heap.size, 0, none⟩)) w') : semW Try.prog (rgS t (.map (some b))) w K := by
  have hlt := h.lt
  obtain ⟨es, c, hb, hes⟩ := h
  refine semW_of_run (by simp [rgS, run_range_map w t 3 e b es c ht hb]) (hK _ _ ⟨es, c, c, #[], c, block_below hb (below_alloc _), hes, heap_alloc_new w _, hes.st.1, Nat.le_refl _, Nat.le_refl _, rfl, fun x _ hx => by simp at hx⟩ (below_alloc _))

set_option maxRecDepth 100000 in
/-- The next entry, or none is left. -/
theorem r_nxF {ty : TypeId} {w : World} {b r left : Nat} {z : Value} {f : Int → Value} {seen : Int → Prop} {K : Value → World → Prop} (h : IterF w b r z f left seen)
    (h0 : (∀ k, f k ≠ z → seen k) → K (.tuple #[.bool false]) w)
    (h1 : ∀ k w' left', IKey k → f k ≠ z → left' < left → IterF w' b r z f left' (fun x => seen x ∨ x = k) → Chg (fun i => i = r) w w' → w'.heap.size = w.heap.size →
      (∀ K' : Value → World → Prop, semW Try.prog (enS (.pointer (some ⟨r, 0, none⟩))) w' K' = K' (.tuple #[iK k, f k]) w') → K (.tuple #[.bool true, iK k, f k]) w') :
    semW Try.prog (nxS (.pointer (some ⟨r, 0, none⟩)) false ty) w K := by
  obtain ⟨es, clock, since, sn, c0, hb, hes, hr, hold, hsc, hsk, hl, hseen⟩ := h
  have hne : b ≠ r := fun e => by rw [e, hr] at hb; cases hb
  rcases run_next_at (P := Try.prog) w ty r b since c0 sn es clock hr hb hold hsc with ⟨hz0, hrun⟩ | ⟨e, he, w1, hal, hrun⟩
  · refine semW_of_run (by simp [nxS, hrun]) (h0 fun k hk => ?_)
    obtain ⟨x, hx, hxk⟩ := hes.all k hk
    exact hseen x hx (all_seen es sn hz0 x hx) k hxk
  · obtain ⟨hem, hes'⟩ := mem_left he
    obtain ⟨k, hk, ek, ev, hkz⟩ := hes.val e hem
    have hr1 : w1.heap[r]? = some (.mapIter (some b) since sn c0) := by rcases hal with rfl | rfl <;> exact hr
    have hb1 : w1.heap[b]? = some (.map es clock) := by rcases hal with rfl | rfl <;> exact hb
    have hset := heap_set (o' := .mapIter (some b) since (sn.push e.born) clock) hr1
    have hb' : (setBlock w1 r (.mapIter (some b) since (sn.push e.born) clock)).heap[b]? = some (.map es clock) := (hset.2 b (fun e1 => hne e1)).trans hb1
    rw [ek, ev] at hrun
    have hst := (stamped_iff es clock).1 hes.st
    refine semW_of_run (by simp [nxS, hrun]) (h1 k _ _ hk hkz (by rw [← hl]; exact left_shrinks es sn e he) ⟨es, clock, since, sn.push e.born, clock, hb', hes, hset.1, hold, hsk, hsk, rfl, fun x hx hxs k' hk' => ?_⟩ ?_ ?_ fun K' => ?_)
    · rw [contains_push] at hxs
      cases hc : sn.contains x.born with
      | true => exact .inl (hseen x hx hc k' hk')
      | false =>
        rw [hc, Bool.false_or] at hxs
        have hbe : x.born = e.born := by simpa using hxs
        have : x = e := born_inj hst.2.1 hx hem hbe
        subst this
        exact .inr (iK_inj (hk'.symm.trans ek))
    · rcases hal with rfl | rfl <;> exact ⟨rfl, rfl, rfl, by simp [setBlock], fun i _ hi => hset.2 i (fun e1 => hi e1)⟩
    · rcases hal with rfl | rfl <;> simp [setBlock]
    · have hen := run_entry_at (P := Try.prog) _ r b since sn es clock e hset.1 hb' hem hst.2.1
      rw [ek, ev] at hen
      simp [semW, enS, hen]

/-- How many entries are left to walk through. -/
def leftW (w : World) (b r : Nat) : Nat := match w.heap[b]?, w.heap[r]? with
  | some (.map es _), some (.mapIter _ _ sn _) => (leftOf es sn).size
  | _, _ => 0
theorem IterF.left {w : World} {b r left : Nat} {z : Value} {f : Int → Value} {seen : Int → Prop} (h : IterF w b r z f left seen) : leftW w b r = left := by
  obtain ⟨es, c, s, sn, c0, h1, _, h3, _, _, _, h4, _⟩ := h
  simp only [leftW, h1, h3]
  exact h4

/-- What a look into a map gives while blocks of X turn. -/
theorem r_txG {X : Nat → Prop} {t e : TypeId} {z : Value} (ht : Try.prog.underlying t = some (.map 3 e)) (hz : ∀ w, (zeroValue e).run Try.prog w = .ok z w) {w : World} {b : Nat} {f : Int → Value} {k : Int} {K : Value → Prop} (h : MapF w b z f) (hk : IKey k) (hx : ¬ X b) (hK : K (f k)) :
    takeX X w (fun w k' => genQ Try.prog w (lkS t (.map (some b)) (iK k) false) k') K :=
  ⟨f k, fun w' hw => r_lkG ht hz (let ⟨es, c, h1, h2⟩ := h; ⟨es, c, hw.at h1 hx, h2⟩) hk rfl, hK⟩

end Go.Proofs.Ytgalbokmgffhkaa
