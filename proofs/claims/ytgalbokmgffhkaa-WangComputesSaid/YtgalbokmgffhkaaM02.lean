/- Texts of my own, merged by program: Rules Base Heap. -/
import Derived.Test.YtgalbokmgffhkaaM01
import Derived.Test.YtgalbokmgffhkaaRows
import Derived.WalkKit
import Derived.WalkSpells
import Derived.WalkLawsBesides
import Derived.Deep.QuietTactic
import Derived.BigQuiet
import Derived.Deep.DeepFit
import Derived.KernelRfl
set_option linter.all false
/- Rules by which a lifted text is worked off. -/
namespace Go.Lf
open Go.RowKit

section
variable {P : Program} {w : World} {K : Value → Prop} {KW : Value → World → Prop}

theorem r_ln (a : Option Addr) (n c : Nat) : ln1 (.slice a n c) K = K (.int .i64 n) := rfl
theorem r_pick (b : Bool) (x y : Value) : pickQ (.bool b) x y K = K (if b = true then x else y) := rfl
theorem r_pickT (x y : Value) : pickQ (.bool true) x y K = K x := rfl
theorem r_pickF (x y : Value) : pickQ (.bool false) x y K = K y := by simp [pickQ]
theorem r_cond (b : Bool) (x y : Prop) : condW (.bool b) x y = if b = true then x else y := rfl
theorem r_condT (x y : Prop) : condW (.bool true) x y = x := rfl
theorem r_condF (x y : Prop) : condW (.bool false) x y = y := by simp [condW]
theorem r_gd (b want : Bool) (run : (Value → World → Prop) → Prop) : gd (.bool b) want run w KW = if b = want then run KW else KW undef w := rfl
theorem r_gdQ (b want : Bool) (run : (Value → Prop) → Prop) : gdQ (.bool b) want run K = if b = want then run K else K undef := rfl
theorem r_gdTT (run : (Value → World → Prop) → Prop) : gd (.bool true) true run w KW = run KW := rfl
theorem r_gdFF (run : (Value → World → Prop) → Prop) : gd (.bool false) false run w KW = run KW := rfl
theorem r_gdTF (run : (Value → World → Prop) → Prop) : gd (.bool true) false run w KW = KW undef w := by simp [gd]
theorem r_gdFT (run : (Value → World → Prop) → Prop) : gd (.bool false) true run w KW = KW undef w := by simp [gd]
theorem r_gqTT (run : (Value → Prop) → Prop) : gdQ (.bool true) true run K = run K := rfl
theorem r_gqFF (run : (Value → Prop) → Prop) : gdQ (.bool false) false run K = run K := rfl
theorem r_gqTF (run : (Value → Prop) → Prop) : gdQ (.bool true) false run K = K undef := by simp [gdQ]
theorem r_gqFT (run : (Value → Prop) → Prop) : gdQ (.bool false) true run K = K undef := by simp [gdQ]
theorem r_not (b : Bool) : unQ .not (.bool b) K = K (.bool (!b)) := rfl
theorem r_neg (x : Int) (h0 : -9223372036854775807 ≤ x) (h1 : x ≤ 9223372036854775807) : unQ .neg (.int .i64 x) K = K (.int .i64 (-x)) := by
  show K _ = _
  rw [IntWalk.i64_in _ (by omega)]
  simp

theorem r_bin {op : BinOp} {t : TypeId} {lit : Bool} {k : IntKind} {x y : Int} {v : Value} (h : intBin op k x y = some v) : binQ P w op t lit (.int k x) (.int k y) K = K v := by
  simp [binQ, h]
theorem r_lss {t : TypeId} {lit : Bool} {k : IntKind} (x y : Int) : binQ P w .lss t lit (.int k x) (.int k y) K = K (.bool (decide (x < y))) := r_bin rfl
theorem r_leq {t : TypeId} {lit : Bool} {k : IntKind} (x y : Int) : binQ P w .leq t lit (.int k x) (.int k y) K = K (.bool (decide (x ≤ y))) := r_bin rfl
theorem r_gtr {t : TypeId} {lit : Bool} {k : IntKind} (x y : Int) : binQ P w .gtr t lit (.int k x) (.int k y) K = K (.bool (decide (y < x))) := r_bin rfl
theorem r_geq {t : TypeId} {lit : Bool} {k : IntKind} (x y : Int) : binQ P w .geq t lit (.int k x) (.int k y) K = K (.bool (decide (y ≤ x))) := r_bin rfl
theorem r_eql {t : TypeId} {lit : Bool} {k : IntKind} (x y : Int) : binQ P w .eql t lit (.int k x) (.int k y) K = K (.bool (decide (x = y))) := r_bin rfl
theorem r_neq {t : TypeId} {lit : Bool} {k : IntKind} (x y : Int) : binQ P w .neq t lit (.int k x) (.int k y) K = K (.bool (!decide (x = y))) := r_bin rfl
theorem r_add {t : TypeId} {lit : Bool} (x y : Int) (h0 : -9223372036854775808 ≤ x + y) (h1 : x + y ≤ 9223372036854775807) : binQ P w .add t lit (.int .i64 x) (.int .i64 y) K = K (.int .i64 (x + y)) := by
  rw [r_bin (v := .int .i64 (IntKind.i64.wrap (x + y))) rfl, IntWalk.i64_in _ (by omega)]
theorem r_sub {t : TypeId} {lit : Bool} (x y : Int) (h0 : -9223372036854775808 ≤ x - y) (h1 : x - y ≤ 9223372036854775807) : binQ P w .sub t lit (.int .i64 x) (.int .i64 y) K = K (.int .i64 (x - y)) := by
  rw [r_bin (v := .int .i64 (IntKind.i64.wrap (x - y))) rfl, IntWalk.i64_in _ (by omega)]
theorem r_mul {t : TypeId} {lit : Bool} (x y : Int) (h0 : -9223372036854775808 ≤ x * y) (h1 : x * y ≤ 9223372036854775807) : binQ P w .mul t lit (.int .i64 x) (.int .i64 y) K = K (.int .i64 (x * y)) := by
  rw [r_bin (v := .int .i64 (IntKind.i64.wrap (x * y))) rfl, IntWalk.i64_in _ (by omega)]
theorem r_quo {t : TypeId} {lit : Bool} (x y : Int) (h0 : 0 ≤ x) (h1 : 0 < y) (h2 : x ≤ 9223372036854775807) : binQ P w .quo t lit (.int .i64 x) (.int .i64 y) K = K (.int .i64 (x / y)) := by
  have hy : y ≠ 0 := by omega
  have e : x.tdiv y = x / y := Int.tdiv_eq_ediv_of_nonneg h0
  have hle : x / y ≤ x := Int.ediv_le_self _ h0
  have hge : 0 ≤ x / y := Int.ediv_nonneg h0 (by omega)
  rw [r_bin (v := .int .i64 (IntKind.i64.wrap (x.tdiv y))) (by simp [intBin, hy]), e, IntWalk.i64_in _ (by omega)]
theorem r_rem {t : TypeId} {lit : Bool} {k : IntKind} (x y : Int) (h0 : 0 ≤ x) (h1 : 0 < y) : binQ P w .rem t lit (.int k x) (.int k y) K = K (.int k (x % y)) := by
  have hy : y ≠ 0 := by omega
  have e : x.tmod y = x % y := Int.tmod_eq_emod_of_nonneg h0
  rw [r_bin (v := .int k (x.tmod y)) (by simp [intBin, hy]), e]

theorem r_quoN {t : TypeId} {lit : Bool} (x y : Nat) (h1 : 0 < y) (h2 : x ≤ 9223372036854775807) : binQ P w .quo t lit (.int .i64 x) (.int .i64 y) K = K (.int .i64 ((x / y : Nat) : Int)) := by
  rw [r_quo (x : Int) (y : Int) (by omega) (by omega) (by omega)]; rfl
theorem r_remN {t : TypeId} {lit : Bool} {k : IntKind} (x y : Nat) (h1 : 0 < y) : binQ P w .rem t lit (.int k x) (.int k y) K = K (.int k ((x % y : Nat) : Int)) := by
  rw [r_rem (x : Int) (y : Int) (by omega) (by omega)]; rfl
theorem r_mulN {t : TypeId} {lit : Bool} (x y : Nat) (h : x * y ≤ 9223372036854775807) : binQ P w .mul t lit (.int .i64 x) (.int .i64 y) K = K (.int .i64 ((x * y : Nat) : Int)) := by
  have e : ((x * y : Nat) : Int) = (x : Int) * y := by simp
  rw [r_mul _ _ (by rw [← e]; omega) (by rw [← e]; omega), e]

theorem r_min2 (k : IntKind) (x y : Int) : mnQ false [.int k x, .int k y] K = K (.int k (min x y)) := by
  simp only [mnQ, allInts, if_true, Option.map_some, List.foldl_cons, List.foldl_nil, Bool.false_eq_true, if_false]
  congr 2
  rw [Int.min_def]; split <;> split <;> omega
theorem r_max2 (k : IntKind) (x y : Int) : mnQ true [.int k x, .int k y] K = K (.int k (max x y)) := by
  simp only [mnQ, allInts, if_true, Option.map_some, List.foldl_cons, List.foldl_nil]
  congr 2
  rw [Int.max_def]; split <;> split <;> omega
theorem r_min3 (k : IntKind) (x y z : Int) : mnQ false [.int k x, .int k y, .int k z] K = K (.int k (min (min x y) z)) := by
  simp only [mnQ, allInts, if_true, Option.map_some, List.foldl_cons, List.foldl_nil, Bool.false_eq_true, if_false]
  congr 2
  simp only [Int.min_def]; repeat' split
  all_goals omega
theorem r_max3 (k : IntKind) (x y z : Int) : mnQ true [.int k x, .int k y, .int k z] K = K (.int k (max (max x y) z)) := by
  simp only [mnQ, allInts, if_true, Option.map_some, List.foldl_cons, List.foldl_nil]
  congr 2
  simp only [Int.max_def]; repeat' split
  all_goals omega

theorem add_zero' (b o : Nat) : (⟨b, o, none⟩ : Addr).add 0 = ⟨b, o, none⟩ := rfl
theorem r_addr (b o n : Nat) : (⟨b, o, none⟩ : Addr).add n = ⟨b, o + n, none⟩ := by
  unfold Addr.add; split <;> simp_all
theorem r_fa (b o n : Nat) : fa1 (.pointer (some ⟨b, o, none⟩)) n K = K (.pointer (some ⟨b, o + n, none⟩)) := by
  show K _ = _; rw [r_addr]
theorem r_ld {a : Addr} {v : Value} (h : w.cell? a = some v) : ld1 w (.pointer (some a)) K = K v := by simp [ld1, h]
theorem r_ld' (a : Addr) : ld1 w (.pointer (some a)) K = (match w.cell? a with | some v => K v | none => False) := rfl
theorem r_iaS (sz b o n c : Nat) (k : IntKind) (i : Int) (h0 : 0 ≤ i) (h1 : i < n) : iaS sz (.slice (some ⟨b, o, none⟩) n c) (.int k i) K = K (.pointer (some ⟨b, o + i.toNat * sz, none⟩)) := by
  show (_ ∧ _ ∧ K _) = _; rw [r_addr]; simp [h0, h1]
theorem r_iaA (len sz b o : Nat) (k : IntKind) (i : Int) (h0 : 0 ≤ i) (h1 : i < len) : iaA len sz (.pointer (some ⟨b, o, none⟩)) (.int k i) K = K (.pointer (some ⟨b, o + i.toNat * sz, none⟩)) := by
  show (_ ∧ _ ∧ K _) = _; rw [r_addr]; simp [h0, h1]
theorem toNat_sub1 (j : Nat) : ((j : Int) - 1).toNat = j - 1 := by omega
theorem toNat_add1 (j : Nat) : ((j : Int) + 1).toNat = j + 1 := by omega
theorem r_exQ (vs : Array Value) (i : Nat) (v : Value) (h : vs[i]? = some v) : exQ (.tuple vs) i K = K v := by simp [exQ, h]
theorem r_ex2a (x y : Value) : exQ (.tuple #[x, y]) 0 K = K x := rfl
theorem r_ex2b (x y : Value) : exQ (.tuple #[x, y]) 1 K = K y := rfl
theorem r_ex3a (x y z : Value) : exQ (.tuple #[x, y, z]) 0 K = K x := rfl
theorem r_ex3b (x y z : Value) : exQ (.tuple #[x, y, z]) 1 K = K y := rfl
theorem r_ex3c (x y z : Value) : exQ (.tuple #[x, y, z]) 2 K = K z := rfl
theorem r_cv (k k' : IntKind) (n : Int) : cv1 k (.int k' n) K = K (.int k (k.wrap n)) := rfl
theorem r_nc (a : Addr) : ncQ (.pointer (some a)) K = K (.pointer (some a)) := rfl

theorem cellsAt_row {b : Nat} {cs : Array Value} {t : TypeId} {fr : Nat × Nat} (h : w.heap[b]? = some (.cells cs t fr)) : ∀ (n o i : Nat), o + i + n ≤ cs.size → cellsAt w ⟨b, o, none⟩ n i = some ((cs.toList.drop (o + i)).take n)
  | 0, o, i, _ => by simp [cellsAt]
  | n + 1, o, i, hn => by
    have hlt : o + i < cs.size := by omega
    have ih := cellsAt_row h n o (i + 1) (by omega)
    have hc : w.cell? ⟨b, o + i, none⟩ = some cs[o + i] := by simp [World.cell?, h, hlt]
    simp only [cellsAt, r_addr, hc]
    rw [ih]
    have : cs.toList.drop (o + i) = cs[o + i] :: cs.toList.drop (o + i + 1) := by
      rw [List.drop_eq_getElem_cons (by simpa using hlt)]; simp
    simp [this, List.take_succ_cons, Nat.add_assoc]

theorem r_ldRow {b n : Nat} {cs : Array Value} {t : TypeId} {fr : Nat × Nat} (h : w.heap[b]? = some (.cells cs t fr)) (hn : cs.size = n) : ldN n w (.pointer (some ⟨b, 0, none⟩)) K = K (.agg cs) := by
  have := cellsAt_row h n 0 0 (by omega)
  simp only [ldN, this]
  subst hn
  have e : List.take cs.size (List.drop (0 + 0) cs.toList) = cs.toList := by simp [List.take_of_length_le]
  rw [e]

theorem cell_row {b o : Nat} {cs : Array Value} {t : TypeId} {fr : Nat × Nat} (h : w.heap[b]? = some (.cells cs t fr)) : w.cell? ⟨b, o, none⟩ = cs[o]? := by simp [World.cell?, h]
theorem frozen_row {b o : Nat} {cs : Array Value} {t : TypeId} (h : w.heap[b]? = some (.cells cs t (0, 0))) : w.frozen? ⟨b, o, none⟩ = false := by simp [World.frozen?, h]

theorem block_below {w' : World} {b : Nat} {o : Obj} (h : w.heap[b]? = some o) (hb : Below w.heap.size w w') : w'.heap[b]? = some o := by
  rw [hb.block b (Array.getElem?_eq_some_iff.1 h).1]; exact h
theorem block_lt {b : Nat} {o : Obj} (h : w.heap[b]? = some o) : b < w.heap.size := (Array.getElem?_eq_some_iff.1 h).1

theorem below_alloc (o : Obj) : Below w.heap.size w (w.alloc o) := (Below.refl _ _).alloc (Nat.le_refl _) o

/-- A new block: its number, what it holds, that nothing else has turned. -/
theorem r_box {t : TypeId} {v : Value} (h : ∀ (b : Nat) (w' : World), b = w.heap.size → w'.heap.size = b + 1 → w'.heap[b]? = some (.cells v.cells t (0, 0)) → Below w.heap.size w w' → KW (.pointer (some ⟨b, 0, none⟩)) w') : boxW t v w KW :=
  h _ _ rfl (by show (w.heap.push _).size = _; simp) (heap_alloc_new w _) (below_alloc _)

theorem r_drew {KD : World → Prop} (h : ∀ w', Below w.heap.size w w' → w'.heap = w.heap → KD w') : Drew w KD := h _ (Below.refl _ _).drew rfl

theorem r_call {f : FuncId} {first cap : Array Value} {args : List Value} (hok : fnOk P f = true) (h : Calls P f (first ++ args.toArray ++ cap) w fun e w' => ∃ v, e = .returned v ∧ KW v w') :
    callW P (.func (.func f) first cap) args w KW := ⟨hok, h⟩

/-- A call by its contract. -/
theorem r_use {f : FuncId} {first cap : Array Value} {args : List Value} {args' : Array Value} {R : Ending → World → Prop} (hok : fnOk P f = true) (hc : Calls P f args' w R) (ha : args' = first ++ args.toArray ++ cap)
    (hk : ∀ e w', R e w' → ∃ v, e = .returned v ∧ KW v w') : callW P (.func (.func f) first cap) args w KW := ⟨hok, ha ▸ hc.mono hk⟩

theorem r_keepE (v : Value) (w' : World) : keepB w KW v w' = (Below w.heap.size w w' ∧ KW v w') := rfl
theorem r_keep {v : Value} {w' : World} (h : Below w.heap.size w w') (hk : KW v w') : keepB w KW v w' := ⟨h, hk⟩

theorem r_join0 {F : (World → Prop) → Prop} {k : World → Prop} (J : World → Prop) (hk : ∀ w, J w → k w) (hF : ∀ k' : World → Prop, (∀ w, J w → k' w) → F k') : Join F k := hF k hk
theorem r_join1 {F : (Value → World → Prop) → Prop} {k : Value → World → Prop} (J : Value → World → Prop) (hk : ∀ a w, J a w → k a w) (hF : ∀ k' : Value → World → Prop, (∀ a w, J a w → k' a w) → F k') : Join F k := hF k hk
theorem r_join2 {F : (Value → Value → World → Prop) → Prop} {k : Value → Value → World → Prop} (J : Value → Value → World → Prop) (hk : ∀ a b w, J a b w → k a b w) (hF : ∀ k' : Value → Value → World → Prop, (∀ a b w, J a b w → k' a b w) → F k') : Join F k := hF k hk
theorem r_join3 {F : (Value → Value → Value → World → Prop) → Prop} {k : Value → Value → Value → World → Prop} (J : Value → Value → Value → World → Prop) (hk : ∀ a b c w, J a b c w → k a b c w) (hF : ∀ k' : Value → Value → Value → World → Prop, (∀ a b c w, J a b c w → k' a b c w) → F k') : Join F k := hF k hk

theorem box3 {b : Nat} {x y z : Value} {t : TypeId} {fr : Nat × Nat} (h : w.heap[b]? = some (.cells #[x, y, z] t fr)) :
    w.cell? ⟨b, 0, none⟩ = some x ∧ w.cell? ⟨b, 1, none⟩ = some y ∧ w.cell? ⟨b, 2, none⟩ = some z := ⟨by simp [cell_row h], by simp [cell_row h], by simp [cell_row h]⟩

theorem setCell_block {w' : World} {b o : Nat} {cs : Array Value} {t : TypeId} {v : Value} (h : w.heap[b]? = some (.cells cs t (0, 0))) (e : w' = w.setCell ⟨b, o, none⟩ v) : w'.heap[b]? = some (.cells (cs.setIfInBounds o v) t (0, 0)) := by
  subst e
  simp only [World.setCell, Array.getElem?_modify, if_true, h, Option.map_some, Option.isSome_none, Bool.false_eq_true, if_false]

theorem r_keepXE (X : Nat → Prop) (v : Value) (w' : World) : keepX X w KW v w' = (BX X w w' ∧ KW v w') := rfl
theorem r_keepWE (X : Nat → Prop) (k : World → Prop) (w' : World) : keepW X w k w' = (BX X w w' ∧ k w') := rfl
theorem BX.of_below {X : Nat → Prop} {w' : World} (h : Below w.heap.size w w') : BX X w w' := ⟨h.os, h.tape, h.output, h.size, fun i hi _ => h.block i hi⟩
theorem r_tx {X : Nat → Prop} (v : Value) : takeX X w (fun _ k => k v) K = K v :=
  propext ⟨fun ⟨_, h, hk⟩ => (h w (BX.refl _ _)) ▸ hk, fun hk => ⟨v, fun _ _ => rfl, hk⟩⟩
theorem BX.cell {X : Nat → Prop} {w' : World} (h : BX X w w') {a : Addr} {v : Value} (hc : w.cell? a = some v) (hx : ¬ X a.block) : w'.cell? a = some v :=
  (World.cell?_of_block (h.block a.block (World.block_lt_of_cell? w a hc) hx)).trans hc
theorem BX.at {X : Nat → Prop} {w' : World} (h : BX X w w') {b : Nat} {o : Obj} (hc : w.heap[b]? = some o) (hx : ¬ X b) : w'.heap[b]? = some o := (h.block b (block_lt hc) hx).trans hc
theorem r_txl {X : Nat → Prop} {a : Addr} {v : Value} (h : w.cell? a = some v) (hx : ¬ X a.block) : takeX X w (fun w k => ld1 w (.pointer (some a)) k) K = K v :=
  propext ⟨fun ⟨u, hu, hk⟩ => (by have := hu w (BX.refl _ _); dsimp only at this; rw [r_ld h] at this; exact this ▸ hk), fun hk => ⟨v, fun w' hw' => by dsimp only; rw [r_ld (hw'.cell h hx)], hk⟩⟩
theorem r_txn {X : Nat → Prop} {b n : Nat} {cs : Array Value} {t : TypeId} {fr : Nat × Nat} (h : w.heap[b]? = some (.cells cs t fr)) (hn : cs.size = n) (hx : ¬ X b) : takeX X w (fun w k => ldN n w (.pointer (some ⟨b, 0, none⟩)) k) K = K (.agg cs) :=
  propext ⟨fun ⟨u, hu, hk⟩ => (by have := hu w (BX.refl _ _); dsimp only at this; rw [r_ldRow h hn] at this; exact this ▸ hk), fun hk => ⟨.agg cs, fun w' hw' => by dsimp only; rw [r_ldRow (hw'.at h hx) hn], hk⟩⟩

end
end Go.Lf

/- Words for what memory holds: lists of integers, lists of such lists, and that they stay through new blocks. -/
namespace Go.Proofs.Ytgalbokmgffhkaa
open Go.RowKit Go.Lf

theorem hid {p : Prop} (h : p) : Hid p := h
theorem ret_int {k : IntKind} {a b : Int} (h : a = b) : Ending.returned (.int k a) = .returned (.int k b) := by rw [h]
theorem ret_bool {a b : Bool} (h : a = b) : Ending.returned (.bool a) = .returned (.bool b) := by rw [h]

theorem bcell {W w1 : World} (hb : Below W.heap.size W w1) : (∀ b o, b < W.heap.size → w1.cell? ⟨b, o, none⟩ = W.cell? ⟨b, o, none⟩) ∧ (∀ b o, b < W.heap.size → w1.frozen? ⟨b, o, none⟩ = W.frozen? ⟨b, o, none⟩) :=
  ⟨fun b o h => hb.cell (p := ⟨b, o, none⟩) h, fun b o h => hb.frozen (p := ⟨b, o, none⟩) h⟩

/-- The slice v reads as the integers l. -/
def RdInts (w : World) (v : Value) (l : List Int) : Prop :=
  ∃ a cap, v = .slice a l.length cap ∧ (l.length ≤ 17592186044416 ∧ l.length ≤ cap) ∧
    (0 < l.length → ∃ b off, a = some ⟨b, off, none⟩ ∧ ∀ i, i < l.length → w.cell? ⟨b, off + i, none⟩ = some (.int .i64 (l.getD i 0)))

/-- The slice v reads as the lists h. -/
def RdRows (w : World) (v : Value) (h : List (List Int)) : Prop :=
  ∃ a cap, ∃ vs : Nat → Value, v = .slice a h.length cap ∧ h.length ≤ 17592186044416 ∧
    (0 < h.length → ∃ b off, a = some ⟨b, off, none⟩ ∧ ∀ i, i < h.length → w.cell? ⟨b, off + i, none⟩ = some (vs i)) ∧
    ∀ i, i < h.length → RdInts w (vs i) (h.getD i [])

theorem RdInts.cells {w w' : World} {v : Value} {l : List Int} (h : RdInts w v l) (hc : ∀ a x, w.cell? a = some x → w'.cell? a = some x) : RdInts w' v l := by
  obtain ⟨a, cap, rfl, hl, hh⟩ := h
  refine ⟨a, cap, rfl, hl, fun h0 => ?_⟩
  obtain ⟨b, off, rfl, hcell⟩ := hh h0
  exact ⟨b, off, rfl, fun i hi => hc _ _ (hcell i hi)⟩

theorem RdRows.cells {w w' : World} {v : Value} {h : List (List Int)} (hr : RdRows w v h) (hc : ∀ a x, w.cell? a = some x → w'.cell? a = some x) : RdRows w' v h := by
  obtain ⟨a, cap, vs, rfl, hl, hh, hrows⟩ := hr
  refine ⟨a, cap, vs, rfl, hl, fun h0 => ?_, fun i hi => (hrows i hi).cells hc⟩
  obtain ⟨b, off, rfl, hcell⟩ := hh h0
  exact ⟨b, off, rfl, fun i hi => hc _ _ (hcell i hi)⟩

theorem RdInts.below {w w' : World} {v : Value} {l : List Int} (h : RdInts w v l) (hb : Below w.heap.size w w') : RdInts w' v l :=
  h.cells fun _ _ hx => cell_later hb hx

theorem RdRows.below {w w' : World} {v : Value} {h : List (List Int)} (hr : RdRows w v h) (hb : Below w.heap.size w w') : RdRows w' v h :=
  hr.cells fun _ _ hx => cell_later hb hx

theorem take_succ' {α : Type} (l : List α) (j : Nat) (h : j < l.length) : l.take (j + 1) = l.take j ++ [l[j]] := by
  rw [List.take_succ_eq_append_getElem h]

theorem getD_lt {α : Type} (l : List α) (j : Nat) (d : α) (h : j < l.length) : l.getD j d = l[j] := by
  simp [List.getD_eq_getElem?_getD, h]

/-- w' keeps all that is there in w. -/
abbrev Kp (w w' : World) : Prop := Below w.heap.size w w'
theorem Kp.refl (w : World) : Kp w w := Below.refl _ _
theorem Kp.trans {a b c : World} (h : Kp a b) (k : Kp b c) : Kp a c := Below.trans h (Below.mono k h.size)

theorem RdInts.at {w : World} {v : Value} {l : List Int} (h : RdInts w v l) {j : Nat} (hj : j < l.length) :
    ∃ b off cap, v = .slice (some ⟨b, off, none⟩) l.length cap ∧ w.cell? ⟨b, off + j, none⟩ = some (.int .i64 (l.getD j 0)) := by
  obtain ⟨a, cap, rfl, _, hc⟩ := h
  obtain ⟨b, off, rfl, hcl⟩ := hc (by omega)
  exact ⟨b, off, cap, rfl, hcl j hj⟩
theorem RdInts.len {w : World} {v : Value} {l : List Int} (h : RdInts w v l) : ∃ a cap, v = .slice a l.length cap ∧ l.length ≤ 17592186044416 ∧ l.length ≤ cap := by
  obtain ⟨a, cap, rfl, hl, _⟩ := h
  exact ⟨a, cap, rfl, hl⟩
theorem RdRows.row {w : World} {v : Value} {h : List (List Int)} (hr : RdRows w v h) {i : Nat} (hi : i < h.length) :
    ∃ b off cap rv, v = .slice (some ⟨b, off, none⟩) h.length cap ∧ w.cell? ⟨b, off + i, none⟩ = some rv ∧ RdInts w rv (h.getD i []) := by
  obtain ⟨a, cap, vs, rfl, _, hc, hrows⟩ := hr
  obtain ⟨b, off, rfl, hcl⟩ := hc (by omega)
  exact ⟨b, off, cap, vs i, rfl, hcl i hi, hrows i hi⟩
theorem RdRows.len {w : World} {v : Value} {h : List (List Int)} (hr : RdRows w v h) : ∃ a cap, v = .slice a h.length cap ∧ h.length ≤ 17592186044416 := by
  obtain ⟨a, cap, vs, rfl, hl, _⟩ := hr
  exact ⟨a, cap, rfl, hl⟩

theorem mixes : Try.prog.follows .mixedOrders = true := by kernel_rfl

end Go.Proofs.Ytgalbokmgffhkaa

/- Heaps of cubes as lists of lists: when one is right. Plain; no program. -/
namespace Go.Hp

def validB (A B C : Int) : Bool := decide (1 ≤ A ∧ A ≤ 4 ∧ 1 ≤ B ∧ B ≤ 4 ∧ 1 ≤ C ∧ C ≤ 4)

/-- The number at row i, column j. -/
def hat (h : List (List Int)) (i j : Nat) : Int := (h.getD i []).getD j 0

/-- The greatest number that may stand at a place. -/
def mostM (C : Int) (h : List (List Int)) (i j : Nat) : Int :=
  let m := if 0 < j then min C (hat h i (j - 1)) else C
  if 0 < i then min m (hat h (i - 1) j) else m

def okAt (C : Int) (h : List (List Int)) (i j : Nat) : Bool := decide (0 ≤ hat h i j ∧ hat h i j ≤ mostM C h i j)
def rowOk (B C : Int) (h : List (List Int)) (i : Nat) : Bool := decide (((h.getD i []).length : Int) = B) && (List.range (h.getD i []).length).all (okAt C h i)
def heapOk (A B C : Int) (h : List (List Int)) : Bool := decide ((h.length : Int) = A) && (List.range h.length).all (rowOk B C h)

theorem heapOk_len {A B C : Int} {h : List (List Int)} (e : ¬ (h.length : Int) = A) : heapOk A B C h = false := by simp [heapOk, e]
theorem heapOk_row {A B C : Int} {h : List (List Int)} {i : Nat} (hi : i < h.length) (e : rowOk B C h i = false) : heapOk A B C h = false := by
  have : (List.range h.length).all (rowOk B C h) = false := by
    rw [List.all_eq_false]; exact ⟨i, by simpa using hi, by simp [e]⟩
  simp [heapOk, this]
theorem heapOk_true {A B C : Int} {h : List (List Int)} (e : (h.length : Int) = A) (hr : ∀ i, i < h.length → rowOk B C h i = true) : heapOk A B C h = true := by
  have : (List.range h.length).all (rowOk B C h) = true := by rw [List.all_eq_true]; intro i hi; exact hr i (by simpa using hi)
  simp [heapOk, e, this]
theorem rowOk_len0 {B C : Int} {h : List (List Int)} {i : Nat} (e : ¬ ((h.getD i []).length : Int) = B) : rowOk B C h i = false := by simp only [rowOk, e, decide_false, Bool.false_and]
theorem rowOk_at {B C : Int} {h : List (List Int)} {i j : Nat} (hj : j < (h.getD i []).length) (e : okAt C h i j = false) : rowOk B C h i = false := by
  have : (List.range (h.getD i []).length).all (okAt C h i) = false := by
    rw [List.all_eq_false]; exact ⟨j, by simpa using hj, by simp [e]⟩
  simp only [rowOk, this, Bool.and_false]
theorem rowOk_true {B C : Int} {h : List (List Int)} {i : Nat} (e : ((h.getD i []).length : Int) = B) (hr : ∀ j, j < (h.getD i []).length → okAt C h i j = true) : rowOk B C h i = true := by
  have : (List.range (h.getD i []).length).all (okAt C h i) = true := by rw [List.all_eq_true]; intro j hj; exact hr j (by simpa using hj)
  simp only [rowOk, e, this, decide_true, Bool.and_true]
theorem rowOk_len {B C : Int} {h : List (List Int)} {i : Nat} (e : rowOk B C h i = true) : ((h.getD i []).length : Int) = B := by
  simp only [rowOk, Bool.and_eq_true, decide_eq_true_eq] at e; exact e.1

/-- What a heap is. -/
structure IsHeap (A B C : Int) (h : List (List Int)) : Prop where
  len : (h.length : Int) = A
  row : ∀ i, i < h.length → ((h.getD i []).length : Int) = B
  pos : ∀ i j : Nat, i < h.length → (j : Int) < B → 0 ≤ hat h i j
  top : ∀ i j : Nat, i < h.length → (j : Int) < B → hat h i j ≤ C
  left : ∀ i j : Nat, i < h.length → (j : Int) + 1 < B → hat h i (j + 1) ≤ hat h i j
  up : ∀ i j : Nat, i + 1 < h.length → (j : Int) < B → hat h (i + 1) j ≤ hat h i j

theorem okAt_iff {C : Int} {h : List (List Int)} {i j : Nat} : okAt C h i j = true ↔ 0 ≤ hat h i j ∧ hat h i j ≤ C ∧ (0 < j → hat h i j ≤ hat h i (j - 1)) ∧ (0 < i → hat h i j ≤ hat h (i - 1) j) := by
  unfold okAt
  rw [decide_eq_true_eq]
  unfold mostM
  dsimp only
  constructor
  · rintro ⟨h1, h2⟩
    refine ⟨h1, ?_, fun hj => ?_, fun hi => ?_⟩ <;> (split at h2 <;> first | omega | (split at h2 <;> omega))
  · rintro ⟨h1, h2, h3, h4⟩
    refine ⟨h1, ?_⟩
    by_cases hj : 0 < j <;> by_cases hi : 0 < i
    · have := h3 hj; have := h4 hi; simp only [hi, hj, if_true]; omega
    · have := h3 hj; simp only [hi, hj, if_true, if_false]; omega
    · have := h4 hi; simp only [hi, hj, if_true, if_false]; omega
    · simp only [hi, hj, if_false]; omega

theorem heapOk_iff {A B C : Int} {h : List (List Int)} : heapOk A B C h = true ↔ IsHeap A B C h := by
  constructor
  · intro e
    simp only [heapOk, Bool.and_eq_true, decide_eq_true_eq, List.all_eq_true, List.mem_range] at e
    obtain ⟨e1, e2⟩ := e
    have hat' : ∀ i j : Nat, i < h.length → (j : Int) < B → okAt C h i j = true := by
      intro i j hi hj
      have := e2 i hi
      simp only [rowOk, Bool.and_eq_true, decide_eq_true_eq, List.all_eq_true, List.mem_range] at this
      exact this.2 j (by omega)
    refine ⟨e1, fun i hi => rowOk_len (e2 i hi), fun i j hi hj => ?_, fun i j hi hj => ?_, fun i j hi hj => ?_, fun i j hi hj => ?_⟩
    · exact (okAt_iff.1 (hat' i j hi hj)).1
    · exact (okAt_iff.1 (hat' i j hi hj)).2.1
    · have := (okAt_iff.1 (hat' i (j + 1) hi (by omega))).2.2.1 (by omega); simpa using this
    · have := (okAt_iff.1 (hat' (i + 1) j hi hj)).2.2.2 (by omega); simpa using this
  · intro e
    refine heapOk_true e.len fun i hi => rowOk_true (e.row i hi) fun j hj => okAt_iff.2 ?_
    have hjB : (j : Int) < B := by have := e.row i hi; omega
    refine ⟨e.pos i j hi hjB, e.top i j hi hjB, fun h0 => ?_, fun h0 => ?_⟩
    · have := e.left i (j - 1) hi (by omega); rwa [show j - 1 + 1 = j by omega] at this
    · have := e.up (i - 1) j (by omega) hjB; rwa [show i - 1 + 1 = i by omega] at this

end Go.Hp

namespace Go.Hp

/-- h with x at row i, column j. -/
def put2 (h : List (List Int)) (i j : Nat) (x : Int) : List (List Int) := h.set i ((h.getD i []).set j x)

theorem put2_length (h : List (List Int)) (i j : Nat) (x : Int) : (put2 h i j x).length = h.length := by simp [put2]
theorem put2_row (h : List (List Int)) (i j k : Nat) (x : Int) (hi : i < h.length) : (put2 h i j x).getD k [] = if k = i then (h.getD i []).set j x else h.getD k [] := by
  by_cases hk : k = i
  · subst hk; simp [put2, hi]
  · simp [put2, hk, List.getElem?_set_ne (Ne.symm hk)]
theorem put2_len (h : List (List Int)) (i j k : Nat) (x : Int) (hi : i < h.length) : ((put2 h i j x).getD k []).length = (h.getD k []).length := by
  rw [put2_row h i j k x hi]; split
  · subst_vars; simp
  · rfl
theorem put2_hat (h : List (List Int)) (i j k l : Nat) (x : Int) (hi : i < h.length) (hj : j < (h.getD i []).length) : hat (put2 h i j x) k l = if k = i ∧ l = j then x else hat h k l := by
  unfold hat
  rw [put2_row h i j k x hi]
  by_cases hk : k = i
  · subst hk
    rw [if_pos rfl]
    by_cases hl : l = j
    · subst hl
      rw [if_pos ⟨rfl, rfl⟩, List.getD_eq_getElem?_getD, List.getElem?_set_self hj]; rfl
    · rw [if_neg (fun e => hl e.2), List.getD_eq_getElem?_getD, List.getElem?_set_ne (Ne.symm hl), ← List.getD_eq_getElem?_getD]
  · rw [if_neg hk, if_neg (fun e => hk e.1)]

/-- The last place below p whose number may grow. -/
def findP (B : Nat) (C : Int) (h : List (List Int)) : Nat → Option Nat
  | 0 => none
  | p + 1 => if hat h (p / B) (p % B) < mostM C h (p / B) (p % B) then some p else findP B C h p

/-- Zeros from place p on, m of them. -/
def clr (B : Nat) (h : List (List Int)) (p : Nat) : Nat → List (List Int)
  | 0 => h
  | m + 1 => put2 (clr B h p m) ((p + m) / B) ((p + m) % B) 0

/-- What Next does. -/
def nextM (A B : Nat) (C : Int) (h : List (List Int)) : Option (List (List Int)) :=
  match findP B C h (A * B) with
  | none => none
  | some p => some (clr B (put2 h (p / B) (p % B) (hat h (p / B) (p % B) + 1)) (p + 1) (A * B - (p + 1)))

/-- h has A rows of B numbers. -/
def Sized (A B : Nat) (h : List (List Int)) : Prop := h.length = A ∧ ∀ i, i < A → (h.getD i []).length = B

theorem put2_sized {A B : Nat} {h : List (List Int)} (hs : Sized A B h) {i j : Nat} (hi : i < A) (x : Int) : Sized A B (put2 h i j x) :=
  ⟨by rw [put2_length]; exact hs.1, fun k hk => by rw [put2_len _ _ _ _ _ (by rw [hs.1]; exact hi)]; exact hs.2 k hk⟩
theorem clr_sized {A B : Nat} {h : List (List Int)} (hs : Sized A B h) (hB : 0 < B) (p : Nat) : ∀ m, p + m ≤ A * B → Sized A B (clr B h p m)
  | 0, _ => hs
  | m + 1, hm => put2_sized (clr_sized hs hB p m (by omega)) ((Nat.div_lt_iff_lt_mul hB).2 (by omega)) 0

end Go.Hp

namespace Go.Hp

def NonNeg (A B : Nat) (h : List (List Int)) : Prop := ∀ i j, i < A → j < B → 0 ≤ hat h i j

theorem put2_nonneg {A B : Nat} {h : List (List Int)} (hs : Sized A B h) (hn : NonNeg A B h) {i j : Nat} (hi : i < A) (hj : j < B) {x : Int} (hx : 0 ≤ x) : NonNeg A B (put2 h i j x) := fun k l hk hl => by
  rw [put2_hat h i j k l x (by rw [hs.1]; exact hi) (by rw [hs.2 i hi]; exact hj)]
  split
  · exact hx
  · exact hn k l hk hl
theorem clr_nonneg {A B : Nat} {h : List (List Int)} (hs : Sized A B h) (hn : NonNeg A B h) (hB : 0 < B) (p : Nat) : ∀ m, p + m ≤ A * B → NonNeg A B (clr B h p m)
  | 0, _ => hn
  | m + 1, hm => put2_nonneg (clr_sized hs hB p m (by omega)) (clr_nonneg hs hn hB p m (by omega)) ((Nat.div_lt_iff_lt_mul hB).2 (by omega)) (Nat.mod_lt _ hB) (Int.le_refl 0)

theorem findP_lt {B : Nat} {C : Int} {h : List (List Int)} : ∀ {n p : Nat}, findP B C h n = some p → p < n
  | n + 1, p, e => by
    unfold findP at e
    split at e
    · cases e; omega
    · have := findP_lt e; omega

theorem nextM_keeps {A B : Nat} {C : Int} {h h' : List (List Int)} (hs : Sized A B h) (hn : NonNeg A B h) (hB : 0 < B) (e : nextM A B C h = some h') : Sized A B h' ∧ NonNeg A B h' := by
  unfold nextM at e
  cases hf : findP B C h (A * B) with
  | none => simp [hf] at e
  | some p =>
    simp only [hf, Option.some.injEq] at e
    subst e
    have hp := findP_lt hf
    have hi : p / B < A := (Nat.div_lt_iff_lt_mul hB).2 hp
    have hj := Nat.mod_lt p hB
    have h1 := put2_sized hs hi (j := p % B) (hat h (p / B) (p % B) + 1)
    have h2 := put2_nonneg hs hn hi hj (x := hat h (p / B) (p % B) + 1) (by have := hn _ _ hi hj; omega)
    exact ⟨clr_sized h1 hB _ _ (by omega), clr_nonneg h1 h2 hB _ _ (by omega)⟩

def zeros (A B : Nat) : List (List Int) := List.replicate A (List.replicate B 0)
theorem zeros_sized (A B : Nat) : Sized A B (zeros A B) := ⟨by simp [zeros], fun i hi => by simp [zeros, hi]⟩
theorem zeros_hat (A B i j : Nat) : hat (zeros A B) i j = 0 := by
  unfold hat zeros
  by_cases hi : i < A
  · by_cases hj : j < B <;> simp [hi, hj]
  · simp [hi]
theorem zeros_nonneg (A B : Nat) : NonNeg A B (zeros A B) := fun i j _ _ => by rw [zeros_hat]; exact Int.le_refl 0

/-- The heap that n times Next makes of the empty one. -/
def iterN (A B : Nat) (C : Int) : Nat → Option (List (List Int))
  | 0 => some (zeros A B)
  | n + 1 => (iterN A B C n).bind (nextM A B C)

theorem iterN_keeps {A B : Nat} {C : Int} (hB : 0 < B) : ∀ (n : Nat) (h : List (List Int)), iterN A B C n = some h → Sized A B h ∧ NonNeg A B h
  | 0, h, e => by cases e; exact ⟨zeros_sized A B, zeros_nonneg A B⟩
  | n + 1, h, e => by
    simp only [iterN] at e
    cases h1 : iterN A B C n with
    | none => simp [h1] at e
    | some h0 =>
      simp [h1] at e
      obtain ⟨a, b⟩ := iterN_keeps hB n h0 h1
      exact nextM_keeps a b hB e

theorem iterN_none {A B : Nat} {C : Int} {n : Nat} (h : iterN A B C n = none) : ∀ m, iterN A B C (n + m) = none
  | 0 => h
  | m + 1 => by rw [← Nat.add_assoc, iterN, iterN_none h m]; rfl

end Go.Hp
