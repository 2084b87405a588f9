/- Texts of my own, merged by program: Rules Base. -/
import Derived.Test.YtbekeccfjmoonaaDoorM06
import Derived.Test.YtbekeccfjmoonaaDoorRows
import Derived.WalkKit
import Derived.WalkSpells
import Derived.WalkLawsBesides
import Derived.Deep.QuietTactic
import Derived.BigQuiet
import Derived.Deep.DeepFit
import Derived.KernelRfl
set_option linter.all false
/- Rules by which a lifted text is worked off. -/
namespace Go.Lf
open Go.RowKit

section
variable {P : Program} {w : World} {K : Value → Prop} {KW : Value → World → Prop}

theorem r_ln (a : Option Addr) (n c : Nat) : ln1 (.slice a n c) K = K (.int .i64 n) := rfl
theorem r_pick (b : Bool) (x y : Value) : pickQ (.bool b) x y K = K (if b = true then x else y) := rfl
theorem r_pickT (x y : Value) : pickQ (.bool true) x y K = K x := rfl
theorem r_pickF (x y : Value) : pickQ (.bool false) x y K = K y := by simp [pickQ]
theorem r_cond (b : Bool) (x y : Prop) : condW (.bool b) x y = if b = true then x else y := rfl
theorem r_condT (x y : Prop) : condW (.bool true) x y = x := rfl
theorem r_condF (x y : Prop) : condW (.bool false) x y = y := by simp [condW]
theorem r_gd (b want : Bool) (run : (Value → World → Prop) → Prop) : gd (.bool b) want run w KW = if b = want then run KW else KW undef w := rfl
theorem r_gdQ (b want : Bool) (run : (Value → Prop) → Prop) : gdQ (.bool b) want run K = if b = want then run K else K undef := rfl
theorem r_gdTT (run : (Value → World → Prop) → Prop) : gd (.bool true) true run w KW = run KW := rfl
theorem r_gdFF (run : (Value → World → Prop) → Prop) : gd (.bool false) false run w KW = run KW := rfl
theorem r_gdTF (run : (Value → World → Prop) → Prop) : gd (.bool true) false run w KW = KW undef w := by simp [gd]
theorem r_gdFT (run : (Value → World → Prop) → Prop) : gd (.bool false) true run w KW = KW undef w := by simp [gd]
theorem r_gqTT (run : (Value → Prop) → Prop) : gdQ (.bool true) true run K = run K := rfl
theorem r_gqFF (run : (Value → Prop) → Prop) : gdQ (.bool false) false run K = run K := rfl
theorem r_gqTF (run : (Value → Prop) → Prop) : gdQ (.bool true) false run K = K undef := by simp [gdQ]
theorem r_gqFT (run : (Value → Prop) → Prop) : gdQ (.bool false) true run K = K undef := by simp [gdQ]
theorem r_not (b : Bool) : unQ .not (.bool b) K = K (.bool (!b)) := rfl
theorem r_neg (x : Int) (h0 : -9223372036854775807 ≤ x) (h1 : x ≤ 9223372036854775807) : unQ .neg (.int .i64 x) K = K (.int .i64 (-x)) := by
  show K _ = _
  rw [IntWalk.i64_in _ (by omega)]
  simp

theorem r_bin {op : BinOp} {t : TypeId} {lit : Bool} {k : IntKind} {x y : Int} {v : Value} (h : intBin op k x y = some v) : binQ P w op t lit (.int k x) (.int k y) K = K v := by
  simp [binQ, h]
theorem r_lss {t : TypeId} {lit : Bool} {k : IntKind} (x y : Int) : binQ P w .lss t lit (.int k x) (.int k y) K = K (.bool (decide (x < y))) := r_bin rfl
theorem r_leq {t : TypeId} {lit : Bool} {k : IntKind} (x y : Int) : binQ P w .leq t lit (.int k x) (.int k y) K = K (.bool (decide (x ≤ y))) := r_bin rfl
theorem r_gtr {t : TypeId} {lit : Bool} {k : IntKind} (x y : Int) : binQ P w .gtr t lit (.int k x) (.int k y) K = K (.bool (decide (y < x))) := r_bin rfl
theorem r_geq {t : TypeId} {lit : Bool} {k : IntKind} (x y : Int) : binQ P w .geq t lit (.int k x) (.int k y) K = K (.bool (decide (y ≤ x))) := r_bin rfl
theorem r_eql {t : TypeId} {lit : Bool} {k : IntKind} (x y : Int) : binQ P w .eql t lit (.int k x) (.int k y) K = K (.bool (decide (x = y))) := r_bin rfl
theorem r_neq {t : TypeId} {lit : Bool} {k : IntKind} (x y : Int) : binQ P w .neq t lit (.int k x) (.int k y) K = K (.bool (!decide (x = y))) := r_bin rfl
theorem r_add {t : TypeId} {lit : Bool} (x y : Int) (h0 : -9223372036854775808 ≤ x + y) (h1 : x + y ≤ 9223372036854775807) : binQ P w .add t lit (.int .i64 x) (.int .i64 y) K = K (.int .i64 (x + y)) := by
  rw [r_bin (v := .int .i64 (IntKind.i64.wrap (x + y))) rfl, IntWalk.i64_in _ (by omega)]
theorem r_sub {t : TypeId} {lit : Bool} (x y : Int) (h0 : -9223372036854775808 ≤ x - y) (h1 : x - y ≤ 9223372036854775807) : binQ P w .sub t lit (.int .i64 x) (.int .i64 y) K = K (.int .i64 (x - y)) := by
  rw [r_bin (v := .int .i64 (IntKind.i64.wrap (x - y))) rfl, IntWalk.i64_in _ (by omega)]
theorem r_mul {t : TypeId} {lit : Bool} (x y : Int) (h0 : -9223372036854775808 ≤ x * y) (h1 : x * y ≤ 9223372036854775807) : binQ P w .mul t lit (.int .i64 x) (.int .i64 y) K = K (.int .i64 (x * y)) := by
  rw [r_bin (v := .int .i64 (IntKind.i64.wrap (x * y))) rfl, IntWalk.i64_in _ (by omega)]
theorem r_quo {t : TypeId} {lit : Bool} (x y : Int) (h0 : 0 ≤ x) (h1 : 0 < y) (h2 : x ≤ 9223372036854775807) : binQ P w .quo t lit (.int .i64 x) (.int .i64 y) K = K (.int .i64 (x / y)) := by
  have hy : y ≠ 0 := by omega
  have e : x.tdiv y = x / y := Int.tdiv_eq_ediv_of_nonneg h0
  have hle : x / y ≤ x := Int.ediv_le_self _ h0
  have hge : 0 ≤ x / y := Int.ediv_nonneg h0 (by omega)
  rw [r_bin (v := .int .i64 (IntKind.i64.wrap (x.tdiv y))) (by simp [intBin, hy]), e, IntWalk.i64_in _ (by omega)]
theorem r_rem {t : TypeId} {lit : Bool} {k : IntKind} (x y : Int) (h0 : 0 ≤ x) (h1 : 0 < y) : binQ P w .rem t lit (.int k x) (.int k y) K = K (.int k (x % y)) := by
  have hy : y ≠ 0 := by omega
  have e : x.tmod y = x % y := Int.tmod_eq_emod_of_nonneg h0
  rw [r_bin (v := .int k (x.tmod y)) (by simp [intBin, hy]), e]

theorem r_quoN {t : TypeId} {lit : Bool} (x y : Nat) (h1 : 0 < y) (h2 : x ≤ 9223372036854775807) : binQ P w .quo t lit (.int .i64 x) (.int .i64 y) K = K (.int .i64 ((x / y : Nat) : Int)) := by
  rw [r_quo (x : Int) (y : Int) (by omega) (by omega) (by omega)]; rfl
theorem r_remN {t : TypeId} {lit : Bool} {k : IntKind} (x y : Nat) (h1 : 0 < y) : binQ P w .rem t lit (.int k x) (.int k y) K = K (.int k ((x % y : Nat) : Int)) := by
  rw [r_rem (x : Int) (y : Int) (by omega) (by omega)]; rfl
theorem r_mulN {t : TypeId} {lit : Bool} (x y : Nat) (h : x * y ≤ 9223372036854775807) : binQ P w .mul t lit (.int .i64 x) (.int .i64 y) K = K (.int .i64 ((x * y : Nat) : Int)) := by
  have e : ((x * y : Nat) : Int) = (x : Int) * y := by simp
  rw [r_mul _ _ (by rw [← e]; omega) (by rw [← e]; omega), e]

theorem r_min2 (k : IntKind) (x y : Int) : mnQ false [.int k x, .int k y] K = K (.int k (min x y)) := by
  simp only [mnQ, allInts, if_true, Option.map_some, List.foldl_cons, List.foldl_nil, Bool.false_eq_true, if_false]
  congr 2
  rw [Int.min_def]; split <;> split <;> omega
theorem r_max2 (k : IntKind) (x y : Int) : mnQ true [.int k x, .int k y] K = K (.int k (max x y)) := by
  simp only [mnQ, allInts, if_true, Option.map_some, List.foldl_cons, List.foldl_nil]
  congr 2
  rw [Int.max_def]; split <;> split <;> omega
theorem r_min3 (k : IntKind) (x y z : Int) : mnQ false [.int k x, .int k y, .int k z] K = K (.int k (min (min x y) z)) := by
  simp only [mnQ, allInts, if_true, Option.map_some, List.foldl_cons, List.foldl_nil, Bool.false_eq_true, if_false]
  congr 2
  simp only [Int.min_def]; repeat' split
  all_goals omega
theorem r_max3 (k : IntKind) (x y z : Int) : mnQ true [.int k x, .int k y, .int k z] K = K (.int k (max (max x y) z)) := by
  simp only [mnQ, allInts, if_true, Option.map_some, List.foldl_cons, List.foldl_nil]
  congr 2
  simp only [Int.max_def]; repeat' split
  all_goals omega

theorem add_zero' (b o : Nat) : (⟨b, o, none⟩ : Addr).add 0 = ⟨b, o, none⟩ := rfl
theorem r_addr (b o n : Nat) : (⟨b, o, none⟩ : Addr).add n = ⟨b, o + n, none⟩ := by
  unfold Addr.add; split <;> simp_all
theorem r_fa (b o n : Nat) : fa1 (.pointer (some ⟨b, o, none⟩)) n K = K (.pointer (some ⟨b, o + n, none⟩)) := by
  show K _ = _; rw [r_addr]
theorem r_ld {a : Addr} {v : Value} (h : w.cell? a = some v) : ld1 w (.pointer (some a)) K = K v := by simp [ld1, h]
theorem r_ld' (a : Addr) : ld1 w (.pointer (some a)) K = (match w.cell? a with | some v => K v | none => False) := rfl
theorem r_iaS (sz b o n c : Nat) (k : IntKind) (i : Int) (h0 : 0 ≤ i) (h1 : i < n) : iaS sz (.slice (some ⟨b, o, none⟩) n c) (.int k i) K = K (.pointer (some ⟨b, o + i.toNat * sz, none⟩)) := by
  show (_ ∧ _ ∧ K _) = _; rw [r_addr]; simp [h0, h1]
theorem r_iaA (len sz b o : Nat) (k : IntKind) (i : Int) (h0 : 0 ≤ i) (h1 : i < len) : iaA len sz (.pointer (some ⟨b, o, none⟩)) (.int k i) K = K (.pointer (some ⟨b, o + i.toNat * sz, none⟩)) := by
  show (_ ∧ _ ∧ K _) = _; rw [r_addr]; simp [h0, h1]
theorem toNat_sub1 (j : Nat) : ((j : Int) - 1).toNat = j - 1 := by omega
theorem toNat_add1 (j : Nat) : ((j : Int) + 1).toNat = j + 1 := by omega
theorem r_exQ (vs : Array Value) (i : Nat) (v : Value) (h : vs[i]? = some v) : exQ (.tuple vs) i K = K v := by simp [exQ, h]
theorem r_ex2a (x y : Value) : exQ (.tuple #[x, y]) 0 K = K x := rfl
theorem r_ex2b (x y : Value) : exQ (.tuple #[x, y]) 1 K = K y := rfl
theorem r_ex3a (x y z : Value) : exQ (.tuple #[x, y, z]) 0 K = K x := rfl
theorem r_ex3b (x y z : Value) : exQ (.tuple #[x, y, z]) 1 K = K y := rfl
theorem r_ex3c (x y z : Value) : exQ (.tuple #[x, y, z]) 2 K = K z := rfl
theorem r_cv (k k' : IntKind) (n : Int) : cv1 k (.int k' n) K = K (.int k (k.wrap n)) := rfl
theorem r_nc (a : Addr) : ncQ (.pointer (some a)) K = K (.pointer (some a)) := rfl

theorem cellsAt_row {b : Nat} {cs : Array Value} {t : TypeId} {fr : Nat × Nat} (h : w.heap[b]? = some (.cells cs t fr)) : ∀ (n o i : Nat), o + i + n ≤ cs.size → cellsAt w ⟨b, o, none⟩ n i = some ((cs.toList.drop (o + i)).take n)
  | 0, o, i, _ => by simp [cellsAt]
  | n + 1, o, i, hn => by
    have hlt : o + i < cs.size := by omega
    have ih := cellsAt_row h n o (i + 1) (by omega)
    have hc : w.cell? ⟨b, o + i, none⟩ = some cs[o + i] := by simp [World.cell?, h, hlt]
    simp only [cellsAt, r_addr, hc]
    rw [ih]
    have : cs.toList.drop (o + i) = cs[o + i] :: cs.toList.drop (o + i + 1) := by
      rw [List.drop_eq_getElem_cons (by simpa using hlt)]; simp
    simp [this, List.take_succ_cons, Nat.add_assoc]

theorem r_ldRow {b n : Nat} {cs : Array Value} {t : TypeId} {fr : Nat × Nat} (h : w.heap[b]? = some (.cells cs t fr)) (hn : cs.size = n) : ldN n w (.pointer (some ⟨b, 0, none⟩)) K = K (.agg cs) := by
  have := cellsAt_row h n 0 0 (by omega)
  simp only [ldN, this]
  subst hn
  have e : List.take cs.size (List.drop (0 + 0) cs.toList) = cs.toList := by simp [List.take_of_length_le]
  rw [e]

theorem cell_row {b o : Nat} {cs : Array Value} {t : TypeId} {fr : Nat × Nat} (h : w.heap[b]? = some (.cells cs t fr)) : w.cell? ⟨b, o, none⟩ = cs[o]? := by simp [World.cell?, h]
theorem frozen_row {b o : Nat} {cs : Array Value} {t : TypeId} (h : w.heap[b]? = some (.cells cs t (0, 0))) : w.frozen? ⟨b, o, none⟩ = false := by simp [World.frozen?, h]

theorem block_below {w' : World} {b : Nat} {o : Obj} (h : w.heap[b]? = some o) (hb : Below w.heap.size w w') : w'.heap[b]? = some o := by
  rw [hb.block b (Array.getElem?_eq_some_iff.1 h).1]; exact h
theorem block_lt {b : Nat} {o : Obj} (h : w.heap[b]? = some o) : b < w.heap.size := (Array.getElem?_eq_some_iff.1 h).1

theorem below_alloc (o : Obj) : Below w.heap.size w (w.alloc o) := (Below.refl _ _).alloc (Nat.le_refl _) o

/-- A new block: its number, what it holds, that nothing else has turned. -/
theorem r_box {t : TypeId} {v : Value} (h : ∀ (b : Nat) (w' : World), b = w.heap.size → w'.heap.size = b + 1 → w'.heap[b]? = some (.cells v.cells t (0, 0)) → Below w.heap.size w w' → KW (.pointer (some ⟨b, 0, none⟩)) w') : boxW t v w KW :=
  h _ _ rfl (by show (w.heap.push _).size = _; simp) (heap_alloc_new w _) (below_alloc _)

theorem r_drew {KD : World → Prop} (h : ∀ w', Below w.heap.size w w' → w'.heap = w.heap → KD w') : Drew w KD := h _ (Below.refl _ _).drew rfl

theorem r_call {f : FuncId} {first cap : Array Value} {args : List Value} (hok : fnOk P f = true) (h : Calls P f (first ++ args.toArray ++ cap) w fun e w' => ∃ v, e = .returned v ∧ KW v w') :
    callW P (.func (.func f) first cap) args w KW := ⟨hok, h⟩

/-- A call by its contract. -/
theorem r_use {f : FuncId} {first cap : Array Value} {args : List Value} {args' : Array Value} {R : Ending → World → Prop} (hok : fnOk P f = true) (hc : Calls P f args' w R) (ha : args' = first ++ args.toArray ++ cap)
    (hk : ∀ e w', R e w' → ∃ v, e = .returned v ∧ KW v w') : callW P (.func (.func f) first cap) args w KW := ⟨hok, ha ▸ hc.mono hk⟩

theorem r_keepE (v : Value) (w' : World) : keepB w KW v w' = (Below w.heap.size w w' ∧ KW v w') := rfl
theorem r_keep {v : Value} {w' : World} (h : Below w.heap.size w w') (hk : KW v w') : keepB w KW v w' := ⟨h, hk⟩

theorem r_join0 {F : (World → Prop) → Prop} {k : World → Prop} (J : World → Prop) (hk : ∀ w, J w → k w) (hF : ∀ k' : World → Prop, (∀ w, J w → k' w) → F k') : Join F k := hF k hk
theorem r_join1 {F : (Value → World → Prop) → Prop} {k : Value → World → Prop} (J : Value → World → Prop) (hk : ∀ a w, J a w → k a w) (hF : ∀ k' : Value → World → Prop, (∀ a w, J a w → k' a w) → F k') : Join F k := hF k hk
theorem r_join2 {F : (Value → Value → World → Prop) → Prop} {k : Value → Value → World → Prop} (J : Value → Value → World → Prop) (hk : ∀ a b w, J a b w → k a b w) (hF : ∀ k' : Value → Value → World → Prop, (∀ a b w, J a b w → k' a b w) → F k') : Join F k := hF k hk
theorem r_join3 {F : (Value → Value → Value → World → Prop) → Prop} {k : Value → Value → Value → World → Prop} (J : Value → Value → Value → World → Prop) (hk : ∀ a b c w, J a b c w → k a b c w) (hF : ∀ k' : Value → Value → Value → World → Prop, (∀ a b c w, J a b c w → k' a b c w) → F k') : Join F k := hF k hk

theorem box3 {b : Nat} {x y z : Value} {t : TypeId} {fr : Nat × Nat} (h : w.heap[b]? = some (.cells #[x, y, z] t fr)) :
    w.cell? ⟨b, 0, none⟩ = some x ∧ w.cell? ⟨b, 1, none⟩ = some y ∧ w.cell? ⟨b, 2, none⟩ = some z := ⟨by simp [cell_row h], by simp [cell_row h], by simp [cell_row h]⟩

theorem setCell_block {w' : World} {b o : Nat} {cs : Array Value} {t : TypeId} {v : Value} (h : w.heap[b]? = some (.cells cs t (0, 0))) (e : w' = w.setCell ⟨b, o, none⟩ v) : w'.heap[b]? = some (.cells (cs.setIfInBounds o v) t (0, 0)) := by
  subst e
  simp only [World.setCell, Array.getElem?_modify, if_true, h, Option.map_some, Option.isSome_none, Bool.false_eq_true, if_false]

theorem r_keepXE (X : Nat → Prop) (v : Value) (w' : World) : keepX X w KW v w' = (BX X w w' ∧ KW v w') := rfl
theorem r_keepWE (X : Nat → Prop) (k : World → Prop) (w' : World) : keepW X w k w' = (BX X w w' ∧ k w') := rfl
theorem BX.of_below {X : Nat → Prop} {w' : World} (h : Below w.heap.size w w') : BX X w w' := ⟨h.os, h.tape, h.output, h.size, fun i hi _ => h.block i hi⟩
theorem r_tx {X : Nat → Prop} (v : Value) : takeX X w (fun _ k => k v) K = K v :=
  propext ⟨fun ⟨_, h, hk⟩ => (h w (BX.refl _ _)) ▸ hk, fun hk => ⟨v, fun _ _ => rfl, hk⟩⟩
theorem BX.cell {X : Nat → Prop} {w' : World} (h : BX X w w') {a : Addr} {v : Value} (hc : w.cell? a = some v) (hx : ¬ X a.block) : w'.cell? a = some v :=
  (World.cell?_of_block (h.block a.block (World.block_lt_of_cell? w a hc) hx)).trans hc
theorem BX.at {X : Nat → Prop} {w' : World} (h : BX X w w') {b : Nat} {o : Obj} (hc : w.heap[b]? = some o) (hx : ¬ X b) : w'.heap[b]? = some o := (h.block b (block_lt hc) hx).trans hc
theorem r_txl {X : Nat → Prop} {a : Addr} {v : Value} (h : w.cell? a = some v) (hx : ¬ X a.block) : takeX X w (fun w k => ld1 w (.pointer (some a)) k) K = K v :=
  propext ⟨fun ⟨u, hu, hk⟩ => (by have := hu w (BX.refl _ _); dsimp only at this; rw [r_ld h] at this; exact this ▸ hk), fun hk => ⟨v, fun w' hw' => by dsimp only; rw [r_ld (hw'.cell h hx)], hk⟩⟩
theorem r_txn {X : Nat → Prop} {b n : Nat} {cs : Array Value} {t : TypeId} {fr : Nat × Nat} (h : w.heap[b]? = some (.cells cs t fr)) (hn : cs.size = n) (hx : ¬ X b) : takeX X w (fun w k => ldN n w (.pointer (some ⟨b, 0, none⟩)) k) K = K (.agg cs) :=
  propext ⟨fun ⟨u, hu, hk⟩ => (by have := hu w (BX.refl _ _); dsimp only at this; rw [r_ldRow h hn] at this; exact this ▸ hk), fun hk => ⟨.agg cs, fun w' hw' => by dsimp only; rw [r_ldRow (hw'.at h hx) hn], hk⟩⟩

end
end Go.Lf

/- Words for what memory holds: lists of integers, lists of such lists, and that they stay through new blocks. -/
namespace Go.Proofs.YtbekeccfjmoonaaDoor
open Go.RowKit Go.Lf

theorem hid {p : Prop} (h : p) : Hid p := h
theorem ret_int {k : IntKind} {a b : Int} (h : a = b) : Ending.returned (.int k a) = .returned (.int k b) := by rw [h]
theorem ret_bool {a b : Bool} (h : a = b) : Ending.returned (.bool a) = .returned (.bool b) := by rw [h]

theorem bcell {W w1 : World} (hb : Below W.heap.size W w1) : (∀ b o, b < W.heap.size → w1.cell? ⟨b, o, none⟩ = W.cell? ⟨b, o, none⟩) ∧ (∀ b o, b < W.heap.size → w1.frozen? ⟨b, o, none⟩ = W.frozen? ⟨b, o, none⟩) :=
  ⟨fun b o h => hb.cell (p := ⟨b, o, none⟩) h, fun b o h => hb.frozen (p := ⟨b, o, none⟩) h⟩

/-- The slice v reads as the integers l. -/
def RdInts (w : World) (v : Value) (l : List Int) : Prop :=
  ∃ a cap, v = .slice a l.length cap ∧ (l.length ≤ 17592186044416 ∧ l.length ≤ cap) ∧
    (0 < l.length → ∃ b off, a = some ⟨b, off, none⟩ ∧ ∀ i, i < l.length → w.cell? ⟨b, off + i, none⟩ = some (.int .i64 (l.getD i 0)))

/-- The slice v reads as the lists h. -/
def RdRows (w : World) (v : Value) (h : List (List Int)) : Prop :=
  ∃ a cap, ∃ vs : Nat → Value, v = .slice a h.length cap ∧ h.length ≤ 17592186044416 ∧
    (0 < h.length → ∃ b off, a = some ⟨b, off, none⟩ ∧ ∀ i, i < h.length → w.cell? ⟨b, off + i, none⟩ = some (vs i)) ∧
    ∀ i, i < h.length → RdInts w (vs i) (h.getD i [])

theorem RdInts.cells {w w' : World} {v : Value} {l : List Int} (h : RdInts w v l) (hc : ∀ a x, w.cell? a = some x → w'.cell? a = some x) : RdInts w' v l := by
  obtain ⟨a, cap, rfl, hl, hh⟩ := h
  refine ⟨a, cap, rfl, hl, fun h0 => ?_⟩
  obtain ⟨b, off, rfl, hcell⟩ := hh h0
  exact ⟨b, off, rfl, fun i hi => hc _ _ (hcell i hi)⟩

theorem RdRows.cells {w w' : World} {v : Value} {h : List (List Int)} (hr : RdRows w v h) (hc : ∀ a x, w.cell? a = some x → w'.cell? a = some x) : RdRows w' v h := by
  obtain ⟨a, cap, vs, rfl, hl, hh, hrows⟩ := hr
  refine ⟨a, cap, vs, rfl, hl, fun h0 => ?_, fun i hi => (hrows i hi).cells hc⟩
  obtain ⟨b, off, rfl, hcell⟩ := hh h0
  exact ⟨b, off, rfl, fun i hi => hc _ _ (hcell i hi)⟩

theorem RdInts.below {w w' : World} {v : Value} {l : List Int} (h : RdInts w v l) (hb : Below w.heap.size w w') : RdInts w' v l :=
  h.cells fun _ _ hx => cell_later hb hx

theorem RdRows.below {w w' : World} {v : Value} {h : List (List Int)} (hr : RdRows w v h) (hb : Below w.heap.size w w') : RdRows w' v h :=
  hr.cells fun _ _ hx => cell_later hb hx

theorem take_succ' {α : Type} (l : List α) (j : Nat) (h : j < l.length) : l.take (j + 1) = l.take j ++ [l[j]] := by
  rw [List.take_succ_eq_append_getElem h]

theorem getD_lt {α : Type} (l : List α) (j : Nat) (d : α) (h : j < l.length) : l.getD j d = l[j] := by
  simp [List.getD_eq_getElem?_getD, h]

/-- w' keeps all that is there in w. -/
abbrev Kp (w w' : World) : Prop := Below w.heap.size w w'
theorem Kp.refl (w : World) : Kp w w := Below.refl _ _
theorem Kp.trans {a b c : World} (h : Kp a b) (k : Kp b c) : Kp a c := Below.trans h (Below.mono k h.size)

theorem RdInts.at {w : World} {v : Value} {l : List Int} (h : RdInts w v l) {j : Nat} (hj : j < l.length) :
    ∃ b off cap, v = .slice (some ⟨b, off, none⟩) l.length cap ∧ w.cell? ⟨b, off + j, none⟩ = some (.int .i64 (l.getD j 0)) := by
  obtain ⟨a, cap, rfl, _, hc⟩ := h
  obtain ⟨b, off, rfl, hcl⟩ := hc (by omega)
  exact ⟨b, off, cap, rfl, hcl j hj⟩
theorem RdInts.len {w : World} {v : Value} {l : List Int} (h : RdInts w v l) : ∃ a cap, v = .slice a l.length cap ∧ l.length ≤ 17592186044416 ∧ l.length ≤ cap := by
  obtain ⟨a, cap, rfl, hl, _⟩ := h
  exact ⟨a, cap, rfl, hl⟩
theorem RdRows.row {w : World} {v : Value} {h : List (List Int)} (hr : RdRows w v h) {i : Nat} (hi : i < h.length) :
    ∃ b off cap rv, v = .slice (some ⟨b, off, none⟩) h.length cap ∧ w.cell? ⟨b, off + i, none⟩ = some rv ∧ RdInts w rv (h.getD i []) := by
  obtain ⟨a, cap, vs, rfl, _, hc, hrows⟩ := hr
  obtain ⟨b, off, rfl, hcl⟩ := hc (by omega)
  exact ⟨b, off, cap, vs i, rfl, hcl i hi, hrows i hi⟩
theorem RdRows.len {w : World} {v : Value} {h : List (List Int)} (hr : RdRows w v h) : ∃ a cap, v = .slice a h.length cap ∧ h.length ≤ 17592186044416 := by
  obtain ⟨a, cap, vs, rfl, hl, _⟩ := hr
  exact ⟨a, cap, rfl, hl⟩

theorem mixes : Tryd.prog.follows .mixedOrders = true := by kernel_rfl

end Go.Proofs.YtbekeccfjmoonaaDoor
