/- Texts of my own, merged by program: Lift1 Lift2. -/
import Derived.WalkKit
import Derived.Orders
set_option linter.all false
/- Lifting of code to plain statements, part 1: what an operation asks, as a proposition over the values of its operands; and that it is enough. -/
namespace Go.Lf
open Go.RowKit

abbrev Fr := Nat → Value

def evO (fr : Fr) : Operand → Value
  | .tmp t => fr t
  | .const v => v
  | .global g => .pointer (some ⟨g, 0, none⟩)
  | .func f => .func (.func f) #[] #[]

def isLit : Operand → Bool
  | .const _ => true
  | _ => false

/-- In every world that w grows into, s gives v and leaves the world alone. -/
def Yld (P : Program) (w : World) (s : Sem Next) (v : Value) : Prop := ∀ w', Below w.heap.size w w' → s.run P w' = .ok (.value v) w'

def genQ (P : Program) (w : World) (s : Sem Next) (K : Value → Prop) : Prop := ∃ v, Yld P w s v ∧ K v

def semW (P : Program) (s : Sem Next) (w : World) (K : Value → World → Prop) : Prop :=
  match s.run P w with
  | .ok (.value v) w' => K v w'
  | .ok .skip w' => K undef w'
  | .ok (.enter f args) w' => Calls P f args w' fun e w'' => ∃ v, e = .returned v ∧ K v w''
  | _ => False

/-! ### quiet operations -/

def pickQ (c a b : Value) (K : Value → Prop) : Prop :=
  match c with
  | .bool t => K (if t then a else b)
  | _ => False

/-- What a binary operation gives on two integers of one kind. -/
def intBin (op : BinOp) (k : IntKind) (x y : Int) : Option Value :=
  match op with
  | .add => some (.int k (k.wrap (x + y)))
  | .sub => some (.int k (k.wrap (x - y)))
  | .mul => some (.int k (k.wrap (x * y)))
  | .quo => if y = 0 then none else some (.int k (k.wrap (x.tdiv y)))
  | .rem => if y = 0 then none else some (.int k (x.tmod y))
  | .eql => some (.bool (decide (x = y)))
  | .neq => some (.bool (!decide (x = y)))
  | .lss => some (.bool (decide (x < y)))
  | .leq => some (.bool (decide (x ≤ y)))
  | .gtr => some (.bool (decide (y < x)))
  | .geq => some (.bool (decide (y ≤ x)))
  | _ => none

def semBin (op : BinOp) (t : TypeId) (lit : Bool) (a b : Value) : Sem Next := do
  pure (.value (← (do eqGuard op t (if lit then .const undef else .tmp 0) (.tmp 0) a b; binOp op t a b)))

def binQ (P : Program) (w : World) (op : BinOp) (t : TypeId) (lit : Bool) (a b : Value) (K : Value → Prop) : Prop :=
  match a, b with
  | .int k x, .int k' y =>
    if k = k' then
      match intBin op k x y with
      | some v => K v
      | none => genQ P w (semBin op t lit (.int k x) (.int k' y)) K
    else genQ P w (semBin op t lit (.int k x) (.int k' y)) K
  | a, b => genQ P w (semBin op t lit a b) K

def unQ (op : UnOp) (x : Value) (K : Value → Prop) : Prop :=
  match op, x with
  | .neg, .int k n => K (.int k (k.wrap (0 - n)))
  | .not, .bool b => K (.bool (!b))
  | _, _ => False

def cv1 (k : IntKind) (x : Value) (K : Value → Prop) : Prop :=
  match x with
  | .int _ n => K (.int k (k.wrap n))
  | _ => False


/-- A conversion, carried out. -/
def cvS (s d : TypeId) (x : Value) : Sem Next := do pure (.value (← convert s d x))
/-- A conversion to integers, or to strings. -/
def cvQ (P : Program) (w : World) (s d : TypeId) (x : Value) (K : Value → Prop) : Prop :=
  match P.underlying s, P.underlying d with
  | some _, some (.int k) => cv1 k x K
  | some _, some .string => genQ P w (cvS s d x) K
  | _, _ => False

/-- n cells from a on. -/
def cellsAt (w : World) (a : Addr) : Nat → Nat → Option (List Value)
  | 0, _ => some []
  | n + 1, i => match w.cell? (a.add i), cellsAt w a n (i + 1) with
    | some v, some vs => some (v :: vs)
    | _, _ => none

def aggSize (P : Program) (t : TypeId) : Option (Option Nat) :=
  match P.info? t with
  | none => none
  | some i => match P.underlying t with
    | none => none
    | some (.struct _) => some (some i.size)
    | some (.array _ _) => some (some i.size)
    | some _ => some none

def ld1 (w : World) (p : Value) (K : Value → Prop) : Prop :=
  match p with
  | .pointer (some a) => match w.cell? a with
    | some v => K v
    | none => False
  | _ => False

def ldN (n : Nat) (w : World) (p : Value) (K : Value → Prop) : Prop :=
  match p with
  | .pointer (some a) => match cellsAt w a n 0 with
    | some vs => K (.agg vs.toArray)
    | none => False
  | _ => False

def ldQ (P : Program) (t : TypeId) (w : World) (p : Value) (K : Value → Prop) : Prop :=
  match aggSize P t with
  | some none => ld1 w p K
  | some (some n) => ldN n w p K
  | none => False

def fa1 (x : Value) (off : Nat) (K : Value → Prop) : Prop :=
  match x with
  | .pointer (some a) => K (.pointer (some (a.add off)))
  | _ => False

def faQ (P : Program) (s : TypeId) (x : Value) (f : Nat) (K : Value → Prop) : Prop :=
  match P.underlying s with
  | some (.struct fields) => match fields[f]? with
    | some fd => match P.info? fd.type with
      | some i => if i.size = 0 then False else fa1 x fd.offset K
      | none => False
    | none => False
  | _ => False

def iaS (sz : Nat) (x i : Value) (K : Value → Prop) : Prop :=
  match x, i with
  | .slice (some a) n _, .int _ i => 0 ≤ i ∧ i < n ∧ K (.pointer (some (a.add (i.toNat * sz))))
  | _, _ => False

def iaA (n sz : Nat) (x i : Value) (K : Value → Prop) : Prop :=
  match x, i with
  | .pointer (some a), .int _ i => 0 ≤ i ∧ i < n ∧ K (.pointer (some (a.add (i.toNat * sz))))
  | _, _ => False

def iaQ (P : Program) (t : TypeId) (x i : Value) (K : Value → Prop) : Prop :=
  match P.underlying t with
  | some (.slice e) => match P.info? e with
    | some j => iaS j.size x i K
    | none => False
  | some (.array n e) => match P.info? e with
    | some j => iaA n j.size x i K
    | none => False
  | _ => False

/-- One bound of a cut (none: the default). -/
def bnd (d cap : Nat) : Option Value → Option Nat
  | none => some d
  | some (.int _ i) => if 0 ≤ i ∧ i ≤ cap then some i.toNat else none
  | some _ => none

/-- The bounds of a cut: low and high, if they are in range. -/
def cutQ (len cap : Nat) (l h : Option Value) (K : Nat → Nat → Prop) : Prop :=
  match bnd len cap h with
  | none => False
  | some hi =>
    match bnd 0 hi l with
    | none => False
    | some lo => K lo hi

def slS (sz : Nat) (x : Value) (l h : Option Value) (K : Value → Prop) : Prop :=
  match x with
  | .slice a n c => cutQ n c l h fun lo hi => K (.slice (if c = lo then a else a.map (·.add (lo * sz))) (hi - lo) (c - lo))
  | _ => False

def slA (n sz : Nat) (x : Value) (l h : Option Value) (K : Value → Prop) : Prop :=
  match x with
  | .pointer (some a) => cutQ n n l h fun lo hi => K (.slice (some (if n = lo then a else a.add (lo * sz))) (hi - lo) (n - lo))
  | _ => False

def slQ (P : Program) (t : TypeId) (x : Value) (l h : Option Value) (K : Value → Prop) : Prop :=
  match P.underlying t with
  | some (.slice e) => match P.info? e with
    | some j => slS j.size x l h K
    | none => False
  | some (.array n e) => match P.info? e with
    | some j => slA n j.size x l h K
    | none => False
  | _ => False

def exQ (x : Value) (i : Nat) (K : Value → Prop) : Prop :=
  match x with
  | .tuple vs => match vs[i]? with
    | some v => K v
    | none => False
  | _ => False

def fieldPlaces (P : Program) : List Field → Option (List (Nat × Nat))
  | [] => some []
  | f :: fs => match P.info? f.type, fieldPlaces P fs with
    | some i, some r => some ((f.offset, i.size) :: r)
    | _, _ => none

def buildV (P : Program) (t : TypeId) (parts : List (Nat × Value)) : Option Value :=
  match P.info? t with
  | some i => match i.zero, P.underlying t with
    | some z, some (.struct fields) => match fieldPlaces P fields.toList with
      | some ps => (Instr.fill (ps[·]?) z.cells parts).map .agg
      | none => none
    | some z, some (.array _ e) => match P.info? e with
      | some j => (Instr.fill (fun i => some (i * j.size, j.size)) z.cells parts).map .agg
      | none => none
    | _, _ => none
  | none => none

def bdQ (P : Program) (t : TypeId) (parts : List (Nat × Value)) (K : Value → Prop) : Prop :=
  match buildV P t parts with
  | some v => K v
  | none => False

def ln1 (x : Value) (K : Value → Prop) : Prop :=
  match x with
  | .slice _ n _ => K (.int .i64 n)
  | _ => False

/-- The length of a string. -/
def lnS (x : Value) (K : Value → Prop) : Prop :=
  match x with
  | .string s => K (.int .i64 s.size)
  | _ => False

/-- The length of a map. -/
def lnM (w : World) (x : Value) (K : Value → Prop) : Prop :=
  match x with
  | .map none => K (.int .i64 0)
  | .map (some b) => match w.heap[b]? with
    | some (.map es _) => K (.int .i64 es.size)
    | _ => False
  | _ => False

def lnQ (P : Program) (w : World) (t : TypeId) (x : Value) (K : Value → Prop) : Prop :=
  match P.underlying t with
  | some (.slice _) => ln1 x K
  | some .string => lnS x K
  | some (.map _ _) => lnM w x K
  | _ => False

def allInts (k : IntKind) : List Value → Option (List Int)
  | [] => some []
  | .int k' n :: r => if k = k' then (allInts k r).map (n :: ·) else none
  | _ :: _ => none

/-- min, max of integers. -/
def mnQ (isMax : Bool) (xs : List Value) (K : Value → Prop) : Prop :=
  match xs with
  | .int k n :: r => match allInts k r with
    | some l => K (.int k (l.foldl (fun a b => if isMax then (if a < b then b else a) else (if b < a then b else a)) n))
    | none => False
  | _ => False

def ncQ (x : Value) (K : Value → Prop) : Prop :=
  match x with
  | .pointer (some a) => K (.pointer (some a))
  | .func (.func f) a b => K (.func (.func f) a b)
  | _ => False

def lkS (t : TypeId) (m k : Value) (ok : Bool) : Sem Next := do pure (.value (← Instr.lookup t m k ok))

def isQ : Op → Bool
  | .move _ | .assign _ | .pick .. | .binOp .. | .unOp .. | .convert .. | .load .. | .fieldAddr .. | .indexAddr .. | .slice _ _ _ _ none | .extract .. | .build ..
  | .nilCheck _ | .makeFunc .. => true
  | .call c => match c.callee with
    | .builtin .len | .builtin .min | .builtin .max => true
    | _ => false
  | _ => false

def callQ (P : Program) (w : World) (c : Call) (ρ : Operand → Value) (K : Value → Prop) : Prop :=
  match c.callee with
  | .builtin .len => match c.args.toList, c.argTypes.toList with
    | [x], [t] => lnQ P w t (ρ x) K
    | _, _ => False
  | .builtin .min => mnQ false (c.args.toList.map ρ) K
  | .builtin .max => mnQ true (c.args.toList.map ρ) K
  | _ => False

def opQ (P : Program) (o : Op) (ρ : Operand → Value) (w : World) (K : Value → Prop) : Prop :=
  match o with
  | .move x | .assign x => K (ρ x)
  | .pick c a b => pickQ (ρ c) (ρ a) (ρ b) K
  | .binOp op t x y _ => binQ P w op t (isLit x || isLit y) (ρ x) (ρ y) K
  | .unOp op _ x => unQ op (ρ x) K
  | .convert s d x => cvQ P w s d (ρ x) K
  | .load t x => ldQ P t w (ρ x) K
  | .fieldAddr s x f => faQ P s (ρ x) f K
  | .indexAddr t x i => iaQ P t (ρ x) (ρ i) K
  | .slice t x l h none => slQ P t (ρ x) (l.map ρ) (h.map ρ) K
  | .extract x i => exQ (ρ x) i K
  | .build t parts => bdQ P t (parts.toList.map fun p => (p.1, ρ p.2)) K
  | .nilCheck x => ncQ (ρ x) K
  | .makeFunc fn first cap => K (.func fn (first.toList.map ρ).toArray (cap.toList.map ρ).toArray)
  | .call c => callQ P w c ρ K
  | .lookup t m k ok => genQ P w (lkS t (ρ m) (ρ k) ok) K
  | _ => False

/-! ### soundness -/

section
variable {P : Program} {w : World} {K : Value → Prop}

theorem yld_pure {v : Value} : Yld P w (pure (.value v)) v := fun _ _ => rfl

theorem cell_stays {w w' : World} {a : Addr} {v : Value} (hb : Below w.heap.size w w') (h : w.cell? a = some v) : w'.cell? a = some v :=
  (hb.cell (World.block_lt_of_cell? w a h)).trans h

theorem eqGuard_lit (op : BinOp) (t : TypeId) (x y : Operand) (a b : Value) :
    eqGuard op t (if isLit x || isLit y then .const undef else .tmp 0) (.tmp 0) a b = eqGuard op t x y a b := by
  unfold eqGuard
  cases x <;> cases y <;> simp [isLit]

theorem semBin_eq (op : BinOp) (t : TypeId) (x y : Operand) (a b : Value) :
    semBin op t (isLit x || isLit y) a b = (do pure (.value (← (do eqGuard op t x y a b; binOp op t a b))) : Sem Next) := by
  unfold semBin
  rw [eqGuard_lit]

theorem eqGuard_int (op : BinOp) (t : TypeId) (x y : Operand) (k k' : IntKind) (a b : Int) : (eqGuard op t x y (.int k a) (.int k' b)).run P w = .ok () w := by
  unfold eqGuard
  cases op <;> simp

theorem intBin_run (op : BinOp) (t : TypeId) (k : IntKind) (x y : Int) (v : Value) (h : intBin op k x y = some v) : (binOp op t (.int k x) (.int k y)).run P w = .ok v w := by
  cases op <;> simp only [intBin, Option.some.injEq, reduceCtorEq] at h
  all_goals try (subst h; simp [binOp, Op.intArith, Op.intCmp]; try rfl)
  all_goals try (split at h <;> simp only [Option.some.injEq, reduceCtorEq] at h; subst h; simp [binOp, Op.intDiv, *])

theorem run_binOp {op : BinOp} {t : TypeId} {lit : Bool} {k : IntKind} {x y : Int} {v : Value} (h : intBin op k x y = some v) : Yld P w (semBin op t lit (.int k x) (.int k y)) v := by
  intro w' _
  simp [semBin, eqGuard_int, intBin_run (P := P) (w := w') op t k x y v h]

theorem binQ_yld {op : BinOp} {t : TypeId} {lit : Bool} {a b : Value} (h : binQ P w op t lit a b K) : genQ P w (semBin op t lit a b) K := by
  unfold binQ at h
  split at h
  · rename_i k x k' y
    split at h
    · rename_i hk
      subst hk
      split at h
      · rename_i v hv
        exact ⟨v, run_binOp hv, h⟩
      · exact h
    · exact h
  · exact h

theorem unQ_yld {op : UnOp} {x : Value} (h : unQ op x K) : genQ P w (do pure (.value (← Op.unary op x))) K := by
  unfold unQ at h
  split at h
  · exact ⟨_, fun w' _ => by simp [Op.unary, Op.intArith], h⟩
  · exact ⟨_, fun w' _ => by simp [Op.unary], h⟩
  · exact h.elim

theorem run_underlying' {w' : World} {t : TypeId} {d : TypeDesc} (h : P.underlying t = some d) : (underlying t).run P w' = .ok d w' := by
  simp [underlying, h]

theorem run_typeInfo' {w' : World} {t : TypeId} {i : TypeInfo} (h : P.info? t = some i) : (typeInfo t).run P w' = .ok i w' := by
  simp [typeInfo, h]

theorem run_sizeOf' {w' : World} {t : TypeId} {i : TypeInfo} (h : P.info? t = some i) : (sizeOf t).run P w' = .ok i.size w' := by
  simp [sizeOf, typeInfo, h]

theorem cvQ_yld {s d : TypeId} {x : Value} (h : cvQ P w s d x K) : genQ P w (do pure (.value (← convert s d x))) K := by
  unfold cvQ at h
  split at h
  · rename_i ds k hs hd
    unfold cv1 at h
    split at h
    · refine ⟨_, fun w' _ => ?_, h⟩
      simp [convert, run_underlying' hs, run_underlying' hd, Conv.intToInt]
    · exact h.elim
  · exact h
  · exact h.elim

theorem cellsAt_run {P : Program} {w : World} {a : Addr} : ∀ (n i : Nat) (vs : List Value) (acc : Array Value) (w' : World), Below w.heap.size w w' → cellsAt w a n i = some vs →
    (loadCellsFrom a i n acc).run P w' = .ok (acc ++ vs.toArray) w'
  | 0, i, vs, acc, w', _, h => by
    simp [cellsAt] at h
    subst h
    simp [loadCellsFrom]
  | n + 1, i, vs, acc, w', hb, h => by
    simp only [cellsAt] at h
    split at h
    · rename_i v vs' h1 h2
      simp only [Option.some.injEq] at h
      subst h
      have hc := cell_stays hb h1
      have ih := cellsAt_run (P := P) (w := w) (a := a) n (i + 1) vs' (acc.push v) w' hb h2
      simp [loadCellsFrom, hc, ih]
    · cases h

theorem ldQ_yld {t : TypeId} {p : Value} (h : ldQ P t w p K) : genQ P w (do pure (.value (← Instr.loadAt t p))) K := by
  unfold ldQ at h
  split at h
  · rename_i hs
    unfold ld1 at h
    split at h
    · rename_i a
      split at h
      · rename_i v hv
        refine ⟨v, fun w' hb => ?_, h⟩
        have hc := cell_stays hb hv
        unfold aggSize at hs
        have hagg : (isAgg t).run P w' = .ok false w' := by
          split at hs
          · cases hs
          · rename_i i hi
            cases hu : P.underlying t with
            | none => simp [hu] at hs
            | some d => cases d <;> simp [hu] at hs <;> simp [isAgg, underlying, hu]
        simp [Instr.loadAt, Instr.sureAddr, loadVar, hagg, hc]
      · exact h.elim
    · exact h.elim
  · rename_i n hs
    unfold ldN at h
    split at h
    · rename_i a
      split at h
      · rename_i vs hv
        refine ⟨.agg vs.toArray, fun w' hb => ?_, h⟩
        unfold aggSize at hs
        have hagg : (isAgg t).run P w' = .ok true w' ∧ (sizeOf t).run P w' = .ok n w' := by
          split at hs
          · cases hs
          · rename_i i hi
            cases hu : P.underlying t with
            | none => simp [hu] at hs
            | some d => cases d <;> simp [hu] at hs <;> simp [isAgg, underlying, hu, sizeOf, typeInfo, hi, hs]
        have hc := cellsAt_run (P := P) n 0 vs #[] w' hb hv
        simp only [Array.empty_append] at hc
        have hl : (loadCells a n).run P w' = .ok vs.toArray w' := hc
        simp [Instr.loadAt, Instr.sureAddr, loadVar, hagg.1, hagg.2, hl]
      · exact h.elim
    · exact h.elim
  · exact h.elim

theorem faQ_yld {s : TypeId} {x : Value} {f : Nat} (h : faQ P s x f K) : genQ P w (do pure (.value (← Instr.fieldAt s x f))) K := by
  unfold faQ at h
  split at h
  · rename_i fields hu
    split at h
    · rename_i fd hfd
      split at h
      · rename_i i hi
        split at h
        · exact h.elim
        · rename_i hne
          unfold fa1 at h
          split at h
          · rename_i a
            refine ⟨_, fun w' _ => ?_, h⟩
            simp [Instr.fieldAt, run_underlying' hu, hfd, Instr.sureAddr, fieldPlace, run_sizeOf' hi, hne]
          · exact h.elim
      · exact h.elim
    · exact h.elim
  · exact h.elim

theorem iaQ_yld {t : TypeId} {x i : Value} (h : iaQ P t x i K) : genQ P w (do pure (.value (← Instr.indexAt t x i))) K := by
  unfold iaQ at h
  split at h
  · rename_i e hu
    split at h
    · rename_i j hj
      unfold iaS at h
      split at h
      · obtain ⟨h0, h1, h2⟩ := h
        refine ⟨_, fun w' _ => ?_, h2⟩
        simp [Instr.indexAt, asIntOf, run_underlying' hu, h0, h1, run_sizeOf' hj]
      · exact h.elim
    · exact h.elim
  · rename_i n e hu
    split at h
    · rename_i j hj
      unfold iaA at h
      split at h
      · obtain ⟨h0, h1, h2⟩ := h
        refine ⟨_, fun w' _ => ?_, h2⟩
        simp [Instr.indexAt, asIntOf, run_underlying' hu, h0, h1, run_sizeOf' hj, Instr.sureAddr]
      · exact h.elim
    · exact h.elim
  · exact h.elim

theorem bnd_run {d cap r : Nat} {x : Option Value} (h : bnd d cap x = some r) : (x = none ∧ r = d) ∨ ∃ v, x = some v ∧ ∀ (c : BoundsCode) (w' : World), (Instr.sliceBound v cap c).run P w' = .ok r w' := by
  cases x with
  | none => simp [bnd] at h; exact .inl ⟨rfl, h.symm⟩
  | some v =>
    cases v <;> simp only [bnd, reduceCtorEq] at h
    split at h
    · rename_i k i hc
      simp only [Option.some.injEq] at h
      subst h
      exact .inr ⟨_, rfl, fun c w' => by simp [Instr.sliceBound, asIntOf, hc]⟩
    · cases h

theorem cutQ_run {isS : Bool} {len cap : Nat} {l h : Option Value} {K : Nat → Nat → Prop} (hh : cutQ len cap l h K) :
    ∃ lo hi, K lo hi ∧ ∀ w' : World, (Instr.sliceBounds isS len cap l h none).run P w' = .ok (lo, hi, cap) w' := by
  unfold cutQ at hh
  split at hh
  · exact hh.elim
  · rename_i hi hhi
    split at hh
    · exact hh.elim
    · rename_i lo hlo
      refine ⟨lo, hi, hh, fun w' => ?_⟩
      rcases bnd_run (P := P) hhi with ⟨rfl, rfl⟩ | ⟨v, rfl, h1⟩ <;> rcases bnd_run (P := P) hlo with ⟨rfl, rfl⟩ | ⟨u, rfl, h2⟩ <;> simp [Instr.sliceBounds, *]

theorem slQ_yld {t : TypeId} {x : Value} {l h : Option Value} (hh : slQ P t x l h K) : genQ P w (do pure (.value (← Instr.sliceAt t x l h none))) K := by
  unfold slQ at hh
  split at hh
  · rename_i e hu
    split at hh
    · rename_i j hj
      unfold slS at hh
      split at hh
      · obtain ⟨lo, hi, hk, hr⟩ := cutQ_run (P := P) (isS := true) hh
        refine ⟨_, fun w' _ => ?_, hk⟩
        simp [Instr.sliceAt, run_underlying' hu, Instr.slice, hr w', run_sizeOf' hj]
      · exact hh.elim
    · exact hh.elim
  · rename_i n e hu
    split at hh
    · rename_i j hj
      unfold slA at hh
      split at hh
      · obtain ⟨lo, hi, hk, hr⟩ := cutQ_run (P := P) (isS := false) hh
        refine ⟨_, fun w' _ => ?_, hk⟩
        simp [Instr.sliceAt, run_underlying' hu, Instr.sureAddr, hr w', run_sizeOf' hj]
      · exact hh.elim
    · exact hh.elim
  · exact hh.elim

theorem exQ_yld {x : Value} {i : Nat} (h : exQ x i K) : genQ P w (do pure (.value (← Instr.extract x i))) K := by
  unfold exQ at h
  split at h
  · split at h
    · rename_i vs v hv
      exact ⟨v, fun w' _ => by simp [Instr.extract, hv], h⟩
    · exact h.elim
  · exact h.elim

theorem fieldPlaces_run {w' : World} : ∀ (fs : List Field) (ps : List (Nat × Nat)), fieldPlaces P fs = some ps →
    (fs.mapM (fun f => Prod.mk f.offset <$> sizeOf f.type) : Sem (List (Nat × Nat))).run P w' = .ok ps w'
  | [], ps, h => by simp [fieldPlaces] at h; subst h; simp
  | f :: fs, ps, h => by
    simp only [fieldPlaces] at h
    split at h
    · rename_i i r hi hr
      simp only [Option.some.injEq] at h
      subst h
      have ih := fieldPlaces_run (w' := w') fs r hr
      simp [List.mapM_cons, run_sizeOf' hi, ih]
    · cases h

theorem buildV_yld {t : TypeId} {parts : List (Nat × Value)} {v : Value} (h : buildV P t parts = some v) : ∀ w' : World, (Instr.build t parts.toArray).run P w' = .ok v w' := by
  intro w'
  unfold buildV at h
  split at h
  · rename_i i hi
    split at h
    · rename_i z fields hz hu
      split at h
      · rename_i ps hps
        have hf := fieldPlaces_run (w' := w') _ _ hps
        cases hfl : Instr.fill (ps[·]?) z.cells parts with
        | none => simp [hfl] at h
        | some cells =>
          simp [hfl] at h
          subst h
          have hzv : (zeroValue t).run P w' = .ok z w' := by simp [zeroValue, typeInfo, hi, hz]
          have hm : (fields.mapM (fun f => Prod.mk f.offset <$> sizeOf f.type) : Sem (Array (Nat × Nat))).run P w' = .ok ps.toArray w' := by
            rw [Array.mapM_eq_mapM_toList]
            simp [hf]
          simp [Instr.build, hzv, run_underlying' hu, hm, hfl]
      · cases h
    · rename_i z n e hz hu
      split at h
      · rename_i j hj
        cases hfl : Instr.fill (fun i => some (i * j.size, j.size)) z.cells parts with
        | none => simp [hfl] at h
        | some cells =>
          simp [hfl] at h
          subst h
          have hzv : (zeroValue t).run P w' = .ok z w' := by simp [zeroValue, typeInfo, hi, hz]
          simp [Instr.build, hzv, run_underlying' hu, run_sizeOf' hj, hfl]
      · cases h
    · cases h
  · cases h

theorem allInts_eq : ∀ (k : IntKind) (xs : List Value) (l : List Int), allInts k xs = some l → xs = l.map (.int k)
  | k, [], l, h => by simp [allInts] at h; subst h; rfl
  | k, x :: xs, l, h => by
    cases x <;> simp only [allInts, reduceCtorEq] at h
    rename_i k' n
    split at h
    · rename_i hk
      subst hk
      cases hl : allInts k xs with
      | none => simp [hl] at h
      | some l' =>
        simp [hl] at h
        subst h
        simp [allInts_eq k xs l' hl]
    · cases h

theorem foldMin (isMax : Bool) (k : IntKind) : ∀ (l : List Int) (n : Int) (w' : World),
    ((l.map (Value.int k)).foldlM (if isMax then Builtin.max2 else Builtin.min2) (.int k n)).run P w' =
      .ok (.int k (l.foldl (fun a b => if isMax then (if a < b then b else a) else (if b < a then b else a)) n)) w'
  | [], n, w' => by simp
  | x :: l, n, w' => by
    have ih := foldMin isMax k l
    cases isMax <;> simp [List.foldlM_cons, Builtin.min2, Builtin.max2] <;> simp at * <;> first | exact ih _ _ | skip

theorem genQ_mono {s s' : Sem Next} (h : genQ P w s K) (e : s = s') : genQ P w s' K := e ▸ h

theorem mnQ_yld {isMax : Bool} {xs : List Value} (h : mnQ isMax xs K) :
    genQ P w (do pure (.value (← if isMax then Builtin.max_ #[] 0 xs.toArray else Builtin.min_ #[] 0 xs.toArray))) K := by
  unfold mnQ at h
  split at h
  · rename_i k n r
    split at h
    · rename_i l hl
      have e := allInts_eq _ _ _ hl
      subst e
      refine ⟨_, fun w' _ => ?_, h⟩
      have hf := foldMin (P := P) isMax k l n w'
      cases isMax
      · simp only [Bool.false_eq_true, if_false] at hf ⊢
        simp only [Builtin.min_, Sem.run_bind, hf, Result.andThen_ok, Sem.run_pure]
      · simp only [if_true] at hf ⊢
        simp only [Builtin.max_, Sem.run_bind, hf, Result.andThen_ok, Sem.run_pure]
    · exact h.elim
  · exact h.elim

/-- A builtin's call, carried out on values. -/
theorem execOp_builtin (ρ : Operand → Value) (o : Oper) (b : Builtin) (args : Array Operand) (argTypes : Array TypeId) (ho : o.op = .call { callee := .builtin b, args, argTypes }) :
    execOp ρ o = builtin b argTypes o.type (args.map fun | .const _ => true | _ => false) (args.map ρ) := by
  unfold execOp
  simp only [ho, resolve]
  rfl

theorem lnQ_yld {t : TypeId} {x : Value} {ty : TypeId} (h : lnQ P w t x K) : genQ P w (do pure (.value (← Builtin.len_ #[t] ty #[x]))) K := by
  unfold lnQ at h
  split at h
  · rename_i e hu
    unfold ln1 at h
    split at h
    · exact ⟨_, fun w' _ => by simp [Builtin.len_, run_underlying' hu, goInt], h⟩
    · exact h.elim
  · rename_i hu
    unfold lnS at h
    split at h
    · exact ⟨_, fun w' _ => by simp [Builtin.len_, run_underlying' hu, goInt], h⟩
    · exact h.elim
  · rename_i hu
    unfold lnM at h
    split at h
    · exact ⟨_, fun w' _ => by simp [Builtin.len_, run_underlying' hu, goInt], h⟩
    · split at h
      · rename_i b _ es cl hb
        refine ⟨_, fun w' hw => ?_, h⟩
        have hb' : w'.heap[b]? = some (.map es cl) := (hw.block b (Array.getElem?_eq_some_iff.1 hb).1).trans hb
        have hg : (getObj b).run P w' = .ok (.map es cl) w' := by simp [getObj, Sem.run, hb']
        simp [Builtin.len_, run_underlying' hu, goInt, hg, Result.andThen]
      · exact h.elim
    · exact h.elim
  · exact h.elim

theorem callQ_yld {o : Oper} {c : Call} {ρ : Operand → Value} (ho : o.op = .call c) (h : callQ P w c ρ K) : genQ P w (execOp ρ o) K := by
  obtain ⟨callee, args, argTypes⟩ := c
  unfold callQ at h
  split at h
  · rename_i hc
    simp only at hc
    subst hc
    rw [execOp_builtin ρ _ _ args argTypes ho]
    split at h
    · rename_i x t ha ht
      simp only at ha ht
      have ha' : args = #[x] := by rw [← Array.toArray_toList (xs := args), ha]
      have ht' : argTypes = #[t] := by rw [← Array.toArray_toList (xs := argTypes), ht]
      subst ha' ht'
      refine genQ_mono (lnQ_yld (w := w) (ty := o.type) h) ?_
      simp [builtin]
    · exact h.elim
  · rename_i hc
    simp only at hc
    subst hc
    rw [execOp_builtin ρ _ _ args argTypes ho]
    have := mnQ_yld (w := w) (P := P) h
    obtain ⟨v, hy, hk⟩ := this
    refine ⟨v, fun w' hb => ?_, hk⟩
    have := hy w' hb
    simpa [builtin, Builtin.min_] using this
  · rename_i hc
    simp only at hc
    subst hc
    rw [execOp_builtin ρ _ _ args argTypes ho]
    have := mnQ_yld (w := w) (P := P) h
    obtain ⟨v, hy, hk⟩ := this
    refine ⟨v, fun w' hb => ?_, hk⟩
    have := hy w' hb
    simpa [builtin, Builtin.max_] using this
  · exact h.elim

theorem opQ_yld {o : Oper} {ρ : Operand → Value} (h : opQ P o.op ρ w K) : genQ P w (execOp ρ o) K := by
  cases ho : o.op with
  | call c => rw [ho] at h; exact callQ_yld ho h
  | move x => rw [ho] at h; exact ⟨_, fun w' _ => by simp [execOp, ho], h⟩
  | assign x => rw [ho] at h; exact ⟨_, fun w' _ => by simp [execOp, ho], h⟩
  | pick c a b =>
    rw [ho] at h
    simp only [opQ, pickQ] at h
    split at h
    · rename_i t hc
      exact ⟨_, fun w' _ => by simp [execOp, ho, hc, asBool], h⟩
    · exact h.elim
  | binOp op t x y yt =>
    rw [ho] at h
    refine genQ_mono (binQ_yld h) ?_
    rw [semBin_eq]
    unfold execOp
    simp [ho]
  | unOp op t x => rw [ho] at h; exact genQ_mono (unQ_yld h) (by simp [execOp, ho])
  | convert s d x => rw [ho] at h; exact genQ_mono (cvQ_yld h) (by simp [execOp, ho])
  | load t x => rw [ho] at h; exact genQ_mono (ldQ_yld h) (by simp [execOp, ho])
  | fieldAddr s x f => rw [ho] at h; exact genQ_mono (faQ_yld h) (by simp [execOp, ho])
  | indexAddr t x i => rw [ho] at h; exact genQ_mono (iaQ_yld h) (by simp [execOp, ho])
  | extract x i => rw [ho] at h; exact genQ_mono (exQ_yld h) (by simp [execOp, ho])
  | lookup t m k ok =>
    rw [ho] at h
    refine genQ_mono (s := lkS t (ρ m) (ρ k) ok) h ?_
    simp [execOp, ho, lkS]
  | makeFunc fn first cap =>
    rw [ho] at h
    exact ⟨.func fn (first.toList.map ρ).toArray (cap.toList.map ρ).toArray, fun w' _ => by
      simp only [execOp, ho, Instr.makeFunc, ← Array.toList_map, Array.toArray_toList]
      simp, h⟩
  | slice t x l hi m =>
    rw [ho] at h
    cases m with
    | some m => exact h.elim
    | none =>
      refine genQ_mono (slQ_yld (P := P) (w := w) h) ?_
      simp [execOp, ho]
  | build t parts =>
    rw [ho] at h
    simp only [opQ, bdQ] at h
    split at h
    · rename_i v hv
      refine ⟨v, fun w' _ => ?_, h⟩
      have hb := buildV_yld hv w'
      have e : (parts.toList.map fun p => (p.1, ρ p.2)).toArray = parts.map fun p => (p.1, ρ p.2) := by rw [← Array.toList_map, Array.toArray_toList]
      rw [e] at hb
      simp [execOp, ho, hb]
    · exact h.elim
  | nilCheck x =>
    rw [ho] at h
    simp only [opQ, ncQ] at h
    split at h
    · rename_i a hx
      exact ⟨_, fun w' _ => by simp [execOp, ho, hx], h⟩
    · rename_i f a b hx
      exact ⟨_, fun w' _ => by simp [execOp, ho, hx], h⟩
    · exact h.elim
  | _ => rw [ho] at h; exact h.elim

end
end Go.Lf

/- Lifting, part 2: operations that touch memory or call; rows of operations; regions that draw their order. -/
namespace Go.Lf
open Go.RowKit

def boxW (t : TypeId) (v : Value) (w : World) (K : Value → World → Prop) : Prop :=
  K (.pointer (some ⟨w.heap.size, 0, none⟩)) (w.alloc (.cells v.cells t))

def alW (P : Program) (t : TypeId) (w : World) (K : Value → World → Prop) : Prop :=
  match P.info? t with
  | some i => match i.zero with
    | some z => boxW t z w K
    | none => False
  | none => False

/-- n cells of the zero value. -/
def mkCells (zero : Array Value) (n : Nat) : Array Value := (Array.range n).map (zero[· % zero.size]!)

def buildSV (P : Program) (t : TypeId) (len : Nat) (parts : List (Nat × Value)) : Option (TypeId × Array Value) :=
  match P.underlying t with
  | some (.slice e) => match P.info? e with
    | some j => if len * j.size > 2 ^ 24 then none else
      match (if len * j.size = 0 then some #[] else j.zero.map (·.cells)) with
      | some z => (Instr.fill (fun i => some (i * j.size, j.size)) (mkCells z (len * j.size)) parts).map fun c => (e, c)
      | none => none
    | none => none
  | _ => none

def bsW (P : Program) (t : TypeId) (len : Nat) (parts : List (Nat × Value)) (w : World) (K : Value → World → Prop) : Prop :=
  match buildSV P t len parts with
  | some (e, cs) => K (.slice (some ⟨w.heap.size, 0, none⟩) len len) (w.alloc (.cells cs e))
  | none => False

def stCells (a : Addr) : List Value → Nat → World → (World → Prop) → Prop
  | [], _, w, K => K w
  | c :: cs, i, w, K => (w.cell? (a.add i)).isSome = true ∧ w.frozen? (a.add i) = false ∧ c.oneCell' = true ∧ stCells a cs (i + 1) (w.setCell (a.add i) c) K

def stW (P : Program) (t : TypeId) (p v : Value) (w : World) (K : World → Prop) : Prop :=
  match P.info? t with
  | some i => if v.cells.size = i.size then
      match p with
      | .pointer (some a) => stCells a v.cells.toList 0 w K
      | _ => False
    else False
  | none => False

def mkW (P : Program) (t : TypeId) (l c : Value) (w : World) (K : Value → World → Prop) : Prop :=
  match P.underlying t with
  | some (.slice e) => match P.info? e with
    | some j => match j.zero, l, c with
      | some z, .int _ l, .int _ c => 0 ≤ l ∧ l ≤ c ∧ c ≤ 4611686018427387904 ∧ j.bytes * c ≤ 281474976710656 ∧ 0 < j.size ∧
          K (.slice (some ⟨w.heap.size, 0, none⟩) l.toNat c.toNat) (w.alloc (.cells (mkCells z.cells (c.toNat * j.size)) e))
      | _, _, _ => False
    | none => False
  | _ => False

def mmW (w : World) (K : Value → World → Prop) : Prop := K (.map (some w.heap.size)) (w.alloc (.map #[] 0))

def fnOk (P : Program) (f : FuncId) : Bool :=
  match P.funcs[f]? with
  | some fn => fn.body.isSome && !(fn.name == "runtime.NumGoroutine")
  | none => false

def callW (P : Program) (fv : Value) (args : List Value) (w : World) (K : Value → World → Prop) : Prop :=
  match fv with
  | .func (.func f) first cap => fnOk P f = true ∧ Calls P f (first ++ args.toArray ++ cap) w fun e w' => ∃ v, e = .returned v ∧ K v w'
  | _ => False

def apS (argTypes : List TypeId) (ty : TypeId) (args : List Value) : Sem Next := do pure (.value (← Builtin.append_ argTypes.toArray ty args.toArray))
def cpS (argTypes : List TypeId) (ty : TypeId) (args : List Value) : Sem Next := do pure (.value (← Builtin.copy_ argTypes.toArray ty args.toArray))
def caS (argTypes : List TypeId) (ty : TypeId) (args : List Value) : Sem Next := do pure (.value (← Builtin.cap_ argTypes.toArray ty args.toArray))
def deS (argTypes : List TypeId) (ty : TypeId) (args : List Value) : Sem Next := do pure (.value (← Builtin.delete_ argTypes.toArray ty args.toArray))
def clS (argTypes : List TypeId) (ty : TypeId) (args : List Value) : Sem Next := do pure (.value (← Builtin.clear_ argTypes.toArray ty args.toArray))
def muS (t : TypeId) (m k v : Value) : Sem Next := do Instr.mapUpdate t m k v; pure .skip
def rgS (t : TypeId) (x : Value) : Sem Next := do pure (.value (← Instr.range t x))
def nxS (x : Value) (s : Bool) (t : TypeId) : Sem Next := do pure (.value (← Instr.next x s t))
def enS (x : Value) : Sem Next := do pure (.value (← Instr.entry x))
def ixS (t : TypeId) (x i : Value) : Sem Next := do pure (.value (← Instr.index t x i))
def s3S (t : TypeId) (x : Value) (l h : Option Value) (m : Value) : Sem Next := do pure (.value (← Instr.sliceAt t x l h (some m)))
def fdS (t : TypeId) (x : Value) (f : Nat) : Sem Next := do pure (.value (← Instr.field t x f))

def callE (P : Program) (c : Call) (ty : TypeId) (ρ : Operand → Value) (w : World) (K : Value → World → Prop) : Prop :=
  match c.callee with
  | .value f => callW P (ρ f) (c.args.toList.map ρ) w K
  | .builtin .append => semW P (apS c.argTypes.toList ty (c.args.toList.map ρ)) w K
  | .builtin .copy => semW P (cpS c.argTypes.toList ty (c.args.toList.map ρ)) w K
  | .builtin .cap => semW P (caS c.argTypes.toList ty (c.args.toList.map ρ)) w K
  | .builtin .delete => semW P (deS c.argTypes.toList ty (c.args.toList.map ρ)) w K
  | .builtin .clear => semW P (clS c.argTypes.toList ty (c.args.toList.map ρ)) w K
  | _ => False

def opE (P : Program) (op : Op) (ty : TypeId) (ρ : Operand → Value) (w : World) (K : Value → World → Prop) : Prop :=
  match op with
  | .alloc t => alW P t w K
  | .box t x => boxW t (ρ x) w K
  | .buildSlice t n parts => bsW P t n (parts.toList.map fun p => (p.1, ρ p.2)) w K
  | .store t a x => stW P t (ρ a) (ρ x) w (fun w => K undef w)
  | .makeSlice t l c => mkW P t (ρ l) (ρ c) w K
  | .makeMap _ none => mmW w K
  | .call c => callE P c ty ρ w K
  | .lookup t m k ok => semW P (lkS t (ρ m) (ρ k) ok) w K
  | .mapUpdate t m k v => semW P (muS t (ρ m) (ρ k) (ρ v)) w K
  | .insert t m k v => semW P (muS t (ρ m) (ρ k) (ρ v)) w K
  | .range t x => semW P (rgS t (ρ x)) w K
  | .next x s => semW P (nxS (ρ x) s ty) w K
  | .entry x => semW P (enS (ρ x)) w K
  | .index t x i => semW P (ixS t (ρ x) (ρ i)) w K
  | .field t x f => semW P (fdS t (ρ x) f) w K
  | .slice t x l h (some m) => semW P (s3S t (ρ x) (l.map ρ) (h.map ρ) (ρ m)) w K
  | _ => False

def opW (P : Program) (o : Oper) (ρ : Operand → Value) (w : World) (K : Value → World → Prop) : Prop :=
  match isQ o.op with
  | true => opQ P o.op ρ w fun v => K v w
  | false => opE P o.op o.type ρ w K

section
variable {P : Program} {w : World} {K : Value → World → Prop}

theorem semW_mono {s : Sem Next} {K' : Value → World → Prop} (h : semW P s w K) (hk : ∀ v w', K v w' → K' v w') : semW P s w K' := by
  unfold semW at *
  cases he : s.run P w with
  | halt x w' => rw [he] at h; exact h
  | ok n w' =>
    rw [he] at h
    cases n <;> simp only at h ⊢
    case value v => exact hk _ _ h
    case skip => exact hk _ _ h
    case enter f args => exact h.mono fun e w' ⟨v, h1, h2⟩ => ⟨v, h1, hk _ _ h2⟩

theorem semW_of_yld {s : Sem Next} {v : Value} (h : Yld P w s v) (hk : K v w) : semW P s w K := by
  unfold semW
  rw [h w (Below.refl _ _)]
  exact hk

theorem semW_of_run {s : Sem Next} {v : Value} {w' : World} (h : s.run P w = .ok (.value v) w') (hk : K v w') : semW P s w K := by
  unfold semW
  rw [h]
  exact hk

theorem semW_of_skip {s : Sem Next} {w' : World} (h : s.run P w = .ok .skip w') (hk : K undef w') : semW P s w K := by
  unfold semW
  rw [h]
  exact hk

theorem run_newVar (t : TypeId) (v : Value) : (newVar t v).run P w = .ok ⟨w.heap.size, 0, none⟩ (w.alloc (.cells v.cells t)) := by
  simp [newVar, newRow]

theorem boxW_sem {t : TypeId} {v : Value} (h : boxW t v w K) : semW P (do pure (.value (← Instr.box t v))) w K :=
  semW_of_run (by simp [Instr.box, run_newVar]) h

theorem alW_sem {t : TypeId} (h : alW P t w K) : semW P (do pure (.value (← Instr.alloc t true (.tuple #[])))) w K := by
  unfold alW at h
  split at h
  · rename_i i hi
    split at h
    · rename_i z hz
      refine semW_of_run ?_ h
      have hzv : (zeroValue t).run P w = .ok z w := by simp [zeroValue, typeInfo, hi, hz]
      simp [Instr.alloc, hzv, run_newVar]
    · exact h.elim
  · exact h.elim

theorem bsW_sem {t : TypeId} {n : Nat} {parts : List (Nat × Value)} (h : bsW P t n parts w K) : semW P (do pure (.value (← Instr.buildSlice t n parts.toArray))) w K := by
  unfold bsW at h
  split at h
  · rename_i e cs hb
    refine semW_of_run ?_ h
    unfold buildSV at hb
    split at hb
    · rename_i e' hu
      split at hb
      · rename_i j hj
        split at hb
        · cases hb
        · rename_i hle
          split at hb
          · rename_i z hz
            cases hfl : Instr.fill (fun i => some (i * j.size, j.size)) (mkCells z (n * j.size)) parts with
            | none => simp [hfl] at hb
            | some c =>
              simp [hfl] at hb
              obtain ⟨rfl, rfl⟩ := hb
              have hle' : ¬ (16777216 < n * j.size) := by simpa using hle
              simp only [mkCells] at hfl
              simp only [Instr.buildSlice, Sem.run_bind, run_underlying' hu, Result.andThen_ok, run_sizeOf' hj]
              by_cases h0 : n * j.size = 0
              · rw [if_pos h0] at hz
                simp only [Option.some.injEq] at hz
                subst hz
                simp [h0] at hfl
                simp [h0, hfl, newRow]
              · rw [if_neg h0] at hz
                cases hzj : j.zero with
                | none => simp [hzj] at hz
                | some zz =>
                  simp [hzj] at hz
                  subst hz
                  have hzv : (zeroValue e').run P w = .ok zz w := by simp [zeroValue, typeInfo, hj, hzj]
                  simp [hle', h0, hzv, hfl, newRow]
          · cases hb
      · cases hb
    · cases hb
  · exact h.elim

theorem stCells_run {a : Addr} : ∀ (cs : List Value) (i : Nat) (w : World) (K : World → Prop), stCells a cs i w K → ∃ w', (storeCells a cs i).run P w = .ok () w' ∧ K w'
  | [], i, w, K, h => ⟨w, rfl, h⟩
  | c :: cs, i, w, K, h => by
    obtain ⟨h1, h2, h3, h4⟩ := h
    obtain ⟨u, hu⟩ := Option.isSome_iff_exists.1 h1
    obtain ⟨w', hr, hk⟩ := stCells_run cs (i + 1) _ K h4
    refine ⟨w', ?_, hk⟩
    simp [storeCells, run_store P w (a.add i) c .plain h3, hu, h2, hr]

theorem stW_sem {t : TypeId} {p v : Value} (h : stW P t p v w (fun w' => K undef w')) : semW P (do Instr.storeAt t p v; pure .skip) w K := by
  unfold stW at h
  split at h
  · rename_i i hi
    split at h
    · rename_i hs
      split at h
      · rename_i a
        obtain ⟨w', hr, hk⟩ := stCells_run (P := P) _ _ _ _ h
        refine semW_of_skip ?_ hk
        simp [Instr.storeAt, Instr.sureAddr, storeVar, run_sizeOf' hi, hs, hr]
      · exact h.elim
    · exact h.elim
  · exact h.elim

theorem wrap_small {n : Int} (h0 : 0 ≤ n) (h1 : n ≤ 4611686018427387904) : IntKind.i64.wrap n = n := by
  have := IntWalk.i64_in n (by omega)
  exact this

theorem mkW_sem {t : TypeId} {l c : Value} (h : mkW P t l c w K) : semW P (do pure (.value (← Instr.makeSlice t l c))) w K := by
  unfold mkW at h
  split at h
  · rename_i e hu
    split at h
    · rename_i j hj
      split at h
      · rename_i z k l k' c hz
        obtain ⟨h0, h1, h2, h3, hs, hk⟩ := h
        refine semW_of_run ?_ hk
        have e1 := wrap_small h0 (by omega)
        have e2 := wrap_small (n := c) (by omega) h2
        have b1 : (decide (c < 0) || decide ((281474976710656 : Int) < j.bytes * c)) = false := by simp; omega
        have b2 : decide (l < 0) = false := by simp; omega
        have b3 : decide (c < l) = false := by simp; omega
        have hzv : (zeroValue e).run P w = .ok z w := by simp [zeroValue, typeInfo, hj, hz]
        simp only [Instr.makeSlice, Sem.run_bind, run_underlying' hu, Result.andThen_ok, asInt, asIntOf, Sem.run_pure, run_typeInfo' hj, e1, e2]
        by_cases h0 : c.toNat * j.size = 0
        · have hr : Array.range 0 = #[] := by simp
          simp [b1, b2, b3, run_sizeOf' hj, newRow, mkCells, h0, hr]
        · simp [b1, b2, b3, run_sizeOf' hj, newRow, mkCells, h0, hzv]
      · exact h.elim
    · exact h.elim
  · exact h.elim

theorem mmW_sem {t : TypeId} (h : mmW w K) : semW P (do pure (.value (← Instr.makeMap t none))) w K :=
  semW_of_run (by simp [Instr.makeMap]) h

theorem callFunc_run {f : FuncId} {args : Array Value} (h : fnOk P f = true) : (callFunc f args).run P w = .ok (.enter f args) w := by
  unfold fnOk at h
  split at h
  · rename_i fn hf
    simp only [Bool.and_eq_true, Bool.not_eq_true'] at h
    obtain ⟨h1, h2⟩ := h
    have h2' : fn.name ≠ "runtime.NumGoroutine" := by simpa using h2
    have h3 : fn.body ≠ none := by cases hb : fn.body <;> simp_all
    simp [callFunc, hf, h2', h3]
  · cases h

theorem callW_sem {o : Oper} {ρ : Operand → Value} {f : Operand} {args : Array Operand} {argTypes : Array TypeId} (ho : o.op = .call { callee := .value f, args, argTypes })
    (h : callW P (ρ f) (args.toList.map ρ) w K) : semW P (execOp ρ o) w K := by
  unfold callW at h
  split at h
  · rename_i g first cap hf
    obtain ⟨h1, h2⟩ := h
    unfold semW
    have e : (execOp ρ o).run P w = .ok (.enter g (first ++ (args.toList.map ρ).toArray ++ cap)) w := by
      have e2 : args.map ρ = (args.toList.map ρ).toArray := by rw [← Array.toList_map, Array.toArray_toList]
      simp [execOp, ho, resolve, hf, Deferred.ofValue, invoke, callFunc_run h1, e2]
    rw [e]
    exact h2
  · exact h.elim

theorem semW_eq {s s' : Sem Next} (h : semW P s w K) (e : s = s') : semW P s' w K := e ▸ h

theorem toList_map_toArray {α β : Type} (xs : Array α) (f : α → β) : (xs.toList.map f).toArray = xs.map f := by rw [← Array.toList_map, Array.toArray_toList]

theorem callE_sem {o : Oper} {c : Call} {ρ : Operand → Value} (ho : o.op = .call c) (h : callE P c o.type ρ w K) : semW P (execOp ρ o) w K := by
  obtain ⟨callee, args, argTypes⟩ := c
  cases callee with
  | value f => exact callW_sem ho h
  | invoke r m => exact h.elim
  | builtin b =>
    rw [execOp_builtin ρ _ _ args argTypes ho]
    cases b <;> first
      | exact h.elim
      | (simp only [callE] at h
         refine semW_eq h ?_
         simp only [apS, cpS, caS, deS, clS, builtin, toList_map_toArray, Array.toArray_toList])

theorem opE_sem {o : Oper} {ρ : Operand → Value} (h : opE P o.op o.type ρ w K) : semW P (execOp ρ o) w K := by
  cases ho : o.op with
  | call c => rw [ho] at h; exact callE_sem ho h
  | alloc t => rw [ho] at h; exact semW_eq (alW_sem h) (by simp [execOp, ho])
  | box t x => rw [ho] at h; exact semW_eq (boxW_sem h) (by simp [execOp, ho])
  | buildSlice t n parts =>
    rw [ho] at h
    refine semW_eq (bsW_sem h) ?_
    rw [toList_map_toArray]
    simp [execOp, ho]
  | store t a x => rw [ho] at h; exact semW_eq (stW_sem h) (by simp [execOp, ho])
  | makeSlice t l c => rw [ho] at h; exact semW_eq (mkW_sem h) (by simp [execOp, ho])
  | makeMap t r =>
    rw [ho] at h
    cases r with
    | none => exact semW_eq (mmW_sem (t := t) h) (by simp [execOp, ho])
    | some r => exact h.elim
  | lookup t m k ok => rw [ho] at h; exact semW_eq (s := lkS t (ρ m) (ρ k) ok) h (by simp [execOp, ho, lkS])
  | mapUpdate t m k v => rw [ho] at h; exact semW_eq (s := muS t (ρ m) (ρ k) (ρ v)) h (by simp [execOp, ho, muS])
  | insert t m k v => rw [ho] at h; exact semW_eq (s := muS t (ρ m) (ρ k) (ρ v)) h (by simp [execOp, ho, muS])
  | range t x => rw [ho] at h; exact semW_eq (s := rgS t (ρ x)) h (by simp [execOp, ho, rgS])
  | next x s => rw [ho] at h; exact semW_eq (s := nxS (ρ x) s o.type) h (by simp [execOp, ho, nxS])
  | entry x => rw [ho] at h; exact semW_eq (s := enS (ρ x)) h (by simp [execOp, ho, enS])
  | index t x i => rw [ho] at h; exact semW_eq (s := ixS t (ρ x) (ρ i)) h (by simp [execOp, ho, ixS])
  | field t x f => rw [ho] at h; exact semW_eq (s := fdS t (ρ x) f) h (by simp [execOp, ho, fdS])
  | slice t x l hi m =>
    rw [ho] at h
    cases m with
    | none => exact h.elim
    | some m => exact semW_eq (s := s3S t (ρ x) (l.map ρ) (hi.map ρ) (ρ m)) h (by simp [execOp, ho, s3S])
  | _ => rw [ho] at h; exact h.elim

theorem opW_sem {o : Oper} {ρ : Operand → Value} (h : opW P o ρ w K) : semW P (execOp ρ o) w K := by
  unfold opW at h
  split at h
  · obtain ⟨v, hy, hk⟩ := opQ_yld h
    exact semW_of_yld hy hk
  · exact opE_sem h

end
end Go.Lf
