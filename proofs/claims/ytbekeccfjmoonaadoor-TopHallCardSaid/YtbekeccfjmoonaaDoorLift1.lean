/- Lifting of code to plain statements, part 1: what an operation asks, as a proposition over the values of its operands; and that it is enough. -/
import Derived.WalkKit
import Derived.Orders
set_option linter.all false
namespace Go.Lf
open Go.RowKit

abbrev Fr := Nat → Value

def evO (fr : Fr) : Operand → Value
  | .tmp t => fr t
  | .const v => v
  | .global g => .pointer (some ⟨g, 0, none⟩)
  | .func f => .func (.func f) #[] #[]

def isLit : Operand → Bool
  | .const _ => true
  | _ => false

/-- In every world that w grows into, s gives v and leaves the world alone. -/
def Yld (P : Program) (w : World) (s : Sem Next) (v : Value) : Prop := ∀ w', Below w.heap.size w w' → s.run P w' = .ok (.value v) w'

def genQ (P : Program) (w : World) (s : Sem Next) (K : Value → Prop) : Prop := ∃ v, Yld P w s v ∧ K v

def semW (P : Program) (s : Sem Next) (w : World) (K : Value → World → Prop) : Prop :=
  match s.run P w with
  | .ok (.value v) w' => K v w'
  | .ok .skip w' => K undef w'
  | .ok (.enter f args) w' => Calls P f args w' fun e w'' => ∃ v, e = .returned v ∧ K v w''
  | _ => False

/-! ### quiet operations -/

def pickQ (c a b : Value) (K : Value → Prop) : Prop :=
  match c with
  | .bool t => K (if t then a else b)
  | _ => False

/-- What a binary operation gives on two integers of one kind. -/
def intBin (op : BinOp) (k : IntKind) (x y : Int) : Option Value :=
  match op with
  | .add => some (.int k (k.wrap (x + y)))
  | .sub => some (.int k (k.wrap (x - y)))
  | .mul => some (.int k (k.wrap (x * y)))
  | .quo => if y = 0 then none else some (.int k (k.wrap (x.tdiv y)))
  | .rem => if y = 0 then none else some (.int k (x.tmod y))
  | .eql => some (.bool (decide (x = y)))
  | .neq => some (.bool (!decide (x = y)))
  | .lss => some (.bool (decide (x < y)))
  | .leq => some (.bool (decide (x ≤ y)))
  | .gtr => some (.bool (decide (y < x)))
  | .geq => some (.bool (decide (y ≤ x)))
  | _ => none

def semBin (op : BinOp) (t : TypeId) (lit : Bool) (a b : Value) : Sem Next := do
  pure (.value (← (do eqGuard op t (if lit then .const undef else .tmp 0) (.tmp 0) a b; binOp op t a b)))

def binQ (P : Program) (w : World) (op : BinOp) (t : TypeId) (lit : Bool) (a b : Value) (K : Value → Prop) : Prop :=
  match a, b with
  | .int k x, .int k' y =>
    if k = k' then
      match intBin op k x y with
      | some v => K v
      | none => genQ P w (semBin op t lit (.int k x) (.int k' y)) K
    else genQ P w (semBin op t lit (.int k x) (.int k' y)) K
  | a, b => genQ P w (semBin op t lit a b) K

def unQ (op : UnOp) (x : Value) (K : Value → Prop) : Prop :=
  match op, x with
  | .neg, .int k n => K (.int k (k.wrap (0 - n)))
  | .not, .bool b => K (.bool (!b))
  | _, _ => False

def cv1 (k : IntKind) (x : Value) (K : Value → Prop) : Prop :=
  match x with
  | .int _ n => K (.int k (k.wrap n))
  | _ => False

def cvQ (P : Program) (s d : TypeId) (x : Value) (K : Value → Prop) : Prop :=
  match P.underlying s, P.underlying d with
  | some _, some (.int k) => cv1 k x K
  | _, _ => False

/-- n cells from a on. -/
def cellsAt (w : World) (a : Addr) : Nat → Nat → Option (List Value)
  | 0, _ => some []
  | n + 1, i => match w.cell? (a.add i), cellsAt w a n (i + 1) with
    | some v, some vs => some (v :: vs)
    | _, _ => none

def aggSize (P : Program) (t : TypeId) : Option (Option Nat) :=
  match P.info? t with
  | none => none
  | some i => match P.underlying t with
    | none => none
    | some (.struct _) => some (some i.size)
    | some (.array _ _) => some (some i.size)
    | some _ => some none

def ld1 (w : World) (p : Value) (K : Value → Prop) : Prop :=
  match p with
  | .pointer (some a) => match w.cell? a with
    | some v => K v
    | none => False
  | _ => False

def ldN (n : Nat) (w : World) (p : Value) (K : Value → Prop) : Prop :=
  match p with
  | .pointer (some a) => match cellsAt w a n 0 with
    | some vs => K (.agg vs.toArray)
    | none => False
  | _ => False

def ldQ (P : Program) (t : TypeId) (w : World) (p : Value) (K : Value → Prop) : Prop :=
  match aggSize P t with
  | some none => ld1 w p K
  | some (some n) => ldN n w p K
  | none => False

def fa1 (x : Value) (off : Nat) (K : Value → Prop) : Prop :=
  match x with
  | .pointer (some a) => K (.pointer (some (a.add off)))
  | _ => False

def faQ (P : Program) (s : TypeId) (x : Value) (f : Nat) (K : Value → Prop) : Prop :=
  match P.underlying s with
  | some (.struct fields) => match fields[f]? with
    | some fd => match P.info? fd.type with
      | some i => if i.size = 0 then False else fa1 x fd.offset K
      | none => False
    | none => False
  | _ => False

def iaS (sz : Nat) (x i : Value) (K : Value → Prop) : Prop :=
  match x, i with
  | .slice (some a) n _, .int _ i => 0 ≤ i ∧ i < n ∧ K (.pointer (some (a.add (i.toNat * sz))))
  | _, _ => False

def iaA (n sz : Nat) (x i : Value) (K : Value → Prop) : Prop :=
  match x, i with
  | .pointer (some a), .int _ i => 0 ≤ i ∧ i < n ∧ K (.pointer (some (a.add (i.toNat * sz))))
  | _, _ => False

def iaQ (P : Program) (t : TypeId) (x i : Value) (K : Value → Prop) : Prop :=
  match P.underlying t with
  | some (.slice e) => match P.info? e with
    | some j => iaS j.size x i K
    | none => False
  | some (.array n e) => match P.info? e with
    | some j => iaA n j.size x i K
    | none => False
  | _ => False

/-- One bound of a cut (none: the default). -/
def bnd (d cap : Nat) : Option Value → Option Nat
  | none => some d
  | some (.int _ i) => if 0 ≤ i ∧ i ≤ cap then some i.toNat else none
  | some _ => none

/-- The bounds of a cut: low and high, if they are in range. -/
def cutQ (len cap : Nat) (l h : Option Value) (K : Nat → Nat → Prop) : Prop :=
  match bnd len cap h with
  | none => False
  | some hi =>
    match bnd 0 hi l with
    | none => False
    | some lo => K lo hi

def slS (sz : Nat) (x : Value) (l h : Option Value) (K : Value → Prop) : Prop :=
  match x with
  | .slice a n c => cutQ n c l h fun lo hi => K (.slice (if c = lo then a else a.map (·.add (lo * sz))) (hi - lo) (c - lo))
  | _ => False

def slA (n sz : Nat) (x : Value) (l h : Option Value) (K : Value → Prop) : Prop :=
  match x with
  | .pointer (some a) => cutQ n n l h fun lo hi => K (.slice (some (if n = lo then a else a.add (lo * sz))) (hi - lo) (n - lo))
  | _ => False

def slQ (P : Program) (t : TypeId) (x : Value) (l h : Option Value) (K : Value → Prop) : Prop :=
  match P.underlying t with
  | some (.slice e) => match P.info? e with
    | some j => slS j.size x l h K
    | none => False
  | some (.array n e) => match P.info? e with
    | some j => slA n j.size x l h K
    | none => False
  | _ => False

def exQ (x : Value) (i : Nat) (K : Value → Prop) : Prop :=
  match x with
  | .tuple vs => match vs[i]? with
    | some v => K v
    | none => False
  | _ => False

def fieldPlaces (P : Program) : List Field → Option (List (Nat × Nat))
  | [] => some []
  | f :: fs => match P.info? f.type, fieldPlaces P fs with
    | some i, some r => some ((f.offset, i.size) :: r)
    | _, _ => none

def buildV (P : Program) (t : TypeId) (parts : List (Nat × Value)) : Option Value :=
  match P.info? t with
  | some i => match i.zero, P.underlying t with
    | some z, some (.struct fields) => match fieldPlaces P fields.toList with
      | some ps => (Instr.fill (ps[·]?) z.cells parts).map .agg
      | none => none
    | some z, some (.array _ e) => match P.info? e with
      | some j => (Instr.fill (fun i => some (i * j.size, j.size)) z.cells parts).map .agg
      | none => none
    | _, _ => none
  | none => none

def bdQ (P : Program) (t : TypeId) (parts : List (Nat × Value)) (K : Value → Prop) : Prop :=
  match buildV P t parts with
  | some v => K v
  | none => False

def ln1 (x : Value) (K : Value → Prop) : Prop :=
  match x with
  | .slice _ n _ => K (.int .i64 n)
  | _ => False

/-- The length of a string. -/
def lnS (x : Value) (K : Value → Prop) : Prop :=
  match x with
  | .string s => K (.int .i64 s.size)
  | _ => False

def lnQ (P : Program) (t : TypeId) (x : Value) (K : Value → Prop) : Prop :=
  match P.underlying t with
  | some (.slice _) => ln1 x K
  | some .string => lnS x K
  | _ => False

def allInts (k : IntKind) : List Value → Option (List Int)
  | [] => some []
  | .int k' n :: r => if k = k' then (allInts k r).map (n :: ·) else none
  | _ :: _ => none

/-- min, max of integers. -/
def mnQ (isMax : Bool) (xs : List Value) (K : Value → Prop) : Prop :=
  match xs with
  | .int k n :: r => match allInts k r with
    | some l => K (.int k (l.foldl (fun a b => if isMax then (if a < b then b else a) else (if b < a then b else a)) n))
    | none => False
  | _ => False

def ncQ (x : Value) (K : Value → Prop) : Prop :=
  match x with
  | .pointer (some a) => K (.pointer (some a))
  | .func (.func f) a b => K (.func (.func f) a b)
  | _ => False

def lkS (t : TypeId) (m k : Value) (ok : Bool) : Sem Next := do pure (.value (← Instr.lookup t m k ok))

def isQ : Op → Bool
  | .move _ | .assign _ | .pick .. | .binOp .. | .unOp .. | .convert .. | .load .. | .fieldAddr .. | .indexAddr .. | .slice _ _ _ _ none | .extract .. | .build ..
  | .nilCheck _ | .makeFunc .. => true
  | .call c => match c.callee with
    | .builtin .len | .builtin .min | .builtin .max => true
    | _ => false
  | _ => false

def callQ (P : Program) (c : Call) (ρ : Operand → Value) (K : Value → Prop) : Prop :=
  match c.callee with
  | .builtin .len => match c.args.toList, c.argTypes.toList with
    | [x], [t] => lnQ P t (ρ x) K
    | _, _ => False
  | .builtin .min => mnQ false (c.args.toList.map ρ) K
  | .builtin .max => mnQ true (c.args.toList.map ρ) K
  | _ => False

def opQ (P : Program) (o : Op) (ρ : Operand → Value) (w : World) (K : Value → Prop) : Prop :=
  match o with
  | .move x | .assign x => K (ρ x)
  | .pick c a b => pickQ (ρ c) (ρ a) (ρ b) K
  | .binOp op t x y _ => binQ P w op t (isLit x || isLit y) (ρ x) (ρ y) K
  | .unOp op _ x => unQ op (ρ x) K
  | .convert s d x => cvQ P s d (ρ x) K
  | .load t x => ldQ P t w (ρ x) K
  | .fieldAddr s x f => faQ P s (ρ x) f K
  | .indexAddr t x i => iaQ P t (ρ x) (ρ i) K
  | .slice t x l h none => slQ P t (ρ x) (l.map ρ) (h.map ρ) K
  | .extract x i => exQ (ρ x) i K
  | .build t parts => bdQ P t (parts.toList.map fun p => (p.1, ρ p.2)) K
  | .nilCheck x => ncQ (ρ x) K
  | .makeFunc fn first cap => K (.func fn (first.toList.map ρ).toArray (cap.toList.map ρ).toArray)
  | .call c => callQ P c ρ K
  | .lookup t m k ok => genQ P w (lkS t (ρ m) (ρ k) ok) K
  | _ => False

/-! ### soundness -/

section
variable {P : Program} {w : World} {K : Value → Prop}

theorem yld_pure {v : Value} : Yld P w (pure (.value v)) v := fun _ _ => rfl

theorem cell_stays {w w' : World} {a : Addr} {v : Value} (hb : Below w.heap.size w w') (h : w.cell? a = some v) : w'.cell? a = some v :=
  (hb.cell (World.block_lt_of_cell? w a h)).trans h

theorem eqGuard_lit (op : BinOp) (t : TypeId) (x y : Operand) (a b : Value) :
    eqGuard op t (if isLit x || isLit y then .const undef else .tmp 0) (.tmp 0) a b = eqGuard op t x y a b := by
  unfold eqGuard
  cases x <;> cases y <;> simp [isLit]

theorem semBin_eq (op : BinOp) (t : TypeId) (x y : Operand) (a b : Value) :
    semBin op t (isLit x || isLit y) a b = (do pure (.value (← (do eqGuard op t x y a b; binOp op t a b))) : Sem Next) := by
  unfold semBin
  rw [eqGuard_lit]

theorem eqGuard_int (op : BinOp) (t : TypeId) (x y : Operand) (k k' : IntKind) (a b : Int) : (eqGuard op t x y (.int k a) (.int k' b)).run P w = .ok () w := by
  unfold eqGuard
  cases op <;> simp

theorem intBin_run (op : BinOp) (t : TypeId) (k : IntKind) (x y : Int) (v : Value) (h : intBin op k x y = some v) : (binOp op t (.int k x) (.int k y)).run P w = .ok v w := by
  cases op <;> simp only [intBin, Option.some.injEq, reduceCtorEq] at h
  all_goals try (subst h; simp [binOp, Op.intArith, Op.intCmp]; try rfl)
  all_goals try (split at h <;> simp only [Option.some.injEq, reduceCtorEq] at h; subst h; simp [binOp, Op.intDiv, *])

theorem run_binOp {op : BinOp} {t : TypeId} {lit : Bool} {k : IntKind} {x y : Int} {v : Value} (h : intBin op k x y = some v) : Yld P w (semBin op t lit (.int k x) (.int k y)) v := by
  intro w' _
  simp [semBin, eqGuard_int, intBin_run (P := P) (w := w') op t k x y v h]

theorem binQ_yld {op : BinOp} {t : TypeId} {lit : Bool} {a b : Value} (h : binQ P w op t lit a b K) : genQ P w (semBin op t lit a b) K := by
  unfold binQ at h
  split at h
  · rename_i k x k' y
    split at h
    · rename_i hk
      subst hk
      split at h
      · rename_i v hv
        exact ⟨v, run_binOp hv, h⟩
      · exact h
    · exact h
  · exact h

theorem unQ_yld {op : UnOp} {x : Value} (h : unQ op x K) : genQ P w (do pure (.value (← Op.unary op x))) K := by
  unfold unQ at h
  split at h
  · exact ⟨_, fun w' _ => by simp [Op.unary, Op.intArith], h⟩
  · exact ⟨_, fun w' _ => by simp [Op.unary], h⟩
  · exact h.elim

theorem run_underlying' {w' : World} {t : TypeId} {d : TypeDesc} (h : P.underlying t = some d) : (underlying t).run P w' = .ok d w' := by
  simp [underlying, h]

theorem run_typeInfo' {w' : World} {t : TypeId} {i : TypeInfo} (h : P.info? t = some i) : (typeInfo t).run P w' = .ok i w' := by
  simp [typeInfo, h]

theorem run_sizeOf' {w' : World} {t : TypeId} {i : TypeInfo} (h : P.info? t = some i) : (sizeOf t).run P w' = .ok i.size w' := by
  simp [sizeOf, typeInfo, h]

theorem cvQ_yld {s d : TypeId} {x : Value} (h : cvQ P s d x K) : genQ P w (do pure (.value (← convert s d x))) K := by
  unfold cvQ at h
  split at h
  · rename_i ds k hs hd
    unfold cv1 at h
    split at h
    · refine ⟨_, fun w' _ => ?_, h⟩
      simp [convert, run_underlying' hs, run_underlying' hd, Conv.intToInt]
    · exact h.elim
  · exact h.elim

theorem cellsAt_run {P : Program} {w : World} {a : Addr} : ∀ (n i : Nat) (vs : List Value) (acc : Array Value) (w' : World), Below w.heap.size w w' → cellsAt w a n i = some vs →
    (loadCellsFrom a i n acc).run P w' = .ok (acc ++ vs.toArray) w'
  | 0, i, vs, acc, w', _, h => by
    simp [cellsAt] at h
    subst h
    simp [loadCellsFrom]
  | n + 1, i, vs, acc, w', hb, h => by
    simp only [cellsAt] at h
    split at h
    · rename_i v vs' h1 h2
      simp only [Option.some.injEq] at h
      subst h
      have hc := cell_stays hb h1
      have ih := cellsAt_run (P := P) (w := w) (a := a) n (i + 1) vs' (acc.push v) w' hb h2
      simp [loadCellsFrom, hc, ih]
    · cases h

theorem ldQ_yld {t : TypeId} {p : Value} (h : ldQ P t w p K) : genQ P w (do pure (.value (← Instr.loadAt t p))) K := by
  unfold ldQ at h
  split at h
  · rename_i hs
    unfold ld1 at h
    split at h
    · rename_i a
      split at h
      · rename_i v hv
        refine ⟨v, fun w' hb => ?_, h⟩
        have hc := cell_stays hb hv
        unfold aggSize at hs
        have hagg : (isAgg t).run P w' = .ok false w' := by
          split at hs
          · cases hs
          · rename_i i hi
            cases hu : P.underlying t with
            | none => simp [hu] at hs
            | some d => cases d <;> simp [hu] at hs <;> simp [isAgg, underlying, hu]
        simp [Instr.loadAt, Instr.sureAddr, loadVar, hagg, hc]
      · exact h.elim
    · exact h.elim
  · rename_i n hs
    unfold ldN at h
    split at h
    · rename_i a
      split at h
      · rename_i vs hv
        refine ⟨.agg vs.toArray, fun w' hb => ?_, h⟩
        unfold aggSize at hs
        have hagg : (isAgg t).run P w' = .ok true w' ∧ (sizeOf t).run P w' = .ok n w' := by
          split at hs
          · cases hs
          · rename_i i hi
            cases hu : P.underlying t with
            | none => simp [hu] at hs
            | some d => cases d <;> simp [hu] at hs <;> simp [isAgg, underlying, hu, sizeOf, typeInfo, hi, hs]
        have hc := cellsAt_run (P := P) n 0 vs #[] w' hb hv
        simp only [Array.empty_append] at hc
        have hl : (loadCells a n).run P w' = .ok vs.toArray w' := hc
        simp [Instr.loadAt, Instr.sureAddr, loadVar, hagg.1, hagg.2, hl]
      · exact h.elim
    · exact h.elim
  · exact h.elim

theorem faQ_yld {s : TypeId} {x : Value} {f : Nat} (h : faQ P s x f K) : genQ P w (do pure (.value (← Instr.fieldAt s x f))) K := by
  unfold faQ at h
  split at h
  · rename_i fields hu
    split at h
    · rename_i fd hfd
      split at h
      · rename_i i hi
        split at h
        · exact h.elim
        · rename_i hne
          unfold fa1 at h
          split at h
          · rename_i a
            refine ⟨_, fun w' _ => ?_, h⟩
            simp [Instr.fieldAt, run_underlying' hu, hfd, Instr.sureAddr, fieldPlace, run_sizeOf' hi, hne]
          · exact h.elim
      · exact h.elim
    · exact h.elim
  · exact h.elim

theorem iaQ_yld {t : TypeId} {x i : Value} (h : iaQ P t x i K) : genQ P w (do pure (.value (← Instr.indexAt t x i))) K := by
  unfold iaQ at h
  split at h
  · rename_i e hu
    split at h
    · rename_i j hj
      unfold iaS at h
      split at h
      · obtain ⟨h0, h1, h2⟩ := h
        refine ⟨_, fun w' _ => ?_, h2⟩
        simp [Instr.indexAt, asIntOf, run_underlying' hu, h0, h1, run_sizeOf' hj]
      · exact h.elim
    · exact h.elim
  · rename_i n e hu
    split at h
    · rename_i j hj
      unfold iaA at h
      split at h
      · obtain ⟨h0, h1, h2⟩ := h
        refine ⟨_, fun w' _ => ?_, h2⟩
        simp [Instr.indexAt, asIntOf, run_underlying' hu, h0, h1, run_sizeOf' hj, Instr.sureAddr]
      · exact h.elim
    · exact h.elim
  · exact h.elim

theorem bnd_run {d cap r : Nat} {x : Option Value} (h : bnd d cap x = some r) : (x = none ∧ r = d) ∨ ∃ v, x = some v ∧ ∀ (c : BoundsCode) (w' : World), (Instr.sliceBound v cap c).run P w' = .ok r w' := by
  cases x with
  | none => simp [bnd] at h; exact .inl ⟨rfl, h.symm⟩
  | some v =>
    cases v <;> simp only [bnd, reduceCtorEq] at h
    split at h
    · rename_i k i hc
      simp only [Option.some.injEq] at h
      subst h
      exact .inr ⟨_, rfl, fun c w' => by simp [Instr.sliceBound, asIntOf, hc]⟩
    · cases h

theorem cutQ_run {isS : Bool} {len cap : Nat} {l h : Option Value} {K : Nat → Nat → Prop} (hh : cutQ len cap l h K) :
    ∃ lo hi, K lo hi ∧ ∀ w' : World, (Instr.sliceBounds isS len cap l h none).run P w' = .ok (lo, hi, cap) w' := by
  unfold cutQ at hh
  split at hh
  · exact hh.elim
  · rename_i hi hhi
    split at hh
    · exact hh.elim
    · rename_i lo hlo
      refine ⟨lo, hi, hh, fun w' => ?_⟩
      rcases bnd_run (P := P) hhi with ⟨rfl, rfl⟩ | ⟨v, rfl, h1⟩ <;> rcases bnd_run (P := P) hlo with ⟨rfl, rfl⟩ | ⟨u, rfl, h2⟩ <;> simp [Instr.sliceBounds, *]

theorem slQ_yld {t : TypeId} {x : Value} {l h : Option Value} (hh : slQ P t x l h K) : genQ P w (do pure (.value (← Instr.sliceAt t x l h none))) K := by
  unfold slQ at hh
  split at hh
  · rename_i e hu
    split at hh
    · rename_i j hj
      unfold slS at hh
      split at hh
      · obtain ⟨lo, hi, hk, hr⟩ := cutQ_run (P := P) (isS := true) hh
        refine ⟨_, fun w' _ => ?_, hk⟩
        simp [Instr.sliceAt, run_underlying' hu, Instr.slice, hr w', run_sizeOf' hj]
      · exact hh.elim
    · exact hh.elim
  · rename_i n e hu
    split at hh
    · rename_i j hj
      unfold slA at hh
      split at hh
      · obtain ⟨lo, hi, hk, hr⟩ := cutQ_run (P := P) (isS := false) hh
        refine ⟨_, fun w' _ => ?_, hk⟩
        simp [Instr.sliceAt, run_underlying' hu, Instr.sureAddr, hr w', run_sizeOf' hj]
      · exact hh.elim
    · exact hh.elim
  · exact hh.elim

theorem exQ_yld {x : Value} {i : Nat} (h : exQ x i K) : genQ P w (do pure (.value (← Instr.extract x i))) K := by
  unfold exQ at h
  split at h
  · split at h
    · rename_i vs v hv
      exact ⟨v, fun w' _ => by simp [Instr.extract, hv], h⟩
    · exact h.elim
  · exact h.elim

theorem fieldPlaces_run {w' : World} : ∀ (fs : List Field) (ps : List (Nat × Nat)), fieldPlaces P fs = some ps →
    (fs.mapM (fun f => Prod.mk f.offset <$> sizeOf f.type) : Sem (List (Nat × Nat))).run P w' = .ok ps w'
  | [], ps, h => by simp [fieldPlaces] at h; subst h; simp
  | f :: fs, ps, h => by
    simp only [fieldPlaces] at h
    split at h
    · rename_i i r hi hr
      simp only [Option.some.injEq] at h
      subst h
      have ih := fieldPlaces_run (w' := w') fs r hr
      simp [List.mapM_cons, run_sizeOf' hi, ih]
    · cases h

theorem buildV_yld {t : TypeId} {parts : List (Nat × Value)} {v : Value} (h : buildV P t parts = some v) : ∀ w' : World, (Instr.build t parts.toArray).run P w' = .ok v w' := by
  intro w'
  unfold buildV at h
  split at h
  · rename_i i hi
    split at h
    · rename_i z fields hz hu
      split at h
      · rename_i ps hps
        have hf := fieldPlaces_run (w' := w') _ _ hps
        cases hfl : Instr.fill (ps[·]?) z.cells parts with
        | none => simp [hfl] at h
        | some cells =>
          simp [hfl] at h
          subst h
          have hzv : (zeroValue t).run P w' = .ok z w' := by simp [zeroValue, typeInfo, hi, hz]
          have hm : (fields.mapM (fun f => Prod.mk f.offset <$> sizeOf f.type) : Sem (Array (Nat × Nat))).run P w' = .ok ps.toArray w' := by
            rw [Array.mapM_eq_mapM_toList]
            simp [hf]
          simp [Instr.build, hzv, run_underlying' hu, hm, hfl]
      · cases h
    · rename_i z n e hz hu
      split at h
      · rename_i j hj
        cases hfl : Instr.fill (fun i => some (i * j.size, j.size)) z.cells parts with
        | none => simp [hfl] at h
        | some cells =>
          simp [hfl] at h
          subst h
          have hzv : (zeroValue t).run P w' = .ok z w' := by simp [zeroValue, typeInfo, hi, hz]
          simp [Instr.build, hzv, run_underlying' hu, run_sizeOf' hj, hfl]
      · cases h
    · cases h
  · cases h

theorem allInts_eq : ∀ (k : IntKind) (xs : List Value) (l : List Int), allInts k xs = some l → xs = l.map (.int k)
  | k, [], l, h => by simp [allInts] at h; subst h; rfl
  | k, x :: xs, l, h => by
    cases x <;> simp only [allInts, reduceCtorEq] at h
    rename_i k' n
    split at h
    · rename_i hk
      subst hk
      cases hl : allInts k xs with
      | none => simp [hl] at h
      | some l' =>
        simp [hl] at h
        subst h
        simp [allInts_eq k xs l' hl]
    · cases h

theorem foldMin (isMax : Bool) (k : IntKind) : ∀ (l : List Int) (n : Int) (w' : World),
    ((l.map (Value.int k)).foldlM (if isMax then Builtin.max2 else Builtin.min2) (.int k n)).run P w' =
      .ok (.int k (l.foldl (fun a b => if isMax then (if a < b then b else a) else (if b < a then b else a)) n)) w'
  | [], n, w' => by simp
  | x :: l, n, w' => by
    have ih := foldMin isMax k l
    cases isMax <;> simp [List.foldlM_cons, Builtin.min2, Builtin.max2] <;> simp at * <;> first | exact ih _ _ | skip

theorem genQ_mono {s s' : Sem Next} (h : genQ P w s K) (e : s = s') : genQ P w s' K := e ▸ h

theorem mnQ_yld {isMax : Bool} {xs : List Value} (h : mnQ isMax xs K) :
    genQ P w (do pure (.value (← if isMax then Builtin.max_ #[] 0 xs.toArray else Builtin.min_ #[] 0 xs.toArray))) K := by
  unfold mnQ at h
  split at h
  · rename_i k n r
    split at h
    · rename_i l hl
      have e := allInts_eq _ _ _ hl
      subst e
      refine ⟨_, fun w' _ => ?_, h⟩
      have hf := foldMin (P := P) isMax k l n w'
      cases isMax
      · simp only [Bool.false_eq_true, if_false] at hf ⊢
        simp only [Builtin.min_, Sem.run_bind, hf, Result.andThen_ok, Sem.run_pure]
      · simp only [if_true] at hf ⊢
        simp only [Builtin.max_, Sem.run_bind, hf, Result.andThen_ok, Sem.run_pure]
    · exact h.elim
  · exact h.elim

/-- A builtin's call, carried out on values. -/
theorem execOp_builtin (ρ : Operand → Value) (o : Oper) (b : Builtin) (args : Array Operand) (argTypes : Array TypeId) (ho : o.op = .call { callee := .builtin b, args, argTypes }) :
    execOp ρ o = builtin b argTypes o.type (args.map fun | .const _ => true | _ => false) (args.map ρ) := by
  unfold execOp
  simp only [ho, resolve]
  rfl

theorem lnQ_yld {t : TypeId} {x : Value} {ty : TypeId} (h : lnQ P t x K) : genQ P w (do pure (.value (← Builtin.len_ #[t] ty #[x]))) K := by
  unfold lnQ at h
  split at h
  · rename_i e hu
    unfold ln1 at h
    split at h
    · exact ⟨_, fun w' _ => by simp [Builtin.len_, run_underlying' hu, goInt], h⟩
    · exact h.elim
  · rename_i hu
    unfold lnS at h
    split at h
    · exact ⟨_, fun w' _ => by simp [Builtin.len_, run_underlying' hu, goInt], h⟩
    · exact h.elim
  · exact h.elim

theorem callQ_yld {o : Oper} {c : Call} {ρ : Operand → Value} (ho : o.op = .call c) (h : callQ P c ρ K) : genQ P w (execOp ρ o) K := by
  obtain ⟨callee, args, argTypes⟩ := c
  unfold callQ at h
  split at h
  · rename_i hc
    simp only at hc
    subst hc
    rw [execOp_builtin ρ _ _ args argTypes ho]
    split at h
    · rename_i x t ha ht
      simp only at ha ht
      have ha' : args = #[x] := by rw [← Array.toArray_toList (xs := args), ha]
      have ht' : argTypes = #[t] := by rw [← Array.toArray_toList (xs := argTypes), ht]
      subst ha' ht'
      refine genQ_mono (lnQ_yld (w := w) (ty := o.type) h) ?_
      simp [builtin]
    · exact h.elim
  · rename_i hc
    simp only at hc
    subst hc
    rw [execOp_builtin ρ _ _ args argTypes ho]
    have := mnQ_yld (w := w) (P := P) h
    obtain ⟨v, hy, hk⟩ := this
    refine ⟨v, fun w' hb => ?_, hk⟩
    have := hy w' hb
    simpa [builtin, Builtin.min_] using this
  · rename_i hc
    simp only at hc
    subst hc
    rw [execOp_builtin ρ _ _ args argTypes ho]
    have := mnQ_yld (w := w) (P := P) h
    obtain ⟨v, hy, hk⟩ := this
    refine ⟨v, fun w' hb => ?_, hk⟩
    have := hy w' hb
    simpa [builtin, Builtin.max_] using this
  · exact h.elim

theorem opQ_yld {o : Oper} {ρ : Operand → Value} (h : opQ P o.op ρ w K) : genQ P w (execOp ρ o) K := by
  cases ho : o.op with
  | call c => rw [ho] at h; exact callQ_yld ho h
  | move x => rw [ho] at h; exact ⟨_, fun w' _ => by simp [execOp, ho], h⟩
  | assign x => rw [ho] at h; exact ⟨_, fun w' _ => by simp [execOp, ho], h⟩
  | pick c a b =>
    rw [ho] at h
    simp only [opQ, pickQ] at h
    split at h
    · rename_i t hc
      exact ⟨_, fun w' _ => by simp [execOp, ho, hc, asBool], h⟩
    · exact h.elim
  | binOp op t x y yt =>
    rw [ho] at h
    refine genQ_mono (binQ_yld h) ?_
    rw [semBin_eq]
    unfold execOp
    simp [ho]
  | unOp op t x => rw [ho] at h; exact genQ_mono (unQ_yld h) (by simp [execOp, ho])
  | convert s d x => rw [ho] at h; exact genQ_mono (cvQ_yld h) (by simp [execOp, ho])
  | load t x => rw [ho] at h; exact genQ_mono (ldQ_yld h) (by simp [execOp, ho])
  | fieldAddr s x f => rw [ho] at h; exact genQ_mono (faQ_yld h) (by simp [execOp, ho])
  | indexAddr t x i => rw [ho] at h; exact genQ_mono (iaQ_yld h) (by simp [execOp, ho])
  | extract x i => rw [ho] at h; exact genQ_mono (exQ_yld h) (by simp [execOp, ho])
  | lookup t m k ok =>
    rw [ho] at h
    refine genQ_mono (s := lkS t (ρ m) (ρ k) ok) h ?_
    simp [execOp, ho, lkS]
  | makeFunc fn first cap =>
    rw [ho] at h
    exact ⟨.func fn (first.toList.map ρ).toArray (cap.toList.map ρ).toArray, fun w' _ => by
      simp only [execOp, ho, Instr.makeFunc, ← Array.toList_map, Array.toArray_toList]
      simp, h⟩
  | slice t x l hi m =>
    rw [ho] at h
    cases m with
    | some m => exact h.elim
    | none =>
      refine genQ_mono (slQ_yld (P := P) (w := w) h) ?_
      simp [execOp, ho]
  | build t parts =>
    rw [ho] at h
    simp only [opQ, bdQ] at h
    split at h
    · rename_i v hv
      refine ⟨v, fun w' _ => ?_, h⟩
      have hb := buildV_yld hv w'
      have e : (parts.toList.map fun p => (p.1, ρ p.2)).toArray = parts.map fun p => (p.1, ρ p.2) := by rw [← Array.toList_map, Array.toArray_toList]
      rw [e] at hb
      simp [execOp, ho, hb]
    · exact h.elim
  | nilCheck x =>
    rw [ho] at h
    simp only [opQ, ncQ] at h
    split at h
    · rename_i a hx
      exact ⟨_, fun w' _ => by simp [execOp, ho, hx], h⟩
    · rename_i f a b hx
      exact ⟨_, fun w' _ => by simp [execOp, ho, hx], h⟩
    · exact h.elim
  | _ => rw [ho] at h; exact h.elim

end
end Go.Lf
