/- Lifting, part 2: operations that touch memory or call; rows of operations; regions that draw their order. -/
import Derived.Test.YtbekeccfjmoonaaDoorLift1
set_option linter.all false
namespace Go.Lf
open Go.RowKit

def boxW (t : TypeId) (v : Value) (w : World) (K : Value → World → Prop) : Prop :=
  K (.pointer (some ⟨w.heap.size, 0, none⟩)) (w.alloc (.cells v.cells t))

def alW (P : Program) (t : TypeId) (w : World) (K : Value → World → Prop) : Prop :=
  match P.info? t with
  | some i => match i.zero with
    | some z => boxW t z w K
    | none => False
  | none => False

/-- n cells of the zero value. -/
def mkCells (zero : Array Value) (n : Nat) : Array Value := (Array.range n).map (zero[· % zero.size]!)

def buildSV (P : Program) (t : TypeId) (len : Nat) (parts : List (Nat × Value)) : Option (TypeId × Array Value) :=
  match P.underlying t with
  | some (.slice e) => match P.info? e with
    | some j => if len * j.size > 2 ^ 24 then none else
      match (if len * j.size = 0 then some #[] else j.zero.map (·.cells)) with
      | some z => (Instr.fill (fun i => some (i * j.size, j.size)) (mkCells z (len * j.size)) parts).map fun c => (e, c)
      | none => none
    | none => none
  | _ => none

def bsW (P : Program) (t : TypeId) (len : Nat) (parts : List (Nat × Value)) (w : World) (K : Value → World → Prop) : Prop :=
  match buildSV P t len parts with
  | some (e, cs) => K (.slice (some ⟨w.heap.size, 0, none⟩) len len) (w.alloc (.cells cs e))
  | none => False

def stCells (a : Addr) : List Value → Nat → World → (World → Prop) → Prop
  | [], _, w, K => K w
  | c :: cs, i, w, K => (w.cell? (a.add i)).isSome = true ∧ w.frozen? (a.add i) = false ∧ c.oneCell' = true ∧ stCells a cs (i + 1) (w.setCell (a.add i) c) K

def stW (P : Program) (t : TypeId) (p v : Value) (w : World) (K : World → Prop) : Prop :=
  match P.info? t with
  | some i => if v.cells.size = i.size then
      match p with
      | .pointer (some a) => stCells a v.cells.toList 0 w K
      | _ => False
    else False
  | none => False

def mkW (P : Program) (t : TypeId) (l c : Value) (w : World) (K : Value → World → Prop) : Prop :=
  match P.underlying t with
  | some (.slice e) => match P.info? e with
    | some j => match j.zero, l, c with
      | some z, .int _ l, .int _ c => 0 ≤ l ∧ l ≤ c ∧ c ≤ 4611686018427387904 ∧ j.bytes * c ≤ 281474976710656 ∧ 0 < j.size ∧
          K (.slice (some ⟨w.heap.size, 0, none⟩) l.toNat c.toNat) (w.alloc (.cells (mkCells z.cells (c.toNat * j.size)) e))
      | _, _, _ => False
    | none => False
  | _ => False

def mmW (w : World) (K : Value → World → Prop) : Prop := K (.map (some w.heap.size)) (w.alloc (.map #[] 0))

def fnOk (P : Program) (f : FuncId) : Bool :=
  match P.funcs[f]? with
  | some fn => fn.body.isSome && !(fn.name == "runtime.NumGoroutine")
  | none => false

def callW (P : Program) (fv : Value) (args : List Value) (w : World) (K : Value → World → Prop) : Prop :=
  match fv with
  | .func (.func f) first cap => fnOk P f = true ∧ Calls P f (first ++ args.toArray ++ cap) w fun e w' => ∃ v, e = .returned v ∧ K v w'
  | _ => False

def apS (argTypes : List TypeId) (ty : TypeId) (args : List Value) : Sem Next := do pure (.value (← Builtin.append_ argTypes.toArray ty args.toArray))
def cpS (argTypes : List TypeId) (ty : TypeId) (args : List Value) : Sem Next := do pure (.value (← Builtin.copy_ argTypes.toArray ty args.toArray))
def caS (argTypes : List TypeId) (ty : TypeId) (args : List Value) : Sem Next := do pure (.value (← Builtin.cap_ argTypes.toArray ty args.toArray))
def deS (argTypes : List TypeId) (ty : TypeId) (args : List Value) : Sem Next := do pure (.value (← Builtin.delete_ argTypes.toArray ty args.toArray))
def clS (argTypes : List TypeId) (ty : TypeId) (args : List Value) : Sem Next := do pure (.value (← Builtin.clear_ argTypes.toArray ty args.toArray))
def muS (t : TypeId) (m k v : Value) : Sem Next := do Instr.mapUpdate t m k v; pure .skip
def rgS (t : TypeId) (x : Value) : Sem Next := do pure (.value (← Instr.range t x))
def nxS (x : Value) (s : Bool) (t : TypeId) : Sem Next := do pure (.value (← Instr.next x s t))
def enS (x : Value) : Sem Next := do pure (.value (← Instr.entry x))
def ixS (t : TypeId) (x i : Value) : Sem Next := do pure (.value (← Instr.index t x i))
def s3S (t : TypeId) (x : Value) (l h : Option Value) (m : Value) : Sem Next := do pure (.value (← Instr.sliceAt t x l h (some m)))
def fdS (t : TypeId) (x : Value) (f : Nat) : Sem Next := do pure (.value (← Instr.field t x f))

def callE (P : Program) (c : Call) (ty : TypeId) (ρ : Operand → Value) (w : World) (K : Value → World → Prop) : Prop :=
  match c.callee with
  | .value f => callW P (ρ f) (c.args.toList.map ρ) w K
  | .builtin .append => semW P (apS c.argTypes.toList ty (c.args.toList.map ρ)) w K
  | .builtin .copy => semW P (cpS c.argTypes.toList ty (c.args.toList.map ρ)) w K
  | .builtin .cap => semW P (caS c.argTypes.toList ty (c.args.toList.map ρ)) w K
  | .builtin .delete => semW P (deS c.argTypes.toList ty (c.args.toList.map ρ)) w K
  | .builtin .clear => semW P (clS c.argTypes.toList ty (c.args.toList.map ρ)) w K
  | _ => False

def opE (P : Program) (op : Op) (ty : TypeId) (ρ : Operand → Value) (w : World) (K : Value → World → Prop) : Prop :=
  match op with
  | .alloc t => alW P t w K
  | .box t x => boxW t (ρ x) w K
  | .buildSlice t n parts => bsW P t n (parts.toList.map fun p => (p.1, ρ p.2)) w K
  | .store t a x => stW P t (ρ a) (ρ x) w (fun w => K undef w)
  | .makeSlice t l c => mkW P t (ρ l) (ρ c) w K
  | .makeMap _ none => mmW w K
  | .call c => callE P c ty ρ w K
  | .lookup t m k ok => semW P (lkS t (ρ m) (ρ k) ok) w K
  | .mapUpdate t m k v => semW P (muS t (ρ m) (ρ k) (ρ v)) w K
  | .insert t m k v => semW P (muS t (ρ m) (ρ k) (ρ v)) w K
  | .range t x => semW P (rgS t (ρ x)) w K
  | .next x s => semW P (nxS (ρ x) s ty) w K
  | .entry x => semW P (enS (ρ x)) w K
  | .index t x i => semW P (ixS t (ρ x) (ρ i)) w K
  | .field t x f => semW P (fdS t (ρ x) f) w K
  | .slice t x l h (some m) => semW P (s3S t (ρ x) (l.map ρ) (h.map ρ) (ρ m)) w K
  | _ => False

def opW (P : Program) (o : Oper) (ρ : Operand → Value) (w : World) (K : Value → World → Prop) : Prop :=
  match isQ o.op with
  | true => opQ P o.op ρ w fun v => K v w
  | false => opE P o.op o.type ρ w K

section
variable {P : Program} {w : World} {K : Value → World → Prop}

theorem semW_mono {s : Sem Next} {K' : Value → World → Prop} (h : semW P s w K) (hk : ∀ v w', K v w' → K' v w') : semW P s w K' := by
  unfold semW at *
  cases he : s.run P w with
  | halt x w' => rw [he] at h; exact h
  | ok n w' =>
    rw [he] at h
    cases n <;> simp only at h ⊢
    case value v => exact hk _ _ h
    case skip => exact hk _ _ h
    case enter f args => exact h.mono fun e w' ⟨v, h1, h2⟩ => ⟨v, h1, hk _ _ h2⟩

theorem semW_of_yld {s : Sem Next} {v : Value} (h : Yld P w s v) (hk : K v w) : semW P s w K := by
  unfold semW
  rw [h w (Below.refl _ _)]
  exact hk

theorem semW_of_run {s : Sem Next} {v : Value} {w' : World} (h : s.run P w = .ok (.value v) w') (hk : K v w') : semW P s w K := by
  unfold semW
  rw [h]
  exact hk

theorem semW_of_skip {s : Sem Next} {w' : World} (h : s.run P w = .ok .skip w') (hk : K undef w') : semW P s w K := by
  unfold semW
  rw [h]
  exact hk

theorem run_newVar (t : TypeId) (v : Value) : (newVar t v).run P w = .ok ⟨w.heap.size, 0, none⟩ (w.alloc (.cells v.cells t)) := by
  simp [newVar, newRow]

theorem boxW_sem {t : TypeId} {v : Value} (h : boxW t v w K) : semW P (do pure (.value (← Instr.box t v))) w K :=
  semW_of_run (by simp [Instr.box, run_newVar]) h

theorem alW_sem {t : TypeId} (h : alW P t w K) : semW P (do pure (.value (← Instr.alloc t true (.tuple #[])))) w K := by
  unfold alW at h
  split at h
  · rename_i i hi
    split at h
    · rename_i z hz
      refine semW_of_run ?_ h
      have hzv : (zeroValue t).run P w = .ok z w := by simp [zeroValue, typeInfo, hi, hz]
      simp [Instr.alloc, hzv, run_newVar]
    · exact h.elim
  · exact h.elim

theorem bsW_sem {t : TypeId} {n : Nat} {parts : List (Nat × Value)} (h : bsW P t n parts w K) : semW P (do pure (.value (← Instr.buildSlice t n parts.toArray))) w K := by
  unfold bsW at h
  split at h
  · rename_i e cs hb
    refine semW_of_run ?_ h
    unfold buildSV at hb
    split at hb
    · rename_i e' hu
      split at hb
      · rename_i j hj
        split at hb
        · cases hb
        · rename_i hle
          split at hb
          · rename_i z hz
            cases hfl : Instr.fill (fun i => some (i * j.size, j.size)) (mkCells z (n * j.size)) parts with
            | none => simp [hfl] at hb
            | some c =>
              simp [hfl] at hb
              obtain ⟨rfl, rfl⟩ := hb
              have hle' : ¬ (16777216 < n * j.size) := by simpa using hle
              simp only [mkCells] at hfl
              simp only [Instr.buildSlice, Sem.run_bind, run_underlying' hu, Result.andThen_ok, run_sizeOf' hj]
              by_cases h0 : n * j.size = 0
              · rw [if_pos h0] at hz
                simp only [Option.some.injEq] at hz
                subst hz
                simp [h0] at hfl
                simp [h0, hfl, newRow]
              · rw [if_neg h0] at hz
                cases hzj : j.zero with
                | none => simp [hzj] at hz
                | some zz =>
                  simp [hzj] at hz
                  subst hz
                  have hzv : (zeroValue e').run P w = .ok zz w := by simp [zeroValue, typeInfo, hj, hzj]
                  simp [hle', h0, hzv, hfl, newRow]
          · cases hb
      · cases hb
    · cases hb
  · exact h.elim

theorem stCells_run {a : Addr} : ∀ (cs : List Value) (i : Nat) (w : World) (K : World → Prop), stCells a cs i w K → ∃ w', (storeCells a cs i).run P w = .ok () w' ∧ K w'
  | [], i, w, K, h => ⟨w, rfl, h⟩
  | c :: cs, i, w, K, h => by
    obtain ⟨h1, h2, h3, h4⟩ := h
    obtain ⟨u, hu⟩ := Option.isSome_iff_exists.1 h1
    obtain ⟨w', hr, hk⟩ := stCells_run cs (i + 1) _ K h4
    refine ⟨w', ?_, hk⟩
    simp [storeCells, run_store P w (a.add i) c .plain h3, hu, h2, hr]

theorem stW_sem {t : TypeId} {p v : Value} (h : stW P t p v w (fun w' => K undef w')) : semW P (do Instr.storeAt t p v; pure .skip) w K := by
  unfold stW at h
  split at h
  · rename_i i hi
    split at h
    · rename_i hs
      split at h
      · rename_i a
        obtain ⟨w', hr, hk⟩ := stCells_run (P := P) _ _ _ _ h
        refine semW_of_skip ?_ hk
        simp [Instr.storeAt, Instr.sureAddr, storeVar, run_sizeOf' hi, hs, hr]
      · exact h.elim
    · exact h.elim
  · exact h.elim

theorem wrap_small {n : Int} (h0 : 0 ≤ n) (h1 : n ≤ 4611686018427387904) : IntKind.i64.wrap n = n := by
  have := IntWalk.i64_in n (by omega)
  exact this

theorem mkW_sem {t : TypeId} {l c : Value} (h : mkW P t l c w K) : semW P (do pure (.value (← Instr.makeSlice t l c))) w K := by
  unfold mkW at h
  split at h
  · rename_i e hu
    split at h
    · rename_i j hj
      split at h
      · rename_i z k l k' c hz
        obtain ⟨h0, h1, h2, h3, hs, hk⟩ := h
        refine semW_of_run ?_ hk
        have e1 := wrap_small h0 (by omega)
        have e2 := wrap_small (n := c) (by omega) h2
        have b1 : (decide (c < 0) || decide ((281474976710656 : Int) < j.bytes * c)) = false := by simp; omega
        have b2 : decide (l < 0) = false := by simp; omega
        have b3 : decide (c < l) = false := by simp; omega
        have hzv : (zeroValue e).run P w = .ok z w := by simp [zeroValue, typeInfo, hj, hz]
        simp only [Instr.makeSlice, Sem.run_bind, run_underlying' hu, Result.andThen_ok, asInt, asIntOf, Sem.run_pure, run_typeInfo' hj, e1, e2]
        by_cases h0 : c.toNat * j.size = 0
        · have hr : Array.range 0 = #[] := by simp
          simp [b1, b2, b3, run_sizeOf' hj, newRow, mkCells, h0, hr]
        · simp [b1, b2, b3, run_sizeOf' hj, newRow, mkCells, h0, hzv]
      · exact h.elim
    · exact h.elim
  · exact h.elim

theorem mmW_sem {t : TypeId} (h : mmW w K) : semW P (do pure (.value (← Instr.makeMap t none))) w K :=
  semW_of_run (by simp [Instr.makeMap]) h

theorem callFunc_run {f : FuncId} {args : Array Value} (h : fnOk P f = true) : (callFunc f args).run P w = .ok (.enter f args) w := by
  unfold fnOk at h
  split at h
  · rename_i fn hf
    simp only [Bool.and_eq_true, Bool.not_eq_true'] at h
    obtain ⟨h1, h2⟩ := h
    have h2' : fn.name ≠ "runtime.NumGoroutine" := by simpa using h2
    have h3 : fn.body ≠ none := by cases hb : fn.body <;> simp_all
    simp [callFunc, hf, h2', h3]
  · cases h

theorem callW_sem {o : Oper} {ρ : Operand → Value} {f : Operand} {args : Array Operand} {argTypes : Array TypeId} (ho : o.op = .call { callee := .value f, args, argTypes })
    (h : callW P (ρ f) (args.toList.map ρ) w K) : semW P (execOp ρ o) w K := by
  unfold callW at h
  split at h
  · rename_i g first cap hf
    obtain ⟨h1, h2⟩ := h
    unfold semW
    have e : (execOp ρ o).run P w = .ok (.enter g (first ++ (args.toList.map ρ).toArray ++ cap)) w := by
      have e2 : args.map ρ = (args.toList.map ρ).toArray := by rw [← Array.toList_map, Array.toArray_toList]
      simp [execOp, ho, resolve, hf, Deferred.ofValue, invoke, callFunc_run h1, e2]
    rw [e]
    exact h2
  · exact h.elim

theorem semW_eq {s s' : Sem Next} (h : semW P s w K) (e : s = s') : semW P s' w K := e ▸ h

theorem toList_map_toArray {α β : Type} (xs : Array α) (f : α → β) : (xs.toList.map f).toArray = xs.map f := by rw [← Array.toList_map, Array.toArray_toList]

theorem callE_sem {o : Oper} {c : Call} {ρ : Operand → Value} (ho : o.op = .call c) (h : callE P c o.type ρ w K) : semW P (execOp ρ o) w K := by
  obtain ⟨callee, args, argTypes⟩ := c
  cases callee with
  | value f => exact callW_sem ho h
  | invoke r m => exact h.elim
  | builtin b =>
    rw [execOp_builtin ρ _ _ args argTypes ho]
    cases b <;> first
      | exact h.elim
      | (simp only [callE] at h
         refine semW_eq h ?_
         simp only [apS, cpS, caS, deS, clS, builtin, toList_map_toArray, Array.toArray_toList])

theorem opE_sem {o : Oper} {ρ : Operand → Value} (h : opE P o.op o.type ρ w K) : semW P (execOp ρ o) w K := by
  cases ho : o.op with
  | call c => rw [ho] at h; exact callE_sem ho h
  | alloc t => rw [ho] at h; exact semW_eq (alW_sem h) (by simp [execOp, ho])
  | box t x => rw [ho] at h; exact semW_eq (boxW_sem h) (by simp [execOp, ho])
  | buildSlice t n parts =>
    rw [ho] at h
    refine semW_eq (bsW_sem h) ?_
    rw [toList_map_toArray]
    simp [execOp, ho]
  | store t a x => rw [ho] at h; exact semW_eq (stW_sem h) (by simp [execOp, ho])
  | makeSlice t l c => rw [ho] at h; exact semW_eq (mkW_sem h) (by simp [execOp, ho])
  | makeMap t r =>
    rw [ho] at h
    cases r with
    | none => exact semW_eq (mmW_sem (t := t) h) (by simp [execOp, ho])
    | some r => exact h.elim
  | lookup t m k ok => rw [ho] at h; exact semW_eq (s := lkS t (ρ m) (ρ k) ok) h (by simp [execOp, ho, lkS])
  | mapUpdate t m k v => rw [ho] at h; exact semW_eq (s := muS t (ρ m) (ρ k) (ρ v)) h (by simp [execOp, ho, muS])
  | insert t m k v => rw [ho] at h; exact semW_eq (s := muS t (ρ m) (ρ k) (ρ v)) h (by simp [execOp, ho, muS])
  | range t x => rw [ho] at h; exact semW_eq (s := rgS t (ρ x)) h (by simp [execOp, ho, rgS])
  | next x s => rw [ho] at h; exact semW_eq (s := nxS (ρ x) s o.type) h (by simp [execOp, ho, nxS])
  | entry x => rw [ho] at h; exact semW_eq (s := enS (ρ x)) h (by simp [execOp, ho, enS])
  | index t x i => rw [ho] at h; exact semW_eq (s := ixS t (ρ x) (ρ i)) h (by simp [execOp, ho, ixS])
  | field t x f => rw [ho] at h; exact semW_eq (s := fdS t (ρ x) f) h (by simp [execOp, ho, fdS])
  | slice t x l hi m =>
    rw [ho] at h
    cases m with
    | none => exact h.elim
    | some m => exact semW_eq (s := s3S t (ρ x) (l.map ρ) (hi.map ρ) (ρ m)) h (by simp [execOp, ho, s3S])
  | _ => rw [ho] at h; exact h.elim

theorem opW_sem {o : Oper} {ρ : Operand → Value} (h : opW P o ρ w K) : semW P (execOp ρ o) w K := by
  unfold opW at h
  split at h
  · obtain ⟨v, hy, hk⟩ := opQ_yld h
    exact semW_of_yld hy hk
  · exact opE_sem h

end
end Go.Lf
