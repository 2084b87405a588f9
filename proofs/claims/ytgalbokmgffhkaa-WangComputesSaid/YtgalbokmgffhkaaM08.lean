/- Texts of my own, merged by program: Said Opens Sf. -/
import Derived.Test.YtgalbokmgffhkaaM02
import Derived.ProofKit
import Derived.OpenShut
import Derived.Test.YtgalbokmgffhkaaM04
import Derived.Deep.Matrix
import Derived.Deep.Strs
import Derived.Deep.Slices
import Derived.Lib.SmallJoins
set_option linter.all false
/- From a contract that a law returns true to the given statement. -/
namespace Go.Proofs.Ytgalbokmgffhkaa
open Go.ChangeShapes Go.WideShapes Go.ChangeAt Go.RowKit Go.Lf

theorem own : ownKnob Try.prog.godebug = none := by kernel_rfl
theorem laid : laidOutB Try.prog = true := by kernel_rfl
theorem und4 : Try.prog.underlying 4 = some .bool := by kernel_rfl

section
variable {H : Type} {enc : TypeId × Value → H}

theorem below_trodAll {P : Program} (hl : laidOutB P = true) {W W' : World} (hb : Below W.heap.size W W') (ts : List TypeId) : ∀ {vs : List Value} {ds : List (DataW H)} {p : List MemPlace},
    (ts.all fun t => P.readableRec t && Nat.blt t P.types.size) = true → DataW.TrodAll enc P W 0 (fun _ => true) true ts vs ds p → (∀ x ∈ p, x.block < W.heap.size) →
      DataW.TrodAll enc P W' 0 (fun b => decide (b < W.heap.size)) true ts vs ds p := by
  induction ts with
  | nil =>
    intro vs ds p _ h _
    obtain ⟨rfl, rfl, rfl⟩ := trodAll_nil h
    exact trodAll_mk0
  | cons t ts ih =>
    intro vs ds p hr h hlt
    obtain ⟨v, vs', d, ds', p0, q0, rfl, rfl, rfl, h0, r0⟩ := trodAll_cons h
    simp only [List.all_cons, Bool.and_eq_true, Nat.blt_eq] at hr
    exact trodAll_cons_mk (Below.trod hl hr.1.1 hr.1.2 h0 hb fun x hx => hlt x (by simp [hx])) (ih (by simpa using hr.2) r0 fun x hx => hlt x (by simp [hx]))

theorem trodAll_length {P : Program} {W : World} {base : Nat} {sp : Nat → Bool} {hd : Bool} (ts : List TypeId) : ∀ {vs : List Value} {ds : List (DataW H)} {p : List MemPlace}, DataW.TrodAll enc P W base sp hd ts vs ds p → vs.length = ts.length ∧ ds.length = ts.length := by
  induction ts with
  | nil =>
    intro vs ds p h
    obtain ⟨rfl, rfl, rfl⟩ := trodAll_nil h
    exact ⟨rfl, rfl⟩
  | cons t ts ih =>
    intro vs ds p h
    obtain ⟨v, vs', d, ds', p0, q0, rfl, rfl, rfl, h0, r0⟩ := trodAll_cons h
    have := ih r0
    simp only [List.length_cons]
    omega

set_option maxRecDepth 100000 in
theorem law_lifted {s : ChangeSpec} {conds : List PathCond} {f : FuncId} {fn : Func} {os : Os} (started : os.Started) (hvars : s.vars = []) (noInit : Try.prog.inits.idxOf? f = none) (hfn : Try.prog.funcs[f]? = some fn)
    (hres : fn.resultTypes = #[4]) (hread : (fn.params.toList.all fun t => Try.prog.readableRec t && Nat.blt t Try.prog.types.size) = true)
    (hspec : ∀ ds : List (DataW H), ds.length = fn.params.toList.length → (s.fn H ds).results = [.lit (.bool true)] ∧ (s.fn H ds).args = ds ∧ (s.fn H ds).vars = [])
    (wit : ∃ (w : World) (tape : Tape) (i : Input), w.os = os ∧ (w.forCall tape i).Shaped Try.prog ∧ i.vars = [] ∧ Input.okWide Try.prog (w.forCall tape i) .any w.heap.size f i ∧
      s.pre6 enc Try.prog fn conds false (w.forCall tape i).memory i.args ∧ ({} : Assume).holds Try.prog (lone (Frame.enter Try.prog f i.args .normal) [] (w.forCall tape i)))
    (walk : ∀ (W : World) (base : Nat) (args : Array Value) (ds : List (DataW H)) (p : List MemPlace), (∀ (j : Nat) t v, fn.params[j]? = some t → args[j]? = some v → Value.okWide Try.prog W .any base t v) →
      DataW.TrodAll enc Try.prog W 0 (fun _ => true) true fn.params.toList args.toList ds p → Calls Try.prog f args W fun e W' => e = .returned (.bool true) ∧ Kp W W') :
    ReturnsInHanded {} Try.checked os f .any (s.pre6 enc Try.prog fn conds false) (s.post enc Try.prog fn false true false false) := by
  refine returnsInHanded_of_change (C := Try.checked) own started noInit hfn wit ?_
  intro W base args ds gs before hval hW hcnd _
  have hW' := hW
  obtain ⟨p, q, hA, hV, rfl, _, _⟩ := hW
  rw [hvars] at hV
  obtain ⟨rfl, rfl⟩ := trodVars_none hV
  have hlt : ∀ x ∈ p, x.block < W.heap.size := fun x hx => hW'.lt x (by simp [hx])
  have hlen := (trodAll_length _ hA).2
  obtain ⟨g1, g2, g3⟩ := hspec ds hlen
  refine (walk W base args ds p hval hA).mono fun e W' ⟨he, hk⟩ => ?_
  subst he
  refine ⟨_, rfl, ds, [], p ++ [], [], p, [], hW', ?_, ?_, ?_, hk.frame _, fun h => by cases h⟩
  · rw [List.append_nil, g1, hres]
    exact trodAll_mk1 (shut_bool und4 _)
  · rw [List.append_nil, g2]
    exact below_trodAll laid hk _ hread hA hlt
  · rw [List.append_nil, g3, hvars]
    rfl

end

theorem wf_u8 {n : Int} (h : (Lit.int .u8 n).wf = true) : ∃ k : Nat, n = k ∧ k ≤ 255 := by
  have e1 : IntKind.u8.min = 0 := by decide
  have e2 : IntKind.u8.max = 255 := by decide
  simp [Lit.wf, e1, e2] at h
  exact ⟨n.toNat, by omega, by omega⟩
theorem wf_u32 {n : Int} (h : (Lit.int .u32 n).wf = true) : ∃ k : Nat, n = k ∧ k ≤ 4294967295 := by
  have e1 : IntKind.u32.min = 0 := by decide
  have e2 : IntKind.u32.max = 4294967295 := by decide
  simp [Lit.wf, e1, e2] at h
  exact ⟨n.toNat, by omega, by omega⟩
theorem wf_i64 {n : Int} (h : (Lit.int .i64 n).wf = true) : -9223372036854775808 ≤ n ∧ n ≤ 9223372036854775807 := by
  have e1 : IntKind.i64.min = -9223372036854775808 := by decide
  have e2 : IntKind.i64.max = 9223372036854775807 := by decide
  simpa [Lit.wf, e1, e2] using h

theorem und3 : Try.prog.underlying 3 = some (.int .i64) := by kernel_rfl
theorem und5 : Try.prog.underlying 5 = some (.int .u8) := by kernel_rfl

end Go.Proofs.Ytgalbokmgffhkaa

/- What arguments read as: sets of tiles, lists of lists of integers, lists of integers. -/
namespace Go.Proofs.Ytgalbokmgffhkaa
open Go.ChangeShapes Go.WideShapes Go.ChangeAt Go.RowKit Go.Lf Go.Deep Go.Wg

/-- The slice v reads as l, of whatever length. -/
def RdI (w : World) (v : Value) (l : List Int) : Prop :=
  ∃ a cap, v = .slice a l.length cap ∧ l.length ≤ cap ∧ (0 < l.length → ∃ b off, a = some ⟨b, off, none⟩ ∧ ∀ i, i < l.length → w.cell? ⟨b, off + i, none⟩ = some (.int .i64 (l.getD i 0)))
/-- The slice v reads as the lists h, of whatever length. -/
def RdR (w : World) (v : Value) (h : List (List Int)) : Prop :=
  ∃ a cap, ∃ vs : Nat → Value, v = .slice a h.length cap ∧ h.length ≤ cap ∧ (0 < h.length → ∃ b off, a = some ⟨b, off, none⟩ ∧ ∀ i, i < h.length → w.cell? ⟨b, off + i, none⟩ = some (vs i)) ∧ ∀ i, i < h.length → RdI w (vs i) (h.getD i [])

theorem RdI.small {w : World} {v : Value} {l : List Int} (h : RdI w v l) (hl : l.length ≤ 1000000) : RdInts w v l :=
  let ⟨a, cap, h1, h2, h3⟩ := h; ⟨a, cap, h1, ⟨by omega, h2⟩, h3⟩
theorem RdR.small {w : World} {v : Value} {h : List (List Int)} (hr : RdR w v h) (hl : h.length ≤ 1000000) (hr2 : ∀ i, i < h.length → (h.getD i []).length ≤ 1000000) : RdRows w v h :=
  let ⟨a, cap, vs, h1, h2, h3, h4⟩ := hr; ⟨a, cap, vs, h1, by omega, h3, fun i hi => (h4 i hi).small (hr2 i hi)⟩

section
variable {H : Type} {enc : TypeId × Value → H}

theorem und22 : Try.prog.underlying 22 = some (.slice 32) := by kernel_rfl
theorem und23 : Try.prog.underlying 23 = some (.slice 30) := by kernel_rfl
theorem und30 : Try.prog.underlying 30 = some (.slice 3) := by kernel_rfl
theorem cellsOf30 : Try.prog.cellsOf 30 = 1 := by kernel_rfl
theorem cellsOf3 : Try.prog.cellsOf 3 = 1 := by kernel_rfl
theorem cellsOf32 : Try.prog.cellsOf 32 = 4 := by kernel_rfl

set_option maxRecDepth 100000 in
theorem open_rows {W : World} {base : Nat} {v : Value} {d : DataW H} {p : List MemPlace} (hv : Value.okWide Try.prog W .any base 23 v) (h : DataW.Trod enc Try.prog W 0 (fun _ => true) true 23 v d p) : ∃ l, RdR W v l := by
  obtain ⟨a0, n0, c0, rfl⟩ := okWide_slice und23 hv
  obtain ⟨fuel, hf⟩ := h
  rcases open_int_rows und23 und30 und3 cellsOf30 cellsOf3 hf with ⟨hcs, _⟩ | ⟨a, len, cap, A, L, C, Z, hcs, _, hl, _, _, hx⟩
  · simp [Value.cells] at hcs
    obtain ⟨rfl, rfl, rfl⟩ := hcs
    exact ⟨[], none, 0, fun _ => undef, rfl, Nat.le_refl _, fun h => absurd h (by simp), fun i hi => absurd hi (by simp)⟩
  · simp [Value.cells] at hcs
    obtain ⟨rfl, rfl, rfl⟩ := hcs
    refine ⟨(List.range n0).map fun r => (Z r).take (L r), some a, c0, fun r => .slice (A r) (L r) (C r), by simp, by simpa using hl, fun h0 => ?_, fun i hi => ?_⟩
    · simp only [List.length_map, List.length_range] at h0 ⊢
      obtain ⟨b, off, spot⟩ := a
      have hspot : spot = none := by simpa [Addr.add] using World.cell?_spot (hx 0 (by omega)).1
      subst hspot
      refine ⟨b, off, rfl, fun i hi => ?_⟩
      have := (hx i (by omega)).1
      rwa [r_addr] at this
    · simp only [List.length_map, List.length_range] at hi
      obtain ⟨_, g1, _, g3, _, _, g6⟩ := hx i (by omega)
      have e : ((List.range n0).map fun r => (Z r).take (L r)).getD i [] = (Z i).take (L i) := by simp [List.getD_eq_getElem?_getD, hi]
      rw [e]
      have el : ((Z i).take (L i)).length = L i := by rw [List.length_take]; omega
      refine ⟨A i, C i, by rw [el], by rw [el]; exact g1, fun h0 => ?_⟩
      rw [el] at h0 ⊢
      cases hA : A i with
      | none =>
        have := (hx i (by omega)).2.2.2.2.2.1 hA
        omega
      | some a' =>
        obtain ⟨_, hcell⟩ := g6 a' hA
        obtain ⟨b, off, spot⟩ := a'
        have hspot : spot = none := by simpa [Addr.add] using World.cell?_spot (hcell 0 (by omega))
        subst hspot
        refine ⟨b, off, rfl, fun j hj => ?_⟩
        have := hcell j (by omega)
        rw [r_addr] at this
        rw [this]
        simp [List.getD_eq_getElem?_getD, List.getElem?_take, hj]

set_option maxRecDepth 100000 in
theorem open_set {W : World} {base : Nat} {v : Value} {d : DataW H} {p : List MemPlace} (hv : Value.okWide Try.prog W .any base 22 v) (h : DataW.Trod enc Try.prog W 0 (fun _ => true) true 22 v d p) : ∃ l, RdT W v l := by
  obtain ⟨a0, n0, c0, rfl⟩ := okWide_slice und22 hv
  obtain ⟨fuel, hf⟩ := h
  rcases open_slice und22 hf with ⟨hcs, _⟩ | ⟨a, len, cap, m, n, D, Pl, hcs, _, hl, _, hm, _, hx⟩
  · simp [Value.cells] at hcs
    obtain ⟨rfl, rfl, rfl⟩ := hcs
    exact ⟨[], Rd.nil⟩
  · simp [Value.cells] at hcs
    obtain ⟨rfl, rfl, rfl⟩ := hcs
    simp only [if_true] at hm
    have hm' := hm.symm
    subst hm'
    rw [cellsOf32] at hx
    have each : ∀ i, i < n0 → ∃ t : Tile, ∀ j u, (tlC t)[j]? = some u → W.cell? (a.add (i * 4 + j)) = some u := fun i hi => by
      obtain ⟨cs', h1, h2⟩ := hx i (by omega)
      obtain ⟨_, hlen, hcell⟩ := World.cells?_some h1
      obtain ⟨y0, y1, y2, y3, n', _, _, t0, t1, t2, t3⟩ := Go.Joins.trod_struct4 Try.underlying32 h2
      obtain ⟨A, hA, _⟩ := DataW.trod_int und3 t0
      obtain ⟨B, hB, _⟩ := DataW.trod_int und3 t1
      obtain ⟨C, hC, _⟩ := DataW.trod_int und3 t2
      obtain ⟨E, hE, _⟩ := DataW.trod_int und3 t3
      simp only [cellsOf3] at hA hB hC hE
      match cs', hlen with
      | [x, y, z, u], _ =>
        simp at hA hB hC hE
        subst hA; subst hB; subst hC; subst hE
        refine ⟨(A, B, C, E), fun j u hj => ?_⟩
        have hj4 : j < 4 := by
          have := (List.getElem?_eq_some_iff.1 hj).1
          simpa [tlC] using this
        have hc := hcell j hj4
        rw [add_add] at hc
        rw [hc]
        match j, hj4 with
        | 0, _ => exact hj
        | 1, _ => exact hj
        | 2, _ => exact hj
        | 3, _ => exact hj
    obtain ⟨T, hT⟩ := choose_lt each
    refine ⟨(List.range n0).map T, some a, c0, by simp, by simpa using hl, fun h0 => ?_⟩
    simp only [List.length_map, List.length_range] at h0
    obtain ⟨b, off, spot⟩ := a
    have hspot : spot = none := by simpa [Addr.add] using World.cell?_spot (hT 0 h0 0 _ rfl)
    subst hspot
    refine ⟨b, off, rfl, fun i x hi j u hu => ?_⟩
    rw [List.getElem?_map] at hi
    cases hr : (List.range n0)[i]? with
    | none => rw [hr] at hi; cases hi
    | some k =>
      rw [hr] at hi
      cases hi
      have hk : i < n0 ∧ k = i := by
        have h1 := (List.getElem?_eq_some_iff.1 hr).1
        have h2 := (List.getElem?_eq_some_iff.1 hr).2
        simp at h1 h2
        exact ⟨h1, h2.symm⟩
      obtain ⟨hk1, rfl⟩ := hk
      have := hT k hk1 j u hu
      rw [r_addr] at this
      rw [← Nat.add_assoc] at this
      exact this

end

end Go.Proofs.Ytgalbokmgffhkaa

/- Lifted texts, printed by program (gen.py): what each function's code asks. The ties are by the kernel. -/
namespace Go.Proofs.Ytgalbokmgffhkaa
open Go.Lf Go.RowKit

def S10 (t0 t1 t2 : Value) (w : World) (R : Ending → World → Prop) : Prop :=
  boxW 51 t0 w fun t3 w =>
  fa1 t3 1 fun t18 =>
  ld1 w t18 fun t19 =>
  ln1 t19 fun t20 =>
  binQ Try.prog w .gtr 3 true t20 (.int .i64 20) fun t21 =>
  gd t21 false (fun k => k t1 w) w fun t23 w =>
  gd t21 false (fun k => ln1 t23 fun v => k v w) w fun t24 w =>
  gd t21 false (fun k => binQ Try.prog w .gtr 3 true t24 (.int .i64 20) fun v => k v w) w fun t25 w =>
  pickQ t21 (.bool true) t25 fun t26 =>
  condW t26 (
    callW Try.prog (.func (.func 18) #[] #[]) [] w fun t27 w =>
    R (.returned t27) w
  ) (
    bsW Try.prog 30 0 [] w fun t28 w =>
    semW Try.prog (apS [30, 30] 30 [t28, t1]) w fun t30 w =>
    ldN 2 w t3 fun t32 =>
    callW Try.prog (.func (.func 39) #[] #[]) [t32] w fun t33 w =>
    exQ t33 0 fun t34 =>
    exQ t33 1 fun t35 =>
    ldN 2 w t3 fun t37 =>
    callW Try.prog (.func (.func 40) #[] #[]) [t37] w fun t38 w =>
    exQ t38 0 fun t39 =>
    exQ t38 1 fun t40 =>
    binQ Try.prog w .neq 26 false t35 t40 fun t43 =>
    gd t43 false (fun k => k t34 w) w fun t45 w =>
    gd t43 false (fun k => k t39 w) w fun t46 w =>
    gd t43 false (fun k => callW Try.prog (.func (.func 30) #[] #[]) [t45, t46] w k) w fun t47 w =>
    gd t43 false (fun k => unQ .not t47 fun v => k v w) w fun t48 w =>
    pickQ t43 (.bool true) t48 fun t49 =>
    condW t49 (
      R (.returned (.bool false)) w
    ) (
      ldN 2 w t3 fun t51 =>
      callW Try.prog (.func (.func 41) #[] #[]) [t51, t30, t2] w fun t54 w =>
      exQ t54 0 fun t55 =>
      exQ t54 1 fun t56 =>
      exQ t54 2 fun t57 =>
      exQ t54 3 fun t58 =>
      ldN 2 w t3 fun t60 =>
      callW Try.prog (.func (.func 42) #[] #[]) [t60, t1, t2] w fun t63 w =>
      exQ t63 0 fun t64 =>
      exQ t63 1 fun t65 =>
      exQ t63 2 fun t66 =>
      exQ t63 3 fun t67 =>
      binQ Try.prog w .eql 26 false t58 t67 fun t70 =>
      gd t70 true (fun k => k t55 w) w fun t72 w =>
      gd t70 true (fun k => k t64 w) w fun t73 w =>
      gd t70 true (fun k => callW Try.prog (.func (.func 43) #[] #[]) [t72, t73] w k) w fun t74 w =>
      pickQ t70 t74 (.bool false) fun t75 =>
      gd t75 true (fun k => k t56 w) w fun t77 w =>
      gd t75 true (fun k => k t65 w) w fun t78 w =>
      gd t75 true (fun k => binQ Try.prog w .eql 3 false t77 t78 fun v => k v w) w fun t79 w =>
      pickQ t75 t79 (.bool false) fun t80 =>
      gd t80 true (fun k => k t57 w) w fun t82 w =>
      gd t80 true (fun k => k t66 w) w fun t83 w =>
      gd t80 true (fun k => binQ Try.prog w .eql 3 false t82 t83 fun v => k v w) w fun t84 w =>
      pickQ t80 t84 (.bool false) fun t85 =>
      gd t85 true (fun k => k t30 w) w fun t87 w =>
      gd t85 true (fun k => k t1 w) w fun t88 w =>
      gd t85 true (fun k => callW Try.prog (.func (.func 43) #[] #[]) [t87, t88] w k) w fun t89 w =>
      pickQ t85 t89 (.bool false) fun t90 =>
      gd t90 true (fun k => callW Try.prog (.func (.func 18) #[] #[]) [] w k) w fun t92 w =>
      pickQ t90 t92 (.bool false) fun t93 =>
      R (.returned t93) w
    )
  )

def A10 : Ann where
  live := fun _ => []
  wr := fun _ _ => false
  sched := fun _ => .done

set_option maxRecDepth 100000 in
theorem ok10 : (codeOk Try.f10.ntmps A10 (Try.f10.body.getD .skip) 0 && Nat.ble 3 Try.f10.ntmps) = true := by kernel_rfl
set_option maxRecDepth 100000 in
theorem lift10 {t0 t1 t2 : Value} {w : World} {R : Ending → World → Prop} (h : S10 t0 t1 t2 w R) : Calls Try.prog 10 #[t0, t1, t2] w R :=
  calls_of_cw (fn := Try.f10) (c := Try.f10.body.getD .skip) A10 mixes Try.func10 (by kernel_rfl) ok10
    ((by kernel_rfl : (S10 t0 t1 t2 w R) = cw Try.prog A10 (Try.f10.body.getD .skip) 0 (bodyQ Try.prog Try.f10 R) (frOf #[t0, t1, t2]) w).mp h)

def S30 (t0 t1 : Value) (w : World) (R : Ending → World → Prop) : Prop :=
  ln1 t0 fun t7 =>
  ln1 t1 fun t9 =>
  binQ Try.prog w .neq 3 false t7 t9 fun t10 =>
  condW t10 (
    R (.returned (.bool false)) w
  ) (
    Loop1 (.int .i64 0) w fun _ t5 w next =>
      ln1 t0 fun t13 =>
      binQ Try.prog w .lss 3 false t5 t13 fun t14 =>
      condW t14 (
        Drew w fun w =>
        iaS 4 t0 t5 fun t19 =>
        ldN 4 w t19 fun t20 =>
        iaS 4 t1 t5 fun t23 =>
        ldN 4 w t23 fun t24 =>
        binQ Try.prog w .neq 32 false t20 t24 fun t25 =>
        condW t25 (
          R (.returned (.bool false)) w
        ) (
          binQ Try.prog w .add 3 true t5 (.int .i64 1) fun t16 =>
          next t16 w
        )
      ) (
        R (.returned (.bool true)) w
      )
  )

def A30 : Ann where
  live := fun
    | 0 => [5]
    | _ => []
  wr := fun
    | 0 => fun i => (Nat.ble 4 i && Nat.ble i 5) || (Nat.ble 11 i && Nat.ble i 25)
    | _ => fun _ => false
  sched := fun
    | 6 => (.take 0 (.take 1 (.take 2 (.take 3 (.take 4 (.take 5 (.take 6 (.take 7 (.take 8 .done)))))))))
    | _ => .done

set_option maxRecDepth 100000 in
theorem ok30 : (codeOk Try.f30.ntmps A30 (Try.f30.body.getD .skip) 0 && Nat.ble 2 Try.f30.ntmps) = true := by kernel_rfl
set_option maxRecDepth 100000 in
theorem lift30 {t0 t1 : Value} {w : World} {R : Ending → World → Prop} (h : S30 t0 t1 w R) : Calls Try.prog 30 #[t0, t1] w R :=
  calls_of_cw (fn := Try.f30) (c := Try.f30.body.getD .skip) A30 mixes Try.func30 (by kernel_rfl) ok30
    ((by kernel_rfl : (S30 t0 t1 w R) = cw Try.prog A30 (Try.f30.body.getD .skip) 0 (bodyQ Try.prog Try.f30 R) (frOf #[t0, t1]) w).mp h)

def S39L2 (t1 t4_2 t28 t32 : Value) (next_2 : Value → Value → World → Prop) (w : World) : Prop :=
  Loop2 t4_2 (.int .i64 0) w fun _ t4_3 t33 w next_3 =>
    binQ Try.prog w .lss 3 false t33 t32 fun t34 =>
    condW t34 (
      callW Try.prog (.func (.func 90) #[] #[]) [t33, t28] w fun t41 w =>
      callW Try.prog (.func (.func 91) #[] #[]) [t33] w fun t44 w =>
      bdQ Try.prog 32 [(0, t28), (2, t41), (3, t44)] fun t45 =>
      callW Try.prog (.func (.func 92) #[] #[t1]) [t33] w fun t49 w =>
      callW Try.prog (.func (.func 90) #[] #[]) [t33, t28] w fun t53 w =>
      bdQ Try.prog 32 [(0, t28), (1, t49), (2, t53)] fun t54 =>
      bsW Try.prog 22 2 [(0, t45), (1, t54)] w fun t55 w =>
      semW Try.prog (apS [22, 22] 22 [t4_3, t55]) w fun t56 w =>
      binQ Try.prog w .add 3 true t33 (.int .i64 1) fun t57 =>
      next_3 t56 t57 w
    ) (
      binQ Try.prog w .add 3 true t28 (.int .i64 1) fun t58 =>
      next_2 t4_3 t58 w
    )

def S39L4 (t1 t4_4 t61 : Value) (next_4 : Value → Value → World → Prop) (w : World) : Prop :=
  Loop2 t4_4 (.int .i64 0) w fun _ t4_5 t64 w next_5 =>
    binQ Try.prog w .lss 3 true t64 (.int .i64 2) fun t65 =>
    condW t65 (
      fa1 t1 1 fun t67 =>
      ld1 w t67 fun t68 =>
      binQ Try.prog w .mul 3 true (.int .i64 2) t61 fun t70 =>
      binQ Try.prog w .add 3 false t70 t64 fun t72 =>
      iaS 3 t68 t72 fun t73 =>
      ldN 3 w t73 fun t74 =>
      boxW 102 (.agg #[(.int .i64 0), (.bool false), (.int .i64 0)]) w fun t13 w =>
      stW Try.prog 102 t13 t74 w fun w =>
      fa1 t13 2 fun t90 =>
      ld1 w t90 fun t91 =>
      binQ Try.prog w .lss 3 true t91 (.int .i64 0) fun t92 =>
      Join (fun (k_2 : Value → World → Prop) =>
        condW t92 (
          k_2 t4_5 w
        ) (
          fa1 t13 1 fun t94 =>
          ld1 w t94 fun t95 =>
          condW t95 (
            Drew w fun w =>
            fa1 t13 2 fun t102 =>
            ld1 w t102 fun t103 =>
            fa1 t13 0 fun t105 =>
            ld1 w t105 fun t106 =>
            callW Try.prog (.func (.func 90) #[] #[]) [t61, t64] w <| keepB w fun t100 w =>
            callW Try.prog (.func (.func 91) #[] #[]) [t103] w <| keepB w fun t104 w =>
            bdQ Try.prog 32 [(0, t100), (1, t104), (2, t106)] fun t107 =>
            bsW Try.prog 22 1 [(0, t107)] w <| keepB w fun t108 w =>
            semW Try.prog (apS [22, 22] 22 [t4_5, t108]) w fun t109 w =>
            k_2 t109 w
          ) (
            Drew w fun w =>
            fa1 t13 0 fun t80 =>
            ld1 w t80 fun t81 =>
            fa1 t13 2 fun t83 =>
            ld1 w t83 fun t84 =>
            callW Try.prog (.func (.func 90) #[] #[]) [t61, t64] w <| keepB w fun t79 w =>
            callW Try.prog (.func (.func 92) #[] #[t1]) [t84] w <| keepB w fun t85 w =>
            bdQ Try.prog 32 [(0, t79), (2, t81), (3, t85)] fun t86 =>
            bsW Try.prog 22 1 [(0, t86)] w <| keepB w fun t87 w =>
            semW Try.prog (apS [22, 22] 22 [t4_5, t87]) w fun t88 w =>
            k_2 t88 w
          )
        )
      ) fun t4_6 w =>
      binQ Try.prog w .add 3 true t64 (.int .i64 1) fun t110_2 =>
      next_5 t4_6 t110_2 w
    ) (
      binQ Try.prog w .add 3 true t61 (.int .i64 1) fun t111 =>
      next_4 t4_5 t111 w
    )

def S39L3 (t1 t4_2 t60 : Value) (R : Ending → World → Prop) (w : World) : Prop :=
  Loop2 t4_2 (.int .i64 0) w fun _ t4_4 t61 w next_4 =>
    binQ Try.prog w .lss 3 false t61 t60 fun t62 =>
    condW t62 (
      S39L4 t1 t4_4 t61 next_4 w
    ) (
      R (.returned (.tuple #[t4_4, (.int .i64 0)])) w
    )

def S39L1 (t1 t4 : Value) (R : Ending → World → Prop) (w : World) : Prop :=
  Loop2 t4 (.int .i64 0) w fun _ t4_2 t28 w next_2 =>
    binQ Try.prog w .lss 3 true t28 (.int .i64 2) fun t29 =>
    condW t29 (
      fa1 t1 0 fun t31 =>
      ld1 w t31 fun t32 =>
      S39L2 t1 t4_2 t28 t32 next_2 w
    ) (
      fa1 t1 0 fun t59 =>
      ld1 w t59 fun t60 =>
      S39L3 t1 t4_2 t60 R w
    )

def S39L0 (t1 : Value) (R : Ending → World → Prop) (w : World) : Prop :=
  Loop2 (.slice none 0 0) (.int .i64 0) w fun _ t4 t17 w next =>
    binQ Try.prog w .lss 3 true t17 (.int .i64 2) fun t18 =>
    condW t18 (
      bdQ Try.prog 32 [(0, t17), (2, t17)] fun t23 =>
      bsW Try.prog 22 1 [(0, t23)] w fun t24 w =>
      semW Try.prog (apS [22, 22] 22 [t4, t24]) w fun t25 w =>
      binQ Try.prog w .add 3 true t17 (.int .i64 1) fun t26 =>
      next t25 t26 w
    ) (
      S39L1 t1 t4 R w
    )

def S39 (t0 : Value) (w : World) (R : Ending → World → Prop) : Prop :=
  boxW 51 t0 w fun t1 w =>
  ldN 2 w t1 fun t14 =>
  callW Try.prog (.func (.func 89) #[] #[]) [t14] w fun t15 w =>
  unQ .not t15 fun t16 =>
  condW t16 (
    R (.returned (.tuple #[(.slice none 0 0), (.int .i64 2)])) w
  ) (
    S39L0 t1 R w
  )

def A39 : Ann where
  live := fun
    | 0 => [4, 17]
    | 2 => [4, 28]
    | 4 => [4, 33]
    | 6 => [4, 61]
    | 8 => [4, 64]
    | _ => []
  wr := fun
    | 0 => fun i => (Nat.ble 4 i && Nat.ble i 5) || (Nat.ble 17 i && Nat.ble i 26)
    | 2 => fun i => Nat.beq i 4 || (Nat.ble 9 i && Nat.ble i 10) || (Nat.ble 28 i && Nat.ble i 58)
    | 4 => fun i => Nat.beq i 4 || Nat.beq i 10 || (Nat.ble 33 i && Nat.ble i 57)
    | 6 => fun i => Nat.beq i 4 || (Nat.ble 11 i && Nat.ble i 13) || (Nat.ble 61 i && Nat.ble i 111)
    | 8 => fun i => Nat.beq i 4 || (Nat.ble 12 i && Nat.ble i 13) || (Nat.ble 64 i && Nat.ble i 110)
    | _ => fun _ => false
  sched := fun
    | 28 => (.take 0 (.take 1 (.take 2 (.take 3 (.take 5 (.take 6 (.take 7 (.take 8 (.take 9 (.eff 4 (.eff 10 (.take 11 (.eff 12 (.bar 13 (.take 14 .done)))))))))))))))
    | 31 => (.take 0 (.take 1 (.take 2 (.take 3 (.take 5 (.take 6 (.take 7 (.take 9 (.take 10 (.eff 4 (.eff 8 (.take 11 (.eff 12 (.bar 13 (.take 14 .done)))))))))))))))
    | _ => .done

set_option maxRecDepth 100000 in
theorem ok39 : (codeOk Try.f39.ntmps A39 (Try.f39.body.getD .skip) 0 && Nat.ble 1 Try.f39.ntmps) = true := by kernel_rfl
set_option maxRecDepth 100000 in
theorem lift39 {t0 : Value} {w : World} {R : Ending → World → Prop} (h : S39 t0 w R) : Calls Try.prog 39 #[t0] w R :=
  calls_of_cw (fn := Try.f39) (c := Try.f39.body.getD .skip) A39 mixes Try.func39 (by kernel_rfl) ok39
    ((by kernel_rfl : (S39 t0 w R) = cw Try.prog A39 (Try.f39.body.getD .skip) 0 (bodyQ Try.prog Try.f39 R) (frOf #[t0]) w).mp h)

def S40L2 (t1 t4_2 t6 : Value) (next_2 : Value → Value → World → Prop) (w : World) : Prop :=
  Loop2 t4_2 (.int .i64 0) w fun _ t4_3 t7 w next_3 =>
    fa1 t1 0 fun t30 =>
    ld1 w t30 fun t31 =>
    binQ Try.prog w .lss 3 false t7 t31 fun t32 =>
    condW t32 (
      binQ Try.prog w .mul 3 true (.int .i64 2) t7 fun t38 =>
      binQ Try.prog w .add 3 true (.int .i64 2) t38 fun t39 =>
      binQ Try.prog w .add 3 false t39 t6 fun t41 =>
      binQ Try.prog w .add 3 true (.int .i64 1) t7 fun t43 =>
      bdQ Try.prog 32 [(0, t6), (2, t41), (3, t43)] fun t44 =>
      bsW Try.prog 22 1 [(0, t44)] w fun t45 w =>
      semW Try.prog (apS [22, 22] 22 [t4_3, t45]) w fun t46 w =>
      binQ Try.prog w .mul 3 true (.int .i64 2) t7 fun t50 =>
      binQ Try.prog w .add 3 true (.int .i64 2) t50 fun t51 =>
      binQ Try.prog w .add 3 false t51 t6 fun t53 =>
      fa1 t1 0 fun t54 =>
      ld1 w t54 fun t55 =>
      binQ Try.prog w .add 3 true (.int .i64 1) t55 fun t56 =>
      binQ Try.prog w .add 3 false t56 t7 fun t58 =>
      bdQ Try.prog 32 [(0, t6), (2, t53), (1, t58)] fun t59 =>
      bsW Try.prog 22 1 [(0, t59)] w fun t60 w =>
      semW Try.prog (apS [22, 22] 22 [t46, t60]) w fun t61 w =>
      binQ Try.prog w .add 3 true t7 (.int .i64 1) fun t34 =>
      next_3 t61 t34 w
    ) (
      binQ Try.prog w .add 3 true t6 (.int .i64 1) fun t28 =>
      next_2 t4_3 t28 w
    )

def S40L4 (t1 t4_4 t8 : Value) (next_4 : Value → Value → World → Prop) (w : World) : Prop :=
  Loop2 t4_4 (.int .i64 0) w fun _ t4_5 t9 w next_5 =>
    binQ Try.prog w .lss 3 true t9 (.int .i64 2) fun t69 =>
    condW t69 (
      Join (fun (k_2 : Value → World → Prop) =>
        fa1 t1 1 fun t72 =>
        ld1 w t72 fun t73 =>
        binQ Try.prog w .mul 3 true (.int .i64 2) t8 fun t75 =>
        binQ Try.prog w .add 3 false t75 t9 fun t77 =>
        iaS 3 t73 t77 fun t78 =>
        ldN 3 w t78 fun t79 =>
        boxW 102 (.agg #[(.int .i64 0), (.bool false), (.int .i64 0)]) w fun t10 w =>
        stW Try.prog 102 t10 t79 w fun w =>
        binQ Try.prog w .mul 3 true (.int .i64 2) t8 fun t81 =>
        binQ Try.prog w .add 3 true (.int .i64 2) t81 fun t82 =>
        binQ Try.prog w .add 3 false t82 t9 fun t84 =>
        fa1 t10 0 fun t85 =>
        ld1 w t85 fun t86 =>
        bdQ Try.prog 32 [(0, t84), (2, t86)] fun t87 =>
        boxW 32 (.agg #[(.int .i64 0), (.int .i64 0), (.int .i64 0), (.int .i64 0)]) w fun t11 w =>
        stW Try.prog 32 t11 t87 w fun w =>
        fa1 t10 2 fun t88 =>
        ld1 w t88 fun t89 =>
        binQ Try.prog w .lss 3 true t89 (.int .i64 0) fun t90 =>
        condW t90 (
          k_2 t4_5 w
        ) (
          fa1 t10 1 fun t91 =>
          ld1 w t91 fun t92 =>
          Join (fun (k_3 : World → Prop) =>
            condW t92 (
              fa1 t10 2 fun t93 =>
              ld1 w t93 fun t94 =>
              binQ Try.prog w .add 3 true (.int .i64 1) t94 fun t95 =>
              fa1 t11 1 fun t96 =>
              stW Try.prog 3 t96 t95 w fun w =>
              k_3 w
            ) (
              fa1 t1 0 fun t97 =>
              ld1 w t97 fun t98 =>
              binQ Try.prog w .add 3 true (.int .i64 1) t98 fun t99 =>
              fa1 t10 2 fun t100 =>
              ld1 w t100 fun t101 =>
              binQ Try.prog w .add 3 false t99 t101 fun t102 =>
              fa1 t11 3 fun t103 =>
              stW Try.prog 3 t103 t102 w fun w =>
              k_3 w
            )
          ) fun w =>
          ldN 4 w t11 fun t105_2 =>
          bsW Try.prog 22 1 [(0, t105_2)] w fun t106_2 w =>
          semW Try.prog (apS [22, 22] 22 [t4_5, t106_2]) w fun t107_2 w =>
          k_2 t107_2 w
        )
      ) fun t4_6 w =>
      binQ Try.prog w .add 3 true t9 (.int .i64 1) fun t71_2 =>
      next_5 t4_6 t71_2 w
    ) (
      binQ Try.prog w .add 3 true t8 (.int .i64 1) fun t67 =>
      next_4 t4_5 t67 w
    )

def S40L3 (t1 t4_2 : Value) (R : Ending → World → Prop) (w : World) : Prop :=
  Loop2 t4_2 (.int .i64 0) w fun _ t4_4 t8 w next_4 =>
    fa1 t1 0 fun t63 =>
    ld1 w t63 fun t64 =>
    binQ Try.prog w .lss 3 false t8 t64 fun t65 =>
    condW t65 (
      S40L4 t1 t4_4 t8 next_4 w
    ) (
      R (.returned (.tuple #[t4_4, (.int .i64 0)])) w
    )

def S40L1 (t1 t4 : Value) (R : Ending → World → Prop) (w : World) : Prop :=
  Loop2 t4 (.int .i64 0) w fun _ t4_2 t6 w next_2 =>
    binQ Try.prog w .lss 3 true t6 (.int .i64 2) fun t26 =>
    condW t26 (
      S40L2 t1 t4_2 t6 next_2 w
    ) (
      S40L3 t1 t4_2 R w
    )

def S40L0 (t1 : Value) (R : Ending → World → Prop) (w : World) : Prop :=
  Loop2 (.slice none 0 0) (.int .i64 0) w fun _ t4 t5 w next =>
    binQ Try.prog w .lss 3 true t5 (.int .i64 2) fun t16 =>
    condW t16 (
      bdQ Try.prog 32 [(0, t5), (2, t5)] fun t22 =>
      bsW Try.prog 22 1 [(0, t22)] w fun t23 w =>
      semW Try.prog (apS [22, 22] 22 [t4, t23]) w fun t24 w =>
      binQ Try.prog w .add 3 true t5 (.int .i64 1) fun t18 =>
      next t24 t18 w
    ) (
      S40L1 t1 t4 R w
    )

def S40 (t0 : Value) (w : World) (R : Ending → World → Prop) : Prop :=
  boxW 51 t0 w fun t1 w =>
  ldN 2 w t1 fun t12 =>
  callW Try.prog (.func (.func 93) #[] #[]) [t12] w fun t13 w =>
  unQ .not t13 fun t14 =>
  condW t14 (
    R (.returned (.tuple #[(.slice none 0 0), (.int .i64 2)])) w
  ) (
    S40L0 t1 R w
  )

def A40 : Ann where
  live := fun
    | 0 => [4, 5]
    | 2 => [4, 6]
    | 4 => [4, 7]
    | 6 => [4, 8]
    | 8 => [4, 9]
    | _ => []
  wr := fun
    | 0 => fun i => (Nat.ble 4 i && Nat.ble i 5) || (Nat.ble 15 i && Nat.ble i 24)
    | 2 => fun i => Nat.beq i 4 || (Nat.ble 6 i && Nat.ble i 7) || (Nat.ble 25 i && Nat.ble i 61)
    | 4 => fun i => Nat.beq i 4 || Nat.beq i 7 || (Nat.ble 29 i && Nat.ble i 61)
    | 6 => fun i => Nat.beq i 4 || (Nat.ble 8 i && Nat.ble i 11) || (Nat.ble 62 i && Nat.ble i 107)
    | 8 => fun i => Nat.beq i 4 || (Nat.ble 9 i && Nat.ble i 11) || (Nat.ble 68 i && Nat.ble i 107)
    | _ => fun _ => false
  sched := fun _ => .done

set_option maxRecDepth 100000 in
theorem ok40 : (codeOk Try.f40.ntmps A40 (Try.f40.body.getD .skip) 0 && Nat.ble 1 Try.f40.ntmps) = true := by kernel_rfl
set_option maxRecDepth 100000 in
theorem lift40 {t0 : Value} {w : World} {R : Ending → World → Prop} (h : S40 t0 w R) : Calls Try.prog 40 #[t0] w R :=
  calls_of_cw (fn := Try.f40) (c := Try.f40.body.getD .skip) A40 mixes Try.func40 (by kernel_rfl) ok40
    ((by kernel_rfl : (S40 t0 w R) = cw Try.prog A40 (Try.f40.body.getD .skip) 0 (bodyQ Try.prog Try.f40 R) (frOf #[t0]) w).mp h)

def S41L0 (t2 t3 t38 : Value) (R : Ending → World → Prop) (w : World) : Prop :=
  Loop3 (.int .i64 0) (.int .i64 0) (.int .i64 0) w fun _ t12 t13 t40 w next =>
    binQ Try.prog w .lss 3 false t40 t2 fun t41 =>
    condW t41 (
      binQ Try.prog w .lss 3 true t13 (.int .i64 0) fun t43 =>
      gd t43 false (fun k => k t12 w) w fun t45 w =>
      gd t43 false (fun k => binQ Try.prog w .lss 3 true t45 (.int .i64 0) fun v => k v w) w fun t46 w =>
      pickQ t43 (.bool true) t46 fun t47 =>
      gd t47 false (fun k => k t12 w) w fun t49 w =>
      gd t47 false (fun k => k t38 w) w fun t50 w =>
      gd t47 false (fun k => ln1 t50 fun v => k v w) w fun t51 w =>
      gd t47 false (fun k => binQ Try.prog w .geq 3 false t49 t51 fun v => k v w) w fun t52 w =>
      pickQ t47 (.bool true) t52 fun t53 =>
      condW t53 (
        R (.returned (.tuple #[t38, t12, t13, (.int .i64 0)])) w
      ) (
        Drew w fun w =>
        fa1 t3 1 fun t54 =>
        ld1 w t54 fun t55 =>
        binQ Try.prog w .mul 3 true (.int .i64 2) t13 fun t57 =>
        iaS 1 t38 t12 fun t60 =>
        ld1 w t60 fun t61 =>
        binQ Try.prog w .add 3 false t57 t61 fun t62 =>
        iaS 3 t55 t62 fun t63 =>
        ldN 3 w t63 fun t64 =>
        boxW 102 (.agg #[(.int .i64 0), (.bool false), (.int .i64 0)]) w <| keepB w fun t14 w =>
        stW Try.prog 102 t14 t64 w fun w =>
        Drew w fun w =>
        ∃ X : Nat → Prop,
        takeX X w (fun w k => k t38) fun t65 =>
        takeX X w (fun w k => k t12) fun t66 =>
        takeX X w (fun w k => fa1 t14 0 k) fun t67 =>
        takeX X w (fun w k => ld1 w t67 k) fun t68 =>
        takeX X w (fun w k => fa1 t14 2 k) fun t69 =>
        takeX X w (fun w k => ld1 w t69 k) fun t70 =>
        takeX X w (fun w k => iaS 1 t65 t66 k) fun t71 =>
        stW Try.prog 3 t71 t68 w <| keepW X w fun w =>
        takeX X w (fun w k => k t70) fun t13_2 =>
        binQ Try.prog w .lss 3 true t13_2 (.int .i64 0) fun t76 =>
        Join (fun (k_2 : Value → World → Prop) =>
          condW t76 (
            k_2 t12 w
          ) (
            fa1 t14 1 fun t78 =>
            ld1 w t78 fun t79 =>
            condW t79 (
              binQ Try.prog w .add 3 true t12 (.int .i64 1) fun t81 =>
              k_2 t81 w
            ) (
              binQ Try.prog w .sub 3 true t12 (.int .i64 1) fun t73 =>
              k_2 t73 w
            )
          )
        ) fun t12_2 w =>
        binQ Try.prog w .add 3 true t40 (.int .i64 1) fun t82_2 =>
        next t12_2 t13_2 t82_2 w
      )
    ) (
      R (.returned (.tuple #[t38, t12, t13, (.int .i64 0)])) w
    )

def S41 (t0 t1 t2 : Value) (w : World) (R : Ending → World → Prop) : Prop :=
  boxW 51 t0 w fun t3 w =>
  ldN 2 w t3 fun t15 =>
  callW Try.prog (.func (.func 89) #[] #[]) [t15] w fun t16 w =>
  unQ .not t16 fun t17 =>
  gd t17 false (fun k => k t1 w) w fun t19 w =>
  gd t17 false (fun k => ln1 t19 fun v => k v w) w fun t20 w =>
  gd t17 false (fun k => callW Try.prog (.func (.func 66) #[] #[]) [t20] w k) w fun t21 w =>
  gd t17 false (fun k => unQ .not t21 fun v => k v w) w fun t22 w =>
  pickQ t17 (.bool true) t22 fun t23 =>
  gd t23 false (fun k => k t1 w) w fun t25 w =>
  gd t23 false (fun k => k (.func (.func 94) #[] #[]) w) w fun t26 w =>
  gd t23 false (fun k => callW Try.prog (.func (.func 54) #[] #[]) [t25, t26] w k) w fun t27 w =>
  pickQ t23 (.bool true) t27 fun t28 =>
  gd t28 false (fun k => k t2 w) w fun t30 w =>
  gd t28 false (fun k => binQ Try.prog w .lss 3 true t30 (.int .i64 0) fun v => k v w) w fun t31 w =>
  pickQ t28 (.bool true) t31 fun t32 =>
  gd t32 false (fun k => k t2 w) w fun t34 w =>
  gd t32 false (fun k => binQ Try.prog w .gtr 3 true t34 (.int .i64 4) fun v => k v w) w fun t35 w =>
  pickQ t32 (.bool true) t35 fun t36 =>
  condW t36 (
    R (.returned (.tuple #[(.slice none 0 0), (.int .i64 0), (.int .i64 0), (.int .i64 2)])) w
  ) (
    callW Try.prog (.func (.func 79) #[] #[]) [t1] w fun t38 w =>
    S41L0 t2 t3 t38 R w
  )

def A41 : Ann where
  live := fun
    | 0 => [12, 13, 40]
    | _ => []
  wr := fun
    | 0 => fun i => (Nat.ble 12 i && Nat.ble i 14) || (Nat.ble 40 i && Nat.ble i 82)
    | _ => fun _ => false
  sched := fun
    | 9 => (.take 0 (.take 1 (.take 2 (.take 3 (.take 4 (.take 5 (.take 6 (.take 7 (.take 8 (.take 9 (.take 10 (.eff 11 (.bar 12 .done)))))))))))))
    | 10 => (.cls (.take 0 (.take 1 (.take 2 (.take 3 (.take 4 (.take 5 (.take 6 (.eff 7 (.take 8 .done))))))))))
    | _ => .done

set_option maxRecDepth 100000 in
theorem ok41 : (codeOk Try.f41.ntmps A41 (Try.f41.body.getD .skip) 0 && Nat.ble 3 Try.f41.ntmps) = true := by kernel_rfl
set_option maxRecDepth 100000 in
theorem lift41 {t0 t1 t2 : Value} {w : World} {R : Ending → World → Prop} (h : S41 t0 t1 t2 w R) : Calls Try.prog 41 #[t0, t1, t2] w R :=
  calls_of_cw (fn := Try.f41) (c := Try.f41.body.getD .skip) A41 mixes Try.func41 (by kernel_rfl) ok41
    ((by kernel_rfl : (S41 t0 t1 t2 w R) = cw Try.prog A41 (Try.f41.body.getD .skip) 0 (bodyQ Try.prog Try.f41 R) (frOf #[t0, t1, t2]) w).mp h)

def S42L1 (t2 t3 t10 : Value) (R : Ending → World → Prop) (w : World) : Prop :=
  Loop3 (.int .i64 0) (.int .i64 0) (.int .i64 0) w fun _ t12 t13 t14 w next_2 =>
    binQ Try.prog w .lss 3 false t14 t2 fun t60 =>
    gd t60 true (fun k => k t13 w) w fun t62 w =>
    gd t60 true (fun k => binQ Try.prog w .geq 3 true t62 (.int .i64 0) fun v => k v w) w fun t63 w =>
    pickQ t60 t63 (.bool false) fun t64 =>
    gd t64 true (fun k => k t12 w) w fun t66 w =>
    gd t64 true (fun k => binQ Try.prog w .geq 3 true t66 (.int .i64 0) fun v => k v w) w fun t67 w =>
    pickQ t64 t67 (.bool false) fun t68 =>
    gd t68 true (fun k => k t12 w) w fun t70 w =>
    gd t68 true (fun k => k t10 w) w fun t71 w =>
    gd t68 true (fun k => ln1 t71 fun v => k v w) w fun t72 w =>
    gd t68 true (fun k => binQ Try.prog w .lss 3 false t70 t72 fun v => k v w) w fun t73 w =>
    pickQ t68 t73 (.bool false) fun t74 =>
    condW t74 (
      Drew w fun w =>
      fa1 t3 1 fun t77 =>
      ld1 w t77 fun t78 =>
      binQ Try.prog w .mul 3 true (.int .i64 2) t13 fun t80 =>
      iaS 1 t10 t12 fun t83 =>
      ld1 w t83 fun t84 =>
      binQ Try.prog w .add 3 false t80 t84 fun t85 =>
      iaS 3 t78 t85 fun t86 =>
      ldN 3 w t86 fun t87 =>
      boxW 102 (.agg #[(.int .i64 0), (.bool false), (.int .i64 0)]) w <| keepB w fun t15 w =>
      stW Try.prog 102 t15 t87 w fun w =>
      fa1 t15 0 fun t90 =>
      ld1 w t90 fun t91 =>
      iaS 1 t10 t12 fun t92 =>
      stW Try.prog 3 t92 t91 w fun w =>
      fa1 t15 2 fun t93 =>
      ld1 w t93 fun t94 =>
      binQ Try.prog w .geq 3 true t94 (.int .i64 0) fun t96 =>
      gd t96 true (fun k => fa1 t15 1 fun v => k v w) w fun t98 w =>
      gd t96 true (fun k => ld1 w t98 fun v => k v w) w fun t99 w =>
      pickQ t96 t99 (.bool false) fun t100 =>
      Join (fun (k_2 : Value → World → Prop) =>
        condW t100 (
          binQ Try.prog w .add 3 true t12 (.int .i64 1) fun t102 =>
          k_2 t102 w
        ) (
          binQ Try.prog w .geq 3 true t94 (.int .i64 0) fun t104 =>
          condW t104 (
            binQ Try.prog w .sub 3 true t12 (.int .i64 1) fun t106 =>
            k_2 t106 w
          ) (
            k_2 t12 w
          )
        )
      ) fun t12_2 w =>
      binQ Try.prog w .add 3 true t14 (.int .i64 1) fun t76_2 =>
      next_2 t12_2 t94 t76_2 w
    ) (
      R (.returned (.tuple #[t10, t12, t13, (.int .i64 0)])) w
    )

def S42L0 (t1 t2 t3 : Value) (R : Ending → World → Prop) (w : World) : Prop :=
  Loop2 (.slice none 0 0) (.int .i64 0) w fun _ t10 t11 w next =>
    ln1 t1 fun t35 =>
    binQ Try.prog w .lss 3 false t11 t35 fun t36 =>
    condW t36 (
      iaS 1 t1 t11 fun t41 =>
      ld1 w t41 fun t42 =>
      binQ Try.prog w .lss 3 true t42 (.int .i64 0) fun t43 =>
      gd t43 false (fun k => k t1 w) w fun t45 w =>
      gd t43 false (fun k => k t11 w) w fun t46 w =>
      gd t43 false (fun k => iaS 1 t45 t46 fun v => k v w) w fun t47 w =>
      gd t43 false (fun k => ld1 w t47 fun v => k v w) w fun t48 w =>
      gd t43 false (fun k => binQ Try.prog w .gtr 3 true t48 (.int .i64 1) fun v => k v w) w fun t49 w =>
      pickQ t43 (.bool true) t49 fun t50 =>
      condW t50 (
        R (.returned (.tuple #[(.slice none 0 0), (.int .i64 0), (.int .i64 0), (.int .i64 2)])) w
      ) (
        iaS 1 t1 t11 fun t54 =>
        ld1 w t54 fun t55 =>
        bsW Try.prog 30 1 [(0, t55)] w fun t56 w =>
        semW Try.prog (apS [30, 30] 30 [t10, t56]) w fun t57 w =>
        binQ Try.prog w .add 3 true t11 (.int .i64 1) fun t38 =>
        next t57 t38 w
      )
    ) (
      S42L1 t2 t3 t10 R w
    )

def S42 (t0 t1 t2 : Value) (w : World) (R : Ending → World → Prop) : Prop :=
  boxW 51 t0 w fun t3 w =>
  ldN 2 w t3 fun t16 =>
  callW Try.prog (.func (.func 93) #[] #[]) [t16] w fun t17 w =>
  unQ .not t17 fun t18 =>
  gd t18 false (fun k => k t1 w) w fun t20 w =>
  gd t18 false (fun k => ln1 t20 fun v => k v w) w fun t21 w =>
  gd t18 false (fun k => callW Try.prog (.func (.func 68) #[] #[]) [t21] w k) w fun t22 w =>
  gd t18 false (fun k => unQ .not t22 fun v => k v w) w fun t23 w =>
  pickQ t18 (.bool true) t23 fun t24 =>
  gd t24 false (fun k => k t2 w) w fun t26 w =>
  gd t24 false (fun k => binQ Try.prog w .lss 3 true t26 (.int .i64 0) fun v => k v w) w fun t27 w =>
  pickQ t24 (.bool true) t27 fun t28 =>
  gd t28 false (fun k => k t2 w) w fun t30 w =>
  gd t28 false (fun k => binQ Try.prog w .gtr 3 true t30 (.int .i64 4) fun v => k v w) w fun t31 w =>
  pickQ t28 (.bool true) t31 fun t32 =>
  condW t32 (
    R (.returned (.tuple #[(.slice none 0 0), (.int .i64 0), (.int .i64 0), (.int .i64 2)])) w
  ) (
    S42L0 t1 t2 t3 R w
  )

def A42 : Ann where
  live := fun
    | 0 => [10, 11]
    | 2 => [12, 13, 14]
    | _ => []
  wr := fun
    | 0 => fun i => (Nat.ble 6 i && Nat.ble i 11) || (Nat.ble 33 i && Nat.ble i 57)
    | 2 => fun i => (Nat.ble 12 i && Nat.ble i 15) || (Nat.ble 58 i && Nat.ble i 106)
    | _ => fun _ => false
  sched := fun
    | 14 => (.take 0 (.take 1 (.take 2 (.take 3 (.take 4 (.take 5 (.take 6 (.take 7 (.take 8 (.take 9 (.take 10 (.eff 11 (.bar 12 .done)))))))))))))
    | _ => .done

set_option maxRecDepth 100000 in
theorem ok42 : (codeOk Try.f42.ntmps A42 (Try.f42.body.getD .skip) 0 && Nat.ble 3 Try.f42.ntmps) = true := by kernel_rfl
set_option maxRecDepth 100000 in
theorem lift42 {t0 t1 t2 : Value} {w : World} {R : Ending → World → Prop} (h : S42 t0 t1 t2 w R) : Calls Try.prog 42 #[t0, t1, t2] w R :=
  calls_of_cw (fn := Try.f42) (c := Try.f42.body.getD .skip) A42 mixes Try.func42 (by kernel_rfl) ok42
    ((by kernel_rfl : (S42 t0 t1 t2 w R) = cw Try.prog A42 (Try.f42.body.getD .skip) 0 (bodyQ Try.prog Try.f42 R) (frOf #[t0, t1, t2]) w).mp h)

def S43 (t0 t1 : Value) (w : World) (R : Ending → World → Prop) : Prop :=
  ln1 t0 fun t7 =>
  ln1 t1 fun t9 =>
  binQ Try.prog w .neq 3 false t7 t9 fun t10 =>
  condW t10 (
    R (.returned (.bool false)) w
  ) (
    Loop1 (.int .i64 0) w fun _ t5 w next =>
      ln1 t0 fun t13 =>
      binQ Try.prog w .lss 3 false t5 t13 fun t14 =>
      condW t14 (
        Drew w fun w =>
        iaS 1 t0 t5 fun t19 =>
        ld1 w t19 fun t20 =>
        iaS 1 t1 t5 fun t23 =>
        ld1 w t23 fun t24 =>
        binQ Try.prog w .neq 3 false t20 t24 fun t25 =>
        condW t25 (
          R (.returned (.bool false)) w
        ) (
          binQ Try.prog w .add 3 true t5 (.int .i64 1) fun t16 =>
          next t16 w
        )
      ) (
        R (.returned (.bool true)) w
      )
  )

def A43 : Ann where
  live := fun
    | 0 => [5]
    | _ => []
  wr := fun
    | 0 => fun i => (Nat.ble 4 i && Nat.ble i 5) || (Nat.ble 11 i && Nat.ble i 25)
    | _ => fun _ => false
  sched := fun
    | 6 => (.take 0 (.take 1 (.take 2 (.take 3 (.take 4 (.take 5 (.take 6 (.take 7 (.take 8 .done)))))))))
    | _ => .done

set_option maxRecDepth 100000 in
theorem ok43 : (codeOk Try.f43.ntmps A43 (Try.f43.body.getD .skip) 0 && Nat.ble 2 Try.f43.ntmps) = true := by kernel_rfl
set_option maxRecDepth 100000 in
theorem lift43 {t0 t1 : Value} {w : World} {R : Ending → World → Prop} (h : S43 t0 t1 w R) : Calls Try.prog 43 #[t0, t1] w R :=
  calls_of_cw (fn := Try.f43) (c := Try.f43.body.getD .skip) A43 mixes Try.func43 (by kernel_rfl) ok43
    ((by kernel_rfl : (S43 t0 t1 w R) = cw Try.prog A43 (Try.f43.body.getD .skip) 0 (bodyQ Try.prog Try.f43 R) (frOf #[t0, t1]) w).mp h)

def S79 (t0 : Value) (w : World) (R : Ending → World → Prop) : Prop :=
  binQ Try.prog w .eql 30 true t0 (.slice none 0 0) fun t4 =>
  condW t4 (
    R (.returned (.slice none 0 0)) w
  ) (
    bsW Try.prog 30 0 [] w fun t5 w =>
    semW Try.prog (apS [30, 30] 30 [t5, t0]) w fun t7 w =>
    R (.returned t7) w
  )

def A79 : Ann where
  live := fun _ => []
  wr := fun _ _ => false
  sched := fun _ => .done

set_option maxRecDepth 100000 in
theorem ok79 : (codeOk Try.f79.ntmps A79 (Try.f79.body.getD .skip) 0 && Nat.ble 1 Try.f79.ntmps) = true := by kernel_rfl
set_option maxRecDepth 100000 in
theorem lift79 {t0 : Value} {w : World} {R : Ending → World → Prop} (h : S79 t0 w R) : Calls Try.prog 79 #[t0] w R :=
  calls_of_cw (fn := Try.f79) (c := Try.f79.body.getD .skip) A79 mixes Try.func79 (by kernel_rfl) ok79
    ((by kernel_rfl : (S79 t0 w R) = cw Try.prog A79 (Try.f79.body.getD .skip) 0 (bodyQ Try.prog Try.f79 R) (frOf #[t0]) w).mp h)

def S89 (t0 : Value) (w : World) (R : Ending → World → Prop) : Prop :=
  boxW 51 t0 w fun t1 w =>
  fa1 t1 0 fun t3 =>
  ld1 w t3 fun t4 =>
  binQ Try.prog w .geq 3 true t4 (.int .i64 1) fun t5 =>
  gd t5 true (fun k => fa1 t1 0 fun v => k v w) w fun t7 w =>
  gd t5 true (fun k => ld1 w t7 fun v => k v w) w fun t8 w =>
  gd t5 true (fun k => binQ Try.prog w .leq 3 true t8 (.int .i64 2) fun v => k v w) w fun t9 w =>
  pickQ t5 t9 (.bool false) fun t10 =>
  gd t10 true (fun k => fa1 t1 1 fun v => k v w) w fun t12 w =>
  gd t10 true (fun k => ld1 w t12 fun v => k v w) w fun t13 w =>
  gd t10 true (fun k => ln1 t13 fun v => k v w) w fun t14 w =>
  gd t10 true (fun k => fa1 t1 0 fun v => k v w) w fun t15 w =>
  gd t10 true (fun k => ld1 w t15 fun v => k v w) w fun t16 w =>
  gd t10 true (fun k => binQ Try.prog w .mul 3 true (.int .i64 2) t16 fun v => k v w) w fun t17 w =>
  gd t10 true (fun k => binQ Try.prog w .eql 3 false t14 t17 fun v => k v w) w fun t18 w =>
  pickQ t10 t18 (.bool false) fun t19 =>
  gd t19 true (fun k => fa1 t1 1 fun v => k v w) w fun t21 w =>
  gd t19 true (fun k => ld1 w t21 fun v => k v w) w fun t22 w =>
  gd t19 true (fun k => k (.func (.func 115) #[] #[t1]) w) w fun t23 w =>
  gd t19 true (fun k => callW Try.prog (.func (.func 114) #[] #[]) [t22, t23] w k) w fun t24 w =>
  gd t19 true (fun k => unQ .not t24 fun v => k v w) w fun t25 w =>
  pickQ t19 t25 (.bool false) fun t26 =>
  R (.returned t26) w

def A89 : Ann where
  live := fun _ => []
  wr := fun _ _ => false
  sched := fun _ => .done

set_option maxRecDepth 100000 in
theorem ok89 : (codeOk Try.f89.ntmps A89 (Try.f89.body.getD .skip) 0 && Nat.ble 1 Try.f89.ntmps) = true := by kernel_rfl
set_option maxRecDepth 100000 in
theorem lift89 {t0 : Value} {w : World} {R : Ending → World → Prop} (h : S89 t0 w R) : Calls Try.prog 89 #[t0] w R :=
  calls_of_cw (fn := Try.f89) (c := Try.f89.body.getD .skip) A89 mixes Try.func89 (by kernel_rfl) ok89
    ((by kernel_rfl : (S89 t0 w R) = cw Try.prog A89 (Try.f89.body.getD .skip) 0 (bodyQ Try.prog Try.f89 R) (frOf #[t0]) w).mp h)

def S90 (t0 t1 : Value) (w : World) (R : Ending → World → Prop) : Prop :=
  binQ Try.prog w .mul 3 true (.int .i64 2) t0 fun t6 =>
  binQ Try.prog w .add 3 true (.int .i64 2) t6 fun t7 =>
  binQ Try.prog w .add 3 false t7 t1 fun t9 =>
  R (.returned t9) w

def A90 : Ann where
  live := fun _ => []
  wr := fun _ _ => false
  sched := fun _ => .done

set_option maxRecDepth 100000 in
theorem ok90 : (codeOk Try.f90.ntmps A90 (Try.f90.body.getD .skip) 0 && Nat.ble 2 Try.f90.ntmps) = true := by kernel_rfl
set_option maxRecDepth 100000 in
theorem lift90 {t0 t1 : Value} {w : World} {R : Ending → World → Prop} (h : S90 t0 t1 w R) : Calls Try.prog 90 #[t0, t1] w R :=
  calls_of_cw (fn := Try.f90) (c := Try.f90.body.getD .skip) A90 mixes Try.func90 (by kernel_rfl) ok90
    ((by kernel_rfl : (S90 t0 t1 w R) = cw Try.prog A90 (Try.f90.body.getD .skip) 0 (bodyQ Try.prog Try.f90 R) (frOf #[t0, t1]) w).mp h)

def S91 (t0 : Value) (w : World) (R : Ending → World → Prop) : Prop :=
  binQ Try.prog w .add 3 true (.int .i64 1) t0 fun t4 =>
  R (.returned t4) w

def A91 : Ann where
  live := fun _ => []
  wr := fun _ _ => false
  sched := fun _ => .done

set_option maxRecDepth 100000 in
theorem ok91 : (codeOk Try.f91.ntmps A91 (Try.f91.body.getD .skip) 0 && Nat.ble 1 Try.f91.ntmps) = true := by kernel_rfl
set_option maxRecDepth 100000 in
theorem lift91 {t0 : Value} {w : World} {R : Ending → World → Prop} (h : S91 t0 w R) : Calls Try.prog 91 #[t0] w R :=
  calls_of_cw (fn := Try.f91) (c := Try.f91.body.getD .skip) A91 mixes Try.func91 (by kernel_rfl) ok91
    ((by kernel_rfl : (S91 t0 w R) = cw Try.prog A91 (Try.f91.body.getD .skip) 0 (bodyQ Try.prog Try.f91 R) (frOf #[t0]) w).mp h)

def S92 (t0 t1 : Value) (w : World) (R : Ending → World → Prop) : Prop :=
  fa1 t1 0 fun t4 =>
  ld1 w t4 fun t5 =>
  binQ Try.prog w .add 3 true (.int .i64 1) t5 fun t6 =>
  binQ Try.prog w .add 3 false t6 t0 fun t8 =>
  R (.returned t8) w

def A92 : Ann where
  live := fun _ => []
  wr := fun _ _ => false
  sched := fun _ => .done

set_option maxRecDepth 100000 in
theorem ok92 : (codeOk Try.f92.ntmps A92 (Try.f92.body.getD .skip) 0 && Nat.ble 2 Try.f92.ntmps) = true := by kernel_rfl
set_option maxRecDepth 100000 in
theorem lift92 {t0 t1 : Value} {w : World} {R : Ending → World → Prop} (h : S92 t0 t1 w R) : Calls Try.prog 92 #[t0, t1] w R :=
  calls_of_cw (fn := Try.f92) (c := Try.f92.body.getD .skip) A92 mixes Try.func92 (by kernel_rfl) ok92
    ((by kernel_rfl : (S92 t0 t1 w R) = cw Try.prog A92 (Try.f92.body.getD .skip) 0 (bodyQ Try.prog Try.f92 R) (frOf #[t0, t1]) w).mp h)

def S93 (t0 : Value) (w : World) (R : Ending → World → Prop) : Prop :=
  boxW 51 t0 w fun t1 w =>
  fa1 t1 0 fun t5 =>
  ld1 w t5 fun t6 =>
  binQ Try.prog w .lss 3 true t6 (.int .i64 1) fun t7 =>
  gd t7 false (fun k => fa1 t1 0 fun v => k v w) w fun t9 w =>
  gd t7 false (fun k => ld1 w t9 fun v => k v w) w fun t10 w =>
  gd t7 false (fun k => binQ Try.prog w .gtr 3 true t10 (.int .i64 2) fun v => k v w) w fun t11 w =>
  pickQ t7 (.bool true) t11 fun t12 =>
  gd t12 false (fun k => fa1 t1 1 fun v => k v w) w fun t14 w =>
  gd t12 false (fun k => ld1 w t14 fun v => k v w) w fun t15 w =>
  gd t12 false (fun k => ln1 t15 fun v => k v w) w fun t16 w =>
  gd t12 false (fun k => fa1 t1 0 fun v => k v w) w fun t17 w =>
  gd t12 false (fun k => ld1 w t17 fun v => k v w) w fun t18 w =>
  gd t12 false (fun k => binQ Try.prog w .mul 3 true (.int .i64 2) t18 fun v => k v w) w fun t19 w =>
  gd t12 false (fun k => binQ Try.prog w .neq 3 false t16 t19 fun v => k v w) w fun t20 w =>
  pickQ t12 (.bool true) t20 fun t21 =>
  condW t21 (
    R (.returned (.bool false)) w
  ) (
    Loop1 (.int .i64 0) w fun _ t3 w next =>
      fa1 t1 1 fun t23 =>
      ld1 w t23 fun t24 =>
      ln1 t24 fun t25 =>
      binQ Try.prog w .lss 3 false t3 t25 fun t26 =>
      condW t26 (
        fa1 t1 1 fun t29 =>
        ld1 w t29 fun t30 =>
        iaS 3 t30 t3 fun t32 =>
        ldN 3 w t32 fun t33 =>
        boxW 102 (.agg #[(.int .i64 0), (.bool false), (.int .i64 0)]) w fun t4 w =>
        stW Try.prog 102 t4 t33 w fun w =>
        fa1 t4 0 fun t34 =>
        ld1 w t34 fun t35 =>
        binQ Try.prog w .lss 3 true t35 (.int .i64 0) fun t36 =>
        gd t36 false (fun k => fa1 t4 0 fun v => k v w) w fun t38 w =>
        gd t36 false (fun k => ld1 w t38 fun v => k v w) w fun t39 w =>
        gd t36 false (fun k => binQ Try.prog w .gtr 3 true t39 (.int .i64 1) fun v => k v w) w fun t40 w =>
        pickQ t36 (.bool true) t40 fun t41 =>
        gd t41 false (fun k => fa1 t4 2 fun v => k v w) w fun t43 w =>
        gd t41 false (fun k => ld1 w t43 fun v => k v w) w fun t44 w =>
        gd t41 false (fun k => binQ Try.prog w .lss 3 true t44 (.int .i64 (-1)) fun v => k v w) w fun t45 w =>
        pickQ t41 (.bool true) t45 fun t46 =>
        gd t46 false (fun k => fa1 t4 2 fun v => k v w) w fun t48 w =>
        gd t46 false (fun k => ld1 w t48 fun v => k v w) w fun t49 w =>
        gd t46 false (fun k => fa1 t1 0 fun v => k v w) w fun t50 w =>
        gd t46 false (fun k => ld1 w t50 fun v => k v w) w fun t51 w =>
        gd t46 false (fun k => binQ Try.prog w .geq 3 false t49 t51 fun v => k v w) w fun t52 w =>
        pickQ t46 (.bool true) t52 fun t53 =>
        condW t53 (
          R (.returned (.bool false)) w
        ) (
          binQ Try.prog w .add 3 true t3 (.int .i64 1) fun t28 =>
          next t28 w
        )
      ) (
        R (.returned (.bool true)) w
      )
  )

def A93 : Ann where
  live := fun
    | 0 => [3]
    | _ => []
  wr := fun
    | 0 => fun i => (Nat.ble 2 i && Nat.ble i 4) || (Nat.ble 22 i && Nat.ble i 53)
    | _ => fun _ => false
  sched := fun _ => .done

set_option maxRecDepth 100000 in
theorem ok93 : (codeOk Try.f93.ntmps A93 (Try.f93.body.getD .skip) 0 && Nat.ble 1 Try.f93.ntmps) = true := by kernel_rfl
set_option maxRecDepth 100000 in
theorem lift93 {t0 : Value} {w : World} {R : Ending → World → Prop} (h : S93 t0 w R) : Calls Try.prog 93 #[t0] w R :=
  calls_of_cw (fn := Try.f93) (c := Try.f93.body.getD .skip) A93 mixes Try.func93 (by kernel_rfl) ok93
    ((by kernel_rfl : (S93 t0 w R) = cw Try.prog A93 (Try.f93.body.getD .skip) 0 (bodyQ Try.prog Try.f93 R) (frOf #[t0]) w).mp h)

def S94 (t0 : Value) (w : World) (R : Ending → World → Prop) : Prop :=
  binQ Try.prog w .neq 3 true t0 (.int .i64 0) fun t4 =>
  gd t4 true (fun k => k t0 w) w fun t6 w =>
  gd t4 true (fun k => binQ Try.prog w .neq 3 true t6 (.int .i64 1) fun v => k v w) w fun t7 w =>
  pickQ t4 t7 (.bool false) fun t8 =>
  R (.returned t8) w

def A94 : Ann where
  live := fun _ => []
  wr := fun _ _ => false
  sched := fun _ => .done

set_option maxRecDepth 100000 in
theorem ok94 : (codeOk Try.f94.ntmps A94 (Try.f94.body.getD .skip) 0 && Nat.ble 1 Try.f94.ntmps) = true := by kernel_rfl
set_option maxRecDepth 100000 in
theorem lift94 {t0 : Value} {w : World} {R : Ending → World → Prop} (h : S94 t0 w R) : Calls Try.prog 94 #[t0] w R :=
  calls_of_cw (fn := Try.f94) (c := Try.f94.body.getD .skip) A94 mixes Try.func94 (by kernel_rfl) ok94
    ((by kernel_rfl : (S94 t0 w R) = cw Try.prog A94 (Try.f94.body.getD .skip) 0 (bodyQ Try.prog Try.f94 R) (frOf #[t0]) w).mp h)

def S114 (t0 t1 : Value) (w : World) (R : Ending → World → Prop) : Prop :=
  callW Try.prog (.func (.func 131) #[] #[]) [t0, t1] w fun t7 w =>
  binQ Try.prog w .geq 3 true t7 (.int .i64 0) fun t8 =>
  R (.returned t8) w

def A114 : Ann where
  live := fun _ => []
  wr := fun _ _ => false
  sched := fun _ => .done

set_option maxRecDepth 100000 in
theorem ok114 : (codeOk Try.f114.ntmps A114 (Try.f114.body.getD .skip) 0 && Nat.ble 2 Try.f114.ntmps) = true := by kernel_rfl
set_option maxRecDepth 100000 in
theorem lift114 {t0 t1 : Value} {w : World} {R : Ending → World → Prop} (h : S114 t0 t1 w R) : Calls Try.prog 114 #[t0, t1] w R :=
  calls_of_cw (fn := Try.f114) (c := Try.f114.body.getD .skip) A114 mixes Try.func114 (by kernel_rfl) ok114
    ((by kernel_rfl : (S114 t0 t1 w R) = cw Try.prog A114 (Try.f114.body.getD .skip) 0 (bodyQ Try.prog Try.f114 R) (frOf #[t0, t1]) w).mp h)

def S115 (t0 t1 : Value) (w : World) (R : Ending → World → Prop) : Prop :=
  boxW 102 t0 w fun t2 w =>
  fa1 t2 0 fun t4 =>
  ld1 w t4 fun t5 =>
  binQ Try.prog w .lss 3 true t5 (.int .i64 0) fun t6 =>
  gd t6 false (fun k => fa1 t2 0 fun v => k v w) w fun t8 w =>
  gd t6 false (fun k => ld1 w t8 fun v => k v w) w fun t9 w =>
  gd t6 false (fun k => binQ Try.prog w .gtr 3 true t9 (.int .i64 1) fun v => k v w) w fun t10 w =>
  pickQ t6 (.bool true) t10 fun t11 =>
  gd t11 false (fun k => fa1 t2 2 fun v => k v w) w fun t13 w =>
  gd t11 false (fun k => ld1 w t13 fun v => k v w) w fun t14 w =>
  gd t11 false (fun k => binQ Try.prog w .lss 3 true t14 (.int .i64 (-1)) fun v => k v w) w fun t15 w =>
  pickQ t11 (.bool true) t15 fun t16 =>
  gd t16 false (fun k => fa1 t2 2 fun v => k v w) w fun t18 w =>
  gd t16 false (fun k => ld1 w t18 fun v => k v w) w fun t19 w =>
  gd t16 false (fun k => fa1 t1 0 fun v => k v w) w fun t20 w =>
  gd t16 false (fun k => ld1 w t20 fun v => k v w) w fun t21 w =>
  gd t16 false (fun k => binQ Try.prog w .geq 3 false t19 t21 fun v => k v w) w fun t22 w =>
  pickQ t16 (.bool true) t22 fun t23 =>
  R (.returned t23) w

def A115 : Ann where
  live := fun _ => []
  wr := fun _ _ => false
  sched := fun _ => .done

set_option maxRecDepth 100000 in
theorem ok115 : (codeOk Try.f115.ntmps A115 (Try.f115.body.getD .skip) 0 && Nat.ble 2 Try.f115.ntmps) = true := by kernel_rfl
set_option maxRecDepth 100000 in
theorem lift115 {t0 t1 : Value} {w : World} {R : Ending → World → Prop} (h : S115 t0 t1 w R) : Calls Try.prog 115 #[t0, t1] w R :=
  calls_of_cw (fn := Try.f115) (c := Try.f115.body.getD .skip) A115 mixes Try.func115 (by kernel_rfl) ok115
    ((by kernel_rfl : (S115 t0 t1 w R) = cw Try.prog A115 (Try.f115.body.getD .skip) 0 (bodyQ Try.prog Try.f115 R) (frOf #[t0, t1]) w).mp h)

def S131 (t0 t1 : Value) (w : World) (R : Ending → World → Prop) : Prop :=
  ln1 t0 fun t7 =>
  Loop1 (.int .i64 0) w fun _ t8 w next =>
    binQ Try.prog w .lss 3 false t8 t7 fun t9 =>
    condW t9 (
      iaS 3 t0 t8 fun t14 =>
      ldN 3 w t14 fun t15 =>
      callW Try.prog t1 [t15] w fun t16 w =>
      condW t16 (
        R (.returned t8) w
      ) (
        binQ Try.prog w .add 3 true t8 (.int .i64 1) fun t18 =>
        next t18 w
      )
    ) (
      R (.returned (.int .i64 (-1))) w
    )

def A131 : Ann where
  live := fun
    | 0 => [8]
    | _ => []
  wr := fun
    | 0 => fun i => (Nat.ble 4 i && Nat.ble i 5) || (Nat.ble 8 i && Nat.ble i 18)
    | _ => fun _ => false
  sched := fun _ => .done

set_option maxRecDepth 100000 in
theorem ok131 : (codeOk Try.f131.ntmps A131 (Try.f131.body.getD .skip) 0 && Nat.ble 2 Try.f131.ntmps) = true := by kernel_rfl
set_option maxRecDepth 100000 in
theorem lift131 {t0 t1 : Value} {w : World} {R : Ending → World → Prop} (h : S131 t0 t1 w R) : Calls Try.prog 131 #[t0, t1] w R :=
  calls_of_cw (fn := Try.f131) (c := Try.f131.body.getD .skip) A131 mixes Try.func131 (by kernel_rfl) ok131
    ((by kernel_rfl : (S131 t0 t1 w R) = cw Try.prog A131 (Try.f131.body.getD .skip) 0 (bodyQ Try.prog Try.f131 R) (frOf #[t0, t1]) w).mp h)

theorem fok10 : fnOk Try.prog 10 = true := by kernel_rfl
theorem fok30 : fnOk Try.prog 30 = true := by kernel_rfl
theorem fok39 : fnOk Try.prog 39 = true := by kernel_rfl
theorem fok40 : fnOk Try.prog 40 = true := by kernel_rfl
theorem fok41 : fnOk Try.prog 41 = true := by kernel_rfl
theorem fok42 : fnOk Try.prog 42 = true := by kernel_rfl
theorem fok43 : fnOk Try.prog 43 = true := by kernel_rfl
theorem fok79 : fnOk Try.prog 79 = true := by kernel_rfl
theorem fok89 : fnOk Try.prog 89 = true := by kernel_rfl
theorem fok90 : fnOk Try.prog 90 = true := by kernel_rfl
theorem fok91 : fnOk Try.prog 91 = true := by kernel_rfl
theorem fok92 : fnOk Try.prog 92 = true := by kernel_rfl
theorem fok93 : fnOk Try.prog 93 = true := by kernel_rfl
theorem fok94 : fnOk Try.prog 94 = true := by kernel_rfl
theorem fok114 : fnOk Try.prog 114 = true := by kernel_rfl
theorem fok115 : fnOk Try.prog 115 = true := by kernel_rfl
theorem fok131 : fnOk Try.prog 131 = true := by kernel_rfl
end Go.Proofs.Ytgalbokmgffhkaa
