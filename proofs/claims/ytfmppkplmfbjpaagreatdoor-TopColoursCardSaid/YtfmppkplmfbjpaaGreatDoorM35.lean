/- Texts of my own, merged by program: Said. -/
import Derived.Test.YtfmppkplmfbjpaaGreatDoorM03
import Derived.Test.YtfmppkplmfbjpaaGreatDoorM34
import Derived.ProofKit
import Derived.LaidMore
import Derived.Lay
import Derived.OpenShut
import Derived.Stop.Joined
import Derived.Deep.Strs
import Derived.Lib.SmallJoins
import Derived.Deep.Slices
set_option linter.all false
/- From a contract that a law returns true to the given statement. -/
namespace Go.Proofs.YtfmppkplmfbjpaaGreatDoor
open Go.ChangeShapes Go.WideShapes Go.ChangeAt Go.RowKit Go.Lf Go.Ht Go.Deep Go.Wg Go.Pt

theorem own : ownKnob Tryz.prog.godebug = none := by kernel_rfl
theorem laid0 : laidOutB Tryz.prog = true := by kernel_rfl
theorem und4 : Tryz.prog.underlying 4 = some .bool := by kernel_rfl
theorem und3z : Tryz.prog.underlying 3 = some (.int .i64) := by kernel_rfl
/-- What the rows list. -/
def laid1 : List (String × DataW Unit) := [("unicode/utf8.acceptRanges", Rows.laid_unicode_utf8_acceptRanges), ("encaustic/pattern.kinds", Rows.laid_encaustic_pattern_kinds), ("unicode/utf8.first", Rows.laid_unicode_utf8_first)]
theorem gKinds : Tryz.prog.globalNamed "encaustic/pattern.kinds" = some 0 := by kernel_rfl
theorem tKinds : (Tryz.prog.globals[0]?).map (·.type) = some 98 := by kernel_rfl
theorem cellsOf71z : Tryz.prog.cellsOf 71 = 6 := by kernel_rfl
theorem cellsOf3z : Tryz.prog.cellsOf 3 = 1 := by kernel_rfl

theorem trod_struct6 {H : Type} {enc : TypeId × Value → H} {P : Program} {w : World} {base : Nat} {spare : Nat → Bool} {held : Bool} {t : TypeId} {f0 f1 f2 f3 f4 f5 : Field} {fuel : Nat} {cs : List Value} {x : DataW H × List MemPlace} (ht : P.underlying t = some (.struct #[f0, f1, f2, f3, f4, f5])) (h : DataW.trod enc P w base spare held fuel t cs = some x) :
    ∃ y0 y1 y2 y3 y4 y5 n, x.1 = .agg [y0.1, y1.1, y2.1, y3.1, y4.1, y5.1] ∧ cs.length = P.cellsOf t ∧ DataW.trod enc P w base spare held n f0.type ((cs.drop f0.offset).take (P.cellsOf f0.type)) = some y0 ∧
      DataW.trod enc P w base spare held n f1.type ((cs.drop f1.offset).take (P.cellsOf f1.type)) = some y1 ∧ DataW.trod enc P w base spare held n f2.type ((cs.drop f2.offset).take (P.cellsOf f2.type)) = some y2 ∧
      DataW.trod enc P w base spare held n f3.type ((cs.drop f3.offset).take (P.cellsOf f3.type)) = some y3 ∧ DataW.trod enc P w base spare held n f4.type ((cs.drop f4.offset).take (P.cellsOf f4.type)) = some y4 ∧
      DataW.trod enc P w base spare held n f5.type ((cs.drop f5.offset).take (P.cellsOf f5.type)) = some y5 := by
  obtain ⟨xs, n, _, rfl, hl, hlen, hf⟩ := DataW.trod_struct ht h
  match xs, hlen with
  | [y0, y1, y2, y3, y4, y5], _ => exact ⟨y0, y1, y2, y3, y4, y5, n, by simp, hl, by simpa using hf 0 f0 rfl, by simpa using hf 1 f1 rfl, by simpa using hf 2 f2 rfl, by simpa using hf 3 f3 rfl, by simpa using hf 4 f4 rfl, by simpa using hf 5 f5 rfl⟩

theorem kinds_data : (Rows.laid_encaustic_pattern_kinds : DataW Unit) = .agg ((List.range 8).map fun i => .agg [.lit (.int .i64 (mvK i 0 0).1), .lit (.int .i64 (mvK i 0 0).2.1), .lit (.int .i64 (mvK i 0 0).2.2.1), .lit (.int .i64 (mvK i 0 0).2.2.2.1), .lit (.int .i64 (mvK i 0 0).2.2.2.2.1), .lit (.int .i64 (mvK i 0 0).2.2.2.2.2)]) := rfl
theorem cut1 {cs : Array Value} {a b : Nat} {x : Value} (h : (((cs.toList.drop a).take 6).drop b).take 1 = [x]) (hb : b < 6) : cs[a + b]? = some x := by
  have : ((((cs.toList.drop a).take 6).drop b).take 1)[0]? = some x := by rw [h]; rfl
  rw [List.getElem?_take, if_pos (by omega), List.getElem?_drop, List.getElem?_take, if_pos (by omega), List.getElem?_drop] at this
  simpa using this

set_option maxRecDepth 100000 in
theorem wk_of_laid {W : World} (h : laidMetH Tryz.prog laid1 W) : Wk W := by
  rw [MakeChecks.laidMetH_plain _ _ _ (by kernel_rfl)] at h
  obtain ⟨ps, ⟨g0, t0, cs0, fuel0, p0, q0, hg0, ht0, hv0, hd0, ⟨g, t, cs, fuel, p, q, hg, ht, hv, hd, _, _⟩, _⟩, _, _⟩ := h
  obtain rfl := Option.some.inj (gKinds.symm.trans hg)
  obtain rfl := Option.some.inj (tKinds.symm.trans ht)
  obtain ⟨xs, m, _, ex, _, hl, hel⟩ := DataW.trod_array Tryz.underlying98 hd
  have e3 : xs.map (·.1) = _ := (DataW.agg.inj (Prod.mk.inj (ex.symm.trans (by rw [kinds_data]))).1)
  have each : ∀ i, i < 8 → ∀ j u, (mvC (mvK i 0 0))[j]? = some u → cs[i * 6 + j]? = some u := fun i hi => by
    have hE := hel i hi
    rw [cellsOf71z, List.getElem?_eq_getElem (by omega)] at hE
    obtain ⟨y0, y1, y2, y3, y4, y5, n', hx, hlen, t0, t1, t2, t3, t4, t5⟩ := trod_struct6 Tryz.underlying71 hE
    obtain ⟨A0, hA0, hB0, _⟩ := DataW.trod_int und3z t0
    obtain ⟨A1, hA1, hB1, _⟩ := DataW.trod_int und3z t1
    obtain ⟨A2, hA2, hB2, _⟩ := DataW.trod_int und3z t2
    obtain ⟨A3, hA3, hB3, _⟩ := DataW.trod_int und3z t3
    obtain ⟨A4, hA4, hB4, _⟩ := DataW.trod_int und3z t4
    obtain ⟨A5, hA5, hB5, _⟩ := DataW.trod_int und3z t5
    have e4 := congrArg (fun L : List (DataW Unit) => L[i]?) e3
    rw [List.getElem?_map, List.getElem?_map, List.getElem?_eq_getElem (by omega : i < xs.length), List.getElem?_range hi] at e4
    simp only [Option.map_some, Option.some.injEq] at e4
    rw [hx] at e4
    obtain ⟨z0, w0⟩ := y0
    obtain ⟨z1, w1⟩ := y1
    obtain ⟨z2, w2⟩ := y2
    obtain ⟨z3, w3⟩ := y3
    obtain ⟨z4, w4⟩ := y4
    obtain ⟨z5, w5⟩ := y5
    simp only [Prod.mk.injEq] at hB0 hB1 hB2 hB3 hB4 hB5
    obtain ⟨rfl, _⟩ := hB0
    obtain ⟨rfl, _⟩ := hB1
    obtain ⟨rfl, _⟩ := hB2
    obtain ⟨rfl, _⟩ := hB3
    obtain ⟨rfl, _⟩ := hB4
    obtain ⟨rfl, _⟩ := hB5
    simp only [DataW.agg.injEq, List.cons.injEq, DataW.lit.injEq, Lit.int.injEq, true_and, and_true] at e4
    obtain ⟨r0, r1, r2, r3, r4, r5⟩ := e4
    rw [cellsOf3z] at hA0 hA1 hA2 hA3 hA4 hA5
    intro j u hu
    match j, hu with
    | 0, hu => cases hu; rw [← r0]; exact cut1 hA0 (by omega)
    | 1, hu => cases hu; rw [← r1]; exact cut1 hA1 (by omega)
    | 2, hu => cases hu; rw [← r2]; exact cut1 hA2 (by omega)
    | 3, hu => cases hu; rw [← r3]; exact cut1 hA3 (by omega)
    | 4, hu => cases hu; rw [← r4]; exact cut1 hA4 (by omega)
    | 5, hu => cases hu; rw [← r5]; exact cut1 hA5 (by omega)
  intro j u hu
  have hc := World.var?_cell hg hv j
  rw [Nat.zero_add, hc]
  have hj : j < 48 := by
    have := (List.getElem?_eq_some_iff.1 hu).1
    exact this
  have hi : j / 6 < 8 := by omega
  have e : j = j / 6 * 6 + j % 6 := by omega
  have hs : (mvC (mvK (j / 6) 0 0))[j % 6]? = some u := by
    rw [← kinds_sub hi, List.getElem?_take, if_pos (by omega), List.getElem?_drop, ← e]
    exact hu
  have := each _ hi _ _ hs
  rwa [← e] at this

section
variable {H : Type} {enc : TypeId × Value → H}

theorem below_trodAll {P : Program} (hl : laidOutB P = true) {W W' : World} (hb : Below W.heap.size W W') (ts : List TypeId) : ∀ {vs : List Value} {ds : List (DataW H)} {p : List MemPlace},
    (ts.all fun t => P.readableRec t && Nat.blt t P.types.size) = true → DataW.TrodAll enc P W 0 (fun _ => true) true ts vs ds p → (∀ x ∈ p, x.block < W.heap.size) →
      DataW.TrodAll enc P W' 0 (fun b => decide (b < W.heap.size)) true ts vs ds p := by
  induction ts with
  | nil =>
    intro vs ds p _ h _
    obtain ⟨rfl, rfl, rfl⟩ := trodAll_nil h
    exact trodAll_mk0
  | cons t ts ih =>
    intro vs ds p hr h hlt
    obtain ⟨v, vs', d, ds', p0, q0, rfl, rfl, rfl, h0, r0⟩ := trodAll_cons h
    simp only [List.all_cons, Bool.and_eq_true, Nat.blt_eq] at hr
    exact trodAll_cons_mk (Below.trod hl hr.1.1 hr.1.2 h0 hb fun x hx => hlt x (by simp [hx])) (ih (by simpa using hr.2) r0 fun x hx => hlt x (by simp [hx]))

theorem trodAll_length {P : Program} {W : World} {base : Nat} {sp : Nat → Bool} {hd : Bool} (ts : List TypeId) : ∀ {vs : List Value} {ds : List (DataW H)} {p : List MemPlace}, DataW.TrodAll enc P W base sp hd ts vs ds p → vs.length = ts.length ∧ ds.length = ts.length := by
  induction ts with
  | nil =>
    intro vs ds p h
    obtain ⟨rfl, rfl, rfl⟩ := trodAll_nil h
    exact ⟨rfl, rfl⟩
  | cons t ts ih =>
    intro vs ds p h
    obtain ⟨v, vs', d, ds', p0, q0, rfl, rfl, rfl, h0, r0⟩ := trodAll_cons h
    have := ih r0
    simp only [List.length_cons]
    omega

set_option maxRecDepth 100000 in
theorem law_lifted {s : ChangeSpec} {conds : List PathCond} {f : FuncId} {fn : Func} {os : Os} (started : os.Started) (hvars : s.vars = []) (noInit : Tryz.prog.inits.idxOf? f = none) (hfn : Tryz.prog.funcs[f]? = some fn)
    (hres : fn.resultTypes = #[4]) (hread : (fn.params.toList.all fun t => Tryz.prog.readableRec t && Nat.blt t Tryz.prog.types.size) = true)
    (hspec : ∀ ds : List (DataW H), ds.length = fn.params.toList.length → (s.fn H ds).results = [.lit (.bool true)] ∧ (s.fn H ds).args = ds ∧ (s.fn H ds).vars = [])
    (wit : ∃ (w : World) (tape : Tape) (i : Input), w.os = os ∧ (w.forCall tape i).Shaped Tryz.prog ∧ i.vars = [] ∧ Input.okWide Tryz.prog (w.forCall tape i) .any w.heap.size f i ∧
      ((s.pre enc Tryz.prog fn conds false (w.forCall tape i).memory i.args ∧ laidMetH Tryz.prog laid1 (w.forCall tape i).memory) ∧ sizedMet enc Tryz.prog fn (OpenSpec.ofChange s) false (w.forCall tape i).memory i.args) ∧ ({} : Assume).holds Tryz.prog (lone (Frame.enter Tryz.prog f i.args .normal) [] (w.forCall tape i)))
    (walk : ∀ (W : World) (base : Nat) (args : Array Value) (ds : List (DataW H)) (p : List MemPlace), Wk W → (∀ (j : Nat) t v, fn.params[j]? = some t → args[j]? = some v → Value.okWide Tryz.prog W .any base t v) →
      DataW.TrodAll enc Tryz.prog W 0 (fun _ => true) true fn.params.toList args.toList ds p → Calls Tryz.prog f args W fun e W' => e = .returned (.bool true) ∧ Kp W W') :
    ReturnsInHanded {} Tryz.checked os f .any (fun w args => (s.pre enc Tryz.prog fn conds false w args ∧ laidMetH Tryz.prog laid1 w) ∧ sizedMet enc Tryz.prog fn (OpenSpec.ofChange s) false w args) (s.post enc Tryz.prog fn false true false false) := by
  refine returnsInHanded_of_change_and (C := Tryz.checked) (X := fun w _ => laidMetH Tryz.prog laid1 w) (fun _ _ _ hh h => h.of_heap hh) own started noInit hfn wit ?_
  intro W base args ds gs before hval hW hcnd _ hL _
  have hW' := hW
  obtain ⟨p, q, hA, hV, rfl, _, _⟩ := hW
  rw [hvars] at hV
  obtain ⟨rfl, rfl⟩ := trodVars_none hV
  have hlt : ∀ x ∈ p, x.block < W.heap.size := fun x hx => hW'.lt x (by simp [hx])
  have hlen := (trodAll_length _ hA).2
  obtain ⟨g1, g2, g3⟩ := hspec ds hlen
  refine (walk W base args ds p (wk_of_laid hL) hval hA).mono fun e W' ⟨he, hk⟩ => ?_
  subst he
  refine ⟨_, rfl, ds, [], p ++ [], [], p, [], hW', ?_, ?_, ?_, hk.frame _, fun h => by cases h⟩
  · rw [List.append_nil, g1, hres]
    exact trodAll_mk1 (shut_bool und4 _)
  · rw [List.append_nil, g2]
    exact below_trodAll laid0 hk _ hread hA hlt
  · rw [List.append_nil, g3, hvars]
    rfl

end

theorem wf_u8 {n : Int} (h : (Lit.int .u8 n).wf = true) : ∃ k : Nat, n = k ∧ k ≤ 255 := by
  have e1 : IntKind.u8.min = 0 := by decide
  have e2 : IntKind.u8.max = 255 := by decide
  simp [Lit.wf, e1, e2] at h
  exact ⟨n.toNat, by omega, by omega⟩
theorem wf_u32 {n : Int} (h : (Lit.int .u32 n).wf = true) : ∃ k : Nat, n = k ∧ k ≤ 4294967295 := by
  have e1 : IntKind.u32.min = 0 := by decide
  have e2 : IntKind.u32.max = 4294967295 := by decide
  simp [Lit.wf, e1, e2] at h
  exact ⟨n.toNat, by omega, by omega⟩
theorem wf_i64 {n : Int} (h : (Lit.int .i64 n).wf = true) : -9223372036854775808 ≤ n ∧ n ≤ 9223372036854775807 := by
  have e1 : IntKind.i64.min = -9223372036854775808 := by decide
  have e2 : IntKind.i64.max = 9223372036854775807 := by decide
  simpa [Lit.wf, e1, e2] using h

theorem und3 : Tryz.prog.underlying 3 = some (.int .i64) := by kernel_rfl

theorem und22 : Tryz.prog.underlying 22 = some (.slice 25) := by kernel_rfl
theorem cellsOf25 : Tryz.prog.cellsOf 25 = 4 := by kernel_rfl
section
variable {H : Type} {enc : TypeId × Value → H}
set_option maxRecDepth 100000 in
theorem open_set {W : World} {base : Nat} {v : Value} {d : DataW H} {p : List MemPlace} (hv : Value.okWide Tryz.prog W .any base 22 v) (h : DataW.Trod enc Tryz.prog W 0 (fun _ => true) true 22 v d p) : ∃ l, RdT W v l := by
  obtain ⟨a0, n0, c0, rfl⟩ := okWide_slice und22 hv
  obtain ⟨fuel, hf⟩ := h
  rcases open_slice und22 hf with ⟨hcs, _⟩ | ⟨a, len, cap, m, n, D, Pl, hcs, _, hl, _, hm, _, hx⟩
  · simp [Value.cells] at hcs
    obtain ⟨rfl, rfl, rfl⟩ := hcs
    exact ⟨[], Rd.nil⟩
  · simp [Value.cells] at hcs
    obtain ⟨rfl, rfl, rfl⟩ := hcs
    simp only [if_true] at hm
    have hm' := hm.symm
    subst hm'
    rw [cellsOf25] at hx
    have each : ∀ i, i < n0 → ∃ t : Tile, ∀ j u, (tlC t)[j]? = some u → W.cell? (a.add (i * 4 + j)) = some u := fun i hi => by
      obtain ⟨cs', h1, h2⟩ := hx i (by omega)
      obtain ⟨_, hlen, hcell⟩ := World.cells?_some h1
      obtain ⟨y0, y1, y2, y3, n', _, _, t0, t1, t2, t3⟩ := Go.Joins.trod_struct4 Tryz.underlying25 h2
      obtain ⟨A, hA, _⟩ := DataW.trod_int und3 t0
      obtain ⟨B, hB, _⟩ := DataW.trod_int und3 t1
      obtain ⟨C, hC, _⟩ := DataW.trod_int und3 t2
      obtain ⟨E, hE, _⟩ := DataW.trod_int und3 t3
      simp only [cellsOf3z] at hA hB hC hE
      match cs', hlen with
      | [x, y, z, u], _ =>
        simp at hA hB hC hE
        subst hA; subst hB; subst hC; subst hE
        refine ⟨(A, B, C, E), fun j u hj => ?_⟩
        have hj4 : j < 4 := by
          have := (List.getElem?_eq_some_iff.1 hj).1
          simpa [tlC] using this
        have hc := hcell j hj4
        rw [add_add] at hc
        rw [hc]
        match j, hj4 with
        | 0, _ => exact hj
        | 1, _ => exact hj
        | 2, _ => exact hj
        | 3, _ => exact hj
    obtain ⟨T, hT⟩ := choose_lt each
    refine ⟨(List.range n0).map T, some a, c0, by simp, by simpa using hl, fun h0 => ?_⟩
    simp only [List.length_map, List.length_range] at h0
    obtain ⟨b, off, spot⟩ := a
    have hspot : spot = none := by simpa [Addr.add] using World.cell?_spot (hT 0 h0 0 _ rfl)
    subst hspot
    refine ⟨b, off, rfl, fun i x hi j u hu => ?_⟩
    rw [List.getElem?_map] at hi
    cases hr : (List.range n0)[i]? with
    | none => rw [hr] at hi; cases hi
    | some k =>
      rw [hr] at hi
      cases hi
      have hk : i < n0 ∧ k = i := by
        have h1 := (List.getElem?_eq_some_iff.1 hr).1
        have h2 := (List.getElem?_eq_some_iff.1 hr).2
        simp at h1 h2
        exact ⟨h1, h2.symm⟩
      obtain ⟨hk1, rfl⟩ := hk
      have := hT k hk1 j u hu
      rw [r_addr] at this
      rw [← Nat.add_assoc] at this
      exact this

end

end Go.Proofs.YtfmppkplmfbjpaaGreatDoor
