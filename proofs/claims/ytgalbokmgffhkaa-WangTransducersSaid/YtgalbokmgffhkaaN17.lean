/- Texts of my own, merged by program: B9 Said Opens. -/
import Derived.Test.YtgalbokmgffhkaaN11
import Derived.Test.YtgalbokmgffhkaaN03
import Derived.ProofKit
import Derived.OpenShut
import Derived.Test.YtgalbokmgffhkaaN05
import Derived.Deep.Matrix
import Derived.Deep.Strs
import Derived.Deep.Slices
import Derived.Lib.SmallJoins
set_option linter.all false
/- Contract: alive of the statements: what every right program knows of two small sets. -/
namespace Go.Proofs.Ytgalbokmgffhkaa
open Go.Lf Go.RowKit Go.Wg

theorem rec_alloc {α : Type} {e : TypeId} {m : Nat} {enc : α → List Value} (he : ∀ x, (enc x).length = m) (P : List α) (hP : P.length ≤ 1000000) (w : World) : RecAt e m enc w.heap.size (w.alloc (.cells (recCells enc P).toArray e)) (.slice (some ⟨w.heap.size, 0, none⟩) P.length P.length) P := by
  have hl := recCells_length he P
  refine ⟨hl, .inr ⟨w.heap.size, P.length, _, rfl, Nat.le_refl _, heap_alloc_new w _, Nat.le_refl _, by unfold maxLen; omega, by simpa using hl, ?_⟩⟩
  rw [← hl]
  simp

theorem IRows.rd {base : Nat} {w : World} {v : Value} {R : List (List Int)} (h : IRows base w v R) (hR : R.length ≤ 1000000) (hr : ∀ r ∈ R, r.length ≤ 1000000) : RdRows w v R := by
  obtain ⟨vs, h1, h2, h3⟩ := h
  obtain ⟨a, cap, rfl, _⟩ := h1.len
  have hrow : ∀ i, i < R.length → ∃ u, vs[i]? = some u ∧ RdInts w u (R.getD i []) := fun i hi => by
    have e1 : vs[i]? = some (vs[i]'(by omega)) := List.getElem?_eq_getElem (by omega)
    have e2 : R[i]? = some (R.getD i []) := by rw [List.getElem?_eq_getElem hi, getD_lt _ _ _ hi]
    exact ⟨_, e1, ((h3 i _ _ e1 e2).rd iC_len).ints (hr _ (getD_mem hi))⟩
  refine ⟨a, cap, fun i => vs.getD i undef, by rw [h2], by omega, fun h0 => ?_, fun i hi => ?_⟩
  · obtain ⟨b, off, _, e, _, _⟩ := (h1.rd vE_len).at (i := 0) (x := vs[0]'(by omega)) (List.getElem?_eq_getElem (by omega))
    cases e
    refine ⟨b, off, rfl, fun i hi => ?_⟩
    obtain ⟨b', off', _, e', _, hc⟩ := (h1.rd vE_len).at (i := i) (x := vs[i]'(by omega)) (List.getElem?_eq_getElem (by omega))
    cases e'
    have := hc 0 _ rfl
    simp only [Nat.mul_one, Nat.add_zero] at this
    dsimp only
    rw [this, getD_lt _ _ _ (by omega)]
  · obtain ⟨u, q1, q2⟩ := hrow i hi
    have : vs.getD i undef = u := by rw [List.getD_eq_getElem?_getD, q1]; rfl
    dsimp only
    rw [this]
    exact q2

def l2 : List Tile := [(0, 0, 0, 0), (1, 0, 1, 0)]
def l1 : List Tile := [(0, 0, 1, 0)]
theorem lines1 : linesL l1 1 = [([0, 0, 0, 0], 0, 1, true)] := by decide
theorem ord1 : ordErr l1 1 2 = 0 := by decide
set_option maxRecDepth 100000 in
theorem count2 : countV l2 2 3 = .tuple #[.int .i64 4, .int .i64 0] := by kernel_rfl
set_option maxRecDepth 100000 in
theorem dead1 : (alvL (linesL l1 (1 : Int).toNat) (8 ^ (1 : Int).toNat) (2 : Int).toNat).any id = false := by kernel_rfl
theorem ok1 : okP 1 2 [[1, 1]] := fun i hi => by
  have : i = 0 := by simp at hi; omega
  subst this
  exact ⟨by decide, by decide⟩
theorem fin1 : finP (linesL l1 1) (deadL [[1, 1]]) := by
  have hd : ∀ c, deadL [[1, 1]] c = if c = 1 then 1 else 0 := fun c => by
    simp [deadL, deadF, code, upd]
  refine ⟨fun x hx => ?_, fun c hc x hx hxc => ?_⟩
  · rw [lines1] at hx
    simp at hx
    subst hx
    rw [hd]; decide
  · rw [lines1] at hx
    simp at hx
    subst hx
    simp at hxc
    subst hxc
    rw [hd] at hc
    exact absurd rfl hc

theorem bd32a (K : Value → Prop) : bdQ Try.prog 32 [] K = K (tlV (0, 0, 0, 0)) := by kernel_rfl
theorem bd32b (K : Value → Prop) : bdQ Try.prog 32 [(0, (.int .i64 1)), (2, (.int .i64 1))] K = K (tlV (1, 0, 1, 0)) := by kernel_rfl
theorem bd32c (K : Value → Prop) : bdQ Try.prog 32 [(2, (.int .i64 1))] K = K (tlV (0, 0, 1, 0)) := by kernel_rfl
theorem bs22b (w : World) (K : Value → World → Prop) : bsW Try.prog 22 2 [(0, tlV (0, 0, 0, 0)), (1, tlV (1, 0, 1, 0))] w K = K (.slice (some ⟨w.heap.size, 0, none⟩) 2 2) (w.alloc (.cells (recCells tlC l2).toArray 32)) := by kernel_rfl
theorem bs22a (w : World) (K : Value → World → Prop) : bsW Try.prog 22 1 [(0, tlV (0, 0, 1, 0))] w K = K (.slice (some ⟨w.heap.size, 0, none⟩) 1 1) (w.alloc (.cells (recCells tlC l1).toArray 32)) := by kernel_rfl
theorem bs30b (w : World) (K : Value → World → Prop) : bsW Try.prog 30 2 [(0, .int .i64 1), (1, .int .i64 1)] w K = K (.slice (some ⟨w.heap.size, 0, none⟩) 2 2) (w.alloc (.cells (recCells iC [1, 1]).toArray 3)) := by kernel_rfl

set_option maxRecDepth 100000 in
theorem law_alive (w : World) : Calls Try.prog 18 #[] w fun e w' => e = .returned (.bool true) ∧ Kp w w' := by
  refine lift18 ?_
  unfold S18
  rw [bd32a, bd32b, bs22b]
  have o1 := rec_alloc (e := 32) tlC_len l2 (by decide) w
  have k1 : Kp w (w.alloc (.cells (recCells tlC l2).toArray 32)) := below_alloc _
  generalize w.alloc (.cells (recCells tlC l2).toArray 32) = w1 at *
  refine r_use fok25 (count_calls 2 3 w1 (o1.rd tlC_len)) rfl ?_
  rintro _ w2 ⟨rfl, k2⟩
  refine ⟨_, rfl, ?_⟩
  rw [count2]
  simp only [r_ex2a, r_ex2b]
  rw [bd32c, bs22a]
  have o3 := rec_alloc (e := 32) tlC_len l1 (by decide) w2
  have k3 : Kp w2 (w2.alloc (.cells (recCells tlC l1).toArray 32)) := below_alloc _
  generalize hs2 : w2.heap.size = sz2 at *
  generalize w2.alloc (.cells (recCells tlC l1).toArray 32) = w3 at *
  rw [bs30b]
  have o4 := rec_alloc (e := 3) iC_len [1, 1] (by decide) w3
  have k4 : Kp w3 (w3.alloc (.cells (recCells iC [1, 1]).toArray 3)) := below_alloc _
  generalize hs3 : w3.heap.size = sz3 at *
  generalize w3.alloc (.cells (recCells iC [1, 1]).toArray 3) = w4 at *
  rw [bs23]
  have o5 := rec_one (e := 30) (enc := vE) (x := .slice (some ⟨sz3, 0, none⟩) 2 2) rfl w4
  have k5 : Kp w4 (w4.alloc (.cells #[.slice (some ⟨sz3, 0, none⟩) 2 2] 30)) := below_alloc _
  have s4 := k4.size
  generalize hs4 : w4.heap.size = sz4 at *
  generalize w4.alloc (.cells #[.slice (some ⟨sz3, 0, none⟩) 2 2] 30) = w5 at *
  have hIR : IRows sz3 w5 (.slice (some ⟨sz4, 0, none⟩) 1 1) [[1, 1]] := by
    refine ⟨[.slice (some ⟨sz3, 0, none⟩) 2 2], o5.down (by omega), rfl, fun i u r hu hr => ?_⟩
    match i with
    | 0 =>
      cases hu
      cases hr
      exact o4.kp k5
    | i + 1 => simp at hu
  have hset : RdT w5 (.slice (some ⟨sz2, 0, none⟩) 1 1) l1 := (o3.rd tlC_len).kp (Kp.trans k4 k5)
  refine r_use fok19 (refutes_calls 1 2 w5 hset (hIR.rd (by decide) (by simp))) rfl ?_
  rintro _ w6 ⟨k6, hpost⟩
  have hv : ∀ e, RefPost l1 1 2 [[1, 1]] e → e = .returned (.tuple #[.bool true, .int .i64 0]) := fun e he => by
    rcases he with ⟨h, _⟩ | ⟨_, h, _⟩ | ⟨_, _, r, rfl, hr⟩
    · exact absurd ord1 h
    · simp at h
    · have : r = true := hr.2 ⟨ok1, fin1⟩
      rw [this]
  have hv' := hv _ hpost
  subst hv'
  refine ⟨_, rfl, ?_⟩
  simp only [r_ex2a, r_ex2b]
  refine r_use fok32 (refute_calls 1 2 w6 (hset.kp k6)) rfl ?_
  rintro _ w7 ⟨k7, hpost⟩
  rcases hpost with ⟨h, _⟩ | ⟨_, h, _⟩ | ⟨_, _, ov, out, rfl, hI, kO, new, _, hperm, _, _, hnew, _⟩
  · exact absurd ord1 h
  · rw [dead1] at h; cases h
  refine ⟨_, rfl, ?_⟩
  have hlen : 1 ≤ out.length := by
    rw [hperm.length_eq, List.length_map]
    refine List.length_pos_of_mem (hnew ([0, 0, 0, 0], 0, 1, true) ?_)
    rw [show (1 : Int).toNat = 1 from rfl, lines1]
    simp
  obtain ⟨vs, p1, p2, _⟩ := hI
  obtain ⟨va, vcap, rfl, _⟩ := p1.len
  have hlen' : (1 : Int) ≤ (vs.length : Int) := by omega
  simp (disch := omega) only [r_ln, r_pick, r_pickT, r_pickF, r_condT, r_condF, r_gdTT, r_gdFF, r_gdTF, r_gdFT, r_gqTT, r_gqFF, r_gqTF, r_gqFT, r_not, r_lss, r_leq, r_gtr, r_geq, r_eql, r_neq, r_add, r_sub, r_min2, r_max2, r_min3, r_max3, r_fa, r_iaS, r_iaA, r_ex2a, r_ex2b, r_ex3a, r_ex3b, r_ex3c, r_nc, r_keepE, Nat.zero_add, Nat.add_zero, Nat.mul_one, Int.toNat_natCast, toNat_sub1, toNat_add1, decide_true, decide_false, Bool.not_true, Bool.not_false, if_true, if_false, Bool.false_eq_true, reduceCtorEq, decide_eq_true (rfl : (0 : Int) = 0), decide_eq_true (rfl : (4 : Int) = 4), decide_eq_true hlen']
  exact ⟨by first | rfl | trivial, Kp.trans (Kp.trans k1 k2) (Kp.trans (Kp.trans k3 k4) (Kp.trans k5 (Kp.trans k6 k7)))⟩

end Go.Proofs.Ytgalbokmgffhkaa

/- From a contract that a law returns true to the given statement. -/
namespace Go.Proofs.Ytgalbokmgffhkaa
open Go.ChangeShapes Go.WideShapes Go.ChangeAt Go.RowKit Go.Lf

theorem own : ownKnob Try.prog.godebug = none := by kernel_rfl
theorem laid : laidOutB Try.prog = true := by kernel_rfl
theorem und4 : Try.prog.underlying 4 = some .bool := by kernel_rfl

section
variable {H : Type} {enc : TypeId × Value → H}

theorem below_trodAll {P : Program} (hl : laidOutB P = true) {W W' : World} (hb : Below W.heap.size W W') (ts : List TypeId) : ∀ {vs : List Value} {ds : List (DataW H)} {p : List MemPlace},
    (ts.all fun t => P.readableRec t && Nat.blt t P.types.size) = true → DataW.TrodAll enc P W 0 (fun _ => true) true ts vs ds p → (∀ x ∈ p, x.block < W.heap.size) →
      DataW.TrodAll enc P W' 0 (fun b => decide (b < W.heap.size)) true ts vs ds p := by
  induction ts with
  | nil =>
    intro vs ds p _ h _
    obtain ⟨rfl, rfl, rfl⟩ := trodAll_nil h
    exact trodAll_mk0
  | cons t ts ih =>
    intro vs ds p hr h hlt
    obtain ⟨v, vs', d, ds', p0, q0, rfl, rfl, rfl, h0, r0⟩ := trodAll_cons h
    simp only [List.all_cons, Bool.and_eq_true, Nat.blt_eq] at hr
    exact trodAll_cons_mk (Below.trod hl hr.1.1 hr.1.2 h0 hb fun x hx => hlt x (by simp [hx])) (ih (by simpa using hr.2) r0 fun x hx => hlt x (by simp [hx]))

theorem trodAll_length {P : Program} {W : World} {base : Nat} {sp : Nat → Bool} {hd : Bool} (ts : List TypeId) : ∀ {vs : List Value} {ds : List (DataW H)} {p : List MemPlace}, DataW.TrodAll enc P W base sp hd ts vs ds p → vs.length = ts.length ∧ ds.length = ts.length := by
  induction ts with
  | nil =>
    intro vs ds p h
    obtain ⟨rfl, rfl, rfl⟩ := trodAll_nil h
    exact ⟨rfl, rfl⟩
  | cons t ts ih =>
    intro vs ds p h
    obtain ⟨v, vs', d, ds', p0, q0, rfl, rfl, rfl, h0, r0⟩ := trodAll_cons h
    have := ih r0
    simp only [List.length_cons]
    omega

set_option maxRecDepth 100000 in
theorem law_lifted {s : ChangeSpec} {conds : List PathCond} {f : FuncId} {fn : Func} {os : Os} (started : os.Started) (hvars : s.vars = []) (noInit : Try.prog.inits.idxOf? f = none) (hfn : Try.prog.funcs[f]? = some fn)
    (hres : fn.resultTypes = #[4]) (hread : (fn.params.toList.all fun t => Try.prog.readableRec t && Nat.blt t Try.prog.types.size) = true)
    (hspec : ∀ ds : List (DataW H), ds.length = fn.params.toList.length → (s.fn H ds).results = [.lit (.bool true)] ∧ (s.fn H ds).args = ds ∧ (s.fn H ds).vars = [])
    (wit : ∃ (w : World) (tape : Tape) (i : Input), w.os = os ∧ (w.forCall tape i).Shaped Try.prog ∧ i.vars = [] ∧ Input.okWide Try.prog (w.forCall tape i) .any w.heap.size f i ∧
      s.pre6 enc Try.prog fn conds false (w.forCall tape i).memory i.args ∧ ({} : Assume).holds Try.prog (lone (Frame.enter Try.prog f i.args .normal) [] (w.forCall tape i)))
    (walk : ∀ (W : World) (base : Nat) (args : Array Value) (ds : List (DataW H)) (p : List MemPlace), (∀ (j : Nat) t v, fn.params[j]? = some t → args[j]? = some v → Value.okWide Try.prog W .any base t v) →
      DataW.TrodAll enc Try.prog W 0 (fun _ => true) true fn.params.toList args.toList ds p → Calls Try.prog f args W fun e W' => e = .returned (.bool true) ∧ Kp W W') :
    ReturnsInHanded {} Try.checked os f .any (s.pre6 enc Try.prog fn conds false) (s.post enc Try.prog fn false true false false) := by
  refine returnsInHanded_of_change (C := Try.checked) own started noInit hfn wit ?_
  intro W base args ds gs before hval hW hcnd _
  have hW' := hW
  obtain ⟨p, q, hA, hV, rfl, _, _⟩ := hW
  rw [hvars] at hV
  obtain ⟨rfl, rfl⟩ := trodVars_none hV
  have hlt : ∀ x ∈ p, x.block < W.heap.size := fun x hx => hW'.lt x (by simp [hx])
  have hlen := (trodAll_length _ hA).2
  obtain ⟨g1, g2, g3⟩ := hspec ds hlen
  refine (walk W base args ds p hval hA).mono fun e W' ⟨he, hk⟩ => ?_
  subst he
  refine ⟨_, rfl, ds, [], p ++ [], [], p, [], hW', ?_, ?_, ?_, hk.frame _, fun h => by cases h⟩
  · rw [List.append_nil, g1, hres]
    exact trodAll_mk1 (shut_bool und4 _)
  · rw [List.append_nil, g2]
    exact below_trodAll laid hk _ hread hA hlt
  · rw [List.append_nil, g3, hvars]
    rfl

end

theorem wf_u8 {n : Int} (h : (Lit.int .u8 n).wf = true) : ∃ k : Nat, n = k ∧ k ≤ 255 := by
  have e1 : IntKind.u8.min = 0 := by decide
  have e2 : IntKind.u8.max = 255 := by decide
  simp [Lit.wf, e1, e2] at h
  exact ⟨n.toNat, by omega, by omega⟩
theorem wf_u32 {n : Int} (h : (Lit.int .u32 n).wf = true) : ∃ k : Nat, n = k ∧ k ≤ 4294967295 := by
  have e1 : IntKind.u32.min = 0 := by decide
  have e2 : IntKind.u32.max = 4294967295 := by decide
  simp [Lit.wf, e1, e2] at h
  exact ⟨n.toNat, by omega, by omega⟩
theorem wf_i64 {n : Int} (h : (Lit.int .i64 n).wf = true) : -9223372036854775808 ≤ n ∧ n ≤ 9223372036854775807 := by
  have e1 : IntKind.i64.min = -9223372036854775808 := by decide
  have e2 : IntKind.i64.max = 9223372036854775807 := by decide
  simpa [Lit.wf, e1, e2] using h

theorem und3 : Try.prog.underlying 3 = some (.int .i64) := by kernel_rfl
theorem und5 : Try.prog.underlying 5 = some (.int .u8) := by kernel_rfl

end Go.Proofs.Ytgalbokmgffhkaa

/- What arguments read as: sets of tiles, lists of lists of integers, lists of integers. -/
namespace Go.Proofs.Ytgalbokmgffhkaa
open Go.ChangeShapes Go.WideShapes Go.ChangeAt Go.RowKit Go.Lf Go.Deep Go.Wg

/-- The slice v reads as l, of whatever length. -/
def RdI (w : World) (v : Value) (l : List Int) : Prop :=
  ∃ a cap, v = .slice a l.length cap ∧ l.length ≤ cap ∧ (0 < l.length → ∃ b off, a = some ⟨b, off, none⟩ ∧ ∀ i, i < l.length → w.cell? ⟨b, off + i, none⟩ = some (.int .i64 (l.getD i 0)))
/-- The slice v reads as the lists h, of whatever length. -/
def RdR (w : World) (v : Value) (h : List (List Int)) : Prop :=
  ∃ a cap, ∃ vs : Nat → Value, v = .slice a h.length cap ∧ h.length ≤ cap ∧ (0 < h.length → ∃ b off, a = some ⟨b, off, none⟩ ∧ ∀ i, i < h.length → w.cell? ⟨b, off + i, none⟩ = some (vs i)) ∧ ∀ i, i < h.length → RdI w (vs i) (h.getD i [])

theorem RdI.small {w : World} {v : Value} {l : List Int} (h : RdI w v l) (hl : l.length ≤ 1000000) : RdInts w v l :=
  let ⟨a, cap, h1, h2, h3⟩ := h; ⟨a, cap, h1, ⟨by omega, h2⟩, h3⟩
theorem RdR.small {w : World} {v : Value} {h : List (List Int)} (hr : RdR w v h) (hl : h.length ≤ 1000000) (hr2 : ∀ i, i < h.length → (h.getD i []).length ≤ 1000000) : RdRows w v h :=
  let ⟨a, cap, vs, h1, h2, h3, h4⟩ := hr; ⟨a, cap, vs, h1, by omega, h3, fun i hi => (h4 i hi).small (hr2 i hi)⟩

section
variable {H : Type} {enc : TypeId × Value → H}

theorem und22 : Try.prog.underlying 22 = some (.slice 32) := by kernel_rfl
theorem und23 : Try.prog.underlying 23 = some (.slice 30) := by kernel_rfl
theorem und30 : Try.prog.underlying 30 = some (.slice 3) := by kernel_rfl
theorem cellsOf30 : Try.prog.cellsOf 30 = 1 := by kernel_rfl
theorem cellsOf3 : Try.prog.cellsOf 3 = 1 := by kernel_rfl
theorem cellsOf32 : Try.prog.cellsOf 32 = 4 := by kernel_rfl

set_option maxRecDepth 100000 in
theorem open_rows {W : World} {base : Nat} {v : Value} {d : DataW H} {p : List MemPlace} (hv : Value.okWide Try.prog W .any base 23 v) (h : DataW.Trod enc Try.prog W 0 (fun _ => true) true 23 v d p) : ∃ l, RdR W v l := by
  obtain ⟨a0, n0, c0, rfl⟩ := okWide_slice und23 hv
  obtain ⟨fuel, hf⟩ := h
  rcases open_int_rows und23 und30 und3 cellsOf30 cellsOf3 hf with ⟨hcs, _⟩ | ⟨a, len, cap, A, L, C, Z, hcs, _, hl, _, _, hx⟩
  · simp [Value.cells] at hcs
    obtain ⟨rfl, rfl, rfl⟩ := hcs
    exact ⟨[], none, 0, fun _ => undef, rfl, Nat.le_refl _, fun h => absurd h (by simp), fun i hi => absurd hi (by simp)⟩
  · simp [Value.cells] at hcs
    obtain ⟨rfl, rfl, rfl⟩ := hcs
    refine ⟨(List.range n0).map fun r => (Z r).take (L r), some a, c0, fun r => .slice (A r) (L r) (C r), by simp, by simpa using hl, fun h0 => ?_, fun i hi => ?_⟩
    · simp only [List.length_map, List.length_range] at h0 ⊢
      obtain ⟨b, off, spot⟩ := a
      have hspot : spot = none := by simpa [Addr.add] using World.cell?_spot (hx 0 (by omega)).1
      subst hspot
      refine ⟨b, off, rfl, fun i hi => ?_⟩
      have := (hx i (by omega)).1
      rwa [r_addr] at this
    · simp only [List.length_map, List.length_range] at hi
      obtain ⟨_, g1, _, g3, _, _, g6⟩ := hx i (by omega)
      have e : ((List.range n0).map fun r => (Z r).take (L r)).getD i [] = (Z i).take (L i) := by simp [List.getD_eq_getElem?_getD, hi]
      rw [e]
      have el : ((Z i).take (L i)).length = L i := by rw [List.length_take]; omega
      refine ⟨A i, C i, by rw [el], by rw [el]; exact g1, fun h0 => ?_⟩
      rw [el] at h0 ⊢
      cases hA : A i with
      | none =>
        have := (hx i (by omega)).2.2.2.2.2.1 hA
        omega
      | some a' =>
        obtain ⟨_, hcell⟩ := g6 a' hA
        obtain ⟨b, off, spot⟩ := a'
        have hspot : spot = none := by simpa [Addr.add] using World.cell?_spot (hcell 0 (by omega))
        subst hspot
        refine ⟨b, off, rfl, fun j hj => ?_⟩
        have := hcell j (by omega)
        rw [r_addr] at this
        rw [this]
        simp [List.getD_eq_getElem?_getD, List.getElem?_take, hj]

set_option maxRecDepth 100000 in
theorem open_set {W : World} {base : Nat} {v : Value} {d : DataW H} {p : List MemPlace} (hv : Value.okWide Try.prog W .any base 22 v) (h : DataW.Trod enc Try.prog W 0 (fun _ => true) true 22 v d p) : ∃ l, RdT W v l := by
  obtain ⟨a0, n0, c0, rfl⟩ := okWide_slice und22 hv
  obtain ⟨fuel, hf⟩ := h
  rcases open_slice und22 hf with ⟨hcs, _⟩ | ⟨a, len, cap, m, n, D, Pl, hcs, _, hl, _, hm, _, hx⟩
  · simp [Value.cells] at hcs
    obtain ⟨rfl, rfl, rfl⟩ := hcs
    exact ⟨[], Rd.nil⟩
  · simp [Value.cells] at hcs
    obtain ⟨rfl, rfl, rfl⟩ := hcs
    simp only [if_true] at hm
    have hm' := hm.symm
    subst hm'
    rw [cellsOf32] at hx
    have each : ∀ i, i < n0 → ∃ t : Tile, ∀ j u, (tlC t)[j]? = some u → W.cell? (a.add (i * 4 + j)) = some u := fun i hi => by
      obtain ⟨cs', h1, h2⟩ := hx i (by omega)
      obtain ⟨_, hlen, hcell⟩ := World.cells?_some h1
      obtain ⟨y0, y1, y2, y3, n', _, _, t0, t1, t2, t3⟩ := Go.Joins.trod_struct4 Try.underlying32 h2
      obtain ⟨A, hA, _⟩ := DataW.trod_int und3 t0
      obtain ⟨B, hB, _⟩ := DataW.trod_int und3 t1
      obtain ⟨C, hC, _⟩ := DataW.trod_int und3 t2
      obtain ⟨E, hE, _⟩ := DataW.trod_int und3 t3
      simp only [cellsOf3] at hA hB hC hE
      match cs', hlen with
      | [x, y, z, u], _ =>
        simp at hA hB hC hE
        subst hA; subst hB; subst hC; subst hE
        refine ⟨(A, B, C, E), fun j u hj => ?_⟩
        have hj4 : j < 4 := by
          have := (List.getElem?_eq_some_iff.1 hj).1
          simpa [tlC] using this
        have hc := hcell j hj4
        rw [add_add] at hc
        rw [hc]
        match j, hj4 with
        | 0, _ => exact hj
        | 1, _ => exact hj
        | 2, _ => exact hj
        | 3, _ => exact hj
    obtain ⟨T, hT⟩ := choose_lt each
    refine ⟨(List.range n0).map T, some a, c0, by simp, by simpa using hl, fun h0 => ?_⟩
    simp only [List.length_map, List.length_range] at h0
    obtain ⟨b, off, spot⟩ := a
    have hspot : spot = none := by simpa [Addr.add] using World.cell?_spot (hT 0 h0 0 _ rfl)
    subst hspot
    refine ⟨b, off, rfl, fun i x hi j u hu => ?_⟩
    rw [List.getElem?_map] at hi
    cases hr : (List.range n0)[i]? with
    | none => rw [hr] at hi; cases hi
    | some k =>
      rw [hr] at hi
      cases hi
      have hk : i < n0 ∧ k = i := by
        have h1 := (List.getElem?_eq_some_iff.1 hr).1
        have h2 := (List.getElem?_eq_some_iff.1 hr).2
        simp at h1 h2
        exact ⟨h1, h2.symm⟩
      obtain ⟨hk1, rfl⟩ := hk
      have := hT k hk1 j u hu
      rw [r_addr] at this
      rw [← Nat.add_assoc] at this
      exact this

end

end Go.Proofs.Ytgalbokmgffhkaa
