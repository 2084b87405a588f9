/- Texts of my own, merged by program: Said Opens C2. -/
import Derived.Test.YtgalbokmgffhkaaM03
import Derived.ProofKit
import Derived.OpenShut
import Derived.Test.YtgalbokmgffhkaaM05
import Derived.Deep.Matrix
import Derived.Deep.Strs
import Derived.Deep.Slices
import Derived.Lib.SmallJoins
import Derived.Test.YtgalbokmgffhkaaM15
set_option linter.all false
/- From a contract that a law returns true to the given statement. -/
namespace Go.Proofs.Ytgalbokmgffhkaa
open Go.ChangeShapes Go.WideShapes Go.ChangeAt Go.RowKit Go.Lf

theorem own : ownKnob Try.prog.godebug = none := by kernel_rfl
theorem laid : laidOutB Try.prog = true := by kernel_rfl
theorem und4 : Try.prog.underlying 4 = some .bool := by kernel_rfl

section
variable {H : Type} {enc : TypeId × Value → H}

theorem below_trodAll {P : Program} (hl : laidOutB P = true) {W W' : World} (hb : Below W.heap.size W W') (ts : List TypeId) : ∀ {vs : List Value} {ds : List (DataW H)} {p : List MemPlace},
    (ts.all fun t => P.readableRec t && Nat.blt t P.types.size) = true → DataW.TrodAll enc P W 0 (fun _ => true) true ts vs ds p → (∀ x ∈ p, x.block < W.heap.size) →
      DataW.TrodAll enc P W' 0 (fun b => decide (b < W.heap.size)) true ts vs ds p := by
  induction ts with
  | nil =>
    intro vs ds p _ h _
    obtain ⟨rfl, rfl, rfl⟩ := trodAll_nil h
    exact trodAll_mk0
  | cons t ts ih =>
    intro vs ds p hr h hlt
    obtain ⟨v, vs', d, ds', p0, q0, rfl, rfl, rfl, h0, r0⟩ := trodAll_cons h
    simp only [List.all_cons, Bool.and_eq_true, Nat.blt_eq] at hr
    exact trodAll_cons_mk (Below.trod hl hr.1.1 hr.1.2 h0 hb fun x hx => hlt x (by simp [hx])) (ih (by simpa using hr.2) r0 fun x hx => hlt x (by simp [hx]))

theorem trodAll_length {P : Program} {W : World} {base : Nat} {sp : Nat → Bool} {hd : Bool} (ts : List TypeId) : ∀ {vs : List Value} {ds : List (DataW H)} {p : List MemPlace}, DataW.TrodAll enc P W base sp hd ts vs ds p → vs.length = ts.length ∧ ds.length = ts.length := by
  induction ts with
  | nil =>
    intro vs ds p h
    obtain ⟨rfl, rfl, rfl⟩ := trodAll_nil h
    exact ⟨rfl, rfl⟩
  | cons t ts ih =>
    intro vs ds p h
    obtain ⟨v, vs', d, ds', p0, q0, rfl, rfl, rfl, h0, r0⟩ := trodAll_cons h
    have := ih r0
    simp only [List.length_cons]
    omega

set_option maxRecDepth 100000 in
theorem law_lifted {s : ChangeSpec} {conds : List PathCond} {f : FuncId} {fn : Func} {os : Os} (started : os.Started) (hvars : s.vars = []) (noInit : Try.prog.inits.idxOf? f = none) (hfn : Try.prog.funcs[f]? = some fn)
    (hres : fn.resultTypes = #[4]) (hread : (fn.params.toList.all fun t => Try.prog.readableRec t && Nat.blt t Try.prog.types.size) = true)
    (hspec : ∀ ds : List (DataW H), ds.length = fn.params.toList.length → (s.fn H ds).results = [.lit (.bool true)] ∧ (s.fn H ds).args = ds ∧ (s.fn H ds).vars = [])
    (wit : ∃ (w : World) (tape : Tape) (i : Input), w.os = os ∧ (w.forCall tape i).Shaped Try.prog ∧ i.vars = [] ∧ Input.okWide Try.prog (w.forCall tape i) .any w.heap.size f i ∧
      s.pre6 enc Try.prog fn conds false (w.forCall tape i).memory i.args ∧ ({} : Assume).holds Try.prog (lone (Frame.enter Try.prog f i.args .normal) [] (w.forCall tape i)))
    (walk : ∀ (W : World) (base : Nat) (args : Array Value) (ds : List (DataW H)) (p : List MemPlace), (∀ (j : Nat) t v, fn.params[j]? = some t → args[j]? = some v → Value.okWide Try.prog W .any base t v) →
      DataW.TrodAll enc Try.prog W 0 (fun _ => true) true fn.params.toList args.toList ds p → Calls Try.prog f args W fun e W' => e = .returned (.bool true) ∧ Kp W W') :
    ReturnsInHanded {} Try.checked os f .any (s.pre6 enc Try.prog fn conds false) (s.post enc Try.prog fn false true false false) := by
  refine returnsInHanded_of_change (C := Try.checked) own started noInit hfn wit ?_
  intro W base args ds gs before hval hW hcnd _
  have hW' := hW
  obtain ⟨p, q, hA, hV, rfl, _, _⟩ := hW
  rw [hvars] at hV
  obtain ⟨rfl, rfl⟩ := trodVars_none hV
  have hlt : ∀ x ∈ p, x.block < W.heap.size := fun x hx => hW'.lt x (by simp [hx])
  have hlen := (trodAll_length _ hA).2
  obtain ⟨g1, g2, g3⟩ := hspec ds hlen
  refine (walk W base args ds p hval hA).mono fun e W' ⟨he, hk⟩ => ?_
  subst he
  refine ⟨_, rfl, ds, [], p ++ [], [], p, [], hW', ?_, ?_, ?_, hk.frame _, fun h => by cases h⟩
  · rw [List.append_nil, g1, hres]
    exact trodAll_mk1 (shut_bool und4 _)
  · rw [List.append_nil, g2]
    exact below_trodAll laid hk _ hread hA hlt
  · rw [List.append_nil, g3, hvars]
    rfl

end

theorem wf_u8 {n : Int} (h : (Lit.int .u8 n).wf = true) : ∃ k : Nat, n = k ∧ k ≤ 255 := by
  have e1 : IntKind.u8.min = 0 := by decide
  have e2 : IntKind.u8.max = 255 := by decide
  simp [Lit.wf, e1, e2] at h
  exact ⟨n.toNat, by omega, by omega⟩
theorem wf_u32 {n : Int} (h : (Lit.int .u32 n).wf = true) : ∃ k : Nat, n = k ∧ k ≤ 4294967295 := by
  have e1 : IntKind.u32.min = 0 := by decide
  have e2 : IntKind.u32.max = 4294967295 := by decide
  simp [Lit.wf, e1, e2] at h
  exact ⟨n.toNat, by omega, by omega⟩
theorem wf_i64 {n : Int} (h : (Lit.int .i64 n).wf = true) : -9223372036854775808 ≤ n ∧ n ≤ 9223372036854775807 := by
  have e1 : IntKind.i64.min = -9223372036854775808 := by decide
  have e2 : IntKind.i64.max = 9223372036854775807 := by decide
  simpa [Lit.wf, e1, e2] using h

theorem und3 : Try.prog.underlying 3 = some (.int .i64) := by kernel_rfl
theorem und5 : Try.prog.underlying 5 = some (.int .u8) := by kernel_rfl

end Go.Proofs.Ytgalbokmgffhkaa

/- What arguments read as: sets of tiles, lists of lists of integers, lists of integers. -/
namespace Go.Proofs.Ytgalbokmgffhkaa
open Go.ChangeShapes Go.WideShapes Go.ChangeAt Go.RowKit Go.Lf Go.Deep Go.Wg

/-- The slice v reads as l, of whatever length. -/
def RdI (w : World) (v : Value) (l : List Int) : Prop :=
  ∃ a cap, v = .slice a l.length cap ∧ l.length ≤ cap ∧ (0 < l.length → ∃ b off, a = some ⟨b, off, none⟩ ∧ ∀ i, i < l.length → w.cell? ⟨b, off + i, none⟩ = some (.int .i64 (l.getD i 0)))
/-- The slice v reads as the lists h, of whatever length. -/
def RdR (w : World) (v : Value) (h : List (List Int)) : Prop :=
  ∃ a cap, ∃ vs : Nat → Value, v = .slice a h.length cap ∧ h.length ≤ cap ∧ (0 < h.length → ∃ b off, a = some ⟨b, off, none⟩ ∧ ∀ i, i < h.length → w.cell? ⟨b, off + i, none⟩ = some (vs i)) ∧ ∀ i, i < h.length → RdI w (vs i) (h.getD i [])

theorem RdI.small {w : World} {v : Value} {l : List Int} (h : RdI w v l) (hl : l.length ≤ 1000000) : RdInts w v l :=
  let ⟨a, cap, h1, h2, h3⟩ := h; ⟨a, cap, h1, ⟨by omega, h2⟩, h3⟩
theorem RdR.small {w : World} {v : Value} {h : List (List Int)} (hr : RdR w v h) (hl : h.length ≤ 1000000) (hr2 : ∀ i, i < h.length → (h.getD i []).length ≤ 1000000) : RdRows w v h :=
  let ⟨a, cap, vs, h1, h2, h3, h4⟩ := hr; ⟨a, cap, vs, h1, by omega, h3, fun i hi => (h4 i hi).small (hr2 i hi)⟩

section
variable {H : Type} {enc : TypeId × Value → H}

theorem und22 : Try.prog.underlying 22 = some (.slice 32) := by kernel_rfl
theorem und23 : Try.prog.underlying 23 = some (.slice 30) := by kernel_rfl
theorem und30 : Try.prog.underlying 30 = some (.slice 3) := by kernel_rfl
theorem cellsOf30 : Try.prog.cellsOf 30 = 1 := by kernel_rfl
theorem cellsOf3 : Try.prog.cellsOf 3 = 1 := by kernel_rfl
theorem cellsOf32 : Try.prog.cellsOf 32 = 4 := by kernel_rfl

set_option maxRecDepth 100000 in
theorem open_rows {W : World} {base : Nat} {v : Value} {d : DataW H} {p : List MemPlace} (hv : Value.okWide Try.prog W .any base 23 v) (h : DataW.Trod enc Try.prog W 0 (fun _ => true) true 23 v d p) : ∃ l, RdR W v l := by
  obtain ⟨a0, n0, c0, rfl⟩ := okWide_slice und23 hv
  obtain ⟨fuel, hf⟩ := h
  rcases open_int_rows und23 und30 und3 cellsOf30 cellsOf3 hf with ⟨hcs, _⟩ | ⟨a, len, cap, A, L, C, Z, hcs, _, hl, _, _, hx⟩
  · simp [Value.cells] at hcs
    obtain ⟨rfl, rfl, rfl⟩ := hcs
    exact ⟨[], none, 0, fun _ => undef, rfl, Nat.le_refl _, fun h => absurd h (by simp), fun i hi => absurd hi (by simp)⟩
  · simp [Value.cells] at hcs
    obtain ⟨rfl, rfl, rfl⟩ := hcs
    refine ⟨(List.range n0).map fun r => (Z r).take (L r), some a, c0, fun r => .slice (A r) (L r) (C r), by simp, by simpa using hl, fun h0 => ?_, fun i hi => ?_⟩
    · simp only [List.length_map, List.length_range] at h0 ⊢
      obtain ⟨b, off, spot⟩ := a
      have hspot : spot = none := by simpa [Addr.add] using World.cell?_spot (hx 0 (by omega)).1
      subst hspot
      refine ⟨b, off, rfl, fun i hi => ?_⟩
      have := (hx i (by omega)).1
      rwa [r_addr] at this
    · simp only [List.length_map, List.length_range] at hi
      obtain ⟨_, g1, _, g3, _, _, g6⟩ := hx i (by omega)
      have e : ((List.range n0).map fun r => (Z r).take (L r)).getD i [] = (Z i).take (L i) := by simp [List.getD_eq_getElem?_getD, hi]
      rw [e]
      have el : ((Z i).take (L i)).length = L i := by rw [List.length_take]; omega
      refine ⟨A i, C i, by rw [el], by rw [el]; exact g1, fun h0 => ?_⟩
      rw [el] at h0 ⊢
      cases hA : A i with
      | none =>
        have := (hx i (by omega)).2.2.2.2.2.1 hA
        omega
      | some a' =>
        obtain ⟨_, hcell⟩ := g6 a' hA
        obtain ⟨b, off, spot⟩ := a'
        have hspot : spot = none := by simpa [Addr.add] using World.cell?_spot (hcell 0 (by omega))
        subst hspot
        refine ⟨b, off, rfl, fun j hj => ?_⟩
        have := hcell j (by omega)
        rw [r_addr] at this
        rw [this]
        simp [List.getD_eq_getElem?_getD, List.getElem?_take, hj]

set_option maxRecDepth 100000 in
theorem open_set {W : World} {base : Nat} {v : Value} {d : DataW H} {p : List MemPlace} (hv : Value.okWide Try.prog W .any base 22 v) (h : DataW.Trod enc Try.prog W 0 (fun _ => true) true 22 v d p) : ∃ l, RdT W v l := by
  obtain ⟨a0, n0, c0, rfl⟩ := okWide_slice und22 hv
  obtain ⟨fuel, hf⟩ := h
  rcases open_slice und22 hf with ⟨hcs, _⟩ | ⟨a, len, cap, m, n, D, Pl, hcs, _, hl, _, hm, _, hx⟩
  · simp [Value.cells] at hcs
    obtain ⟨rfl, rfl, rfl⟩ := hcs
    exact ⟨[], Rd.nil⟩
  · simp [Value.cells] at hcs
    obtain ⟨rfl, rfl, rfl⟩ := hcs
    simp only [if_true] at hm
    have hm' := hm.symm
    subst hm'
    rw [cellsOf32] at hx
    have each : ∀ i, i < n0 → ∃ t : Tile, ∀ j u, (tlC t)[j]? = some u → W.cell? (a.add (i * 4 + j)) = some u := fun i hi => by
      obtain ⟨cs', h1, h2⟩ := hx i (by omega)
      obtain ⟨_, hlen, hcell⟩ := World.cells?_some h1
      obtain ⟨y0, y1, y2, y3, n', _, _, t0, t1, t2, t3⟩ := Go.Joins.trod_struct4 Try.underlying32 h2
      obtain ⟨A, hA, _⟩ := DataW.trod_int und3 t0
      obtain ⟨B, hB, _⟩ := DataW.trod_int und3 t1
      obtain ⟨C, hC, _⟩ := DataW.trod_int und3 t2
      obtain ⟨E, hE, _⟩ := DataW.trod_int und3 t3
      simp only [cellsOf3] at hA hB hC hE
      match cs', hlen with
      | [x, y, z, u], _ =>
        simp at hA hB hC hE
        subst hA; subst hB; subst hC; subst hE
        refine ⟨(A, B, C, E), fun j u hj => ?_⟩
        have hj4 : j < 4 := by
          have := (List.getElem?_eq_some_iff.1 hj).1
          simpa [tlC] using this
        have hc := hcell j hj4
        rw [add_add] at hc
        rw [hc]
        match j, hj4 with
        | 0, _ => exact hj
        | 1, _ => exact hj
        | 2, _ => exact hj
        | 3, _ => exact hj
    obtain ⟨T, hT⟩ := choose_lt each
    refine ⟨(List.range n0).map T, some a, c0, by simp, by simpa using hl, fun h0 => ?_⟩
    simp only [List.length_map, List.length_range] at h0
    obtain ⟨b, off, spot⟩ := a
    have hspot : spot = none := by simpa [Addr.add] using World.cell?_spot (hT 0 h0 0 _ rfl)
    subst hspot
    refine ⟨b, off, rfl, fun i x hi j u hu => ?_⟩
    rw [List.getElem?_map] at hi
    cases hr : (List.range n0)[i]? with
    | none => rw [hr] at hi; cases hi
    | some k =>
      rw [hr] at hi
      cases hi
      have hk : i < n0 ∧ k = i := by
        have h1 := (List.getElem?_eq_some_iff.1 hr).1
        have h2 := (List.getElem?_eq_some_iff.1 hr).2
        simp at h1 h2
        exact ⟨h1, h2.symm⟩
      obtain ⟨hk1, rfl⟩ := hk
      have := hT k hk1 j u hu
      rw [r_addr] at this
      rw [← Nat.add_assoc] at this
      exact this

end

end Go.Proofs.Ytgalbokmgffhkaa

/- Contracts: few of the statements; what Good judges; Good of the specification. -/
namespace Go.Proofs.Ytgalbokmgffhkaa
open Go.Lf Go.RowKit Go.Wg

theorem RdI.kp {w w' : World} {v : Value} {l : List Int} (h : RdI w v l) (hk : Kp w w') : RdI w' v l := by
  obtain ⟨a, cap, h1, h2, h3⟩ := h
  refine ⟨a, cap, h1, h2, fun h0 => ?_⟩
  obtain ⟨b, off, h4, h5⟩ := h3 h0
  exact ⟨b, off, h4, fun i hi => cell_later hk (h5 i hi)⟩
theorem RdR.kp {w w' : World} {v : Value} {h : List (List Int)} (hr : RdR w v h) (hk : Kp w w') : RdR w' v h := by
  obtain ⟨a, cap, vs, h1, h2, h3, h4⟩ := hr
  refine ⟨a, cap, vs, h1, h2, fun h0 => ?_, fun i hi => (h4 i hi).kp hk⟩
  obtain ⟨b, off, h5, h6⟩ := h3 h0
  exact ⟨b, off, h5, fun i hi => cell_later hk (h6 i hi)⟩

/-- Few and short enough lists for a statement. -/
def Few (m : Nat) (h : List (List Int)) : Prop := h.length ≤ m ∧ ∀ i, i < h.length → (h.getD i []).length ≤ 20
theorem Few.rows {m : Nat} {w : World} {v : Value} {h : List (List Int)} (hm : m ≤ 1000) (hf : Few m h) (hr : RdR w v h) : RdRows w v h := hr.small (by have := hf.1; omega) fun i hi => by have := hf.2 i hi; omega

set_option maxRecDepth 100000 in
theorem few_calls (m : Nat) (v : Value) (h : List (List Int)) (w : World) (hm : m ≤ 1000) (hr : RdR w v h) : Calls Try.prog 17 #[v, .int .i64 m] w fun e w' => ∃ b, e = .returned (.bool b) ∧ (b = true → Few m h) ∧ w = w' := by
  obtain ⟨a, cap, vs, rfl, _, hc, hrow⟩ := hr
  refine lift17 ?_
  unfold S17
  refine ⟨fun t3 wr => ∃ i : Nat, i ≤ h.length ∧ i ≤ m ∧ t3 = .int .i64 i ∧ w = wr ∧ ∀ k, k < i → (h.getD k []).length ≤ 20, fun t3 _ => h.length - (intOf t3).toNat, ⟨0, by omega, by omega, rfl, rfl, by omega⟩, ?_⟩
  rintro _ _ _ ⟨i, hi, hi10, rfl, rfl, hprev⟩
  by_cases hlt : i < h.length
  case neg =>
    have hlt' : ¬ (i : Int) < (h.length : Int) := by omega
    simp (disch := omega) only [r_ln, r_pick, r_pickT, r_pickF, r_condT, r_condF, r_gdTT, r_gdFF, r_gdTF, r_gdFT, r_gqTT, r_gqFF, r_gqTF, r_gqFT, r_not, r_lss, r_leq, r_gtr, r_geq, r_eql, r_neq, r_add, r_sub, r_min2, r_max2, r_min3, r_max3, r_fa, r_iaS, r_iaA, r_ex2a, r_ex2b, r_ex3a, r_ex3b, r_ex3c, r_nc, r_keepE, Nat.zero_add, Nat.add_zero, Nat.mul_one, Int.toNat_natCast, toNat_sub1, toNat_add1, decide_true, decide_false, Bool.not_true, Bool.not_false, if_true, if_false, Bool.false_eq_true, reduceCtorEq, hlt']
    exact ⟨true, rfl, (fun _ => ⟨by omega, fun k hk => hprev k (by omega)⟩), by first | rfl | trivial⟩
  have hlt' : (i : Int) < (h.length : Int) := by omega
  obtain ⟨b, off, rfl, hcell⟩ := hc (by omega)
  obtain ⟨ra, rc, hv, _⟩ := hrow i hlt
  have hci := hcell i hlt
  rw [hv] at hci
  by_cases h10 : m ≤ i
  · have h10' : (m : Int) ≤ i := by omega
    simp (disch := omega) only [r_ln, r_pick, r_pickT, r_pickF, r_condT, r_condF, r_gdTT, r_gdFF, r_gdTF, r_gdFT, r_gqTT, r_gqFF, r_gqTF, r_gqFT, r_not, r_lss, r_leq, r_gtr, r_geq, r_eql, r_neq, r_add, r_sub, r_min2, r_max2, r_min3, r_max3, r_fa, r_iaS, r_iaA, r_ex2a, r_ex2b, r_ex3a, r_ex3b, r_ex3c, r_nc, r_keepE, Nat.zero_add, Nat.add_zero, Nat.mul_one, Int.toNat_natCast, toNat_sub1, toNat_add1, decide_true, decide_false, Bool.not_true, Bool.not_false, if_true, if_false, Bool.false_eq_true, reduceCtorEq, decide_eq_true hlt', decide_eq_true h10']
    exact ⟨false, rfl, (fun h => absurd h (by decide)), by first | rfl | trivial⟩
  have h10' : ¬ (m : Int) ≤ i := by omega
  by_cases hl : 20 < (h.getD i []).length
  · have hl' : (20 : Int) < ((h.getD i []).length : Int) := by omega
    simp (disch := omega) only [r_ln, r_pick, r_pickT, r_pickF, r_condT, r_condF, r_gdTT, r_gdFF, r_gdTF, r_gdFT, r_gqTT, r_gqFF, r_gqTF, r_gqFT, r_not, r_lss, r_leq, r_gtr, r_geq, r_eql, r_neq, r_add, r_sub, r_min2, r_max2, r_min3, r_max3, r_fa, r_iaS, r_iaA, r_ex2a, r_ex2b, r_ex3a, r_ex3b, r_ex3c, r_nc, r_keepE, Nat.zero_add, Nat.add_zero, Nat.mul_one, Int.toNat_natCast, toNat_sub1, toNat_add1, decide_true, decide_false, Bool.not_true, Bool.not_false, if_true, if_false, Bool.false_eq_true, reduceCtorEq, decide_eq_true hlt', h10', r_ld hci, decide_eq_true hl']
    exact ⟨false, rfl, (fun h => absurd h (by decide)), by first | rfl | trivial⟩
  have hl' : ¬ (20 : Int) < ((h.getD i []).length : Int) := by omega
  simp (disch := omega) only [r_ln, r_pick, r_pickT, r_pickF, r_condT, r_condF, r_gdTT, r_gdFF, r_gdTF, r_gdFT, r_gqTT, r_gqFF, r_gqTF, r_gqFT, r_not, r_lss, r_leq, r_gtr, r_geq, r_eql, r_neq, r_add, r_sub, r_min2, r_max2, r_min3, r_max3, r_fa, r_iaS, r_iaA, r_ex2a, r_ex2b, r_ex3a, r_ex3b, r_ex3c, r_nc, r_keepE, Nat.zero_add, Nat.add_zero, Nat.mul_one, Int.toNat_natCast, toNat_sub1, toNat_add1, decide_true, decide_false, Bool.not_true, Bool.not_false, if_true, if_false, Bool.false_eq_true, reduceCtorEq, decide_eq_true hlt', h10', r_ld hci, hl']
  refine ⟨⟨i + 1, by omega, by omega, by go_num, by first | rfl | trivial, fun k hk => ?_⟩, by simp only [intOf]; omega⟩
  by_cases hki : k < i
  · exact hprev k hki
  · have : k = i := by omega
    subst this; omega

/-! ### what Good judges -/

/-- The tile at a place of a board. -/
def at2 (l : List Tile) (B : List (List Int)) (y x : Nat) : Tile := tl l ((B.getD y []).getD x 0).toNat
def stE (l : List Tile) (B : List (List Int)) (w y x : Nat) (s : Bool × Bool) : Bool × Bool := if tE (at2 l B y x) = tW (at2 l B y ((x + 1) % w)) then s else (s.1 && decide (x + 1 = w), false)
def stS (l : List Tile) (B : List (List Int)) (h y x : Nat) (s : Bool × Bool) : Bool × Bool := if tS (at2 l B y x) = tN (at2 l B ((y + 1) % h) x) then s else (s.1 && decide (y + 1 = h), false)
def cellF (l : List Tile) (B : List (List Int)) (w h y : Nat) (s : Bool × Bool) (x : Nat) : Bool × Bool := stS l B h y x (stE l B w y x s)
def rowF (l : List Tile) (B : List (List Int)) (w h : Nat) (s : Bool × Bool) (y : Nat) : Bool × Bool := (List.range w).foldl (cellF l B w h y) s
def judge (l : List Tile) (B : List (List Int)) (w h : Nat) : Bool × Bool := (List.range h).foldl (rowF l B w h) (true, true)

/-- What is closed is good. -/
def Le (s : Bool × Bool) : Prop := s.2 = true → s.1 = true
theorem le_cell {l : List Tile} {B : List (List Int)} {w h y x : Nat} {s : Bool × Bool} (hs : Le s) : Le (cellF l B w h y s x) := by
  unfold cellF stS stE Le at *
  split <;> split <;> simp_all
theorem le_fold {α : Type} {f : Bool × Bool → α → Bool × Bool} (hf : ∀ s a, Le s → Le (f s a)) : ∀ (L : List α) (s : Bool × Bool), Le s → Le (L.foldl f s)
  | [], _, h => h
  | a :: L, s, h => le_fold hf L _ (hf s a h)
theorem judge_le (l : List Tile) (B : List (List Int)) (w h : Nat) : Le (judge l B w h) :=
  le_fold (fun s y hs => le_fold (fun s x hs => le_cell hs) _ _ hs) _ _ (fun _ => rfl)

def cellOk (l : List Tile) (n : Int) : Bool := decide (0 ≤ n) && decide (n < l.length)
def boardRow (l : List Tile) (w : Nat) (r : List Int) : Bool := decide (r.length = w) && r.all (cellOk l)
def boardB (l : List Tile) (B : List (List Int)) : Bool := setB l && sideB B.length && sideB (B.getD 0 []).length && B.all (boardRow l (B.getD 0 []).length)

/-- What Good returns. -/
def goodV (l : List Tile) (B : List (List Int)) : Value := if boardB l B = true then .tuple #[.bool (judge l B (B.getD 0 []).length B.length).1, .bool (judge l B (B.getD 0 []).length B.length).2, .int .i64 0] else .tuple #[.bool false, .bool false, .int .i64 2]

theorem board_row {l : List Tile} {B : List (List Int)} (hb : B.all (boardRow l (B.getD 0 []).length) = true) {y : Nat} (hy : y < B.length) : (B.getD y []).length = (B.getD 0 []).length ∧ ∀ x, x < (B.getD 0 []).length → ∃ k : Nat, (B.getD y []).getD x 0 = k ∧ k < l.length := by
  have h1 := List.all_eq_true.1 hb _ (getD_mem (d := []) hy)
  simp only [boardRow, Bool.and_eq_true, decide_eq_true_eq, List.all_eq_true] at h1
  refine ⟨h1.1, fun x hx => ?_⟩
  have h2 := h1.2 _ (getD_mem (d := (0 : Int)) (show x < (B.getD y []).length by omega))
  simp only [cellOk, Bool.and_eq_true, decide_eq_true_eq] at h2
  exact ⟨((B.getD y []).getD x 0).toNat, by omega, by omega⟩

end Go.Proofs.Ytgalbokmgffhkaa
