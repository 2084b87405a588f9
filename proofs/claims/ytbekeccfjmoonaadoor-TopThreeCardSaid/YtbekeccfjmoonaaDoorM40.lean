/- Texts of my own, merged by program: Zt Said. -/
import Derived.Test.YtbekeccfjmoonaaDoorM27
import Derived.Test.YtbekeccfjmoonaaDoorM30
import Derived.Test.YtbekeccfjmoonaaDoorM39
import Derived.Test.YtbekeccfjmoonaaDoorM07
import Derived.Test.YtbekeccfjmoonaaDoorM15
import Derived.ProofKit
import Derived.LaidMore
import Derived.Lay
import Derived.OpenShut
import Derived.Stop.Joined
import Derived.Deep.Strs
import Derived.Lib.SmallJoins
set_option linter.all false
/- The law TopThree. -/
namespace Go.Proofs.YtbekeccfjmoonaaDoor
open Go.Lf Go.RowKit Go.Ht Go.Km

theorem eqBl (x y : Bool) (w : World) (K : Value → Prop) : binQ Tryd.prog w .eql 4 false (.bool x) (.bool y) K = genQ Tryd.prog w (semBin .eql 4 false (.bool x) (.bool y)) K := by kernel_rfl
theorem r_eqlB {x y : Bool} {w : World} {K : Value → Prop} (h : K (.bool (x == y))) : binQ Tryd.prog w .eql 4 false (.bool x) (.bool y) K := by
  rw [eqBl]
  refine ⟨.bool (x == y), fun _ _ => ?_, h⟩
  cases x <;> cases y <;> kernel_rfl

theorem puts_small (P : List C2) (h : P.length ≤ 16) : (putsU P).length ≤ 100 := by
  have := putsP_le P P.length (Nat.le_refl _)
  unfold putsU
  omega

set_option maxRecDepth 100000 in
set_option maxHeartbeats 2000000 in
theorem law_three {v : Value} {l : List ByteArray} (w : World) (hf : Wf w) (hr : RdB w v l) (hs : ∀ s ∈ l, s.size ≤ 9223372036854775807) : Calls Tryd.prog 3 #[v] w fun e w' => e = .returned (.bool true) ∧ Kp w w' := by
  refine lift3 ?_
  unfold S3
  refine r_use fok5 (few_calls w hr) rfl ?_
  rintro _ _ ⟨rfl, rfl⟩
  refine ⟨_, rfl, ?_⟩
  rw [r_not]
  cases hfew : fewB l with
  | false =>
    rw [Bool.not_false, r_condT]
    refine r_use fok6 (tiled_calls w) rfl ?_
    rintro _ w1 ⟨rfl, k1⟩
    exact ⟨_, rfl, rfl, k1⟩
  | true =>
  rw [Bool.not_true, r_condF]
  refine r_use fok8 (both_calls w) rfl ?_
  rintro _ w1 ⟨k1, tv, rfl, hT⟩
  refine ⟨_, rfl, ?_⟩
  refine r_use fok7 (Tilings_calls w1 (hr.kp k1) hs hT) rfl ?_
  rintro _ w2 ⟨k2, rfl⟩
  refine ⟨_, rfl, ?_⟩
  rw [r_ex2a, r_ex2b]
  have k02 := Kp.trans k1 k2
  cases hfl : flB l with
  | false =>
    simp only [Bool.false_eq_true, if_false]
    rw [r_neq, decide_eq_false (by omega), Bool.not_false, r_condT, r_eql, decide_eq_true rfl]
    simp only [r_gdTT, r_pickT]
    rw [r_eql, decide_eq_true (show ((0 : Nat) : Int) = 0 from rfl)]
    simp only [r_gdTT]
    refine r_use fok6 (tiled_calls w2) rfl ?_
    rintro _ w3 ⟨rfl, k3⟩
    refine ⟨_, rfl, ?_⟩
    rw [r_pickT]
    exact ⟨rfl, Kp.trans k02 k3⟩
  | true =>
  obtain ⟨hcl, hR⟩ := fl_small hfl
  have h8 : ofB 8 l = true := by
    unfold flB at hfl
    have h4 := (Bool.and_eq_true _ _ ▸ hfl).1
    unfold ofB at h4 ⊢
    rw [Bool.and_eq_true] at h4 ⊢
    have := of_decide_eq_true h4.1
    exact ⟨decide_eq_true (by omega), h4.2⟩
  have hU := tilB_eq hR
  have hcU := count_eq hR
  have hmU := cntM_mk hR
  have hk1 := kasD_ok (mk4 l) (mk4_lt l)
  have h16 := cntM_le 16 (mk4 l)
  have hp : (2 : Nat) ^ 16 = 65536 := rfl
  rw [hmU] at hk1 h16
  rw [if_pos rfl, if_pos rfl, r_neq, decide_eq_true rfl, Bool.not_true, r_condF, hU]
  have hwl : wd l * l.length ≤ 16 := by
    have := Nat.mul_le_mul hR.wid.2 hR.len.2
    exact this
  refine r_use fok9 (Count_calls w2 (hr.kp k02) hs hwl) rfl ?_
  rintro _ w3 ⟨k3, rfl⟩
  refine ⟨_, rfl, ?_⟩
  rw [h8, if_pos rfl, if_pos rfl, r_ex2a, r_ex2b, hcU]
  have k03 := Kp.trans k02 k3
  refine r_use fok10 (kast2_calls w3 (hf.kp k03) (hr.kp k03) hs h8 hR) rfl ?_
  rintro _ w4 ⟨k4, rfl⟩
  refine ⟨_, rfl, ?_⟩
  rw [r_ex2a, r_ex2b]
  have k04 := Kp.trans k03 k4
  refine r_use fok11 (holes2_calls w4 (hr.kp k04) hs h8 hR) rfl ?_
  rintro _ w5 ⟨k5, h, rfl, hh⟩
  refine ⟨_, rfl, ?_⟩
  rw [r_ex2a, r_ex2b]
  have k05 := Kp.trans k04 k5
  refine r_use fok8 (both_calls w5) rfl ?_
  rintro _ w6 ⟨k6, tv2, rfl, hT2⟩
  refine ⟨_, rfl, ?_⟩
  have k06 := Kp.trans k05 k6
  have hN := puts_small (cellsB l) hcl
  have hcols := cols_of (cellsB l)
  refine r_use fok12 (shares_calls w6 (hr.kp k06) hs hT2 hfl hcl hN hcols tb0_inv) rfl ?_
  rintro _ w7 ⟨k7, S, a, n, c, d, hi, hend, rfl⟩
  refine ⟨_, rfl, ?_⟩
  have hpos := end_til (pairs_ok (cellsB l)) (by rw [List.length_map]) hcl hcols hi hend
  have htil : til (2 ^ (cellsB l).length - 1) ((putsU (cellsB l)).map (covOf (cellsB l))) 0 = cntU 16 (hq l) := hU
  rw [htil] at hpos
  rw [r_ex2a, r_ex2b]
  have k07 := Kp.trans k06 k7
  refine r_box fun b11 w8 e8 s8 h8' k8 => ?_
  refine st33 h8' fun w9 c9 s9 h9 => ?_
  have k09 : Kp w w9 := Kp.trans k07 (Kp.of_chg k8 c9 fun q e => by omega)
  generalize cntU 16 (hq l) = U at *
  generalize kasD (mk4 l) = D at *
  have e1 : decide ((U : Int) < max D (-D)) = false := decide_eq_false (by omega)
  have e2 : h = 0 → decide (max D (-D) = (U : Int)) = true := fun h0 => decide_eq_true (by
    have := hk1.2 (hh h0)
    omega)
  simp only [r_neq, decide_true, Bool.not_true, r_gdFF, r_pickF]
  rw [r_neg _ (by omega) (by omega), r_max2]
  simp only [r_gtr, e1, r_gdFF, r_pickF, r_eql]
  have fin : ∀ w', Kp w w' → (
      binQ Tryd.prog w' .eql 4 false (.bool (decide ((if S.g ((putsU (cellsB l)).length + (cellsB l).length) = 0 then (0 : Int) else 10) = 0))) (.bool (decide (0 < (U : Int)))) fun t94 =>
      gd t94 true (fun k => callW Tryd.prog (.func (.func 6) #[] #[]) [] w' k) w' fun t96 w2 =>
      pickQ t94 t96 (.bool false) fun t97 =>
      Ending.returned t97 = Ending.returned (.bool true) ∧ Kp w w2) := fun w' k' => by
    have he : (decide ((if S.g ((putsU (cellsB l)).length + (cellsB l).length) = 0 then (0 : Int) else 10) = 0) == decide (0 < (U : Int))) = true := by
      by_cases h0 : S.g ((putsU (cellsB l)).length + (cellsB l).length) = 0
      · have := hpos.1 h0
        rw [if_pos h0, decide_eq_true rfl, decide_eq_true (by omega)]; rfl
      · have : ¬ 0 < U := fun hp' => h0 (hpos.2 hp')
        rw [if_neg h0, decide_eq_false (by omega), decide_eq_false (by omega)]; rfl
    refine r_eqlB ?_
    rw [he]
    simp only [r_gdTT]
    refine r_use fok6 (tiled_calls w') rfl ?_
    rintro _ w2 ⟨rfl, k2⟩
    refine ⟨_, rfl, ?_⟩
    rw [r_pickT]
    exact ⟨rfl, Kp.trans k' k2⟩
  by_cases h0 : h = 0
  · have e3 := e2 h0
    have e4 : decide (((h : Nat) : Int) = 0) = true := decide_eq_true (by omega)
    simp only [e4, r_gdTT, r_pickT]
    rw [r_neg _ (by omega) (by omega), r_max2, r_neq, e3, Bool.not_true, r_condF]
    exact fin w9 k09
  · have e4 : decide (((h : Nat) : Int) = 0) = false := decide_eq_false (by omega)
    simp only [e4, r_gdFT, r_pickF, r_condF]
    exact fin w9 k09

end Go.Proofs.YtbekeccfjmoonaaDoor

/- From a contract that a law returns true to the given statement. -/
namespace Go.Proofs.YtbekeccfjmoonaaDoor
open Go.ChangeShapes Go.WideShapes Go.ChangeAt Go.RowKit Go.Lf Go.Ht

theorem own : ownKnob Tryd.prog.godebug = none := by kernel_rfl
theorem laid0 : laidOutB Tryd.prog = true := by kernel_rfl
theorem und4 : Tryd.prog.underlying 4 = some .bool := by kernel_rfl
theorem und3z : Tryd.prog.underlying 3 = some (.int .i64) := by kernel_rfl
/-- What the rows list. -/
def laid1 : List (String × DataW Unit) := [("unicode/utf8.acceptRanges", Rows.laid_unicode_utf8_acceptRanges), ("encaustic/domino.four", Rows.laid_encaustic_domino_four), ("unicode/utf8.first", Rows.laid_unicode_utf8_first)]
theorem gFour : Tryd.prog.globalNamed "encaustic/domino.four" = some 0 := by kernel_rfl
theorem tFour : (Tryd.prog.globals[0]?).map (·.type) = some 113 := by kernel_rfl
theorem cellsOf43z : Tryd.prog.cellsOf 43 = 2 := by kernel_rfl
theorem cellsOf3z : Tryd.prog.cellsOf 3 = 1 := by kernel_rfl

set_option maxRecDepth 100000 in
theorem wf_of_laid {W : World} (h : laidMetH Tryd.prog laid1 W) : Wf W := by
  rw [MakeChecks.laidMetH_plain _ _ _ (by kernel_rfl)] at h
  obtain ⟨ps, ⟨g0, t0, cs0, fuel0, p0, q0, hg0, ht0, hv0, hd0, ⟨g, t, cs, fuel, p, q, hg, ht, hv, hd, _, _⟩, _⟩, _, _⟩ := h
  obtain rfl := Option.some.inj (gFour.symm.trans hg)
  obtain rfl := Option.some.inj (tFour.symm.trans ht)
  obtain ⟨xs, m, _, ex, _, hl, hel⟩ := DataW.trod_array Tryd.underlying113 hd
  have e3 : xs.map (·.1) = (fourC.map fun c => (DataW.agg [.lit (.int .i64 c.1), .lit (.int .i64 c.2)] : DataW Unit)) := (DataW.agg.inj (Prod.mk.inj ex).1).symm
  have each : ∀ i, i < 4 → cs[i * 2]? = some (.int .i64 (fourC.getD i (0, 0)).1) ∧ cs[i * 2 + 1]? = some (.int .i64 (fourC.getD i (0, 0)).2) := fun i hi => by
    have hE := hel i hi
    rw [cellsOf43z, List.getElem?_eq_getElem (by omega)] at hE
    obtain ⟨y0, y1, n', hx, hlen, t0, t1⟩ := trod_struct2 Tryd.underlying43 hE
    obtain ⟨A, hA, hA2, _⟩ := DataW.trod_int und3z t0
    obtain ⟨B, hB, hB2, _⟩ := DataW.trod_int und3z t1
    have e4 : (xs.map (·.1))[i]? = (fourC.map fun c => (DataW.agg [.lit (.int .i64 c.1), .lit (.int .i64 c.2)] : DataW Unit))[i]? := by rw [e3]
    have hi4 : i < fourC.length := hi
    rw [List.getElem?_map, List.getElem?_map, List.getElem?_eq_getElem (by omega : i < xs.length), List.getElem?_eq_getElem hi4, hx] at e4
    rw [getD_lt _ _ _ hi4]
    obtain ⟨z0, w0⟩ := y0
    obtain ⟨z1, w1⟩ := y1
    simp only [Prod.mk.injEq] at hA2 hB2
    obtain ⟨rfl, _⟩ := hA2
    obtain ⟨rfl, _⟩ := hB2
    simp only [Option.map_some, Option.some.injEq, DataW.agg.injEq, List.cons.injEq, DataW.lit.injEq, Lit.int.injEq, true_and, and_true] at e4
    obtain ⟨r1, r2⟩ := e4
    rw [cellsOf3z] at hA hB
    have a1 : ((((cs.toList.drop (i * 2)).take 2).drop 0).take 1)[0]? = some (.int .i64 A) := by rw [hA]; rfl
    have b1 : ((((cs.toList.drop (i * 2)).take 2).drop 1).take 1)[0]? = some (.int .i64 B) := by rw [hB]; rfl
    constructor
    · rw [← r1, ← a1]; simp
    · rw [← r2, ← b1]; simp
  intro j u hu
  have := World.var?_cell hg hv j
  rw [Nat.zero_add, this]
  have h0 := each 0 (by omega)
  have h1 := each 1 (by omega)
  have h2 := each 2 (by omega)
  have h3 := each 3 (by omega)
  match j, hu with
  | 0, hu => cases hu; exact h0.1
  | 1, hu => cases hu; exact h0.2
  | 2, hu => cases hu; exact h1.1
  | 3, hu => cases hu; exact h1.2
  | 4, hu => cases hu; exact h2.1
  | 5, hu => cases hu; exact h2.2
  | 6, hu => cases hu; exact h3.1
  | 7, hu => cases hu; exact h3.2
  | _ + 8, hu => simp [fourV] at hu

section
variable {H : Type} {enc : TypeId × Value → H}

theorem below_trodAll {P : Program} (hl : laidOutB P = true) {W W' : World} (hb : Below W.heap.size W W') (ts : List TypeId) : ∀ {vs : List Value} {ds : List (DataW H)} {p : List MemPlace},
    (ts.all fun t => P.readableRec t && Nat.blt t P.types.size) = true → DataW.TrodAll enc P W 0 (fun _ => true) true ts vs ds p → (∀ x ∈ p, x.block < W.heap.size) →
      DataW.TrodAll enc P W' 0 (fun b => decide (b < W.heap.size)) true ts vs ds p := by
  induction ts with
  | nil =>
    intro vs ds p _ h _
    obtain ⟨rfl, rfl, rfl⟩ := trodAll_nil h
    exact trodAll_mk0
  | cons t ts ih =>
    intro vs ds p hr h hlt
    obtain ⟨v, vs', d, ds', p0, q0, rfl, rfl, rfl, h0, r0⟩ := trodAll_cons h
    simp only [List.all_cons, Bool.and_eq_true, Nat.blt_eq] at hr
    exact trodAll_cons_mk (Below.trod hl hr.1.1 hr.1.2 h0 hb fun x hx => hlt x (by simp [hx])) (ih (by simpa using hr.2) r0 fun x hx => hlt x (by simp [hx]))

theorem trodAll_length {P : Program} {W : World} {base : Nat} {sp : Nat → Bool} {hd : Bool} (ts : List TypeId) : ∀ {vs : List Value} {ds : List (DataW H)} {p : List MemPlace}, DataW.TrodAll enc P W base sp hd ts vs ds p → vs.length = ts.length ∧ ds.length = ts.length := by
  induction ts with
  | nil =>
    intro vs ds p h
    obtain ⟨rfl, rfl, rfl⟩ := trodAll_nil h
    exact ⟨rfl, rfl⟩
  | cons t ts ih =>
    intro vs ds p h
    obtain ⟨v, vs', d, ds', p0, q0, rfl, rfl, rfl, h0, r0⟩ := trodAll_cons h
    have := ih r0
    simp only [List.length_cons]
    omega

set_option maxRecDepth 100000 in
theorem law_lifted {s : ChangeSpec} {conds : List PathCond} {f : FuncId} {fn : Func} {os : Os} (started : os.Started) (hvars : s.vars = []) (noInit : Tryd.prog.inits.idxOf? f = none) (hfn : Tryd.prog.funcs[f]? = some fn)
    (hres : fn.resultTypes = #[4]) (hread : (fn.params.toList.all fun t => Tryd.prog.readableRec t && Nat.blt t Tryd.prog.types.size) = true)
    (hspec : ∀ ds : List (DataW H), ds.length = fn.params.toList.length → (s.fn H ds).results = [.lit (.bool true)] ∧ (s.fn H ds).args = ds ∧ (s.fn H ds).vars = [])
    (wit : ∃ (w : World) (tape : Tape) (i : Input), w.os = os ∧ (w.forCall tape i).Shaped Tryd.prog ∧ i.vars = [] ∧ Input.okWide Tryd.prog (w.forCall tape i) .any w.heap.size f i ∧
      ((s.pre enc Tryd.prog fn conds false (w.forCall tape i).memory i.args ∧ laidMetH Tryd.prog laid1 (w.forCall tape i).memory) ∧ sizedMet enc Tryd.prog fn (OpenSpec.ofChange s) false (w.forCall tape i).memory i.args) ∧ ({} : Assume).holds Tryd.prog (lone (Frame.enter Tryd.prog f i.args .normal) [] (w.forCall tape i)))
    (walk : ∀ (W : World) (base : Nat) (args : Array Value) (ds : List (DataW H)) (p : List MemPlace), Wf W → (∀ (j : Nat) t v, fn.params[j]? = some t → args[j]? = some v → Value.okWide Tryd.prog W .any base t v) →
      DataW.TrodAll enc Tryd.prog W 0 (fun _ => true) true fn.params.toList args.toList ds p → Calls Tryd.prog f args W fun e W' => e = .returned (.bool true) ∧ Kp W W') :
    ReturnsInHanded {} Tryd.checked os f .any (fun w args => (s.pre enc Tryd.prog fn conds false w args ∧ laidMetH Tryd.prog laid1 w) ∧ sizedMet enc Tryd.prog fn (OpenSpec.ofChange s) false w args) (s.post enc Tryd.prog fn false true false false) := by
  refine returnsInHanded_of_change_and (C := Tryd.checked) (X := fun w _ => laidMetH Tryd.prog laid1 w) (fun _ _ _ hh h => h.of_heap hh) own started noInit hfn wit ?_
  intro W base args ds gs before hval hW hcnd _ hL _
  have hW' := hW
  obtain ⟨p, q, hA, hV, rfl, _, _⟩ := hW
  rw [hvars] at hV
  obtain ⟨rfl, rfl⟩ := trodVars_none hV
  have hlt : ∀ x ∈ p, x.block < W.heap.size := fun x hx => hW'.lt x (by simp [hx])
  have hlen := (trodAll_length _ hA).2
  obtain ⟨g1, g2, g3⟩ := hspec ds hlen
  refine (walk W base args ds p (wf_of_laid hL) hval hA).mono fun e W' ⟨he, hk⟩ => ?_
  subst he
  refine ⟨_, rfl, ds, [], p ++ [], [], p, [], hW', ?_, ?_, ?_, hk.frame _, fun h => by cases h⟩
  · rw [List.append_nil, g1, hres]
    exact trodAll_mk1 (shut_bool und4 _)
  · rw [List.append_nil, g2]
    exact below_trodAll laid0 hk _ hread hA hlt
  · rw [List.append_nil, g3, hvars]
    rfl

end

theorem wf_u8 {n : Int} (h : (Lit.int .u8 n).wf = true) : ∃ k : Nat, n = k ∧ k ≤ 255 := by
  have e1 : IntKind.u8.min = 0 := by decide
  have e2 : IntKind.u8.max = 255 := by decide
  simp [Lit.wf, e1, e2] at h
  exact ⟨n.toNat, by omega, by omega⟩
theorem wf_u32 {n : Int} (h : (Lit.int .u32 n).wf = true) : ∃ k : Nat, n = k ∧ k ≤ 4294967295 := by
  have e1 : IntKind.u32.min = 0 := by decide
  have e2 : IntKind.u32.max = 4294967295 := by decide
  simp [Lit.wf, e1, e2] at h
  exact ⟨n.toNat, by omega, by omega⟩
theorem wf_i64 {n : Int} (h : (Lit.int .i64 n).wf = true) : -9223372036854775808 ≤ n ∧ n ≤ 9223372036854775807 := by
  have e1 : IntKind.i64.min = -9223372036854775808 := by decide
  have e2 : IntKind.i64.max = 9223372036854775807 := by decide
  simpa [Lit.wf, e1, e2] using h

theorem und3 : Tryd.prog.underlying 3 = some (.int .i64) := by kernel_rfl

theorem und22 : Tryd.prog.underlying 22 = some (.slice 9) := by kernel_rfl
theorem und9z : Tryd.prog.underlying 9 = some .string := by kernel_rfl
theorem cellsOf9 : Tryd.prog.cellsOf 9 = 1 := by kernel_rfl
set_option maxRecDepth 100000 in
theorem open_strings {H : Type} {enc : TypeId × Value → H} {W : World} {base : Nat} {v : Value} {d : DataW H} {p : List MemPlace} (hv : Value.okWide Tryd.prog W .any base 22 v) (h : DataW.Trod enc Tryd.prog W 0 (fun _ => true) true 22 v d p) : ∃ l, RdB W v l ∧ ∀ s ∈ l, s.size ≤ 9223372036854775807 := by
  obtain ⟨a0, n0, c0, rfl⟩ := okWide_slice und22 hv
  obtain ⟨fuel, hf⟩ := h
  rcases Deep.open_strs und22 und9z cellsOf9 hf with ⟨hcs, _⟩ | ⟨a, len, cap, m, Sx, hcs, _, hl, _, hm, _, hx⟩
  · simp [Value.cells] at hcs
    obtain ⟨rfl, rfl, rfl⟩ := hcs
    exact ⟨[], Rd.nil, by simp⟩
  · simp [Value.cells] at hcs
    obtain ⟨rfl, rfl, rfl⟩ := hcs
    simp only [if_true] at hm
    subst hm
    refine ⟨(List.range n0).map Sx, ⟨some a, m, by simp, by simpa using hl, fun h0 => ?_⟩, fun s hs => ?_⟩
    · simp only [List.length_map, List.length_range] at h0
      obtain ⟨b, off, spot⟩ := a
      have hspot : spot = none := by simpa [Addr.add] using World.cell?_spot (hx 0 (by omega)).1
      subst hspot
      refine ⟨b, off, rfl, fun i x hi j u hu => ?_⟩
      have hin : i < n0 := by
        have := (List.getElem?_eq_some_iff.1 hi).1
        simpa using this
      rw [List.getElem?_map, List.getElem?_range hin] at hi
      cases hi
      have := (hx i (by omega)).1
      rw [r_addr] at this
      match j, hu with
      | 0, hu => cases hu; rw [Nat.mul_one]; exact this
      | _ + 1, hu => simp [sC] at hu
    · obtain ⟨i, hi, rfl⟩ := List.mem_map.1 hs
      have hi' := List.mem_range.1 hi
      have := (hx i (by omega)).2
      unfold maxLen at this
      omega

end Go.Proofs.YtbekeccfjmoonaaDoor
