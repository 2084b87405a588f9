/- Texts of my own, merged by program: Said Opens N9. -/
import Derived.Test.YtgalbokmgffhkaaM03
import Derived.ProofKit
import Derived.OpenShut
import Derived.Test.YtgalbokmgffhkaaM05
import Derived.Deep.Matrix
import Derived.Deep.Strs
import Derived.Deep.Slices
import Derived.Lib.SmallJoins
import Derived.Test.YtgalbokmgffhkaaM15
import Derived.Test.YtgalbokmgffhkaaM09
set_option linter.all false
/- From a contract that a law returns true to the given statement. -/
namespace Go.Proofs.Ytgalbokmgffhkaa
open Go.ChangeShapes Go.WideShapes Go.ChangeAt Go.RowKit Go.Lf

theorem own : ownKnob Try.prog.godebug = none := by kernel_rfl
theorem laid : laidOutB Try.prog = true := by kernel_rfl
theorem und4 : Try.prog.underlying 4 = some .bool := by kernel_rfl

section
variable {H : Type} {enc : TypeId × Value → H}

theorem below_trodAll {P : Program} (hl : laidOutB P = true) {W W' : World} (hb : Below W.heap.size W W') (ts : List TypeId) : ∀ {vs : List Value} {ds : List (DataW H)} {p : List MemPlace},
    (ts.all fun t => P.readableRec t && Nat.blt t P.types.size) = true → DataW.TrodAll enc P W 0 (fun _ => true) true ts vs ds p → (∀ x ∈ p, x.block < W.heap.size) →
      DataW.TrodAll enc P W' 0 (fun b => decide (b < W.heap.size)) true ts vs ds p := by
  induction ts with
  | nil =>
    intro vs ds p _ h _
    obtain ⟨rfl, rfl, rfl⟩ := trodAll_nil h
    exact trodAll_mk0
  | cons t ts ih =>
    intro vs ds p hr h hlt
    obtain ⟨v, vs', d, ds', p0, q0, rfl, rfl, rfl, h0, r0⟩ := trodAll_cons h
    simp only [List.all_cons, Bool.and_eq_true, Nat.blt_eq] at hr
    exact trodAll_cons_mk (Below.trod hl hr.1.1 hr.1.2 h0 hb fun x hx => hlt x (by simp [hx])) (ih (by simpa using hr.2) r0 fun x hx => hlt x (by simp [hx]))

theorem trodAll_length {P : Program} {W : World} {base : Nat} {sp : Nat → Bool} {hd : Bool} (ts : List TypeId) : ∀ {vs : List Value} {ds : List (DataW H)} {p : List MemPlace}, DataW.TrodAll enc P W base sp hd ts vs ds p → vs.length = ts.length ∧ ds.length = ts.length := by
  induction ts with
  | nil =>
    intro vs ds p h
    obtain ⟨rfl, rfl, rfl⟩ := trodAll_nil h
    exact ⟨rfl, rfl⟩
  | cons t ts ih =>
    intro vs ds p h
    obtain ⟨v, vs', d, ds', p0, q0, rfl, rfl, rfl, h0, r0⟩ := trodAll_cons h
    have := ih r0
    simp only [List.length_cons]
    omega

set_option maxRecDepth 100000 in
theorem law_lifted {s : ChangeSpec} {conds : List PathCond} {f : FuncId} {fn : Func} {os : Os} (started : os.Started) (hvars : s.vars = []) (noInit : Try.prog.inits.idxOf? f = none) (hfn : Try.prog.funcs[f]? = some fn)
    (hres : fn.resultTypes = #[4]) (hread : (fn.params.toList.all fun t => Try.prog.readableRec t && Nat.blt t Try.prog.types.size) = true)
    (hspec : ∀ ds : List (DataW H), ds.length = fn.params.toList.length → (s.fn H ds).results = [.lit (.bool true)] ∧ (s.fn H ds).args = ds ∧ (s.fn H ds).vars = [])
    (wit : ∃ (w : World) (tape : Tape) (i : Input), w.os = os ∧ (w.forCall tape i).Shaped Try.prog ∧ i.vars = [] ∧ Input.okWide Try.prog (w.forCall tape i) .any w.heap.size f i ∧
      s.pre6 enc Try.prog fn conds false (w.forCall tape i).memory i.args ∧ ({} : Assume).holds Try.prog (lone (Frame.enter Try.prog f i.args .normal) [] (w.forCall tape i)))
    (walk : ∀ (W : World) (base : Nat) (args : Array Value) (ds : List (DataW H)) (p : List MemPlace), (∀ (j : Nat) t v, fn.params[j]? = some t → args[j]? = some v → Value.okWide Try.prog W .any base t v) →
      DataW.TrodAll enc Try.prog W 0 (fun _ => true) true fn.params.toList args.toList ds p → Calls Try.prog f args W fun e W' => e = .returned (.bool true) ∧ Kp W W') :
    ReturnsInHanded {} Try.checked os f .any (s.pre6 enc Try.prog fn conds false) (s.post enc Try.prog fn false true false false) := by
  refine returnsInHanded_of_change (C := Try.checked) own started noInit hfn wit ?_
  intro W base args ds gs before hval hW hcnd _
  have hW' := hW
  obtain ⟨p, q, hA, hV, rfl, _, _⟩ := hW
  rw [hvars] at hV
  obtain ⟨rfl, rfl⟩ := trodVars_none hV
  have hlt : ∀ x ∈ p, x.block < W.heap.size := fun x hx => hW'.lt x (by simp [hx])
  have hlen := (trodAll_length _ hA).2
  obtain ⟨g1, g2, g3⟩ := hspec ds hlen
  refine (walk W base args ds p hval hA).mono fun e W' ⟨he, hk⟩ => ?_
  subst he
  refine ⟨_, rfl, ds, [], p ++ [], [], p, [], hW', ?_, ?_, ?_, hk.frame _, fun h => by cases h⟩
  · rw [List.append_nil, g1, hres]
    exact trodAll_mk1 (shut_bool und4 _)
  · rw [List.append_nil, g2]
    exact below_trodAll laid hk _ hread hA hlt
  · rw [List.append_nil, g3, hvars]
    rfl

end

theorem wf_u8 {n : Int} (h : (Lit.int .u8 n).wf = true) : ∃ k : Nat, n = k ∧ k ≤ 255 := by
  have e1 : IntKind.u8.min = 0 := by decide
  have e2 : IntKind.u8.max = 255 := by decide
  simp [Lit.wf, e1, e2] at h
  exact ⟨n.toNat, by omega, by omega⟩
theorem wf_u32 {n : Int} (h : (Lit.int .u32 n).wf = true) : ∃ k : Nat, n = k ∧ k ≤ 4294967295 := by
  have e1 : IntKind.u32.min = 0 := by decide
  have e2 : IntKind.u32.max = 4294967295 := by decide
  simp [Lit.wf, e1, e2] at h
  exact ⟨n.toNat, by omega, by omega⟩
theorem wf_i64 {n : Int} (h : (Lit.int .i64 n).wf = true) : -9223372036854775808 ≤ n ∧ n ≤ 9223372036854775807 := by
  have e1 : IntKind.i64.min = -9223372036854775808 := by decide
  have e2 : IntKind.i64.max = 9223372036854775807 := by decide
  simpa [Lit.wf, e1, e2] using h

theorem und3 : Try.prog.underlying 3 = some (.int .i64) := by kernel_rfl
theorem und5 : Try.prog.underlying 5 = some (.int .u8) := by kernel_rfl

end Go.Proofs.Ytgalbokmgffhkaa

/- What arguments read as: sets of tiles, lists of lists of integers, lists of integers. -/
namespace Go.Proofs.Ytgalbokmgffhkaa
open Go.ChangeShapes Go.WideShapes Go.ChangeAt Go.RowKit Go.Lf Go.Deep Go.Wg

/-- The slice v reads as l, of whatever length. -/
def RdI (w : World) (v : Value) (l : List Int) : Prop :=
  ∃ a cap, v = .slice a l.length cap ∧ l.length ≤ cap ∧ (0 < l.length → ∃ b off, a = some ⟨b, off, none⟩ ∧ ∀ i, i < l.length → w.cell? ⟨b, off + i, none⟩ = some (.int .i64 (l.getD i 0)))
/-- The slice v reads as the lists h, of whatever length. -/
def RdR (w : World) (v : Value) (h : List (List Int)) : Prop :=
  ∃ a cap, ∃ vs : Nat → Value, v = .slice a h.length cap ∧ h.length ≤ cap ∧ (0 < h.length → ∃ b off, a = some ⟨b, off, none⟩ ∧ ∀ i, i < h.length → w.cell? ⟨b, off + i, none⟩ = some (vs i)) ∧ ∀ i, i < h.length → RdI w (vs i) (h.getD i [])

theorem RdI.small {w : World} {v : Value} {l : List Int} (h : RdI w v l) (hl : l.length ≤ 1000000) : RdInts w v l :=
  let ⟨a, cap, h1, h2, h3⟩ := h; ⟨a, cap, h1, ⟨by omega, h2⟩, h3⟩
theorem RdR.small {w : World} {v : Value} {h : List (List Int)} (hr : RdR w v h) (hl : h.length ≤ 1000000) (hr2 : ∀ i, i < h.length → (h.getD i []).length ≤ 1000000) : RdRows w v h :=
  let ⟨a, cap, vs, h1, h2, h3, h4⟩ := hr; ⟨a, cap, vs, h1, by omega, h3, fun i hi => (h4 i hi).small (hr2 i hi)⟩

section
variable {H : Type} {enc : TypeId × Value → H}

theorem und22 : Try.prog.underlying 22 = some (.slice 32) := by kernel_rfl
theorem und23 : Try.prog.underlying 23 = some (.slice 30) := by kernel_rfl
theorem und30 : Try.prog.underlying 30 = some (.slice 3) := by kernel_rfl
theorem cellsOf30 : Try.prog.cellsOf 30 = 1 := by kernel_rfl
theorem cellsOf3 : Try.prog.cellsOf 3 = 1 := by kernel_rfl
theorem cellsOf32 : Try.prog.cellsOf 32 = 4 := by kernel_rfl

set_option maxRecDepth 100000 in
theorem open_rows {W : World} {base : Nat} {v : Value} {d : DataW H} {p : List MemPlace} (hv : Value.okWide Try.prog W .any base 23 v) (h : DataW.Trod enc Try.prog W 0 (fun _ => true) true 23 v d p) : ∃ l, RdR W v l := by
  obtain ⟨a0, n0, c0, rfl⟩ := okWide_slice und23 hv
  obtain ⟨fuel, hf⟩ := h
  rcases open_int_rows und23 und30 und3 cellsOf30 cellsOf3 hf with ⟨hcs, _⟩ | ⟨a, len, cap, A, L, C, Z, hcs, _, hl, _, _, hx⟩
  · simp [Value.cells] at hcs
    obtain ⟨rfl, rfl, rfl⟩ := hcs
    exact ⟨[], none, 0, fun _ => undef, rfl, Nat.le_refl _, fun h => absurd h (by simp), fun i hi => absurd hi (by simp)⟩
  · simp [Value.cells] at hcs
    obtain ⟨rfl, rfl, rfl⟩ := hcs
    refine ⟨(List.range n0).map fun r => (Z r).take (L r), some a, c0, fun r => .slice (A r) (L r) (C r), by simp, by simpa using hl, fun h0 => ?_, fun i hi => ?_⟩
    · simp only [List.length_map, List.length_range] at h0 ⊢
      obtain ⟨b, off, spot⟩ := a
      have hspot : spot = none := by simpa [Addr.add] using World.cell?_spot (hx 0 (by omega)).1
      subst hspot
      refine ⟨b, off, rfl, fun i hi => ?_⟩
      have := (hx i (by omega)).1
      rwa [r_addr] at this
    · simp only [List.length_map, List.length_range] at hi
      obtain ⟨_, g1, _, g3, _, _, g6⟩ := hx i (by omega)
      have e : ((List.range n0).map fun r => (Z r).take (L r)).getD i [] = (Z i).take (L i) := by simp [List.getD_eq_getElem?_getD, hi]
      rw [e]
      have el : ((Z i).take (L i)).length = L i := by rw [List.length_take]; omega
      refine ⟨A i, C i, by rw [el], by rw [el]; exact g1, fun h0 => ?_⟩
      rw [el] at h0 ⊢
      cases hA : A i with
      | none =>
        have := (hx i (by omega)).2.2.2.2.2.1 hA
        omega
      | some a' =>
        obtain ⟨_, hcell⟩ := g6 a' hA
        obtain ⟨b, off, spot⟩ := a'
        have hspot : spot = none := by simpa [Addr.add] using World.cell?_spot (hcell 0 (by omega))
        subst hspot
        refine ⟨b, off, rfl, fun j hj => ?_⟩
        have := hcell j (by omega)
        rw [r_addr] at this
        rw [this]
        simp [List.getD_eq_getElem?_getD, List.getElem?_take, hj]

set_option maxRecDepth 100000 in
theorem open_set {W : World} {base : Nat} {v : Value} {d : DataW H} {p : List MemPlace} (hv : Value.okWide Try.prog W .any base 22 v) (h : DataW.Trod enc Try.prog W 0 (fun _ => true) true 22 v d p) : ∃ l, RdT W v l := by
  obtain ⟨a0, n0, c0, rfl⟩ := okWide_slice und22 hv
  obtain ⟨fuel, hf⟩ := h
  rcases open_slice und22 hf with ⟨hcs, _⟩ | ⟨a, len, cap, m, n, D, Pl, hcs, _, hl, _, hm, _, hx⟩
  · simp [Value.cells] at hcs
    obtain ⟨rfl, rfl, rfl⟩ := hcs
    exact ⟨[], Rd.nil⟩
  · simp [Value.cells] at hcs
    obtain ⟨rfl, rfl, rfl⟩ := hcs
    simp only [if_true] at hm
    have hm' := hm.symm
    subst hm'
    rw [cellsOf32] at hx
    have each : ∀ i, i < n0 → ∃ t : Tile, ∀ j u, (tlC t)[j]? = some u → W.cell? (a.add (i * 4 + j)) = some u := fun i hi => by
      obtain ⟨cs', h1, h2⟩ := hx i (by omega)
      obtain ⟨_, hlen, hcell⟩ := World.cells?_some h1
      obtain ⟨y0, y1, y2, y3, n', _, _, t0, t1, t2, t3⟩ := Go.Joins.trod_struct4 Try.underlying32 h2
      obtain ⟨A, hA, _⟩ := DataW.trod_int und3 t0
      obtain ⟨B, hB, _⟩ := DataW.trod_int und3 t1
      obtain ⟨C, hC, _⟩ := DataW.trod_int und3 t2
      obtain ⟨E, hE, _⟩ := DataW.trod_int und3 t3
      simp only [cellsOf3] at hA hB hC hE
      match cs', hlen with
      | [x, y, z, u], _ =>
        simp at hA hB hC hE
        subst hA; subst hB; subst hC; subst hE
        refine ⟨(A, B, C, E), fun j u hj => ?_⟩
        have hj4 : j < 4 := by
          have := (List.getElem?_eq_some_iff.1 hj).1
          simpa [tlC] using this
        have hc := hcell j hj4
        rw [add_add] at hc
        rw [hc]
        match j, hj4 with
        | 0, _ => exact hj
        | 1, _ => exact hj
        | 2, _ => exact hj
        | 3, _ => exact hj
    obtain ⟨T, hT⟩ := choose_lt each
    refine ⟨(List.range n0).map T, some a, c0, by simp, by simpa using hl, fun h0 => ?_⟩
    simp only [List.length_map, List.length_range] at h0
    obtain ⟨b, off, spot⟩ := a
    have hspot : spot = none := by simpa [Addr.add] using World.cell?_spot (hT 0 h0 0 _ rfl)
    subst hspot
    refine ⟨b, off, rfl, fun i x hi j u hu => ?_⟩
    rw [List.getElem?_map] at hi
    cases hr : (List.range n0)[i]? with
    | none => rw [hr] at hi; cases hi
    | some k =>
      rw [hr] at hi
      cases hi
      have hk : i < n0 ∧ k = i := by
        have h1 := (List.getElem?_eq_some_iff.1 hr).1
        have h2 := (List.getElem?_eq_some_iff.1 hr).2
        simp at h1 h2
        exact ⟨h1, h2.symm⟩
      obtain ⟨hk1, rfl⟩ := hk
      have := hT k hk1 j u hu
      rw [r_addr] at this
      rw [← Nat.add_assoc] at this
      exact this

end

end Go.Proofs.Ytgalbokmgffhkaa

/- Boards as tiles at places: their list, turning and mirroring, what repeats, closed ones are boards. No program. -/
namespace Go.Proofs.Ytgalbokmgffhkaa
open Go.Wg

/-! ### lists without repetition -/
theorem nodup_flat {α β : Type} (key : β → α) : ∀ {L : List α} {F : α → List β}, L.Nodup → (∀ x ∈ L, (F x).Nodup) → (∀ x ∈ L, ∀ y ∈ F x, key y = x) → (L.flatMap F).Nodup
  | [], _, _, _, _ => by simp
  | x :: L, F, hL, h1, h2 => by
    rw [List.flatMap_cons]
    have hL' := List.nodup_cons.1 hL
    refine List.nodup_append.2 ⟨h1 x (by simp), nodup_flat key hL'.2 (fun y hy => h1 y (by simp [hy])) (fun y hy => h2 y (by simp [hy])), fun a ha b hb e => ?_⟩
    obtain ⟨y, hy, hby⟩ := List.mem_flatMap.1 hb
    have e1 := h2 x (by simp) a ha
    have e2 := h2 y (by simp [hy]) b hby
    rw [← e, e1] at e2
    exact hL'.1 (e2 ▸ hy)
theorem len_le_of_sub {α : Type} [DecidableEq α] : ∀ {A B : List α}, A.Nodup → (∀ x ∈ A, x ∈ B) → A.length ≤ B.length
  | [], _, _, _ => by simp
  | x :: A, B, hn, hs => by
    have hn' := List.nodup_cons.1 hn
    have hx := hs x (by simp)
    have h1 := List.length_erase_of_mem hx
    have h2 : A.length ≤ (B.erase x).length := len_le_of_sub hn'.2 fun y hy => by
      refine (List.mem_erase_of_ne (fun e : y = x => hn'.1 (e ▸ hy))).2 (hs y (by simp [hy]))
    have h3 := List.length_pos_of_mem hx
    simp only [List.length_cons]
    omega
theorem len_le_of_inj {α β : Type} [DecidableEq β] {A : List α} {B : List β} (f : α → β) (hn : A.Nodup) (hf : ∀ x ∈ A, f x ∈ B) (hi : ∀ x ∈ A, ∀ y ∈ A, f x = f y → x = y) : A.length ≤ B.length := by
  have h1 : (A.map f).Nodup := by
    unfold List.Nodup
    rw [List.pairwise_map]
    exact List.Pairwise.imp_of_mem (fun hx hy hne e => hne (hi _ hx _ hy e)) hn
  have h2 := len_le_of_sub h1 fun y hy => by
    obtain ⟨x, hx, rfl⟩ := List.mem_map.1 hy
    exact hf x hx
  rwa [List.length_map] at h2

theorem exts_nodup (l : List Tile) : ∀ (n : Nat) (r : List Nat), (exts l n r).Nodup
  | 0, r => by simp [exts]
  | n + 1, r => by
    unfold exts
    refine nodup_flat (fun q => q.getD r.length 0) List.nodup_range (fun i _ => ?_) (fun i _ q hq => ?_)
    · split
      · exact exts_nodup l n _
      · simp
    · split at hq
      · obtain ⟨s, rfl, _⟩ := (mem_exts n (r ++ [i]) q).1 hq
        rw [List.getD_eq_getElem?_getD, List.append_assoc, List.getElem?_append_right (Nat.le_refl _), Nat.sub_self]
        rfl
      · cases hq

/-! ### all boards -/
def BSc (l : List Tile) (w : Nat) : Nat → Int → List (List (List Nat))
  | 0, _ => [[]]
  | k + 1, c => (rowsL l w).flatMap fun r => if code (norths l r) = c then (BSc l w k (code (souths l r))).map (r :: ·) else []
def AB (l : List Tile) (w : Nat) : Nat → List (List (List Nat))
  | 0 => [[]]
  | k + 1 => (rowsL l w).flatMap fun r => (BSc l w k (code (souths l r))).map (r :: ·)

theorem len_flat {α β : Type} (F : α → List β) : ∀ L : List α, (L.flatMap F).length = tot (fun x => (F x).length) L
  | [] => rfl
  | x :: L => by rw [List.flatMap_cons, List.length_append, len_flat F L]; rfl
theorem bsc_len (l : List Tile) (w : Nat) : ∀ (k : Nat) (c : Int), (BSc l w k c).length = Bk l w k c
  | 0, _ => rfl
  | k + 1, c => by
    rw [BSc, Bk, len_flat]
    refine tot_congr fun r _ => ?_
    split
    · rw [List.length_map, bsc_len l w k]
    · rfl
theorem ab_len {l : List Tile} {w h : Nat} (hh : 0 < h) : (AB l w h).length = boards (linesL l w) h := by
  obtain ⟨k, rfl⟩ : ∃ k, h = k + 1 := ⟨h - 1, by omega⟩
  rw [AB, len_flat, boards, linesL, tot_map]
  refine tot_congr fun r _ => ?_
  rw [List.length_map, bsc_len, Bk_eq]
  rfl

theorem map_cons_nodup {α : Type} {x : α} {L : List (List α)} (h : L.Nodup) : (L.map (x :: ·)).Nodup := by
  unfold List.Nodup
  rw [List.pairwise_map]
  exact List.Pairwise.imp (fun hne e => hne (by injection e)) h
theorem rows_nodup (l : List Tile) (w : Nat) : (rowsL l w).Nodup := exts_nodup l w []
theorem bsc_nodup (l : List Tile) (w : Nat) : ∀ (k : Nat) (c : Int), (BSc l w k c).Nodup
  | 0, _ => by simp [BSc]
  | k + 1, c => by
    unfold BSc
    refine nodup_flat (fun B => B.headD []) (rows_nodup l w) (fun r _ => ?_) (fun r _ B hB => ?_)
    · split
      · exact map_cons_nodup (bsc_nodup l w k _)
      · simp
    · split at hB
      · obtain ⟨B', _, rfl⟩ := List.mem_map.1 hB
        rfl
      · cases hB
theorem ab_nodup (l : List Tile) (w : Nat) : ∀ h, (AB l w h).Nodup
  | 0 => by simp [AB]
  | k + 1 => by
    unfold AB
    refine nodup_flat (fun B => B.headD []) (rows_nodup l w) (fun r _ => map_cons_nodup (bsc_nodup l w k _)) (fun r _ B hB => ?_)
    obtain ⟨B', _, rfl⟩ := List.mem_map.1 hB
    rfl

/-- Rows one under the other, below a code. -/
def chainR (l : List Tile) : Int → List (List Nat) → Prop
  | _, [] => True
  | c, r :: B => code (norths l r) = c ∧ chainR l (code (souths l r)) B
theorem mem_bsc {l : List Tile} {w : Nat} : ∀ {k : Nat} {c : Int} {B : List (List Nat)}, B ∈ BSc l w k c ↔ B.length = k ∧ (∀ r ∈ B, r ∈ rowsL l w) ∧ chainR l c B
  | 0, c, B => by
    simp only [BSc, List.mem_singleton]
    constructor
    · rintro rfl; exact ⟨rfl, by simp, trivial⟩
    · rintro ⟨h, _⟩; exact List.length_eq_zero_iff.1 h
  | k + 1, c, B => by
    simp only [BSc, List.mem_flatMap]
    constructor
    · rintro ⟨r, hr, hB⟩
      split at hB
      · rename_i hc
        obtain ⟨B', hB', rfl⟩ := List.mem_map.1 hB
        obtain ⟨h1, h2, h3⟩ := mem_bsc.1 hB'
        refine ⟨by simp [h1], fun q hq => ?_, hc, h3⟩
        rcases List.mem_cons.1 hq with rfl | hq
        · exact hr
        · exact h2 q hq
      · cases hB
    · rintro ⟨h1, h2, h3⟩
      cases B with
      | nil => simp at h1
      | cons r B =>
        refine ⟨r, h2 r (by simp), ?_⟩
        rw [if_pos h3.1]
        exact List.mem_map.2 ⟨B, mem_bsc.2 ⟨by simpa using h1, fun q hq => h2 q (by simp [hq]), h3.2⟩, rfl⟩

/-- The tile at a place. -/
def atB (B : List (List Nat)) (y x : Nat) : Nat := (B.getD y []).getD x 0
structure IsB (l : List Tile) (w h : Nat) (B : List (List Nat)) : Prop where
  len : B.length = h
  row : ∀ y, y < h → (B.getD y []).length = w
  lt : ∀ y x, y < h → x < w → atB B y x < l.length
  ew : ∀ y x, y < h → x + 1 < w → tE (tl l (atB B y x)) = tW (tl l (atB B y (x + 1)))
  sn : ∀ y x, y + 1 < h → x < w → tS (tl l (atB B y x)) = tN (tl l (atB B (y + 1) x))

theorem souths_at {l : List Tile} {r : List Nat} {x : Nat} (hx : x < r.length) : (souths l r).getD x 0 = tS (tl l (r.getD x 0)) := by
  rw [getD_lt _ _ _ (by simpa [souths] using hx), getD_lt _ _ _ hx]; simp [souths]
theorem norths_at {l : List Tile} {r : List Nat} {x : Nat} (hx : x < r.length) : (norths l r).getD x 0 = tN (tl l (r.getD x 0)) := by
  rw [getD_lt _ _ _ (by simpa [norths] using hx), getD_lt _ _ _ hx]; simp [norths]
theorem code_match {l : List Tile} (hs : IsSet l) {w : Nat} {r q : List Nat} (hr : r ∈ rowsL l w) (hq : q ∈ rowsL l w) : code (souths l r) = code (norths l q) ↔ ∀ x, x < w → tS (tl l (r.getD x 0)) = tN (tl l (q.getD x 0)) := by
  obtain ⟨r1, _, r3, _⟩ := row_line hs hr
  obtain ⟨q1, q2, _, _⟩ := row_line hs hq
  have hl : (souths l r).length = (norths l q).length := by simp [souths, norths]; omega
  constructor
  · intro h x hx
    have := code_inj hl (fun c hc => line_range (r3 c hc)) (fun c hc => line_range (q2 c hc)) h
    rw [← souths_at (by omega), ← norths_at (by omega), this]
  · intro h
    have : souths l r = norths l q := by
      refine List.ext_getElem hl fun x h1 h2 => ?_
      have hx : x < w := by simp [souths] at h1; omega
      have := h x hx
      rw [← souths_at (by omega), ← norths_at (by omega), getD_lt _ _ _ h1, getD_lt _ _ _ h2] at this
      exact this
    rw [this]

theorem chain_iff {l : List Tile} : ∀ {B : List (List Nat)} {c : Int}, chainR l c B ↔ (∀ r, B.head? = some r → code (norths l r) = c) ∧ ∀ y, y + 1 < B.length → code (souths l (B.getD y [])) = code (norths l (B.getD (y + 1) []))
  | [], c => by simp [chainR]
  | r :: B, c => by
    rw [chainR, chain_iff]
    constructor
    · rintro ⟨h1, h2, h3⟩
      refine ⟨fun q hq => by cases hq; exact h1, fun y hy => ?_⟩
      cases y with
      | zero =>
        cases B with
        | nil => simp at hy
        | cons q B => exact (h2 q rfl).symm
      | succ y => exact h3 y (by simpa using hy)
    · rintro ⟨h1, h2⟩
      refine ⟨h1 r rfl, fun q hq => ?_, fun y hy => ?_⟩
      · cases B with
        | nil => cases hq
        | cons p B =>
          cases hq
          exact (h2 0 (by simp)).symm
      · exact h2 (y + 1) (by simpa using hy)

theorem mem_ab {l : List Tile} (hs : IsSet l) {w h : Nat} (hh : 0 < h) {B : List (List Nat)} : B ∈ AB l w h ↔ IsB l w h B := by
  obtain ⟨k, rfl⟩ : ∃ k, h = k + 1 := ⟨h - 1, by omega⟩
  have step : B ∈ AB l w (k + 1) ↔ B.length = k + 1 ∧ (∀ r ∈ B, r ∈ rowsL l w) ∧ ∀ y, y + 1 < B.length → code (souths l (B.getD y [])) = code (norths l (B.getD (y + 1) [])) := by
    simp only [AB, List.mem_flatMap]
    constructor
    · rintro ⟨r, hr, hB⟩
      obtain ⟨B', hB', rfl⟩ := List.mem_map.1 hB
      obtain ⟨h1, h2, h3⟩ := mem_bsc.1 hB'
      refine ⟨by simp [h1], fun q hq => ?_, ?_⟩
      · rcases List.mem_cons.1 hq with rfl | hq
        · exact hr
        · exact h2 q hq
      · exact (chain_iff.1 (show chainR l (code (norths l r)) (r :: B') from ⟨rfl, h3⟩)).2
    · rintro ⟨h1, h2, h3⟩
      cases B with
      | nil => simp at h1
      | cons r B =>
        have hc : chainR l (code (norths l r)) (r :: B) := chain_iff.2 ⟨fun q hq => by cases hq; rfl, h3⟩
        exact ⟨r, h2 r (by simp), List.mem_map.2 ⟨B, mem_bsc.2 ⟨by simpa using h1, fun q hq => h2 q (by simp [hq]), hc.2⟩, rfl⟩⟩
  rw [step]
  constructor
  · rintro ⟨h1, h2, h3⟩
    have hrow : ∀ y, y < k + 1 → B.getD y [] ∈ rowsL l w := fun y hy => h2 _ (getD_mem (by omega))
    refine ⟨h1, fun y hy => (mem_rowsL.1 (hrow y hy)).1, fun y x hy hx => ?_, fun y x hy hx => ?_, fun y x hy hx => ?_⟩
    · obtain ⟨e1, e2⟩ := mem_rowsL.1 (hrow y hy)
      exact e2.lt _ (getD_mem (by omega))
    · obtain ⟨e1, e2⟩ := mem_rowsL.1 (hrow y hy)
      exact e2.chain x (by omega)
    · exact (code_match hs (hrow y (by omega)) (hrow (y + 1) hy)).1 (h3 y (by omega)) x hx
  · intro hB
    have hrow : ∀ y, y < k + 1 → B.getD y [] ∈ rowsL l w := fun y hy => by
      refine mem_rowsL.2 ⟨hB.row y hy, fun i hi => ?_, fun x hx => hB.ew y x hy (by have := hB.row y hy; omega)⟩
      obtain ⟨x, hx, rfl⟩ := List.getElem_of_mem hi
      have := hB.lt y x hy (by have := hB.row y hy; omega)
      unfold atB at this
      rwa [getD_lt _ _ _ hx] at this
    refine ⟨hB.len, fun r hr => ?_, fun y hy => ?_⟩
    · obtain ⟨y, hy, rfl⟩ := List.getElem_of_mem hr
      have := hrow y (by have := hB.len; omega)
      rwa [getD_lt _ _ _ hy] at this
    · have := hB.len
      exact (code_match hs (hrow y (by omega)) (hrow (y + 1) (by omega))).2 fun x hx => hB.sn y x (by omega) hx

theorem isB_ext {l : List Tile} {w h : Nat} {A B : List (List Nat)} (hA : IsB l w h A) (hB : IsB l w h B) (h1 : ∀ y x, y < h → x < w → atB A y x = atB B y x) : A = B := by
  refine List.ext_getElem (by rw [hA.len, hB.len]) fun y y1 y2 => ?_
  have hy : y < h := by have := hA.len; omega
  have ra := hA.row y hy
  have rb := hB.row y hy
  rw [getD_lt _ _ _ y1] at ra
  rw [getD_lt _ _ _ y2] at rb
  refine List.ext_getElem (by rw [ra, rb]) fun x x1 x2 => ?_
  have := h1 y x hy (by omega)
  unfold atB at this
  rw [getD_lt _ _ _ y1, getD_lt _ _ _ y2, getD_lt _ _ _ x1, getD_lt _ _ _ x2] at this
  exact this

/-! ### turning, mirroring -/
def mkB (w h : Nat) (f : Nat → Nat → Nat) : List (List Nat) := (List.range h).map fun y => (List.range w).map fun x => f y x
theorem mkB_len (w h : Nat) (f : Nat → Nat → Nat) : (mkB w h f).length = h := by simp [mkB]
theorem mkB_row {w h y : Nat} {f : Nat → Nat → Nat} (hy : y < h) : (mkB w h f).getD y [] = (List.range w).map fun x => f y x := by
  rw [getD_lt _ _ _ (by rw [mkB_len]; exact hy)]
  simp [mkB]
theorem mkB_at {w h y x : Nat} {f : Nat → Nat → Nat} (hy : y < h) (hx : x < w) : atB (mkB w h f) y x = f y x := by
  unfold atB
  rw [mkB_row hy, getD_lt _ _ _ (by simpa using hx)]
  simp
theorem mkB_is {l : List Tile} {w h : Nat} {f : Nat → Nat → Nat} (h1 : ∀ y x, y < h → x < w → f y x < l.length) (h2 : ∀ y x, y < h → x + 1 < w → tE (tl l (f y x)) = tW (tl l (f y (x + 1)))) (h3 : ∀ y x, y + 1 < h → x < w → tS (tl l (f y x)) = tN (tl l (f (y + 1) x))) : IsB l w h (mkB w h f) := by
  refine ⟨mkB_len w h f, fun y hy => by rw [mkB_row hy]; simp, fun y x hy hx => ?_, fun y x hy hx => ?_, fun y x hy hx => ?_⟩
  · rw [mkB_at hy hx]; exact h1 y x hy hx
  · rw [mkB_at hy (by omega), mkB_at hy hx]; exact h2 y x hy hx
  · rw [mkB_at (by omega) hx, mkB_at hy hx]; exact h3 y x hy hx

def turnT' (t : Tile) : Tile := (tW t, tN t, tE t, tS t)
def mirT (t : Tile) : Tile := (tN t, tW t, tS t, tE t)
theorem tl_map {g : Tile → Tile} {l : List Tile} {i : Nat} (hi : i < l.length) : tl (l.map g) i = g (tl l i) := by
  unfold tl
  rw [getD_lt _ _ _ (by simpa using hi), getD_lt _ _ _ hi]
  simp
theorem turn_set {l : List Tile} (h : IsSet l) : IsSet (l.map turnT') := by
  refine ⟨by simpa using h.pos, by simpa using h.most, fun t ht => ?_, ?_⟩
  · obtain ⟨s, hs, rfl⟩ := List.mem_map.1 ht
    have := h.cols s hs
    simp only [colsB, turnT', Bool.and_eq_true] at this ⊢
    exact ⟨⟨⟨this.2, this.1.1.1⟩, this.1.1.2⟩, this.1.2⟩
  · unfold List.Nodup
    rw [List.pairwise_map]
    refine List.Pairwise.imp (fun {s t} hne e => hne ?_) h.nodup
    simp only [turnT', Prod.mk.injEq] at e
    exact Prod.ext e.2.1 (Prod.ext e.2.2.1 (Prod.ext e.2.2.2 e.1))
theorem mir_set {l : List Tile} (h : IsSet l) : IsSet (l.map mirT) := by
  refine ⟨by simpa using h.pos, by simpa using h.most, fun t ht => ?_, ?_⟩
  · obtain ⟨s, hs, rfl⟩ := List.mem_map.1 ht
    have := h.cols s hs
    simp only [colsB, mirT, Bool.and_eq_true] at this ⊢
    exact ⟨⟨⟨this.1.1.1, this.2⟩, this.1.2⟩, this.1.1.2⟩
  · unfold List.Nodup
    rw [List.pairwise_map]
    refine List.Pairwise.imp (fun {s t} hne e => hne ?_) h.nodup
    simp only [mirT, Prod.mk.injEq] at e
    exact Prod.ext e.1 (Prod.ext e.2.2.2 (Prod.ext e.2.2.1 e.2.1))

theorem turn_le {l : List Tile} (hs : IsSet l) {w h : Nat} (hw : 0 < w) (hh : 0 < h) : boards (linesL l w) h ≤ boards (linesL (l.map turnT') h) w := by
  rw [← ab_len hh, ← ab_len hw]
  refine len_le_of_inj (fun B => mkB h w fun y x => atB B (h - 1 - x) y) (ab_nodup l w h) (fun B hB => ?_) fun A hA B hB e => ?_
  · have hB := (mem_ab hs hh).1 hB
    refine (mem_ab (turn_set hs) hw).2 (mkB_is (fun y x hy hx => by rw [List.length_map]; exact hB.lt _ _ (by omega) hy) (fun y x hy hx => ?_) fun y x hy hx => ?_)
    · have l1 := hB.lt (h - 1 - x) y (by omega) hy
      have l2 := hB.lt (h - 1 - (x + 1)) y (by omega) hy
      rw [tl_map l1, tl_map l2]
      have := hB.sn (h - 1 - (x + 1)) y (by omega) hy
      rw [show h - 1 - (x + 1) + 1 = h - 1 - x by omega] at this
      exact this.symm
    · have l1 := hB.lt (h - 1 - x) y (by omega) (by omega)
      have l2 := hB.lt (h - 1 - x) (y + 1) (by omega) hy
      rw [tl_map l1, tl_map l2]
      exact hB.ew (h - 1 - x) y (by omega) hy
  · have hA := (mem_ab hs hh).1 hA
    have hB := (mem_ab hs hh).1 hB
    refine isB_ext hA hB fun y x hy hx => ?_
    have h1 : atB (mkB h w fun y x => atB A (h - 1 - x) y) x (h - 1 - y) = atB (mkB h w fun y x => atB B (h - 1 - x) y) x (h - 1 - y) := by
      have e' : (mkB h w fun y x => atB A (h - 1 - x) y) = (mkB h w fun y x => atB B (h - 1 - x) y) := e
      rw [e']
    rw [mkB_at hx (by omega), mkB_at hx (by omega)] at h1
    rwa [show h - 1 - (h - 1 - y) = y by omega] at h1
theorem mir_le {l : List Tile} (hs : IsSet l) {w h : Nat} (hh : 0 < h) : boards (linesL l w) h ≤ boards (linesL (l.map mirT) w) h := by
  rw [← ab_len hh, ← ab_len hh]
  refine len_le_of_inj (fun B => mkB w h fun y x => atB B y (w - 1 - x)) (ab_nodup l w h) (fun B hB => ?_) fun A hA B hB e => ?_
  · have hB := (mem_ab hs hh).1 hB
    refine (mem_ab (mir_set hs) hh).2 (mkB_is (fun y x hy hx => by rw [List.length_map]; exact hB.lt _ _ hy (by omega)) (fun y x hy hx => ?_) fun y x hy hx => ?_)
    · have l1 := hB.lt y (w - 1 - x) hy (by omega)
      have l2 := hB.lt y (w - 1 - (x + 1)) hy (by omega)
      rw [tl_map l1, tl_map l2]
      have := hB.ew y (w - 1 - (x + 1)) hy (by omega)
      rw [show w - 1 - (x + 1) + 1 = w - 1 - x by omega] at this
      exact this.symm
    · have l1 := hB.lt y (w - 1 - x) (by omega) (by omega)
      have l2 := hB.lt (y + 1) (w - 1 - x) hy (by omega)
      rw [tl_map l1, tl_map l2]
      exact hB.sn y (w - 1 - x) hy (by omega)
  · have hA := (mem_ab hs hh).1 hA
    have hB := (mem_ab hs hh).1 hB
    refine isB_ext hA hB fun y x hy hx => ?_
    have h1 : atB (mkB w h fun y x => atB A y (w - 1 - x)) y (w - 1 - x) = atB (mkB w h fun y x => atB B y (w - 1 - x)) y (w - 1 - x) := by
      have e' : (mkB w h fun y x => atB A y (w - 1 - x)) = (mkB w h fun y x => atB B y (w - 1 - x)) := e
      rw [e']
    rw [mkB_at hy (by omega), mkB_at hy (by omega)] at h1
    rwa [show w - 1 - (w - 1 - x) = x by omega] at h1
/-- Turned sets have as many boards. -/
theorem turn_boards {l : List Tile} (hs : IsSet l) {w h : Nat} (hw : 0 < w) (hh : 0 < h) : boards (linesL (l.map turnT') h) w = boards (linesL l w) h := by
  have s1 := turn_set hs
  have s2 := turn_set s1
  have s3 := turn_set s2
  have h1 := turn_le hs hw hh
  have h2 := turn_le s1 hh hw
  have h3 := turn_le s2 hw hh
  have h4 := turn_le s3 hh hw
  have e : (((l.map turnT').map turnT').map turnT').map turnT' = l := by
    simp only [List.map_map]
    have : (turnT' ∘ turnT' ∘ turnT' ∘ turnT') = id := rfl
    rw [this, List.map_id]
  rw [e] at h4
  omega
theorem mir_boards {l : List Tile} (hs : IsSet l) {w h : Nat} (hh : 0 < h) : boards (linesL (l.map mirT) w) h = boards (linesL l w) h := by
  have s1 := mir_set hs
  have h1 := mir_le hs (w := w) hh
  have h2 := mir_le s1 (w := w) hh
  have e : (l.map mirT).map mirT = l := by
    simp only [List.map_map]
    have : (mirT ∘ mirT) = id := rfl
    rw [this, List.map_id]
  rw [e] at h2
  omega

/-! ### closed boards are boards -/
theorem tot_comm {α β : Type} (F : α → β → Nat) : ∀ (A : List α) (B : List β), tot (fun x => tot (fun y => F x y) B) A = tot (fun y => tot (fun x => F x y) A) B
  | [], B => by simp only [tot]; exact (tot_zero fun _ _ => rfl).symm
  | x :: A, B => by simp only [tot]; rw [tot_comm F A B, tot_add]
theorem tot_mono {α : Type} {f g : α → Nat} : ∀ {a : List α}, (∀ x ∈ a, f x ≤ g x) → tot f a ≤ tot g a
  | [], _ => Nat.le_refl _
  | x :: a, h => by
    have h1 := h x (by simp)
    have h2 := tot_mono (f := f) (g := g) (a := a) fun y hy => h y (by simp [hy])
    simp only [tot]
    omega
theorem pt_first {α : Type} {C : List α} {f g : α → Int} {a : Int} : ∀ (k : Nat) (c : Int), Pt C f g a (k + 1) c = tot (fun x => if f x = a then Pt C f g (g x) k c else 0) C
  | 0, c => by
    unfold Pt
    refine tot_congr fun x _ => ?_
    by_cases h1 : g x = c
    · by_cases h2 : f x = a
      · rw [if_pos h1, if_pos h2]
        unfold Pt
        rw [if_pos h2.symm, if_pos h1]
      · rw [if_pos h1, if_neg h2]
        unfold Pt
        rw [if_neg fun e => h2 e.symm]
    · rw [if_neg h1]
      split
      · simp [Pt, h1]
      · rfl
  | k + 1, c => by
    have e1 : Pt C f g a (k + 2) c = tot (fun y => tot (fun x => if g y = c then (if f x = a then Pt C f g (g x) k (f y) else 0) else 0) C) C := by
      rw [Pt]
      refine tot_congr fun y _ => ?_
      by_cases h : g y = c
      · rw [if_pos h, pt_first k (f y)]
        refine tot_congr fun x _ => ?_
        rw [if_pos h]
      · rw [if_neg h]
        exact (tot_zero fun x _ => if_neg h).symm
    rw [e1, tot_comm]
    refine tot_congr fun x _ => ?_
    by_cases h : f x = a
    · rw [if_pos h, Pt]
      refine tot_congr fun y _ => ?_
      rw [if_pos h]
    · rw [if_neg h]
      refine tot_zero fun y _ => ?_
      rw [if_neg h]
      split <;> rfl
theorem pt_le {L : List Line} {p : Line → Bool} : ∀ (k : Nat) (a c : Int), Pt (L.filter p) lnN lnS a k c ≤ Gk L k a
  | 0, a, c => by unfold Pt Gk; split <;> omega
  | k + 1, a, c => by
    rw [pt_first, Gk, tot_filter]
    refine tot_mono fun x _ => ?_
    split
    · split
      · exact pt_le k _ c
      · exact Nat.zero_le _
    · exact Nat.zero_le _
theorem round_le {L : List Line} {h : Nat} : roundN (closedL L) lnN lnS h ≤ boards L h := by
  unfold roundN boards closedL
  rw [tot_filter]
  refine tot_mono fun x _ => ?_
  split
  · exact pt_le _ _ _
  · exact Nat.zero_le _

/-! ### what closes repeats -/
def walkP {α : Type} (f g : α → Int) : Int → List α → Int → Prop
  | a, [], c => a = c
  | a, x :: xs, c => f x = a ∧ walkP f g (g x) xs c
theorem walk_snoc {α : Type} {f g : α → Int} {x : α} : ∀ {a c : Int} {xs : List α}, walkP f g a xs (f x) → g x = c → walkP f g a (xs ++ [x]) c
  | a, c, [], h, hc => ⟨h.symm, hc⟩
  | a, c, y :: ys, h, hc => ⟨h.1, walk_snoc h.2 hc⟩
theorem pt_walk {α : Type} {C : List α} {f g : α → Int} {a : Int} : ∀ {k : Nat} {c : Int}, 0 < Pt C f g a k c → ∃ xs : List α, xs.length = k ∧ (∀ x ∈ xs, x ∈ C) ∧ walkP f g a xs c
  | 0, c, h => ⟨[], rfl, by simp, by unfold Pt at h; split at h; · assumption
                                     · omega⟩
  | k + 1, c, h => by
    unfold Pt at h
    obtain ⟨x, hx, h1⟩ := tot_pos.1 h
    split at h1
    · rename_i hc
      obtain ⟨xs, h2, h3, h4⟩ := pt_walk h1
      refine ⟨xs ++ [x], by simp [h2], fun y hy => ?_, walk_snoc h4 hc⟩
      rcases List.mem_append.1 hy with h | h
      · exact h3 y h
      · simp at h; rw [h]; exact hx
    · omega
theorem walk_get {α : Type} {f g : α → Int} {d : α} : ∀ {a c : Int} {xs : List α}, walkP f g a xs c → 0 < xs.length → f (xs.getD 0 d) = a ∧ g (xs.getD (xs.length - 1) d) = c ∧ ∀ i, i + 1 < xs.length → g (xs.getD i d) = f (xs.getD (i + 1) d)
  | a, c, [x], h, _ => ⟨h.1, h.2, fun i hi => by simp at hi⟩
  | a, c, x :: y :: ys, h, _ => by
    obtain ⟨h1, h2, h3⟩ := walk_get (d := d) h.2 (by simp)
    refine ⟨h.1, by simpa using h2, fun i hi => ?_⟩
    cases i with
    | zero => exact h1.symm
    | succ i => exact h3 i (by simpa using hi)

theorem rsn_match {l : List Tile} (hs : IsSet l) {w : Nat} {p q : List Nat} (hp : p ∈ rowsL l w) (hq : q ∈ rowsL l w) (h : rS l p = rN l q) : ∀ x, x < w → tS (tl l (p.getD x 0)) = tN (tl l (q.getD x 0)) := by
  obtain ⟨a1, a2, a3, _⟩ := row_line hs hp
  obtain ⟨b1, b2, b3, _⟩ := row_line hs hq
  have he : encD (lineL l).length (digS l p) = encD (lineL l).length (digN l q) := by unfold rS rN at h; omega
  have hd := encD_inj (by rw [digS_len, digN_len]; omega) (fun d hd => by
    obtain ⟨c, hc, rfl⟩ := List.mem_map.1 hd
    exact lidx_lt (a3 c hc)) (fun d hd => by
    obtain ⟨c, hc, rfl⟩ := List.mem_map.1 hd
    exact lidx_lt (b2 c hc)) he
  intro x hx
  have z1 : x < (souths l p).length := by simp [souths]; omega
  have z2 : x < (norths l q).length := by simp [norths]; omega
  have c1 := lidx_get (a3 _ (List.getElem_mem z1))
  have c2 := lidx_get (b2 _ (List.getElem_mem z2))
  have e5 : lidx l ((souths l p)[x]) = lidx l ((norths l q)[x]) := by
    have h1 : (digS l p)[x]'(by rw [digS_len]; omega) = (digN l q)[x]'(by rw [digN_len]; omega) := by simp only [hd]
    simpa [digS, digN] using h1
  rw [e5, c2] at c1
  rw [← souths_at (by omega), ← norths_at (by omega), getD_lt _ _ _ z1, getD_lt _ _ _ z2]
  exact c1.symm

/-- A closed board goes on for ever. -/
theorem closed_plane {l : List Tile} (hs : IsSet l) {w h : Nat} (hw : 0 < w) (hh : 0 < h) (hc : 0 < roundN (closeR l w) (rN l) (rS l) h) :
    ∃ T : Nat → Nat → Nat, (∀ y x, T y x < l.length) ∧ (∀ y x, tE (tl l (T y x)) = tW (tl l (T y (x + 1)))) ∧ ∀ y x, tS (tl l (T y x)) = tN (tl l (T (y + 1) x)) := by
  unfold roundN at hc
  obtain ⟨q, hq, h1⟩ := tot_pos.1 hc
  obtain ⟨xs, h2, h3, h4⟩ := pt_walk h1
  have hwk : walkP (rN l) (rS l) (rN l q) (q :: xs) (rN l q) := ⟨rfl, h4⟩
  obtain ⟨g1, g2, g3⟩ := walk_get (d := []) hwk (by simp)
  have hlen : (q :: xs).length = h := by simp [h2]; omega
  have hmem : ∀ y ∈ q :: xs, y ∈ closeR l w := fun y hy => by
    rcases List.mem_cons.1 hy with rfl | hy
    · exact hq
    · exact h3 y hy
  generalize hys : q :: xs = ys at *
  have hrow : ∀ y, ys.getD (y % h) [] ∈ closeR l w := fun y => hmem _ (getD_mem (by rw [hlen]; exact Nat.mod_lt _ hh))
  have hnext : ∀ y, rS l (ys.getD (y % h) []) = rN l (ys.getD ((y + 1) % h) []) := fun y => by
    by_cases e : y % h + 1 < h
    · have : (y + 1) % h = y % h + 1 := by rw [Nat.add_mod, Nat.mod_eq_of_lt (a := 1) (by omega), Nat.mod_eq_of_lt (by omega)]
      rw [this]
      exact g3 _ (by omega)
    · have hm : y % h < h := Nat.mod_lt _ hh
      have e1 : y % h = h - 1 := by omega
      have e2 : (y + 1) % h = 0 := by
        have := Nat.div_add_mod y h
        have e3 : y + 1 = h * (y / h + 1) := by rw [Nat.mul_add]; omega
        rw [e3, Nat.mul_mod_right]
      rw [e1, e2, g1]
      rw [hlen] at g2
      exact g2
  refine ⟨fun y x => (ys.getD (y % h) []).getD (x % w) 0, fun y x => ?_, fun y x => ?_, fun y x => ?_⟩
  · obtain ⟨e1, e2⟩ := mem_rowsL.1 (List.mem_filter.1 (hrow y)).1
    exact e2.lt _ (getD_mem (by rw [e1]; exact Nat.mod_lt _ hw))
  · obtain ⟨e1, e2⟩ := mem_rowsL.1 (List.mem_filter.1 (hrow y)).1
    have hcl := (List.mem_filter.1 (hrow y)).2
    dsimp only
    have hm : x % w < w := Nat.mod_lt _ hw
    by_cases e : x % w + 1 < w
    · have : (x + 1) % w = x % w + 1 := by rw [Nat.add_mod, Nat.mod_eq_of_lt (a := 1) (by omega), Nat.mod_eq_of_lt (by omega)]
      rw [this]
      exact e2.chain _ (by omega)
    · have e3 : x % w = w - 1 := by omega
      have e4 : (x + 1) % w = 0 := by
        have := Nat.div_add_mod x w
        have e5 : x + 1 = w * (x / w + 1) := by rw [Nat.mul_add]; omega
        rw [e5, Nat.mul_mod_right]
      rw [e3, e4]
      unfold closes at hcl
      have := of_decide_eq_true hcl
      rw [this, last_get (n := w - 1) (by omega)]
  · exact (rsn_match hs (List.mem_filter.1 (hrow y)).1 (List.mem_filter.1 (hrow (y + 1))).1 (hnext y)) _ (Nat.mod_lt _ hw)

/-- Where something closes there are boards of every size. -/
theorem closed_boards {l : List Tile} (hs : IsSet l) {w h a b : Nat} (hw : 0 < w) (hh : 0 < h) (hb : 0 < b) (hc : 0 < roundN (closeR l w) (rN l) (rS l) h) : 0 < boards (linesL l a) b := by
  obtain ⟨T, h1, h2, h3⟩ := closed_plane hs hw hh hc
  rw [← ab_len hb]
  refine List.length_pos_of_mem ((mem_ab hs hb).2 (mkB_is (f := T) (fun y x _ _ => h1 y x) (fun y x _ _ => h2 y x) fun y x _ _ => h3 y x))

end Go.Proofs.Ytgalbokmgffhkaa
