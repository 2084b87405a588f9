/- Contract of domino: Refute. -/
import Derived.Test.YtbekeccfjmoonaaDoorTg
set_option linter.all false
namespace Go.Proofs.YtbekeccfjmoonaaDoor
open Go.Lf Go.RowKit Go.Ht

theorem cell1 {w' : World} {b : Nat} {x : Value} {t : TypeId} (h : w'.heap[b]? = some (.cells #[x] t (0, 0))) : w'.cell? ⟨b, 0, none⟩ = some x := by rw [cell_row h]; rfl

structure HallOut (l : List ByteArray) (out : List C2) : Prop where
  reg : ∀ x ∈ out, hasB l x.1 x.2 = true
  col : ∃ b, ∀ x ∈ out, blackC x = b
  sum : 0 < ((cellsB l).map (atW out)).sum
theorem atW_perm {out out' : List C2} (p : out'.Perm out) : atW out' = atW out := by
  funext a
  unfold atW
  have h1 : inB out' a = inB out a := by
    unfold inB
    rw [decide_eq_decide]; exact p.mem_iff
  have h2 : nearB out' a = nearB out a := by
    have : nearB out' a = true ↔ nearB out a = true := by
      rw [nearB_iff, nearB_iff]
      constructor
      · rintro ⟨c, hc, ha⟩; exact ⟨c, p.mem_iff.1 hc, ha⟩
      · rintro ⟨c, hc, ha⟩; exact ⟨c, p.mem_iff.2 hc, ha⟩
    cases a1 : nearB out' a <;> cases a2 : nearB out a <;> simp_all
  rw [h1, h2]
theorem HallOut.perm {l : List ByteArray} {out out' : List C2} (p : out'.Perm out) (h : HallOut l out) : HallOut l out' :=
  ⟨fun x hx => h.reg x (p.mem_iff.1 hx), let ⟨b, hb⟩ := h.col; ⟨b, fun x hx => hb x (p.mem_iff.1 hx)⟩, by rw [atW_perm p]; exact h.sum⟩

set_option maxRecDepth 100000 in
theorem alone_calls {μ : Mate} {c : C2} {b6 mb : Nat} (w : World) (h6 : w.heap[b6]? = some (.cells #[.map (some mb)] 87 (0, 0))) (hm : MapM w mb μ) (hc : okC c) :
    Calls Tryd.prog 37 #[cV c, ptrV b6] w fun e w' => e = .returned (.bool (!(μ c).isSome)) ∧ Kp w w' := by
  refine lift37 ?_
  unfold S37
  refine r_box fun b2 w1 e2 s2 h2 k1 => ?_
  have h2' : w1.heap[b2]? = some (.cells #[.int .i64 c.1, .int .i64 c.2] 43 (0, 0)) := h2
  rw [r_ld (cell1 (block_below h6 k1)), c_box h2', r_lkO2 keyC und87 zero43 (hm.kp k1) hc, r_ex2a, r_ex2b]
  refine r_box fun b4 w3 e4 s4 h4 k3 => ?_
  have h4' : w3.heap[b4]? = some (.cells #[.int .i64 0, .int .i64 0] 43 (0, 0)) := h4
  have hval : (Option.map cV (μ c)).getD (cV (0, 0)) = cV ((μ c).getD (0, 0)) := by cases μ c <;> rfl
  have sz1 := k1.size
  rw [hval]
  refine st43 h4' fun w4 c4 s4' h44 => ?_
  rw [r_not]
  refine ⟨ret_bool (by cases μ c <;> rfl), Kp.of_chg (Kp.trans k1 k3) c4 fun q e => by omega⟩

set_option maxRecDepth 100000 in
theorem idx36_calls {μ : Mate} {L : List C2} {v : Value} {b6 mb : Nat} (w : World) (hr : RdC w v L) (hl : L.length ≤ 1000) (h6 : w.heap[b6]? = some (.cells #[.map (some mb)] 87 (0, 0))) (hm : MapM w mb μ) (hok : ∀ c ∈ L, okC c) :
    Calls Tryd.prog 36 #[v, .func (.func 37) #[] #[ptrV b6]] w fun e w' => Kp w w' ∧ ∃ p : Int, e = .returned (.int .i64 p) ∧ (p = -1 ∨ ∃ i : Nat, p = i ∧ i < L.length ∧ μ (L.getD i (0, 0)) = none) := by
  obtain ⟨a, cap, ev, _⟩ := hr.len
  have lnv : ∀ K : Value → Prop, ln1 v K = K (.int .i64 L.length) := fun K => by rw [ev]; rfl
  refine lift36 ?_
  unfold S36
  rw [lnv]
  unfold S36L0
  refine ⟨fun t8 wr => ∃ i : Nat, i ≤ L.length ∧ t8 = .int .i64 i ∧ Kp w wr, fun t8 _ => L.length - (intOf t8).toNat, ⟨0, by omega, rfl, Kp.refl _⟩, ?_⟩
  rintro _ _ wr ⟨i, hi, rfl, kr⟩
  by_cases hlt : i < L.length
  case neg =>
    have hlt' : ¬ (i : Int) < (L.length : Int) := by omega
    rw [r_lss, decide_eq_false hlt', r_condF]
    exact ⟨kr, -1, rfl, .inl rfl⟩
  have hlt' : (i : Int) < (L.length : Int) := by omega
  rw [r_lss, decide_eq_true hlt', r_condT, cell_at (hr.kp kr) hlt]
  refine r_use fok37 (alone_calls wr (block_below h6 kr) (hm.kp kr) (hok _ (getD_mem hlt))) rfl ?_
  rintro _ w2 ⟨rfl, k2⟩
  refine ⟨_, rfl, ?_⟩
  have k02 := Kp.trans kr k2
  cases q : μ (L.getD i (0, 0)) with
  | none =>
    rw [show (!(none : Option C2).isSome) = true from rfl, r_condT]
    exact ⟨k02, i, rfl, .inr ⟨i, rfl, hlt, q⟩⟩
  | some m =>
    rw [show (!(some m).isSome) = false from rfl, r_condF, r_add _ _ (by omega) (by omega)]
    exact ⟨⟨i + 1, by omega, by go_num, k02⟩, by simp only [intOf]; omega⟩

theorem ok_of {l : List ByteArray} (hR : RegOk l 8) {n : C2} (hn : hasB l n.1 n.2 = true) : okC n := by
  have := has_small hR hn
  exact ⟨⟨by omega, by omega⟩, ⟨by omega, by omega⟩⟩
theorem cells64 {l : List ByteArray} (hR : RegOk l 8) : (cellsB l).length ≤ 64 := by
  have h1 := cellsP_le l l.length
  have h2 : l.length * (l.getD 0 dB).size ≤ 8 * 8 := Nat.mul_le_mul hR.len.2 hR.wid.2
  exact Nat.le_trans h1 h2

set_option maxRecDepth 100000 in
set_option maxHeartbeats 2000000 in
theorem r14_1 {l : List ByteArray} {μ : Mate} {S : C2 → Prop} {out : List C2} {k b6 mb : Nat} {t9 t46 : Value} {ns : List C2} {w0 w1 : World} {next : Value → Value → World → Prop} (hR : RegOk l 8) (hM : Mt (fun n => hasB l n.1 n.2 = true) μ)
    (hS : ∀ c, S c → hasB l c.1 c.2 = true) (h6 : w0.heap[b6]? = some (.cells #[.map (some mb)] 87 (0, 0))) (hm : MapM w0 mb μ) (hO : ClAt w0.heap.size w1 t9 out) (hn : ClAt w0.heap.size w1 t46 ns) (hsep : ∀ a, t46.ownBlock = some a → t9.ownBlock ≠ some a) (k1 : Kp w0 w1)
    (hnd : out.Pairwise (· ≠ ·)) (hoS : ∀ x ∈ out, S x) (hns : ∀ n ∈ ns, hasB l n.1 n.2 = true ∧ ∃ m, μ n = some m ∧ S m) (hk8 : k ≤ 1000) (hns4 : ns.length ≤ 4)
    (hnext : ∀ t w' ex, ClAt w0.heap.size w' t (out ++ ex) → Kp w0 w' → (out ++ ex).Pairwise (· ≠ ·) → (∀ x ∈ out ++ ex, S x) → (∀ n ∈ ns, ∃ m, μ n = some m ∧ m ∈ out ++ ex) → next t (.int .i64 ((k : Int) + 1)) w') :
    S14L1 (ptrV b6) t9 (.int .i64 k) t46 (.int .i64 ns.length) next w1 := by
  have hc64 := cells64 hR
  unfold S14L1
  refine ⟨fun t9' t48 wr => ∃ (j : Nat) (ex : List C2), j ≤ ns.length ∧ t48 = .int .i64 j ∧ ClAt w0.heap.size wr t9' (out ++ ex) ∧ ClAt w0.heap.size wr t46 ns ∧ (∀ a, t46.ownBlock = some a → t9'.ownBlock ≠ some a) ∧ Kp w0 wr ∧ (out ++ ex).Pairwise (· ≠ ·) ∧ (∀ x ∈ out ++ ex, S x) ∧ (∀ i, i < j → ∃ m, μ (ns.getD i (0, 0)) = some m ∧ m ∈ out ++ ex),
    fun _ t48 _ => ns.length - (intOf t48).toNat, ⟨0, [], by omega, rfl, by simpa using hO, hn, hsep, k1, by simpa using hnd, by simpa using hoS, fun i hi => by omega⟩, ?_⟩
  rintro _ t9' _ wr ⟨j, ex, hj, rfl, hO, hn, hsep, kr, hnd, hoS, hdone⟩
  have hol : (out ++ ex).length ≤ 64 := Nat.le_trans (nodup_len hnd fun x hx => cellsB_mem.2 (hS x (hoS x hx))) hc64
  by_cases hlt : j < ns.length
  case neg =>
    have hlt' : ¬ (j : Int) < (ns.length : Int) := by omega
    rw [r_lss, decide_eq_false hlt', r_condF, r_add _ _ (by omega) (by omega)]
    refine hnext t9' wr ex hO kr hnd hoS fun n hn' => ?_
    obtain ⟨i, hi, rfl⟩ := List.getElem_of_mem hn'
    have := hdone i (by omega)
    rwa [getD_lt _ _ _ hi] at this
  have hlt' : (j : Int) < (ns.length : Int) := by omega
  rw [r_lss, decide_eq_true hlt', r_condT, cell_at (hn.rd cC_len) hlt]
  obtain ⟨hnR, m, hmu, hSm⟩ := hns _ (getD_mem (d := (0, 0)) hlt)
  generalize hnd' : ns.getD j (0, 0) = n at *
  refine r_box fun b12 w2 e12 s12 h12 k2 => ?_
  have h12' : w2.heap[b12]? = some (.cells #[.int .i64 0, .int .i64 0] 43 (0, 0)) := h12
  have szr := kr.size
  refine st43 h12' fun w3 c3 s3 h123 => ?_
  have kr3 : Kp wr w3 := Kp.of_chg k2 c3 fun q e => by omega
  have k03 := Kp.trans kr kr3
  rw [r_ld (cell1 (block_below h6 k03)), c_box h123, r_lkO keyC und87 zero43 (hm.kp k03) (ok_of hR hnR), hmu]
  have ev : (Option.map cV (some m)).getD (cV (0, 0)) = cV m := rfl
  rw [ev]
  refine r_box fun b13 w4 e13 s13 h13 k4 => ?_
  have h13' : w4.heap[b13]? = some (.cells #[.int .i64 0, .int .i64 0] 43 (0, 0)) := h13
  have sz3 := kr3.size
  refine st43 h13' fun w5 c5 s5 h135 => ?_
  have k35 : Kp w3 w5 := Kp.of_chg k4 c5 fun q e => by omega
  have kr5 := Kp.trans kr3 k35
  have hO5 := RecAt.kp hO kr5
  rw [c_box h135]
  refine r_use fok38 (contains_calls (c := m) w5 (hO5.rd cC_len) (by omega)) rfl ?_
  rintro _ w6 ⟨rfl, k6⟩
  refine ⟨_, rfl, ?_⟩
  have kr6 := Kp.trans kr5 k6
  have k06 := Kp.trans kr kr6
  have hO6 := RecAt.kp hO kr6
  have hn6 := RecAt.kp hn kr6
  rw [r_not]
  by_cases hin : m ∈ out ++ ex
  · rw [decide_eq_true hin]
    simp only [Bool.not_true, Join, r_condF]
    rw [r_add _ _ (by omega) (by omega)]
    refine ⟨⟨j + 1, ex, by omega, by go_num, hO6, hn6, hsep, k06, hnd, hoS, fun i hi => ?_⟩, by simp only [intOf]; omega⟩
    by_cases e : i = j
    · rw [e, hnd']; exact ⟨m, hmu, hin⟩
    · exact hdone i (by omega)
  · rw [decide_eq_false hin]
    simp only [Bool.not_false, Join, r_condT]
    rw [c_box (block_below h135 k6)]
    have szk := k06.size
    refine r_pushRec (x := m) (ty := 39) slt39 cC_len rfl (bs39 _ _) (cC_one _) (by omega) hO6 (by omega) szk fun v' w7 o1 c1 hown => ?_
    rw [r_add _ _ (by omega) (by omega)]
    have hn7 : ClAt w0.heap.size w7 t46 ns := RecAt.chg hn6 c1 fun a ha e => hsep a ha e
    refine ⟨⟨j + 1, ex ++ [m], by omega, by go_num, by rw [← List.append_assoc]; exact o1, hn7, fun a ha e => ?_, Kp.of_chg k06 c1 fun q hq => (RecAt.lt hO6 hq).1, ?_, fun x hx => ?_, fun i hi => ?_⟩, by simp only [intOf]; omega⟩
    · rcases hown a e with h | h
      · exact hsep a ha h
      · have := (RecAt.lt hn6 ha).2
        omega
    · rw [← List.append_assoc, List.pairwise_append]
      refine ⟨hnd, List.pairwise_singleton _ _, fun a ha b hb e => ?_⟩
      rw [List.mem_singleton.1 hb] at e
      exact hin (by rw [← e]; exact ha)
    · rw [← List.append_assoc] at hx
      rcases List.mem_append.1 hx with h | h
      · exact hoS x h
      · rw [List.mem_singleton.1 h]; exact hSm
    · by_cases e : i = j
      · rw [e, hnd']; exact ⟨m, hmu, by simp⟩
      · obtain ⟨m', h1, h2⟩ := hdone i (by omega)
        refine ⟨m', h1, ?_⟩
        rw [← List.append_assoc]; exact List.mem_append_left _ h2

set_option maxRecDepth 100000 in
set_option maxHeartbeats 4000000 in
theorem Refute_calls {v : Value} {l : List ByteArray} (w : World) (hf : Wf w) (hr : RdB w v l) (hs : ∀ s ∈ l, s.size ≤ 9223372036854775807) :
    Calls Tryd.prog 14 #[v] w fun e w' => Kp w w' ∧ ∃ v' E, e = .returned (.tuple #[v', .int .i64 E]) ∧ ((E = 2 ∧ ofB 8 l = false) ∨ (E = 10 ∧ ofB 8 l = true) ∨ (E = 0 ∧ ofB 8 l = true ∧ ∃ out, ClAt w.heap.size w' v' out ∧ HallOut l out ∧ out.length ≤ 64)) := by
  obtain ⟨a, cap, ev, _⟩ := hr.len
  refine lift14 ?_
  unfold S14
  refine r_use fok21 (Of_calls w hr hs) rfl ?_
  rintro _ w1 ⟨rfl, k1⟩
  refine ⟨_, rfl, ?_⟩
  rw [r_ex2a, r_ex2b]
  refine r_box fun b4 w2 e4 s2 h4 k2 => ?_
  have h4' : w2.heap[b4]? = some (.cells #[.int .i64 0, .int .i64 0, .slice none 0 0] 63 (0, 0)) := h4
  have sz1 := k1.size
  cases hof : ofB 8 l with
  | false =>
    have hv : regV v l = rgV 0 0 nilS := by unfold regV; rw [hof]; rfl
    rw [hv]
    refine st63 h4' fun w3 c3 s3 h43 => ?_
    rw [r_not, Bool.not_false, r_condT]
    exact ⟨Kp.of_chg (Kp.trans k1 k2) c3 fun q e => by omega, _, _, rfl, .inl ⟨rfl, rfl⟩⟩
  | true =>
  have hv : regV v l = regW v l := by unfold regV; rw [hof]; rfl
  have hR := reg_ok hof
  rw [hv, ev]
  refine st63 h4' fun w3 c3 s3 h43 => ?_
  rw [← ev] at h43
  have k13 : Kp w1 w3 := Kp.of_chg k2 c3 fun q e => by omega
  have k03 := Kp.trans k1 k13
  rw [r_not, Bool.not_true, r_condF, rg_box h43]
  refine r_use fok35 (matched_calls w3 (hf.kp k03) (hr.kp k03) hR) rfl ?_
  rintro _ w4 ⟨k4, mb, μ, D, rfl, hm4, hmb, hMade⟩
  refine ⟨_, rfl, ?_⟩
  have k04 := Kp.trans k03 k4
  refine r_box fun b6 w5 e6 s5 h6 k5 => ?_
  have h6' : w5.heap[b6]? = some (.cells #[.map none] 87 (0, 0)) := h6
  have sz4 := k04.size
  refine st87 h6' fun w6 c6 s6 h66 => ?_
  have k46 : Kp w4 w6 := Kp.of_chg k5 c6 fun q e => by omega
  have k06 := Kp.trans k04 k46
  have h46 := block_below h43 (Kp.trans k4 k46)
  have hm6 := hm4.kp k46
  rw [rg_box h46]
  refine r_use fok24 (Cells_calls w6 (hr.kp k06) hR) rfl ?_
  rintro _ w7 ⟨k7, t24, rfl, hO⟩
  refine ⟨_, rfl, ?_⟩
  have k07 := Kp.trans k06 k7
  have hc64 := cells64 hR
  refine r_use fok36 (idx36_calls w7 (hO.rd cC_len) (by omega) (block_below h66 k7) (hm6.kp k7) fun c hc => ok_of hR (cellsB_mem.1 hc)) rfl ?_
  rintro _ w8 ⟨k8, p, rfl, hp⟩
  refine ⟨_, rfl, ?_⟩
  have k08 := Kp.trans k07 k8
  rcases hp with rfl | ⟨i, rfl, hi, hmu⟩
  · rw [r_lss, decide_eq_true (by omega), r_condT]
    exact ⟨k08, _, _, rfl, .inr (.inl ⟨rfl, rfl⟩)⟩
  have hO8 := RecAt.kp hO k8
  rw [r_lss, decide_eq_false (by omega), r_condF, cell_at (hO8.rd cC_len) hi, bs39]
  have huR := cellsB_mem.1 (getD_mem (d := (0, 0)) hi)
  generalize (cellsB l).getD i (0, 0) = u at *
  obtain ⟨S, hSu, hSR, hScl⟩ := hall_set hMade.mt hMade.dz hMade.all huR hmu
  have k9 : Kp w8 (w8.alloc (.cells (cV u).cells 43)) := below_alloc _
  have hone : ClAt w8.heap.size (w8.alloc (.cells (cV u).cells 43)) (.slice (some ⟨w8.heap.size, 0, none⟩) 1 1) [u] := rec_alloc cC_len [u] (by simp) w8
  have own1 : (Value.slice (some ⟨w8.heap.size, 0, none⟩) 1 1).ownBlock = some w8.heap.size := rfl
  generalize Value.slice (some ⟨w8.heap.size, 0, none⟩) 1 1 = t34 at *
  generalize w8.alloc (.cells (cV u).cells 43) = w9 at *
  unfold S14L0
  have h48 := block_below h46 (Kp.trans k7 k8)
  have h68 := block_below h66 (Kp.trans k7 k8)
  have hm8 := hm6.kp (Kp.trans k7 k8)
  refine ⟨fun t9 t10 wr => ∃ (out : List C2) (k : Nat), k ≤ out.length ∧ t10 = .int .i64 k ∧ ClAt w8.heap.size wr t9 out ∧ Kp w8 wr ∧ out.Pairwise (· ≠ ·) ∧ (∀ x ∈ out, S x) ∧ u ∈ out ∧ (∀ j, j < k → ∀ n : C2, hasB l n.1 n.2 = true → adjC (out.getD j (0, 0)) n → ∃ m, μ n = some m ∧ m ∈ out),
    fun _ t10 _ => 64 - (intOf t10).toNat, ⟨[u], 0, by simp, rfl, hone, k9, List.pairwise_singleton _ _, by simpa using hSu, by simp, fun j hj => by omega⟩, ?_⟩
  rintro _ t9 _ wr ⟨out, k, hk, rfl, hO9, kr, hnd, hoS, huo, hcl⟩
  have hol : out.length ≤ 64 := Nat.le_trans (nodup_len hnd fun x hx => cellsB_mem.2 (hSR x (hoS x hx)).1) hc64
  obtain ⟨qa, qc, eq, _⟩ := RecAt.len hO9
  have lnq : ∀ K : Value → Prop, ln1 t9 K = K (.int .i64 out.length) := fun K => by rw [eq]; rfl
  rw [lnq]
  have k0r := Kp.trans k08 kr
  by_cases hlt : k < out.length
  case neg =>
    have hlt' : ¬ (k : Int) < (out.length : Int) := by omega
    rw [r_lss, decide_eq_false hlt', r_condF]
    have h0l : 0 < out.length := List.length_pos_of_mem huo
    refine r_use fok39 (sortC_calls hO9 h0l (by omega)) rfl ?_
    rintro _ w10 ⟨rfl, out', hperm, _, hO10, c10⟩
    refine ⟨_, rfl, ?_⟩
    have k10 : Kp w w10 := Kp.of_chg k0r c10 fun q hq => by
      have := (RecAt.lt hO9 hq).1
      have := k08.size
      omega
    refine ⟨k10, _, _, rfl, .inr (.inr ⟨rfl, rfl, out', RecAt.down hO10 k08.size, ?_, by rw [hperm.length_eq]; exact hol⟩)⟩
    refine HallOut.perm hperm ⟨fun x hx => (hSR x (hoS x hx)).1, ⟨blackC u, fun x hx => (hSR x (hoS x hx)).2⟩, ?_⟩
    refine hall_sum (col := blackC u) hMade.mt (cellsB_nodup l) (fun x hx => cellsB_mem.1 hx) (fun x hx => cellsB_mem.2 hx) hnd (fun x hx => (hSR x (hoS x hx)).1) (fun x hx => (hSR x (hoS x hx)).2) huo hmu fun c hc n hn ha => ?_
    obtain ⟨j, hj, rfl⟩ := List.getElem_of_mem hc
    exact hcl j (by omega) n hn (by rw [getD_lt _ _ _ hj]; exact ha)
  have hlt' : (k : Int) < (out.length : Int) := by omega
  rw [r_lss, decide_eq_true hlt', r_condT]
  refine r_drew fun w10 k10 _ => ?_
  have kr10 := Kp.trans kr k10
  have hO10 := RecAt.kp hO9 k10
  rw [rg_box (block_below h48 kr10), cell_at (hO10.rd cC_len) hlt]
  have hck := hoS _ (getD_mem (d := (0, 0)) hlt)
  have hcR := has_small hR (hSR _ hck).1
  refine r_use fok26 (nb_calls (c := out.getD k (0, 0)) w10 (hf.kp (Kp.trans k08 kr10)) (hr.kp (Kp.trans k08 kr10)) hR (by omega)) rfl ?_
  rintro _ w11 ⟨k11, t46, rfl, hN⟩
  refine ⟨_, rfl, r_keep k11 ?_⟩
  have hO11 := RecAt.kp hO10 k11
  have kr11 := Kp.trans kr10 k11
  obtain ⟨na, nc, en, _⟩ := RecAt.len hN
  have lnn : ∀ K : Value → Prop, ln1 t46 K = K (.int .i64 (nbL l (out.getD k (0, 0))).length) := fun K => by rw [en]; rfl
  rw [lnn]
  have hn4 : (nbL l (out.getD k (0, 0))).length ≤ 4 := nbP_le l _ 4
  refine r14_1 (S := S) hR hMade.mt (fun c hc => (hSR c hc).1) h68 hm8 hO11 (RecAt.down hN kr10.size) (fun a ha e => ?_) kr11 hnd hoS (fun n hn => ?_) (by omega) hn4 fun t' w' ex g1 g2 g3 g4 g5 => ?_
  · have h1 := (RecAt.lt hN ha).1
    have h2 := (RecAt.lt hO10 e).2
    omega
  · obtain ⟨h1, h2⟩ := nbL_mem.1 hn
    exact ⟨h1, hScl _ n hck h1 h2⟩
  · have hle : (out ++ ex).length ≤ 64 := Nat.le_trans (nodup_len g3 fun x hx => cellsB_mem.2 (hSR x (g4 x hx)).1) hc64
    refine ⟨⟨out ++ ex, k + 1, by rw [List.length_append]; omega, by go_num, g1, g2, g3, g4, List.mem_append_left _ huo, fun j hj n hn ha => ?_⟩, by simp only [intOf]; omega⟩
    have hgj : (out ++ ex).getD j (0, 0) = out.getD j (0, 0) := by
      rw [List.getD_eq_getElem?_getD, List.getElem?_append_left (by omega), ← List.getD_eq_getElem?_getD]
    rw [hgj] at ha
    by_cases e : j = k
    · subst e; exact g5 n (nbL_mem.2 ⟨hn, ha⟩)
    · obtain ⟨m, h1, h2⟩ := hcl j (by omega) n hn ha
      exact ⟨m, h1, List.mem_append_left _ h2⟩

end Go.Proofs.YtbekeccfjmoonaaDoor
