/- Contracts: Empty, Next, Heap of the specification. -/
import Derived.Test.YtaephdjmpmbfpaaC2
import Derived.Test.YtaephdjmpmbfpaaOwn
set_option linter.all false
namespace Go.Proofs.Ytaephdjmpmbfpaa
open Go.Lf Go.RowKit Go.Hp

/-- v reads as h, in memory that is new since w. -/
def NewRows (w w' : World) (v : Value) (h : List (List Int)) : Prop := ∃ g bs, OwnRows w' v g bs h ∧ w.heap.size ≤ g ∧ ∀ i, i < h.length → w.heap.size ≤ bs i

theorem NewRows.rd {w w' : World} {v : Value} {h : List (List Int)} (n : NewRows w w' v h) : RdRows w' v h := let ⟨_, _, o, _⟩ := n; o.rd

theorem owned_outer {w : World} {base n size : Nat} {e : TypeId} {v : Value} {xs : List Value} (h : w.ownsRow base e size v n xs) (h0 : 0 < n) :
    ∃ g cap cur, v = .slice (some ⟨g, 0, none⟩) n cap ∧ base ≤ g ∧ w.heap[g]? = some (.cells cur e (0, 0)) ∧ ∀ i, i < n * size → cur[i]? = xs[i]? := by
  rcases h.2 with ⟨_, rfl⟩ | ⟨g, cap, cur, rfl, hb, hg, hle, _, hs, ht⟩
  · cases h0
  · refine ⟨g, cap, cur, rfl, hb, hg, fun i hi => ?_⟩
    rw [← ht, List.getElem?_take, if_pos hi]
    simp

/-- An outer slice of one's own, whose elements are rows of integers, each in its own block. -/
theorem ownRows_of {w : World} {base : Nat} {v : Value} {h : List (List Int)} {bs cs : Nat → Nat} (ho : w.ownsRow base 36 1 v h.length ((List.range h.length).map fun i => .slice (some ⟨bs i, 0, none⟩) (h.getD i []).length (cs i)))
    (h0 : 0 < h.length) (hr : ∀ i, i < h.length → ∃ cur, w.heap[bs i]? = some (.cells cur 3 (0, 0)) ∧ ∀ j, j < (h.getD i []).length → cur[j]? = some (.int .i64 ((h.getD i []).getD j 0)))
    (hap : ∀ i k, i < h.length → k < h.length → i ≠ k → bs i ≠ bs k) (hs : h.length ≤ 17592186044416 ∧ ∀ i, i < h.length → (h.getD i []).length ≤ 17592186044416) :
    ∃ g, base ≤ g ∧ OwnRows w v g bs h := by
  obtain ⟨g, cap, cur, rfl, hb, hg, hc⟩ := owned_outer ho h0
  refine ⟨g, hb, ⟨cap, cur, rfl, hg, fun i hi => ⟨cs i, ?_⟩⟩, hr, hap, fun i hi e => ?_, hs⟩
  · rw [hc i (by omega)]
    simp [hi]
  · obtain ⟨rc, h1, _⟩ := hr i hi
    rw [e, hg] at h1
    simp at h1

set_option maxRecDepth 100000 in
theorem empty_calls (A B : Nat) (C : Int) (w : World) (hA0 : 0 < A) (hA : A ≤ 1000000) (hB : B ≤ 1000000) :
    Calls Try.prog 66 #[boxV A B C] w fun e w' => ∃ v, e = .returned v ∧ Kp w w' ∧ NewRows w w' v (List.replicate A (List.replicate B 0)) := by
  refine lift66 ?_
  unfold S66
  refine r_box fun b w1 hbw hsz hb hk => ?_
  obtain ⟨c0, c1, c2⟩ := box3 hb
  refine ⟨fun t3 t4 wr => ∃ i : Nat, i ≤ A ∧ t4 = .int .i64 i ∧ Kp w1 wr ∧ ∃ bs : Nat → Nat, wr.ownsRow w1.heap.size 36 1 t3 i ((List.range i).map fun k => .slice (some ⟨bs k, 0, none⟩) B B) ∧
      (∀ k, k < i → wr.heap[bs k]? = some (.cells (Array.replicate B (.int .i64 0)) 3 (0, 0)) ∧ w1.heap.size ≤ bs k) ∧ ∀ k l, k < i → l < i → k ≠ l → bs k ≠ bs l,
    fun _ t4 _ => A - (intOf t4).toNat, ⟨0, by omega, rfl, Kp.refl _, fun _ => 0, World.ownsRow_nil _ _ _ _, by omega, by omega⟩, ?_⟩
  rintro _ t3 _ wr ⟨i, hi, rfl, hk1, bs, hown, hbs, hap⟩
  have d0 := cell_later hk1 c0
  have d1 := cell_later hk1 c1
  by_cases hlt : i < A
  case neg =>
    have hlt' : ¬ (i : Int) < A := by omega
    simp only [r_ln, r_pick, r_pickT, r_pickF, r_condT, r_condF, r_gdTT, r_gdFF, r_gdTF, r_gdFT, r_gqTT, r_gqFF, r_gqTF, r_gqFT, r_not, r_lss, r_leq, r_gtr, r_geq, r_eql, r_neq, r_add, r_sub, r_min2, r_max2, r_min3, r_max3, r_fa, r_iaS, r_iaA, r_ex2a, r_ex2b, r_ex3a, r_ex3b, r_ex3c, r_nc, r_keepE, Nat.zero_add, Nat.add_zero, Nat.mul_one, Int.toNat_natCast, toNat_sub1, toNat_add1, decide_true, decide_false, Bool.not_true, Bool.not_false, if_true, if_false, Bool.false_eq_true, reduceCtorEq, r_ld d0, hlt']
    have hiA : i = A := by omega
    subst hiA
    have e : ∀ k, k < i → (List.replicate i (List.replicate B (0 : Int))).getD k [] = List.replicate B 0 := fun k hk => by simp [hk]
    obtain ⟨g, hg, ho⟩ := ownRows_of (w := wr) (base := w1.heap.size) (v := t3) (h := List.replicate i (List.replicate B 0)) (bs := bs) (cs := fun _ => B)
      (by
        have : ((List.range (List.replicate i (List.replicate B (0 : Int))).length).map fun k => Value.slice (some ⟨bs k, 0, none⟩) ((List.replicate i (List.replicate B (0 : Int))).getD k []).length B) = (List.range i).map fun k => .slice (some ⟨bs k, 0, none⟩) B B := by
          rw [List.length_replicate]
          refine List.map_congr_left fun k hk => ?_
          rw [e k (by simpa using hk), List.length_replicate]
        rw [this, List.length_replicate]
        exact hown) (by simpa using hA0)
      (fun k hk' => by
        rw [List.length_replicate] at hk'
        refine ⟨_, (hbs k hk').1, fun j hj => ?_⟩
        rw [e k hk'] at hj ⊢
        rw [List.length_replicate] at hj
        simp [hj])
      (fun k l hk hl => hap k l (by simpa using hk) (by simpa using hl))
      ⟨by rw [List.length_replicate]; omega, fun k hk' => by rw [e k (by simpa using hk'), List.length_replicate]; omega⟩
    exact ⟨t3, rfl, Kp.trans hk hk1, g, bs, ho, by omega, fun k hk' => by have := (hbs k (by simpa using hk')).2; omega⟩
  have hlt' : (i : Int) < A := by omega
  simp only [r_ln, r_pick, r_pickT, r_pickF, r_condT, r_condF, r_gdTT, r_gdFF, r_gdTF, r_gdFT, r_gqTT, r_gqFF, r_gqTF, r_gqFT, r_not, r_lss, r_leq, r_gtr, r_geq, r_eql, r_neq, r_add, r_sub, r_min2, r_max2, r_min3, r_max3, r_fa, r_iaS, r_iaA, r_ex2a, r_ex2b, r_ex3a, r_ex3b, r_ex3c, r_nc, r_keepE, Nat.zero_add, Nat.add_zero, Nat.mul_one, Int.toNat_natCast, toNat_sub1, toNat_add1, decide_true, decide_false, Bool.not_true, Bool.not_false, if_true, if_false, Bool.false_eq_true, reduceCtorEq, r_ld d0, r_ld d1, hlt']
  refine mk36 (by omega) ?_
  have hk2 : Kp wr (wr.alloc (.cells (Array.replicate B (.int .i64 0)) 3)) := below_alloc _
  have hsz2 : (wr.alloc (.cells (Array.replicate B (.int .i64 0)) 3)).heap.size = wr.heap.size + 1 := by show (wr.heap.push _).size = _; simp
  have hnb := heap_alloc_new wr (.cells (Array.replicate B (.int .i64 0)) 3)
  generalize wr.alloc (.cells (Array.replicate B (.int .i64 0)) 3) = w2 at *
  have hown2 := owns_kp hown hk2
  have hle := hk1.size
  refine r_push slt26 (bs26 _ _ _ _) rfl (by intro u hu; simp [Value.cells] at hu; subst hu; rfl) hown2 (by omega) (by omega) (by omega) fun v' w3 ho3 hg3 => ?_
  simp (disch := omega) only [r_ln, r_pick, r_pickT, r_pickF, r_condT, r_condF, r_gdTT, r_gdFF, r_gdTF, r_gdFT, r_gqTT, r_gqFF, r_gqTF, r_gqFT, r_not, r_lss, r_leq, r_gtr, r_geq, r_eql, r_neq, r_add, r_sub, r_min2, r_max2, r_min3, r_max3, r_fa, r_iaS, r_iaA, r_ex2a, r_ex2b, r_ex3a, r_ex3b, r_ex3c, r_nc, r_keepE, Nat.zero_add, Nat.add_zero, Nat.mul_one, Int.toNat_natCast, toNat_sub1, toNat_add1, decide_true, decide_false, Bool.not_true, Bool.not_false, if_true, if_false, Bool.false_eq_true, reduceCtorEq]
  have hold : ∀ k (o : Array Value), w2.heap[k]? = some (Obj.cells o 3 (0, 0)) → w3.heap[k]? = some (Obj.cells o 3 (0, 0)) := fun k o hko => by
    rw [hg3.block k (block_lt hko) fun e => ?_]
    · exact hko
    · rcases hown2.2 with ⟨rfl, _⟩ | ⟨g, cap, cur, rfl, _, hgg, _⟩
      · simp [Value.ownBlock] at e
      · simp [Value.ownBlock] at e
        subst e
        rw [hgg] at hko
        simp at hko
  have hk3 : Kp w1 w3 := by
    refine Below.grown (Kp.trans hk1 hk2) hg3 (by omega) fun k hk' => ?_
    exact (hown.lt k hk').1
  refine ⟨⟨i + 1, by omega, by go_num, hk3, fun k => if k < i then bs k else wr.heap.size, ?_, fun k hk' => ?_, fun k l hk' hl hne => ?_⟩, by simp only [intOf]; omega⟩
  · rw [List.range_succ, List.map_append]
    have e1 : ((List.range i).map fun k => Value.slice (some ⟨if k < i then bs k else wr.heap.size, 0, none⟩) B B) = (List.range i).map fun k => .slice (some ⟨bs k, 0, none⟩) B B :=
      List.map_congr_left fun k hk' => by rw [if_pos (by simpa using hk')]
    rw [e1]
    simpa [Value.cells] using ho3
  · dsimp only
    by_cases hki : k < i
    · rw [if_pos hki]
      exact ⟨hold _ _ (block_below (hbs k hki).1 hk2), (hbs k hki).2⟩
    · rw [if_neg hki]
      exact ⟨hold _ _ hnb, by omega⟩
  · dsimp only
    by_cases hki : k < i <;> by_cases hli : l < i
    · rw [if_pos hki, if_pos hli]; exact hap k l hki hli hne
    · rw [if_pos hki, if_neg hli]; have := block_lt (hbs k hki).1; omega
    · rw [if_neg hki, if_pos hli]; have := block_lt (hbs l hli).1; omega
    · omega

end Go.Proofs.Ytaephdjmpmbfpaa
