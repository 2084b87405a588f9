/- Contracts: slices.Contains at integers, the Laplacian of the program. -/
import Derived.Test.YtkdcldbedbagjaaDoorKb
import Derived.Test.YtkdcldbedbagjaaDoorGb
set_option linter.all false
namespace Go.Proofs.YtkdcldbedbagjaaDoor
open Go.Lf Go.RowKit Go.Dt

/-- A wire's cells. -/
def wC (e : Int × Int) : List Value := [.int .i64 e.1, .int .i64 e.2]
def wN (e : Wr) : List Value := [.int .i64 e.1, .int .i64 e.2]
theorem wC_len (e : Int × Int) : (wC e).length = 2 := rfl
theorem wN_len (e : Wr) : (wN e).length = 2 := rfl
abbrev wV (a b : Int) : Value := .agg #[.int .i64 a, .int .i64 b]
abbrev netV (n : Int) (wv : Value) : Value := .agg #[.int .i64 n, wv]

theorem Rd.map {α β : Type} {m : Nat} {enc : α → List Value} {enc' : β → List Value} {f : α → β} {w : World} {v : Value} {l : List α} (h : Rd m enc w v l) (hf : ∀ x ∈ l, enc' (f x) = enc x) : Rd m enc' w v (l.map f) := by
  obtain ⟨a, cap, rfl, hl, hh⟩ := h
  refine ⟨a, cap, by rw [List.length_map], by rw [List.length_map]; exact hl, fun h0 => ?_⟩
  rw [List.length_map] at h0
  obtain ⟨b, off, rfl, hc⟩ := hh h0
  refine ⟨b, off, rfl, fun i x hi j u hu => ?_⟩
  rw [List.getElem?_map] at hi
  obtain ⟨y, hy, rfl⟩ := Option.map_eq_some_iff.1 hi
  rw [hf y (List.mem_of_getElem? hy)] at hu
  exact hc i y hy j u hu

set_option maxRecDepth 100000 in
theorem index_calls {v : Value} {l : List Int} {x : Int} (w : World) (hr : RdInts w v l) (hl : l.length ≤ 1000) : Calls Tryd.prog 99 #[v, .int .i64 x] w fun e w' => w = w' ∧ ∃ p : Int, e = .returned (.int .i64 p) ∧ (0 ≤ p ↔ x ∈ l) := by
  obtain ⟨a, cap, ev, _, _⟩ := hr.len
  have lnv : ∀ K : Value → Prop, ln1 v K = K (.int .i64 l.length) := fun K => by rw [ev]; rfl
  refine lift99 ?_
  unfold S99 S99L0
  rw [lnv]
  refine ⟨fun t8 wr => ∃ j : Nat, j ≤ l.length ∧ t8 = .int .i64 j ∧ (x ∉ l.take j) ∧ w = wr, fun t8 _ => l.length - (intOf t8).toNat, ⟨0, by omega, rfl, by simp, rfl⟩, ?_⟩
  rintro _ _ _ ⟨j, hj, rfl, hz, rfl⟩
  by_cases hlt : j < l.length
  case neg =>
    have hlt' : ¬ (j : Int) < (l.length : Int) := by omega
    simp only [r_lss, hlt', decide_false, r_condF]
    rw [List.take_of_length_le (by omega)] at hz
    exact ⟨by first | rfl | trivial, _, rfl, ⟨fun h => by omega, fun h => absurd h hz⟩⟩
  have hlt' : (j : Int) < (l.length : Int) := by omega
  simp only [r_lss, decide_eq_true hlt', r_condT]
  rw [ints_ldK hr hlt, r_eql]
  by_cases h0 : x = l.getD j 0
  · simp only [decide_eq_true h0, r_condT]
    exact ⟨by first | rfl | trivial, _, rfl, ⟨fun _ => by rw [h0]; exact getD_mem hlt, fun _ => by omega⟩⟩
  · simp only [h0, decide_false, r_condF]
    rw [r_add _ _ (by omega) (by omega)]
    refine ⟨⟨j + 1, by omega, by go_num, fun hm => ?_, by first | rfl | trivial⟩, by simp only [intOf]; omega⟩
    rw [take_succ' _ _ hlt] at hm
    rcases List.mem_append.1 hm with h | h
    · exact hz h
    · simp at h
      rw [getD_lt _ _ _ hlt] at h0
      exact h0 h
theorem contains_calls {v : Value} {l : List Int} {x : Int} (w : World) (hr : RdInts w v l) (hl : l.length ≤ 1000) : Calls Tryd.prog 86 #[v, .int .i64 x] w fun e w' => w = w' ∧ e = .returned (.bool (decide (x ∈ l))) := by
  refine lift86 ?_
  unfold S86
  refine r_use fok99 (index_calls w hr hl) rfl ?_
  rintro _ _ ⟨rfl, p, rfl, hp⟩
  refine ⟨_, rfl, ?_⟩
  rw [r_geq]
  exact ⟨rfl, ret_bool (decide_eq_decide.2 hp)⟩

/-- The numbers below n that are not to be left out. -/
def keepN (n : Nat) (wo : List Int) : List Nat := (List.range n).filter fun i => !decide ((i : Int) ∈ wo)
/-- A matrix without some rows and columns. -/
def redM (n : Nat) (wo : List Int) (f : Nat → Nat → Int) : List (List Int) := (keepN n wo).map fun i => (keepN n wo).map fun j => f i j
theorem keepN_succ (n : Nat) (wo : List Int) : keepN (n + 1) wo = keepN n wo ++ if (n : Int) ∈ wo then [] else [n] := by
  unfold keepN
  rw [List.range_succ, List.filter_append]
  congr 1
  by_cases h : (n : Int) ∈ wo
  · rw [if_pos h]; simp [h]
  · rw [if_neg h]; simp [h]
theorem keepN_le (n : Nat) (wo : List Int) : (keepN n wo).length ≤ n := by
  have := List.length_filter_le (fun i : Nat => !decide ((i : Int) ∈ wo)) (List.range n)
  rwa [List.length_range] at this

/-- Rows of zeros, as far as they are made. -/
structure Part (base : Nat) (w : World) (v : Value) (vs : List Value) (n k : Nat) : Prop where
  out : RecAt 34 1 vE base w v vs
  len : vs.length = n
  rows : ∀ (i : Nat) u, i < k → vs[i]? = some u → IntsAt base w u (List.replicate n 0)
  apart : ∀ (i j : Nat) u u' q, i < k → j < k → vs[i]? = some u → vs[j]? = some u' → u.ownBlock = some q → u'.ownBlock = some q → i = j

theorem zeros_hat (n a b : Nat) : hat (List.replicate n (List.replicate n 0)) a b = 0 := by
  unfold hat
  rw [List.getD_eq_getElem?_getD (l := List.replicate n (List.replicate n 0)), List.getElem?_replicate]
  split
  · rw [List.getD_eq_getElem?_getD, Option.getD_some, List.getElem?_replicate]; split <;> rfl
  · simp
theorem zeros_sized (n : Nat) : Sized n n (List.replicate n (List.replicate n 0)) := ⟨by simp, fun i hi => by
  rw [List.getD_eq_getElem?_getD, List.getElem?_replicate, if_pos hi]; simp⟩

theorem lap_abs {l : List Wr} {n : Nat} (hl : Wf n l) (i j : Nat) : (lap l i j).natAbs ≤ l.length := by
  induction l with
  | nil => exact Nat.le_refl _
  | cons e l ih =>
    have h1 := ih hl.tail
    have he := hl e (List.mem_cons_self ..)
    have h2 : (ends e i * ends e j).natAbs ≤ 1 := by
      have b : ∀ i, (ends e i).natAbs ≤ 1 := fun i => by
        unfold ends unit
        split <;> split <;> (try omega) <;> simp
      rw [Int.natAbs_mul]
      exact Nat.mul_le_mul (b i) (b j)
    simp only [lap, List.length_cons]
    omega
theorem lap_snoc (l : List Wr) (e : Wr) (i j : Nat) : lap (l ++ [e]) i j = lap l i j + ends e i * ends e j := by
  rw [lap_perm (List.perm_append_singleton e l)]; rfl

/-- An entry turns by d. -/
theorem IMat.bump {base : Nat} {w : World} {v : Value} {R : List (List Int)} {n : Nat} (h : IMat base w v R) (hs : Sized n n R) {i j : Nat} (hi : i < n) (hj : j < n) {f : Nat → Nat → Int} (hf : ∀ a b, a < n → b < n → hat R a b = f a b) :
    ∃ u d, (∀ K : Value → Prop, (iaS 1 v (.int .i64 i) fun p => ld1 w p K) = K u) ∧ (∀ K : Value → Prop, iaS 1 u (.int .i64 j) K = K (.pointer (some ⟨d, j, none⟩))) ∧ w.cell? ⟨d, j, none⟩ = some (.int .i64 (f i j)) ∧ w.frozen? ⟨d, j, none⟩ = false ∧ base ≤ d ∧ (∃ cur, w.heap[d]? = some (.cells cur 3 (0, 0))) ∧
      ∀ x, ∃ R', IMat base (w.setCell ⟨d, j, none⟩ (.int .i64 x)) v R' ∧ Sized n n R' ∧ ∀ a b, a < n → b < n → hat R' a b = if a = i ∧ b = j then x else f a b := by
  obtain ⟨vs, h⟩ := h
  have hlen := hs.1
  have hrow := hs.2 i hi
  obtain ⟨u0, hu0, I0, _⟩ := h.ldK (i := i) (by omega)
  obtain ⟨g, cap, q, c, ev, hcell, _, hbq, hq, hfr, ⟨u', hu', hd'⟩, hput⟩ := h.put (i := i) (j := j) (by omega) (by omega)
  have hii : (i : Int).toNat = i := by omega
  have hjj : (j : Int).toNat = j := by omega
  refine ⟨.slice (some ⟨q, 0, none⟩) (R.getD i []).length c, q, fun K => ?_, fun K => ?_, by rw [hq, hf i j hi hj], hfr, hbq, own_type I0 (by rw [hu0] at hu'; cases hu'; exact hd'), fun x => ⟨_, ⟨vs, hput x⟩, put2_sized hs hi x, fun a b ha hb => ?_⟩⟩
  · rw [ev, r_iaS _ _ _ _ _ _ _ (by omega) (by omega), hii, Nat.mul_one, Nat.zero_add, r_ld hcell]
  · rw [r_iaS _ _ _ _ _ _ _ (by omega) (by omega), hjj, Nat.mul_one, Nat.zero_add]
  · rw [put2_hat _ _ _ _ _ _ (by omega) (by omega)]
    by_cases e : a = i ∧ b = j
    · rw [if_pos e, if_pos e]
    · rw [if_neg e, if_neg e, hf a b ha hb]

end Go.Proofs.YtkdcldbedbagjaaDoor
