/- Corners and volumes of heaps; equality of cells. -/
import Derived.Test.YtaephdjmpmbfpaaK1
import Derived.Laws.StructEq
set_option linter.all false
namespace Go.Proofs.Ytaephdjmpmbfpaa
open Go.Lf Go.RowKit Go.Hp

theorem sumTo_pos {f : Nat → Int} : ∀ {n k : Nat}, (∀ i, i < n → 0 ≤ f i) → k < n → f k ≤ sumTo f n
  | n + 1, k, h, hk => by
    rw [sumTo]
    have h0 := h n (by omega)
    have hs : 0 ≤ sumTo f n := by
      clear hk h0
      induction n with
      | zero => exact Int.le_refl 0
      | succ n ih =>
        rw [sumTo]
        have := ih fun i hi => h i (by omega)
        have := h n (by omega)
        omega
    by_cases e : k = n
    · subst e; omega
    · have := sumTo_pos (n := n) (fun i hi => h i (by omega)) (k := k) (by omega); omega

theorem sumTo_upd {f f' : Nat → Int} : ∀ {n i : Nat}, i < n → (∀ k, k < n → k ≠ i → f' k = f k) → sumTo f' n = sumTo f n - f i + f' i
  | n + 1, i, hi, h => by
    rw [sumTo, sumTo]
    by_cases e : i = n
    · subst e
      rw [sumTo_congr fun k hk => h k (by omega) (by omega)]
      omega
    · rw [sumTo_upd (n := n) (i := i) (by omega) fun k hk hn => h k (by omega) hn, h n (by omega) (Ne.symm e)]
      omega

theorem hat_le_vol {A B C : Nat} {h : List (List Int)} (hh : IsHeap A B C h) {i j : Nat} (hi : i < A) (hj : j < B) : hat h i j ≤ volM h := by
  have hs := sized_of hh
  have p : ∀ i j, i < A → j < B → 0 ≤ hat h i j := fun i j hi hj => hh.pos i j (by rw [hs.1]; exact hi) (by omega)
  rw [vol_sumTo hs]
  have h1 := sumTo_pos (f := fun j => hat h i j) (n := B) (k := j) (fun k hk => p i k hi hk) hj
  have h2 := sumTo_pos (f := fun i => sumTo (fun j => hat h i j) B) (n := A) (k := i) (fun k hk => by
    refine Int.not_lt.1 fun hlt => ?_
    cases B with
    | zero => exact absurd hj (by omega)
    | succ B =>
      have h3 := sumTo_pos (f := fun j => hat h k j) (n := B + 1) (k := 0) (fun q hq => p k q hk hq) (by omega)
      have := p k 0 hk (by omega)
      omega) hi
  omega

theorem vol_put2 {A B : Nat} {h : List (List Int)} (hs : Sized A B h) {i j : Nat} (hi : i < A) (hj : j < B) (x : Int) : volM (put2 h i j x) = volM h - hat h i j + x := by
  have hat' : ∀ k l, hat (put2 h i j x) k l = if k = i ∧ l = j then x else hat h k l := fun k l => put2_hat h i j k l x (by rw [hs.1]; exact hi) (by rw [hs.2 i hi]; exact hj)
  rw [vol_sumTo (put2_sized hs hi x), vol_sumTo hs]
  rw [sumTo_upd (f := fun i => sumTo (fun j => hat h i j) B) hi fun k hk hn => sumTo_congr fun l hl => by rw [hat', if_neg fun e => hn e.1]]
  have e1 := sumTo_upd (f := fun l => hat h i l) (f' := fun l => hat (put2 h i j x) i l) hj fun l hl hn => by show hat (put2 h i j x) i l = hat h i l; rw [hat', if_neg fun e => hn e.2]
  have e2 := hat' i j
  rw [if_pos ⟨rfl, rfl⟩] at e2
  try dsimp only at e1
  try dsimp only
  omega

theorem mem_pl {A B i j : Nat} : (i, j) ∈ pl B (A * B) ↔ i < A ∧ j < B := by
  unfold pl
  simp only [List.mem_map, List.mem_range, Prod.mk.injEq]
  constructor
  · rintro ⟨p, hp, rfl, rfl⟩
    have hB : 0 < B := Nat.pos_of_ne_zero fun e => by subst e; simp at hp
    exact ⟨(Nat.div_lt_iff_lt_mul hB).2 hp, Nat.mod_lt _ hB⟩
  · rintro ⟨hi, hj⟩
    refine ⟨i * B + j, place_lt hi hj, ?_, ?_⟩
    · rw [Nat.add_comm, Nat.add_mul_div_right _ _ (by omega), Nat.div_eq_of_lt hj, Nat.zero_add]
    · rw [Nat.add_comm, Nat.add_mul_mod_self_right, Nat.mod_eq_of_lt hj]

theorem mem_takeL {A B : Nat} {h : List (List Int)} {i j : Nat} : (i, j) ∈ takeL A B h ↔ (i < A ∧ j < B) ∧ 0 < hat h i j ∧ (j + 1 = B ∨ hat h i (j + 1) < hat h i j) ∧ (i + 1 = A ∨ hat h (i + 1) j < hat h i j) := by
  unfold takeL
  rw [List.mem_filter, mem_pl]
  simp [takeB]
theorem mem_addL {A B : Nat} {C : Int} {h : List (List Int)} {i j : Nat} : (i, j) ∈ addL A B C h ↔ (i < A ∧ j < B) ∧ hat h i j < C ∧ (j = 0 ∨ hat h i j < hat h i (j - 1)) ∧ (i = 0 ∨ hat h i j < hat h (i - 1) j) := by
  unfold addL
  rw [List.mem_filter, mem_pl]
  simp [addB]

theorem takeL_of_pos {A B : Nat} {h : List (List Int)} : ∀ (n i j : Nat), (A - 1 - i) + (B - 1 - j) = n → i < A → j < B → 0 < hat h i j → takeL A B h ≠ [] := by
  intro n
  induction n using Nat.strongRecOn with
  | _ n ih =>
    intro i j hn hi hj hp
    by_cases h1 : j + 1 = B ∨ hat h i (j + 1) < hat h i j
    · by_cases h2 : i + 1 = A ∨ hat h (i + 1) j < hat h i j
      · exact List.ne_nil_of_mem (mem_takeL.2 ⟨⟨hi, hj⟩, hp, h1, h2⟩)
      · exact ih _ (by omega) (i + 1) j rfl (by omega) hj (by omega)
    · exact ih _ (by omega) i (j + 1) rfl hi (by omega) (by omega)

theorem takeL_ne {A B C : Nat} {h : List (List Int)} (hh : IsHeap A B C h) (hv : 0 < volM h) : takeL A B h ≠ [] := by
  have hs := sized_of hh
  by_cases hp : ∃ i j, i < A ∧ j < B ∧ 0 < hat h i j
  · obtain ⟨i, j, hi, hj, h0⟩ := hp
    exact takeL_of_pos _ i j rfl hi hj h0
  · exfalso
    rw [vol_sumTo hs, sumTo_congr (g := fun _ => 0) fun i hi => (sumTo_congr (g := fun _ => 0) fun j hj => by
      have := hh.pos i j (by rw [hs.1]; exact hi) (by omega)
      have : ¬ 0 < hat h i j := fun h0 => hp ⟨i, j, hi, hj, h0⟩
      omega).trans (sumTo_zero B), sumTo_zero] at hv
    omega

theorem takeL_zero {A B C : Nat} {h : List (List Int)} (hh : IsHeap A B C h) (hv : volM h = 0) : takeL A B h = [] := by
  refine List.eq_nil_iff_forall_not_mem.2 fun ⟨i, j⟩ hm => ?_
  obtain ⟨⟨hi, hj⟩, h0, _⟩ := mem_takeL.1 hm
  have := hat_le_vol hh hi hj
  omega

theorem addL_full {A B C : Nat} {h : List (List Int)} (hh : IsHeap A B C h) (hv : volM h = 0) : addL A B C (compM A B C h) = [] := by
  refine List.eq_nil_iff_forall_not_mem.2 fun ⟨i, j⟩ hm => ?_
  obtain ⟨⟨hi, hj⟩, h0, _⟩ := mem_addL.1 hm
  unfold compM at h0
  rw [tabM_hat hi hj] at h0
  have := hat_le_vol hh (i := A - 1 - i) (j := B - 1 - j) (by omega) (by omega)
  omega

theorem taken_heap {A B C : Nat} {h : List (List Int)} (hh : IsHeap A B C h) {i j : Nat} (hm : (i, j) ∈ takeL A B h) : IsHeap A B C (put2 h i j (hat h i j - 1)) ∧ (i, j) ∈ addL A B C (put2 h i j (hat h i j - 1)) := by
  have hs := sized_of hh
  obtain ⟨⟨hi, hj⟩, h0, h1, h2⟩ := mem_takeL.1 hm
  have hat' : ∀ k l, hat (put2 h i j (hat h i j - 1)) k l = if k = i ∧ l = j then hat h i j - 1 else hat h k l := fun k l => put2_hat h i j k l _ (by rw [hs.1]; exact hi) (by rw [hs.2 i hi]; exact hj)
  have hlen := put2_length h i j (hat h i j - 1)
  have hl := hs.1
  have ht := hh.top i j (by omega) (by omega)
  refine ⟨⟨by rw [hlen]; exact hh.len, fun k hk => by rw [put2_len _ _ _ _ _ (by omega)]; exact hh.row k (by omega), fun k l hk hl => ?_, fun k l hk hl => ?_, fun k l hk hl => ?_, fun k l hk hl => ?_⟩, mem_addL.2 ⟨⟨hi, hj⟩, ?_, ?_, ?_⟩⟩
  · rw [hat']
    have := hh.pos k l (by omega) hl
    split <;> omega
  · rw [hat']
    have := hh.top k l (by omega) hl
    split <;> omega
  · rw [hat', hat']
    have := hh.left k l (by omega) hl
    by_cases e1 : k = i ∧ l + 1 = j
    · rw [if_pos e1, if_neg (by omega)]
      obtain ⟨rfl, rfl⟩ := e1
      omega
    · rw [if_neg e1]
      by_cases e2 : k = i ∧ l = j
      · rw [if_pos e2]
        obtain ⟨rfl, rfl⟩ := e2
        omega
      · rw [if_neg e2]; exact this
  · rw [hat', hat']
    have := hh.up k l (by omega) hl
    by_cases e1 : k + 1 = i ∧ l = j
    · rw [if_pos e1, if_neg (by omega)]
      obtain ⟨rfl, rfl⟩ := e1
      omega
    · rw [if_neg e1]
      by_cases e2 : k = i ∧ l = j
      · rw [if_pos e2]
        obtain ⟨rfl, rfl⟩ := e2
        omega
      · rw [if_neg e2]; exact this
  · rw [hat', if_pos ⟨rfl, rfl⟩]; omega
  · rw [hat', if_pos ⟨rfl, rfl⟩, hat']
    by_cases e : j = 0
    · exact .inl e
    · right
      rw [if_neg (by omega)]
      have := hh.left i (j - 1) (by omega) (by omega)
      rw [show j - 1 + 1 = j by omega] at this
      omega
  · rw [hat', if_pos ⟨rfl, rfl⟩, hat']
    by_cases e : i = 0
    · exact .inl e
    · right
      rw [if_neg (by omega)]
      have := hh.up (i - 1) j (by omega) (by omega)
      rw [show i - 1 + 1 = i by omega] at this
      omega

/-! ### equality of cells -/

theorem eq35 (a b c d : Int) (w : World) : (Op.equalIn 10000 35 (.agg #[.int .i64 a, .int .i64 b]) (.agg #[.int .i64 c, .int .i64 d])).run Try.prog w = .ok (a == c && b == d) w := by
  have u3 := Try.underlying3
  have a3 := Try.isAgg3
  have z3 := Try.sizeOf3
  have hS : Try.prog.underlying 35 = some (.struct (Try.prog.fieldsOf 35)) := by kernel_rfl
  have hp : Try.prog.stoodInHeld 35 = false := by kernel_rfl
  rw [show (10000 : Nat) = 9999 + 1 from rfl, run_equalIn_agg w 9999 35 _ _ hS hp]
  simp only [Program.fieldsOf, Try.underlying35]
  go_simp
  by_cases h1 : a = c <;> by_cases h2 : b = d <;> simp [h1, h2]

theorem r_eq35 {w : World} {lit : Bool} (a b c d : Int) (K : Value → Prop) : binQ Try.prog w .eql 35 lit (.agg #[.int .i64 a, .int .i64 b]) (.agg #[.int .i64 c, .int .i64 d]) K = K (.bool (decide (a = c) && decide (b = d))) := by
  have hg : Try.prog.eqGuardType Try.prog.depth 35 = false := by kernel_rfl
  have hrun : ∀ w, (semBin .eql 35 lit (.agg #[.int .i64 a, .int .i64 b]) (.agg #[.int .i64 c, .int .i64 d])).run Try.prog w = .ok (.value (.bool (decide (a = c) && decide (b = d)))) w := fun w => by
    unfold semBin
    simp [run_eqGuard_agg w _ _ _ _ _ _ hg, run_eql_struct, eq35]
    by_cases h1 : a = c <;> by_cases h2 : b = d <;> simp [h1, h2]
  refine propext ⟨?_, fun h => ⟨_, fun w' _ => hrun w', h⟩⟩
  rintro ⟨v, hv, hk⟩
  have h1 := hv w (Below.refl _ _)
  rw [hrun] at h1
  injection h1 with h1 _
  injection h1 with h1
  rw [h1]; exact hk

theorem cellsOf_length : ∀ P : List (Nat × Nat), (cellsOf P).length = 2 * P.length
  | [] => rfl
  | p :: P => by
    have := cellsOf_length P
    simp only [cellsOf, List.flatMap_cons, List.length_append, List.length_cons, List.length_nil] at *
    omega
theorem cellsOf_drop : ∀ (P : List (Nat × Nat)) (q : Nat) (p : Nat × Nat), P[q]? = some p → ((cellsOf P).drop (q * 2)).take 2 = [.int .i64 (p.2 : Nat), .int .i64 (p.1 : Nat)]
  | p :: P, 0, _, h => by cases h; rfl
  | p' :: P, q + 1, p, h => by
    have := cellsOf_drop P q p (by simpa using h)
    rw [show (q + 1) * 2 = q * 2 + 2 by omega]
    simpa [cellsOf] using this

/-- Reading place q of a slice of places. -/
theorem CellsAt.at {base : Nat} {w : World} {v : Value} {P : List (Nat × Nat)} (h : CellsAt base w v P) {q : Nat} {p : Nat × Nat} (hq : P[q]? = some p) :
    ∃ g cap, v = .slice (some ⟨g, 0, none⟩) P.length cap ∧ q < P.length ∧ ∀ K : Value → Prop, ldN 2 w (.pointer (some ⟨g, q * 2, none⟩)) K = K (.agg #[.int .i64 (p.2 : Nat), .int .i64 (p.1 : Nat)]) := by
  have hlt : q < P.length := by
    rw [List.getElem?_eq_some_iff] at hq
    exact hq.1
  rcases h.2 with ⟨_, hn⟩ | ⟨g, cap, cur, e, _, hg, hle, hm, hsz, ht⟩
  · omega
  · refine ⟨g, cap, e, hlt, fun K => ?_⟩
    have hlen := cellsOf_length P
    have hl2 : (cur.toList.take (cellsOf P).length) = cellsOf P := by first | exact ht | (rw [hlen]; rw [Nat.mul_comm]; exact ht)
    refine r_ldAt hg ?_ ?_
    · have := congrArg List.length hl2
      rw [List.length_take] at this
      simp at this
      omega
    · rw [← cellsOf_drop P q p hq]
      conv => rhs; rw [← hl2]
      rw [List.drop_take, List.take_take, Nat.min_eq_left (by omega)]
theorem CellsAt.len {base : Nat} {w : World} {v : Value} {P : List (Nat × Nat)} (h : CellsAt base w v P) : ∃ a cap, v = .slice a P.length cap := by
  rcases h.2 with ⟨rfl, hn⟩ | ⟨g, cap, cur, e, _⟩
  · exact ⟨none, 0, by rw [hn]⟩
  · exact ⟨_, _, e⟩

end Go.Proofs.Ytaephdjmpmbfpaa
