/- Networks, plainly: potentials are numbers of forests; Kirchhoff's laws. No program. -/
import Derived.Test.YtkdcldbedbagjaaDoorGa
set_option linter.all false
namespace Go.Dt

theorem unit_rc {n : Nat} (m : Nat → Nat → Int) {r c : Nat} (hr : r < n) (hc : c < n) : det n (setCol m c (unit r)) = det n (setRow m r (unit c)) := by
  have e : setRow (setCol m c (unit r)) r (unit c) = tr (setRow (setCol (tr m) r (unit c)) c (unit r)) := by
    funext i j
    simp only [tr, setRow, setCol, unit]
    by_cases a : i = r
    · by_cases b : j = c
      · rw [if_pos a, if_pos a, if_pos b, if_pos b]
      · rw [if_pos a, if_neg b, if_neg b, if_pos a]
    · by_cases b : j = c
      · rw [if_neg a, if_pos b, if_pos b]
      · rw [if_neg a, if_neg b, if_neg b, if_neg a]
  rw [det_unit_both m hr hc, e, det_tr, ← det_unit_both (tr m) hc hr, det_setRow]

def one (t : Nat) : Nat → Bool := fun v => decide (v = t)
theorem one_self (t : Nat) : one t t = true := by simp [one]
theorem one_iff {t v : Nat} : one t v = true ↔ v = t := by simp [one]
theorem one_not {t v : Nat} (h : v ≠ t) : one t v = false := by simp [one, h]
theorem cnt_one {n t : Nat} (h : t < n) : cntS n (one t) = 1 := by
  have : one t = ins (fun _ => false) t := by funext v; simp [one, ins]
  rw [this, cnt_ins rfl h, cnt_none fun _ _ => rfl]

/-- Forests with the roots S and s in which v comes to s. -/
def RFv (n : Nat) (S : Nat → Bool) (s v : Nat) (l : List Wr) : Prop := RF n (ins S s) l ∧ Conn l v s
theorem PI_RFv (n : Nat) (S : Nat → Bool) (a b : Nat) : ∀ s s' : List Wr, s.Perm s' → RFv n S a b s → RFv n S a b s' := fun _ _ p h => ⟨h.1.perm p, h.2.mono fun _ he => p.subset he⟩

theorem RFv.flip {n : Nat} {S : Nat → Bool} {s v : Nat} {e : Wr} {l : List Wr} (h : RFv n S s v (e :: l)) : RFv n S s v ((e.2, e.1) :: l) := ⟨h.1.flip, h.2.flip⟩
theorem RFv.flip_iff {n : Nat} {S : Nat → Bool} {s v : Nat} {e : Wr} {l : List Wr} : RFv n S s v (e :: l) ↔ RFv n S s v ((e.2, e.1) :: l) := ⟨RFv.flip, fun h => by have := h.flip; exact this⟩
/-- A wire that leads out of S, to b. -/
theorem RFv.grow {n : Nat} {S : Nat → Bool} {s v : Nat} {e : Wr} {l : List Wr} (hl : Wf n (e :: l)) (hs : S s = false) (ls : s < n) (lv : v < n) (ha : S e.1 = true) (hb : S e.2 = false) (h1 : e.2 ≠ v) (h2 : e.2 ≠ s) :
    RFv n S s v (e :: l) ↔ RFv n (ins S e.2) s v l := by
  have he := hl e (List.mem_cons_self ..)
  have ha' : ins S s e.1 = true := ins_of ha
  have hb' : ins S s e.2 = false := by simp [ins, hb, h2]
  have hne : e.1 ≠ s := fun h => by rw [h, hs] at ha; cases ha
  unfold RFv
  rw [RF.grow hl ha' hb', ins_comm]
  constructor
  · rintro ⟨c1, c2⟩
    refine ⟨c1, ?_⟩
    have c3 : RF n (ins S s) (e :: l) := (RF.grow hl ha' hb').2 (by rw [ins_comm]; exact c1)
    rcases c2.first with h | h | h
    · exact h
    · exact absurd (h.symm.cons.trans c2) (c3.apart hl ha' (ins_self ..) he.1 ls hne)
    · exact absurd ((Conn.head e l).trans (h.symm.cons.trans c2)) (c3.apart hl ha' (ins_self ..) he.1 ls hne)
  · rintro ⟨c1, c2⟩
    exact ⟨c1, c2.cons⟩
theorem RFv.none {n : Nat} {S : Nat → Bool} {s v : Nat} {e : Wr} {l : List Wr} (hl : Wf n (e :: l)) (hs : S s = false) (ls : s < n) (ha : S e.1 = true) (h : e.2 = v ∨ e.2 = s) : ¬ RFv n S s v (e :: l) := fun ⟨c1, c2⟩ => by
  have he := hl e (List.mem_cons_self ..)
  have ha' : ins S s e.1 = true := ins_of ha
  have hne : e.1 ≠ s := fun h => by rw [h, hs] at ha; cases ha
  refine c1.apart hl ha' (ins_self ..) he.1 ls hne ?_
  rcases h with h | h
  · exact (Conn.head e l).trans (by rw [h]; exact c2)
  · exact h ▸ Conn.head e l

theorem allMinors_grow {n : Nat} {S : Nat → Bool} {s v : Nat} {e : Wr} {l : List Wr} (h1 : e.1 < n) (h2 : e.2 < n) (hv : S v = false) (ha : S e.1 = true) (hb : S e.2 = false) (hne2 : e.2 ≠ v) :
    det n (setCol (MS S (e :: l)) v (unit s)) = det n (setCol (MS S l) v (unit s)) + det n (setCol (MS (ins S e.2) l) v (unit s)) := by
  have hne : e.2 ≠ e.1 := fun h => by rw [h, ha] at hb; cases hb
  have hav : e.1 ≠ v := fun h => by rw [h, hv] at ha; cases ha
  rw [MS_grow ha hb, setCol_comm _ _ _ hne2, det_col_add _ _ _ h2, ← setCol_comm _ _ _ hne2, setCol_self]
  have e1 := det_addCol (n := n) (setCol (setCol (MS S l) v (unit s)) e.2 (unit e.2)) (-1) (unit e.1) h2 h1 hne fun i _ => by
    simp only [setCol, MS]; rw [if_neg (Ne.symm hne), if_neg hav, ha]; rfl
  rw [setCol_twice] at e1
  rw [← MS_ins S l e.2, setCol_comm _ _ _ hne2, ← e1]
  refine congrArg _ (congrArg _ (congrArg _ (funext fun i => ?_)))
  simp only [setCol, if_pos]

/-- The potentials: what Cramer's rule gives counts forests. -/
theorem allMinors {n : Nat} : ∀ (k : Nat) {l : List Wr} {S : Nat → Bool} {s v : Nat}, l.length = k → Wf n l → s < n → v < n → S s = false → S v = false →
    det n (setCol (MS S l) v (unit s)) = (cnt (RFv n S s v) l : Nat) := by
  intro k
  induction k with
  | zero =>
    intro l S s v hk hl ls lv hs hv
    obtain rfl : l = [] := List.length_eq_zero_iff.1 hk
    by_cases e : s = v
    · subst e
      rw [MS_ins, trees_det hl]
      refine congrArg _ (cnt_iff fun t _ => ⟨fun h => ⟨h, .refl _⟩, fun h => h.1⟩)
    · rw [cnt_false fun t ht h => by
        obtain rfl := List.sublist_nil.1 ht
        exact e h.2.nil.symm]
      rw [show setCol (MS S []) v (unit s) = setCol (setCol (MS S []) v (unit s)) s fun _ => 0 by
        funext i j
        simp only [setCol, MS]
        by_cases h : j = s
        · subst h; rw [if_neg e, if_pos rfl, hs]; rfl
        · rw [if_neg h]]
      exact det_col_zero _ ls
  | succ k ih =>
    intro l S s v hk hl ls lv hs hv
    by_cases hx : ∃ e ∈ l, S e.1 = true ∨ S e.2 = true
    · obtain ⟨e, he, h⟩ := hx
      have p := List.perm_cons_erase he
      have hl' := hl.perm p.symm
      have hlen : (l.erase e).length = k := by have := p.length_eq; rw [List.length_cons] at this; omega
      have b := hl' e (List.mem_cons_self ..)
      have e0 : MS S l = MS S (e :: l.erase e) := by unfold MS; rw [lap_perm p]
      rw [e0, cnt_perm p (PI_RFv n S s v)]
      generalize l.erase e = l' at *
      by_cases ha : S e.1 = true
      · by_cases hb : S e.2 = true
        · rw [MS_shut ha hb, ih hlen hl'.tail ls lv hs hv]
          conv => rhs; unfold cnt
          rw [cnt_false (P := fun t => RFv n S s v (e :: t)) fun t ht h => RF.shut (hl'.sub (ht.cons_cons e)) (ins_of ha) (ins_of hb) h.1]
          rfl
        · have hb : S e.2 = false := by simpa using hb
          conv => rhs; unfold cnt
          by_cases h1 : e.2 = v
          · rw [cnt_false (P := fun t => RFv n S s v (e :: t)) fun t ht => RFv.none (hl'.sub (ht.cons_cons e)) hs ls ha (.inl h1)]
            have : setCol (MS S (e :: l')) v (unit s) = setCol (MS S l') v (unit s) := by
              rw [MS_grow ha hb, h1, setCol_twice]
            rw [this, ih hlen hl'.tail ls lv hs hv]; rfl
          · rw [allMinors_grow b.1 b.2.1 hv ha hb h1, ih hlen hl'.tail ls lv hs hv]
            by_cases h2 : e.2 = s
            · rw [cnt_false (P := fun t => RFv n S s v (e :: t)) fun t ht => RFv.none (hl'.sub (ht.cons_cons e)) hs ls ha (.inr h2)]
              rw [det_same (c := e.2) (d := v) (setCol (MS (ins S e.2) l') v (unit s)) b.2.1 lv h1 fun i _ => by
                simp only [setCol, MS, if_neg h1, ins_self, if_true, h2]; exact (ite_self _)]
              rfl
            · rw [ih hlen hl'.tail ls lv (by simp [ins, hs, Ne.symm h2]) (by simp [ins, hv, Ne.symm h1])]
              rw [cnt_iff (P := fun t => RFv n S s v (e :: t)) fun t ht => RFv.grow (hl'.sub (ht.cons_cons e)) hs ls lv ha hb h1 h2]
              omega
      · have ha : S e.1 = false := by simpa using ha
        have hb : S e.2 = true := by rcases h with h | h; (rw [ha] at h; cases h); exact h
        rw [MS_flip]
        conv => rhs; unfold cnt
        rw [cnt_iff (P := fun t => RFv n S s v (e :: t)) fun t _ => RFv.flip_iff]
        have hf := hl'.flip
        by_cases h1 : e.1 = v
        · rw [cnt_false (P := fun t => RFv n S s v ((e.2, e.1) :: t)) fun t ht => RFv.none (hf.sub (ht.cons_cons _)) hs ls hb (.inl h1)]
          have : setCol (MS S ((e.2, e.1) :: l')) v (unit s) = setCol (MS S l') v (unit s) := by
            rw [MS_grow (e := (e.2, e.1)) hb ha]
            dsimp only
            rw [h1, setCol_twice]
          rw [this, ih hlen hl'.tail ls lv hs hv]; rfl
        · rw [allMinors_grow (e := (e.2, e.1)) b.2.1 b.1 hv hb ha h1, ih hlen hl'.tail ls lv hs hv]
          dsimp only
          by_cases h2 : e.1 = s
          · rw [cnt_false (P := fun t => RFv n S s v ((e.2, e.1) :: t)) fun t ht => RFv.none (hf.sub (ht.cons_cons _)) hs ls hb (.inr h2)]
            rw [det_same (c := e.1) (d := v) (setCol (MS (ins S e.1) l') v (unit s)) b.1 lv h1 fun i _ => by
              simp only [setCol, MS, if_neg h1, ins_self, if_true, h2]; exact (ite_self _)]
            rfl
          · rw [ih hlen hl'.tail ls lv (by simp [ins, hs, Ne.symm h2]) (by simp [ins, hv, Ne.symm h1])]
            rw [cnt_iff (P := fun t => RFv n S s v ((e.2, e.1) :: t)) fun t ht => RFv.grow (e := (e.2, e.1)) (hf.sub (ht.cons_cons _)) hs ls lv hb ha h1 h2]
            dsimp only
            omega
    · have hoff : ∀ e ∈ l, S e.1 = false ∧ S e.2 = false := fun e he => by
        refine ⟨?_, ?_⟩
        · cases h : S e.1 with
          | false => rfl
          | true => exact absurd ⟨e, he, .inl h⟩ hx
        · cases h : S e.2 with
          | false => rfl
          | true => exact absurd ⟨e, he, .inr h⟩ hx
      have hc : cnt (RFv n S s v) l = cnt (RF n (ins S s)) l := cnt_iff fun t ht => ⟨fun h => h.1, fun h => ⟨h, by
        obtain ⟨r, _, h2, h3⟩ := h.2 v lv
        have h4 := h3.off (fun x hx => hoff x (ht.subset hx)) hv
        rcases ins_iff.1 h2 with h2 | rfl
        · rw [h4] at h2; cases h2
        · exact h3⟩⟩
      rw [hc, ← trees_det hl, ← MS_ins]
      by_cases e : v = s
      · rw [e]
      · -- the columns outside S sum to nothing
        have h1 := det_combo (n := n) (setCol (MS S l) v (unit s)) (c := s) (fun j => if S j = true ∨ j = v then 0 else 1) ls
        rw [if_neg (by rw [hs]; simp [Ne.symm e]), Int.one_mul] at h1
        have h2 : (fun i => sumN (fun j => (if S j = true ∨ j = v then 0 else 1) * setCol (MS S l) v (unit s) i j) n) = fun i => -1 * MS S l i v := by
          funext i
          have h3 := free_sum hl hoff i
          have h4 : sumN (fun j => lap l i j * if S j = true then 0 else 1) n = sumN (fun j => (if S j = true ∨ j = v then 0 else 1) * setCol (MS S l) v (unit s) i j) n + sumN (fun j => if j = v then MS S l i v else 0) n := by
            rw [← sum_add]
            refine sum_congr fun j _ => ?_
            simp only [setCol, MS]
            by_cases a : j = v
            · subst a; simp [hv]
            · cases hj : S j <;> simp [a]
          rw [sum_one (f := fun j => if j = v then MS S l i v else 0) lv fun j _ hj => if_neg hj, if_pos rfl] at h4
          omega
        rw [h2, det_col_mul _ _ _ ls, det_exchange _ _ _ lv ls e, setCol_self] at h1
        omega

theorem lap_tot {n : Nat} {l : List Wr} (hl : Wf n l) (j : Nat) : sumN (fun i => lap l i j) n = 0 := by
  have h := lap_sum (n := n) (fun _ => 1) j hl
  rw [sum_congr (g := fun i => lap l j i * 1) fun i _ => by rw [lap_symm, Int.mul_one], h]
  induction l with
  | nil => rfl
  | cons e l ih =>
    rw [List.map_cons, List.sum_cons, ih hl.tail (lap_sum _ _ hl.tail)]; simp

/-- Spanning trees; those with two vertices as roots; the potential of v when what leaves s for t is the number of trees. -/
noncomputable def trees (n : Nat) (l : List Wr) : Nat := cnt (RF n (one 0)) l
noncomputable def volt (n : Nat) (l : List Wr) (s t : Nat) : Nat := cnt (RF n (ins (one t) s)) l
noncomputable def pot (n : Nat) (l : List Wr) (s t v : Nat) : Nat := if v = t then 0 else cnt (RFv n (one t) s v) l

theorem RF_one {n : Nat} {l : List Wr} {a b : Nat} (ha : a < n) (hb : b < n) (h : RF n (one a) l) : RF n (one b) l := by
  refine ⟨by have := h.1; rw [cnt_one ha] at this; rw [cnt_one hb]; exact this, fun v hv => ⟨b, hb, one_self b, ?_⟩⟩
  have f : ∀ x, x < n → Conn l x a := fun x hx => by
    obtain ⟨s, _, h2, h3⟩ := h.2 x hx
    rwa [one_iff.1 h2] at h3
  exact (f v hv).trans (f b hb).symm
theorem trees_at {n : Nat} {l : List Wr} {t : Nat} (ht : t < n) : cnt (RF n (one t)) l = trees n l :=
  cnt_iff fun _ _ => ⟨RF_one ht (by omega), RF_one (by omega) ht⟩
theorem det_trees {n : Nat} {l : List Wr} {t : Nat} (hl : Wf n l) (ht : t < n) : det n (MS (one t) l) = trees n l := by
  rw [trees_det hl, trees_at ht]
theorem det_volt {n : Nat} {l : List Wr} {s t : Nat} (hl : Wf n l) : det n (MS (ins (one t) s) l) = volt n l s t := trees_det hl
theorem det_pot {n : Nat} {l : List Wr} {s t v : Nat} (hl : Wf n l) (ls : s < n) (lv : v < n) (hst : s ≠ t) (hv : v ≠ t) : det n (setCol (MS (one t) l) v (unit s)) = pot n l s t v := by
  rw [allMinors _ rfl hl ls lv (one_not hst) (one_not hv)]
  unfold pot; rw [if_neg hv]
theorem pot_s {n : Nat} {l : List Wr} {s t : Nat} (hst : s ≠ t) : pot n l s t s = volt n l s t := by
  unfold pot volt
  rw [if_neg hst]
  exact cnt_iff fun _ _ => ⟨fun h => h.1, fun h => ⟨h, .refl _⟩⟩
theorem pot_t {n : Nat} {l : List Wr} {s t : Nat} : pot n l s t t = 0 := if_pos rfl
theorem pot_le {n : Nat} {l : List Wr} {s t v : Nat} : pot n l s t v ≤ volt n l s t := by
  unfold pot volt
  split
  · omega
  · exact cnt_mono fun _ _ h => h.1

/-- KIRCHHOFF'S LAW of currents, in potentials. -/
theorem pot_lap {n : Nat} {l : List Wr} {s t : Nat} (hl : Wf n l) (ls : s < n) (lt : t < n) (hst : s ≠ t) {i : Nat} (hi : i < n) :
    sumN (fun j => lap l i j * pot n l s t j) n = trees n l * (unit s i - unit t i) := by
  have main : ∀ i, i < n → i ≠ t → sumN (fun j => lap l i j * pot n l s t j) n = trees n l * unit s i := fun i hi hit => by
    have h1 : sumN (fun j => lap l i j * pot n l s t j) n = sumN (fun j => MS (one t) l i j * det n (setRow (MS (one t) l) s (unit j))) n := by
      refine sum_congr fun j hj => ?_
      by_cases e : j = t
      · subst e
        have : MS (one j) l i j = 0 := by unfold MS; rw [one_self]; simp [unit, hit]
        rw [pot_t, this]; simp
      · rw [← unit_rc _ ls hj, det_pot hl ls hj hst e]
        unfold MS; rw [one_not e]; simp
    rw [h1, ← det_row_sum (MS (one t) l) (fun j => MS (one t) l i j) (fun j => unit j) ls]
    have h2 : det n (setRow (MS (one t) l) s fun k => sumN (fun j => MS (one t) l i j * unit j k) n) = det n (setRow (MS (one t) l) s (MS (one t) l i)) := by
      refine det_congr fun a b _ hb => ?_
      unfold setRow
      split
      · dsimp only
        rw [sum_one (c := b) hb fun j _ hj => by simp [unit, Ne.symm hj]]
        simp [unit]
      · rfl
    rw [h2]
    by_cases e : i = s
    · subst e; rw [setRow_self, det_trees hl lt]; simp [unit]
    · rw [det_row_same (r := s) (s := i) _ ls hi (Ne.symm e) fun k _ => by simp only [setRow, if_true, if_neg (Ne.symm e), if_neg e]]
      simp [unit, e]
  by_cases e : i = t
  · subst e
    have h3 : sumN (fun i => sumN (fun j => lap l i j * pot n l s i j) n) n = sumN (fun k => sumN (fun j => lap l k j * pot n l s k j) n) n := rfl
    have h4 : sumN (fun k => sumN (fun j => lap l k j * pot n l s i j) n) n = 0 := by
      rw [sum_swap]
      refine sum_none fun j _ => ?_
      rw [sum_congr (g := fun k => (pot n l s i j : Int) * lap l k j) fun k _ => Int.mul_comm .., sum_mul, lap_tot hl]; simp
    have h5 : ∀ k, k < n → sumN (fun j => lap l k j * pot n l s i j) n = (trees n l : Int) * unit s k + (if k = i then sumN (fun j => lap l i j * pot n l s i j) n else 0) := fun k hk => by
      by_cases a : k = i
      · subst a; simp [unit, Ne.symm hst]
      · rw [main k hk a, if_neg a]; omega
    rw [sum_congr h5, sum_add, sum_mul, sum_one (f := fun k => unit s k) ls fun k _ hk => by simp [unit, hk], sum_one (f := fun k => if k = i then sumN (fun j => lap l i j * pot n l s i j) n else 0) lt fun k _ hk => if_neg hk, if_pos rfl] at h4
    simp only [unit, if_pos, if_neg (Ne.symm hst)] at h4 ⊢
    omega
  · rw [main i hi e]
    simp [unit, e]

/-- Where there are trees, the potentials are what they are but for a constant. -/
theorem lap_const {n : Nat} {l : List Wr} {t : Nat} (hl : Wf n l) (lt : t < n) (h0 : trees n l ≠ 0) {z : Nat → Int} (h : ∀ i, i < n → sumN (fun j => lap l i j * z j) n = 0) {v : Nat} (hv : v < n) : z v = z t := by
  by_cases e : v = t
  · rw [e]
  have h1 := det_combo (n := n) (MS (one t) l) (c := v) (fun j => z j - z t) hv
  have h2 : det n (setCol (MS (one t) l) v fun i => sumN (fun j => (z j - z t) * MS (one t) l i j) n) = 0 := by
    rw [det_congr (m' := setCol (MS (one t) l) v fun _ => 0) fun i j hi hj => ?_]
    · exact det_col_zero _ hv
    · unfold setCol
      split
      · dsimp only
        have h3 : sumN (fun j => (z j - z t) * MS (one t) l i j) n = sumN (fun j => lap l i j * z j) n - z t * sumN (fun j => lap l i j) n := by
          rw [← sum_mul, ← sum_sub]
          refine sum_congr fun j _ => ?_
          unfold MS
          by_cases a : j = t
          · subst a; simp; rw [Int.mul_comm]; omega
          · rw [one_not a]; simp only [Bool.false_eq_true, if_false]; grind
        rw [h3, h i hi, sum_congr (g := fun j => lap l j i) fun j _ => lap_symm .., lap_tot hl]; simp
      · rfl
  rw [h2, det_trees hl lt] at h1
  have := Int.mul_eq_zero.1 h1.symm
  omega

/-- Forests with both roots: a vertex comes to one of them. -/
theorem pot_turn {n : Nat} {l : List Wr} {s t v : Nat} (hl : Wf n l) (ls : s < n) (lt : t < n) (hst : s ≠ t) (lv : v < n) : pot n l s t v + pot n l t s v = volt n l s t := by
  have e : ins (one s) t = ins (one t) s := by funext x; simp only [ins, one, Bool.or_comm]
  unfold pot volt
  by_cases h1 : v = t
  · subst h1
    rw [if_pos rfl, if_neg (Ne.symm hst), Nat.zero_add]
    exact cnt_iff fun x _ => ⟨fun h => by rw [← e]; exact h.1, fun h => ⟨by rw [e]; exact h, .refl _⟩⟩
  by_cases h2 : v = s
  · subst h2
    rw [if_pos rfl, if_neg hst, Nat.add_zero]
    exact cnt_iff fun x _ => ⟨fun h => h.1, fun h => ⟨h, .refl _⟩⟩
  rw [if_neg h1, if_neg h2, ← cnt_or fun x hx a b => ?_]
  · refine cnt_iff fun x _ => ⟨?_, fun h => ?_⟩
    · rintro (h | h)
      · exact h.1
      · rw [← e]; exact h.1
    · obtain ⟨r, _, r2, r3⟩ := h.2 v lv
      rcases ins_iff.1 r2 with r2 | rfl
      · obtain rfl := one_iff.1 r2; exact .inr ⟨by rw [e]; exact h, r3⟩
      · exact .inl ⟨h, r3⟩
  · exact a.1.apart (hl.sub hx) (a := s) (b := t) (ins_self ..) (ins_of (one_self t)) ls lt hst (a.2.symm.trans b.2)
theorem volt_comm {n : Nat} {l : List Wr} {s t : Nat} : volt n l s t = volt n l t s := by
  unfold volt
  rw [show ins (one t) s = ins (one s) t by funext x; simp only [ins, one, Bool.or_comm]]

/-- x^T L y as a sum over wires -/
theorem lap_form {n : Nat} (x y : Nat → Int) {l : List Wr} (hl : Wf n l) : sumN (fun i => x i * sumN (fun j => lap l i j * y j) n) n = (l.map fun e => (x e.1 - x e.2) * (y e.1 - y e.2)).sum := by
  induction l with
  | nil =>
    rw [List.map_nil, List.sum_nil]
    refine sum_none fun i _ => ?_
    rw [sum_none fun j _ => by simp [lap]]; simp
  | cons e l ih =>
    have he := hl e (List.mem_cons_self ..)
    rw [List.map_cons, List.sum_cons, ← ih hl.tail]
    have h1 : ∀ i, i < n → x i * sumN (fun j => lap (e :: l) i j * y j) n = x i * sumN (fun j => lap l i j * y j) n + (y e.1 - y e.2) * (ends e i * x i) := fun i _ => by
      rw [sum_congr (g := fun j => lap l i j * y j + ends e i * (ends e j * y j)) fun j _ => by simp only [lap, Int.add_mul, Int.mul_assoc], sum_add, sum_mul, ends_sum y he.1 he.2.1]
      grind
    rw [sum_congr h1, sum_add, sum_mul, ends_sum x he.1 he.2.1]
    grind
/-- THE POWER. -/
theorem pot_power {n : Nat} {l : List Wr} {s t : Nat} (hl : Wf n l) (ls : s < n) (lt : t < n) (hst : s ≠ t) :
    (l.map fun e => ((pot n l s t e.1 : Int) - pot n l s t e.2) * ((pot n l s t e.1 : Int) - pot n l s t e.2)).sum = trees n l * volt n l s t := by
  rw [← lap_form (fun v => (pot n l s t v : Int)) (fun v => (pot n l s t v : Int)) hl]
  rw [sum_congr (g := fun i => (trees n l : Int) * (unit s i * pot n l s t i - unit t i * pot n l s t i)) fun i hi => by rw [pot_lap hl ls lt hst hi]; grind]
  rw [sum_mul, sum_sub, sum_one (f := fun i => unit s i * (pot n l s t i : Int)) ls fun i _ h => by simp [unit, h], sum_one (f := fun i => unit t i * (pot n l s t i : Int)) lt fun i _ h => by simp [unit, h]]
  simp [unit, pot_s hst, pot_t]

end Go.Dt
