/- Texts of my own, merged by program: J7 N9 O3. -/
import Derived.Test.YtgalbokmgffhkaaM19
import Derived.Test.YtgalbokmgffhkaaM13
import Derived.Test.YtgalbokmgffhkaaM21
import Derived.Test.YtgalbokmgffhkaaM12
import Derived.Test.YtgalbokmgffhkaaM10
set_option linter.all false
/- The least board, plainly: cell by cell is row by row. No program. -/
namespace Go.Proofs.Ytgalbokmgffhkaa
open Go.Wg

theorem find_flat {α β : Type} {p : β → Bool} {f : α → List β} : ∀ {l : List α}, (l.flatMap f).find? p = l.findSome? fun x => (f x).find? p
  | [] => rfl
  | x :: l => by
    rw [List.flatMap_cons, List.find?_append, List.findSome?_cons, find_flat]
    cases (f x).find? p <;> rfl
theorem findSome_bind {α β : Type} {B : α → Bool} {F : α → Option β} : ∀ {l : List α}, (∀ x ∈ l, B x = (F x).isSome) → l.findSome? F = (l.find? B).bind F
  | [], _ => rfl
  | x :: l, h => by
    have hx := h x (by simp)
    rw [List.findSome?_cons, List.find?_cons]
    cases hF : F x with
    | none =>
      rw [hF] at hx
      rw [hx]
      exact findSome_bind fun y hy => h y (by simp [hy])
    | some b =>
      rw [hF] at hx
      rw [hx]
      simp [hF]
theorem find_congr {α : Type} {p q : α → Bool} : ∀ {l : List α}, (∀ x ∈ l, p x = q x) → l.find? p = l.find? q
  | [], _ => rfl
  | x :: l, h => by
    rw [List.find?_cons, List.find?_cons, h x (by simp), find_congr fun y hy => h y (by simp [hy])]

/-- May tile i come at a cell, so that the board can still be filled? -/
def okB (l : List Tile) (w h q s i : Nat) : Bool := match putM l w (w * h - (q + 1)) s (tl l i) with
  | some s' => decide (0 < Wq l w h q s')
  | none => false
def nxtS (l : List Tile) (w p s i : Nat) : Nat := (putM l w p s (tl l i)).getD 0
/-- The least tiles, cell by cell. -/
def gS (l : List Tile) (w h : Nat) : Nat → Nat → List Nat
  | 0, _ => []
  | q + 1, s => match (List.range l.length).find? (okB l w h q s) with
    | some i => i :: gS l w h q (nxtS l w (w * h - (q + 1)) s i)
    | none => []

/-- What a row must be. -/
def predR (l : List Tile) (w h k y : Nat) (d : List Nat) (x : Nat) (q : List Nat) : Bool := decide (y = 0 ∨ matchN l d x w q) && decide (0 < Wq l w h (k * w) (encS (lineL l).length (d.take x ++ (digS l q).drop x) (endE l q)))

theorem row_pos {l : List Tile} (hs : IsSet l) {w h k y : Nat} (hw : 0 < w) (hy : y + 1 + k = h) (m x : Nat) (r d : List Nat) (e : Nat) (hxm : x + m = w) (hr : r.length = x) (hrl : ∀ i ∈ r, i < l.length) (hd : d.length = w) (hdn : ∀ a ∈ d, a < (lineL l).length) (he : e < 8) (hre : 0 < x → e = endE l r) :
    0 < Wq l w h (k * w + m) (encS (lineL l).length d e) ↔ ((exts l m r).find? (predR l w h k y d x)).isSome = true := by
  rw [row_ways hs hw hy m x r d e hxm hr hrl hd hdn he hre, tot_pos, List.find?_isSome]
  constructor
  · rintro ⟨q, hq, h0⟩
    refine ⟨q, hq, ?_⟩
    by_cases hc : y = 0 ∨ matchN l d x w q
    · rw [if_pos hc] at h0
      simp only [predR, Bool.and_eq_true, decide_eq_true_eq]
      exact ⟨hc, h0⟩
    · rw [if_neg hc] at h0; omega
  · rintro ⟨q, hq, h0⟩
    simp only [predR, Bool.and_eq_true, decide_eq_true_eq] at h0
    exact ⟨q, hq, by rw [if_pos h0.1]; exact h0.2⟩

/-- The rest of the least row. -/
theorem row_least {l : List Tile} (hs : IsSet l) {w h k y : Nat} (hw : 0 < w) (hy : y + 1 + k = h) : ∀ (m x : Nat) (r d : List Nat) (e : Nat), x + m = w → r.length = x → (∀ i ∈ r, i < l.length) → d.length = w → (∀ a ∈ d, a < (lineL l).length) → e < 8 → (0 < x → e = endE l r) →
    ∀ q, (exts l m r).find? (predR l w h k y d x) = some q → gS l w h (k * w + m) (encS (lineL l).length d e) = q.drop x ++ gS l w h (k * w) (encS (lineL l).length (d.take x ++ (digS l q).drop x) (endE l q))
  | 0, x, r, d, e, hxm, hr, hrl, hd, hdn, he, hre, q, hq => by
    have hq' : q = r := by
      have := List.mem_of_find?_eq_some hq
      simpa [exts] using this
    subst hq'
    have e1 : d.take x = d := List.take_of_length_le (by omega)
    have e2 : (digS l q).drop x = [] := List.drop_eq_nil_of_le (by simp [digS, souths]; omega)
    have e3 : q.drop x = [] := List.drop_eq_nil_of_le (by omega)
    rw [e1, e2, e3, List.append_nil, hre (by omega)]
    rfl
  | m + 1, x, r, d, e, hxm, hr, hrl, hd, hdn, he, hre, q, hq => by
    have hxw : x < w := by omega
    have hp : w * h - (k * w + m + 1) = y * w + x := by
      have : w * h = y * w + w + k * w := by rw [← hy, Nat.mul_comm, Nat.add_mul, Nat.add_mul, Nat.one_mul]
      omega
    have hpm : (y * w + x) % w = x := by rw [Nat.add_comm, Nat.add_mul_mod_self_right, Nat.mod_eq_of_lt hxw]
    have hpw : (w ≤ y * w + x) ↔ ¬ y = 0 := by
      constructor
      · intro h1 h2; subst h2; omega
      · intro h1
        have : 1 * w ≤ y * w := Nat.mul_le_mul_right w (by omega)
        omega
    -- what each tile leads to
    have tile : ∀ i, i < l.length → okB l w h (k * w + m) (encS (lineL l).length d e) i = ((if fits l r i = true then exts l m (r ++ [i]) else []).find? (predR l w h k y d x)).isSome ∧
        (okB l w h (k * w + m) (encS (lineL l).length d e) i = true → fits l r i = true ∧ nxtS l w (w * h - (k * w + m + 1)) (encS (lineL l).length d e) i = encS (lineL l).length (d.set x (lidx l (tS (tl l i)))) (tE (tl l i)).toNat ∧
          (∀ z ∈ exts l m (r ++ [i]), predR l w h k y d x z = predR l w h k y (d.set x (lidx l (tS (tl l i)))) (x + 1) z) ∧ ∀ z ∈ exts l m (r ++ [i]), (d.set x (lidx l (tS (tl l i)))).take (x + 1) ++ (digS l z).drop (x + 1) = d.take x ++ (digS l z).drop x ∧ z.drop x = i :: z.drop (x + 1)) := fun i hil => by
      have htm : tl l i ∈ l := by unfold tl; exact getD_mem hil
      have hcr := cols_range (hs.cols _ htm)
      have hfit : fits l r i = true ↔ ¬ (0 < x ∧ (e : Int) ≠ tW (tl l i)) := by
        unfold fits
        simp only [Bool.or_eq_true, decide_eq_true_eq]
        by_cases hx0 : x = 0
        · have : r = [] := List.length_eq_zero_iff.1 (by omega)
          simp [this, hx0]
        · have hne : r ≠ [] := fun h0 => hx0 (by rw [← hr, h0]; rfl)
          have hel := hre (by omega)
          have hlast : r.getLastD 0 < l.length := by
            refine hrl _ ?_
            rw [List.getLastD_eq_getLast?, List.getLast?_eq_some_getLast hne]
            exact List.getLast_mem hne
          have hlc := cols_range (hs.cols (tl l (r.getLastD 0)) (by unfold tl; exact getD_mem hlast))
          unfold endE at hel
          constructor
          · rintro (h1 | h1)
            · exact absurd h1 hne
            · rintro ⟨_, h2⟩; exact h2 (by omega)
          · intro h1
            right
            by_cases h2 : (e : Int) = tW (tl l i)
            · omega
            · exact absurd ⟨by omega, h2⟩ h1
      have hz : ∀ z ∈ exts l m (r ++ [i]), z.length = w ∧ z.getD x 0 = i := fun z hz => by
        obtain ⟨s, rfl, hs1, _⟩ := (mem_exts m (r ++ [i]) z).1 hz
        refine ⟨by simp; omega, ?_⟩
        rw [List.getD_eq_getElem?_getD, List.append_assoc, List.getElem?_append_right (by omega), hr, Nat.sub_self]
        rfl
      have hdd : ∀ z ∈ exts l m (r ++ [i]), (d.set x (lidx l (tS (tl l i)))).take (x + 1) ++ (digS l z).drop (x + 1) = d.take x ++ (digS l z).drop x ∧ z.drop x = i :: z.drop (x + 1) := fun z hzm => by
        obtain ⟨hzl, hzx⟩ := hz z hzm
        have hxd : x < (d.set x (lidx l (tS (tl l i)))).length := by simp; omega
        have hxq : x < (digS l z).length := by simp [digS, souths]; omega
        have hxz : x < z.length := by omega
        have h5 : z[x] = i := by
          rw [List.getD_eq_getElem?_getD, List.getElem?_eq_getElem hxz] at hzx
          exact hzx
        constructor
        · rw [List.take_add_one, List.getElem?_eq_getElem hxd, List.getElem_set_self, List.take_set_of_le (Nat.le_refl _), List.drop_eq_getElem_cons hxq]
          have : (digS l z)[x] = lidx l (tS (tl l i)) := by simp [digS, souths, h5]
          rw [this]
          simp
        · rw [List.drop_eq_getElem_cons hxz, h5]
      have hput : putM l w (w * h - (k * w + m + 1)) (encS (lineL l).length d e) (tl l i) = if (w ≤ y * w + x ∧ (lineL l).getD (d.getD x 0) 0 ≠ tN (tl l i)) ∨ (0 < x ∧ (e : Int) ≠ tW (tl l i)) then none else some (encS (lineL l).length (d.set x (lidx l (tS (tl l i)))) (tE (tl l i)).toNat) := by
        rw [hp, put_enc hs.cols htm hd hw hdn he, hpm]
      by_cases hf : fits l r i = true
      case neg =>
        have hb : okB l w h (k * w + m) (encS (lineL l).length d e) i = false := by
          rw [okB, hput, if_pos (.inr (Classical.byContradiction fun h1 => hf (hfit.2 h1)))]
        rw [hb, if_neg hf]
        exact ⟨rfl, fun h => by cases h⟩
      rw [if_pos hf]
      by_cases hn : y = 0 ∨ (lineL l).getD (d.getD x 0) 0 = tN (tl l i)
      · have hno : ¬ ((w ≤ y * w + x ∧ (lineL l).getD (d.getD x 0) 0 ≠ tN (tl l i)) ∨ (0 < x ∧ (e : Int) ≠ tW (tl l i))) := by
          rintro (⟨h1, h2⟩ | h1)
          · rcases hn with h3 | h3
            · exact (hpw.1 h1) h3
            · exact h2 h3
          · exact (hfit.1 hf) h1
        rw [if_neg hno] at hput
        have hmm : ∀ z ∈ exts l m (r ++ [i]), (y = 0 ∨ matchN l d x w z) ↔ (y = 0 ∨ matchN l (d.set x (lidx l (tS (tl l i)))) (x + 1) w z) := fun z hzm => by
          obtain ⟨hzl, hzx⟩ := hz z hzm
          constructor
          · rintro (h1 | h1)
            · exact .inl h1
            · refine .inr fun j h3 h4 => ?_
              rw [Go.Wg.getD_set_ne (by omega)]
              exact h1 j (by omega) h4
          · rintro (h1 | h1)
            · exact .inl h1
            · rcases hn with h2 | h2
              · exact .inl h2
              · refine .inr fun j h3 h4 => ?_
                by_cases hjx : j = x
                · subst hjx; rw [hzx]; exact h2
                · have := h1 j (by omega) h4
                  rwa [Go.Wg.getD_set_ne (by omega)] at this
        have hpr : ∀ z ∈ exts l m (r ++ [i]), predR l w h k y d x z = predR l w h k y (d.set x (lidx l (tS (tl l i)))) (x + 1) z := fun z hzm => by
          unfold predR
          rw [decide_eq_decide.2 (hmm z hzm), (hdd z hzm).1]
        have hpos := row_pos hs hw hy m (x + 1) (r ++ [i]) (d.set x (lidx l (tS (tl l i)))) (tE (tl l i)).toNat (by omega) (by simp [hr]) (fun j hj => by
          rcases List.mem_append.1 hj with h1 | h1
          · exact hrl j h1
          · simp at h1; rw [h1]; exact hil) (by simp [hd]) (fun a ha => by
          rcases List.mem_or_eq_of_mem_set ha with h1 | h1
          · exact hdn a h1
          · rw [h1]; exact lidx_lt (mem_line hs.cols htm).2) (by omega) (fun _ => by simp [endE])
        rw [← find_congr hpr] at hpos
        refine ⟨?_, fun _ => ⟨hf, by rw [nxtS, hput]; rfl, hpr, hdd⟩⟩
        rw [okB, hput]
        show decide (0 < _) = _
        cases hh : ((exts l m (r ++ [i])).find? (predR l w h k y d x)).isSome with
        | true => exact decide_eq_true (hpos.2 hh)
        | false => exact decide_eq_false fun h0 => by rw [hpos.1 h0] at hh; cases hh
      · have hyes : (w ≤ y * w + x ∧ (lineL l).getD (d.getD x 0) 0 ≠ tN (tl l i)) ∨ (0 < x ∧ (e : Int) ≠ tW (tl l i)) := .inl ⟨hpw.2 fun h1 => hn (.inl h1), fun h1 => hn (.inr h1)⟩
        rw [if_pos hyes] at hput
        have hb : okB l w h (k * w + m) (encS (lineL l).length d e) i = false := by rw [okB, hput]
        rw [hb]
        refine ⟨?_, fun h => by cases h⟩
        have : (exts l m (r ++ [i])).find? (predR l w h k y d x) = none := by
          rw [List.find?_eq_none]
          intro z hzm h1
          simp only [predR, Bool.and_eq_true, decide_eq_true_eq] at h1
          rcases h1.1 with h2 | h2
          · exact hn (.inl h2)
          · have := h2 x (Nat.le_refl _) hxw
            rw [(hz z hzm).2] at this
            exact hn (.inr this)
        rw [this]; rfl
    rw [exts, find_flat, findSome_bind (B := okB l w h (k * w + m) (encS (lineL l).length d e)) fun i hi => (tile i (List.mem_range.1 hi)).1] at hq
    cases hfi : (List.range l.length).find? (okB l w h (k * w + m) (encS (lineL l).length d e)) with
    | none => rw [hfi] at hq; cases hq
    | some i =>
      rw [hfi] at hq
      have hil : i < l.length := List.mem_range.1 (List.mem_of_find?_eq_some hfi)
      have hok := List.find?_some hfi
      obtain ⟨hf, hst, hpr, hdd⟩ := (tile i hil).2 hok
      simp only [Option.bind_some] at hq
      rw [if_pos hf, find_congr hpr] at hq
      have htm : tl l i ∈ l := by unfold tl; exact getD_mem hil
      have hcr := cols_range (hs.cols _ htm)
      have ih := row_least hs hw hy m (x + 1) (r ++ [i]) (d.set x (lidx l (tS (tl l i)))) (tE (tl l i)).toNat (by omega) (by simp [hr]) (fun j hj => by
        rcases List.mem_append.1 hj with h1 | h1
        · exact hrl j h1
        · simp at h1; rw [h1]; exact hil) (by simp [hd]) (fun a ha => by
        rcases List.mem_or_eq_of_mem_set ha with h1 | h1
        · exact hdn a h1
        · rw [h1]; exact lidx_lt (mem_line hs.cols htm).2) (by omega) (fun _ => by simp [endE]) q hq
      have hqm := List.mem_of_find?_eq_some hq
      obtain ⟨d1, d2⟩ := hdd q hqm
      show (match (List.range l.length).find? (okB l w h (k * w + m) (encS (lineL l).length d e)) with
        | some i => i :: gS l w h (k * w + m) (nxtS l w (w * h - (k * w + m + 1)) (encS (lineL l).length d e) i)
        | none => []) = _
      rw [hfi]
      dsimp only
      rw [hst, ih, d1, d2]
      rfl

/-! ### row by row -/
def rowP (l : List Tile) (w k : Nat) (ab : Int) (r : List Nat) : Bool := (decide (ab < 0) || decide (code (norths l r) = ab)) && decide (0 < Bk l w k (code (souths l r)))
def intsR (r : List Nat) : List Int := r.map fun i : Nat => (i : Int)
/-- The least rows, k of them below a code (none above: -1). -/
def fillM (l : List Tile) (w : Nat) : Nat → Int → Option (List (List Nat))
  | 0, _ => some []
  | k + 1, ab => match (rowsL l w).find? (rowP l w k ab) with
    | none => none
    | some r => (fillM l w k (code (souths l r))).map fun B => r :: B

theorem fill_some {l : List Tile} (hs : IsSet l) {w : Nat} : ∀ (k : Nat) (c : Int), 0 ≤ c → 0 < Bk l w k c → ∃ B, fillM l w k c = some B
  | 0, c, _, _ => ⟨[], rfl⟩
  | k + 1, c, hc, h => by
    rw [Bk, tot_pos] at h
    obtain ⟨r, hr, h0⟩ := h
    have hn : code (norths l r) = c ∧ 0 < Bk l w k (code (souths l r)) := by
      split at h0
      · rename_i h1; exact ⟨h1, h0⟩
      · omega
    have hf : ((rowsL l w).find? (rowP l w k c)).isSome = true := by
      rw [List.find?_isSome]
      exact ⟨r, hr, by simp [rowP, hn.1, hn.2]⟩
    obtain ⟨q, hq⟩ := Option.isSome_iff_exists.1 hf
    have hqp := List.find?_some hq
    have hqm := List.mem_of_find?_eq_some hq
    simp only [rowP, Bool.and_eq_true, decide_eq_true_eq] at hqp
    have hcs : 0 ≤ code (souths l q) := (code_bound (row_cols' hs hqm)).1
    obtain ⟨B, hB⟩ := fill_some hs k _ hcs hqp.2
    exact ⟨q :: B, by rw [fillM, hq]; dsimp only; rw [hB]; rfl⟩
where
  row_cols' {l : List Tile} (hs : IsSet l) {w : Nat} {r : List Nat} (hr : r ∈ rowsL l w) : ∀ x ∈ souths l r, 0 ≤ x ∧ x ≤ 7 := fun x hx => line_range ((row_line hs hr).2.2.1 x hx)

/-- Row by row is cell by cell. -/
theorem fill_cells {l : List Tile} (hs : IsSet l) {w h : Nat} (hw : 0 < w) : ∀ (k y : Nat) (cs : List Int) (e : Nat) (B : List (List Nat)), 0 < y → y + k = h → cs.length = w → (∀ c ∈ cs, c ∈ lineL l) → e < 8 → fillM l w k (code cs) = some B →
    B.flatten = gS l w h (k * w) (encS (lineL l).length (cs.map (lidx l)) e) ∧ B.length = k ∧ ∀ r ∈ B, r.length = w
  | 0, y, cs, e, B, hy, hyk, hcl, hc, he, hB => by
    simp only [fillM, Option.some.injEq] at hB
    subst hB
    simp [gS]
  | k + 1, y, cs, e, B, hy, hyk, hcl, hc, he, hB => by
    rw [fillM] at hB
    have hcr : 0 ≤ code cs := (code_bound fun x hx => line_range (hc x hx)).1
    have hpred : ∀ r ∈ rowsL l w, rowP l w k (code cs) r = predR l w h k y (cs.map (lidx l)) 0 r := fun r hr => by
      obtain ⟨hrl, hn, hso, hE⟩ := row_line hs hr
      have hsl : (souths l r).length = w := by simp [souths, hrl]
      unfold rowP predR
      have e1 := ways_rows (h := h) hs hw k (y + 1) (souths l r) (endE l r) (by omega) (by omega) hsl hso hE
      have e2 : (cs.map (lidx l)).take 0 ++ (digS l r).drop 0 = (souths l r).map (lidx l) := by simp [digS]
      rw [e2, e1, decide_eq_false (by omega), Bool.false_or]
      congr 1
      rw [decide_eq_decide]
      have hm := match_iff hc hcl hrl hn
      constructor
      · intro h1; exact .inr (hm.2 h1)
      · rintro (h1 | h1)
        · omega
        · exact hm.1 h1
    rw [find_congr hpred] at hB
    cases hf : (rowsL l w).find? (predR l w h k y (cs.map (lidx l)) 0) with
    | none => rw [hf] at hB; cases hB
    | some r =>
      rw [hf] at hB
      dsimp only at hB
      have hrm := List.mem_of_find?_eq_some hf
      obtain ⟨hrl, hn, hso, hE⟩ := row_line hs hrm
      have hsl : (souths l r).length = w := by simp [souths, hrl]
      cases hB2 : fillM l w k (code (souths l r)) with
      | none => rw [hB2] at hB; cases hB
      | some B2 =>
        rw [hB2] at hB
        simp only [Option.map_some, Option.some.injEq] at hB
        subst hB
        obtain ⟨i1, i2, i3⟩ := fill_cells (h := h) hs hw k (y + 1) (souths l r) (endE l r) B2 (by omega) (by omega) hsl hso hE hB2
        have hl := row_least hs hw (h := h) (k := k) (y := y) (by omega) w 0 [] (cs.map (lidx l)) e (by omega) rfl (by simp) (by simpa using hcl) (fun a ha => by
          obtain ⟨c, hcm, rfl⟩ := List.mem_map.1 ha
          exact lidx_lt (hc c hcm)) he (by omega) r hf
        have e3 : (k + 1) * w = k * w + w := by rw [Nat.add_mul, Nat.one_mul]
        rw [e3, hl]
        refine ⟨?_, by simp [i2], fun q hq => ?_⟩
        · rw [List.flatten_cons, i1]
          simp [digS]
        · rcases List.mem_cons.1 hq with rfl | hq
          · exact hrl
          · exact i3 q hq

/-- All of a board: the least one. -/
theorem fill_all {l : List Tile} (hs : IsSet l) {w h : Nat} (hw : 0 < w) (hh : 0 < h) :
    (Wq l w h (w * h) 0 = 0 ↔ fillM l w h (-1) = none) ∧ ∀ B, fillM l w h (-1) = some B → B.flatten = gS l w h (w * h) 0 ∧ B.length = h ∧ ∀ r ∈ B, r.length = w := by
  obtain ⟨k, rfl⟩ : ∃ k, h = k + 1 := ⟨h - 1, by omega⟩
  have hlp := line_pos hs
  have hall := ways_all hs hw hh
  rw [show k + 1 - 1 = k by omega] at hall
  have hsome : 0 < Wq l w (k + 1) (w * (k + 1)) 0 ↔ ((rowsL l w).find? (rowP l w k (-1))).isSome = true := by
    rw [hall, tot_pos, List.find?_isSome]
    constructor
    · rintro ⟨r, hr, h0⟩
      exact ⟨r, hr, by simp [rowP, h0]⟩
    · rintro ⟨r, hr, h0⟩
      simp [rowP] at h0
      exact ⟨r, hr, h0⟩
  have hrest : ∀ r, (rowsL l w).find? (rowP l w k (-1)) = some r → ∃ B, fillM l w k (code (souths l r)) = some B := fun r hf => by
    have hp := List.find?_some hf
    simp only [rowP, Bool.and_eq_true, decide_eq_true_eq] at hp
    have hrm := List.mem_of_find?_eq_some hf
    exact fill_some hs k _ (code_bound fun x hx => line_range ((row_line hs hrm).2.2.1 x hx)).1 hp.2
  constructor
  · constructor
    · intro h0
      rw [fillM]
      cases hf : (rowsL l w).find? (rowP l w k (-1)) with
      | none => rfl
      | some r =>
        have := hsome.2 (by rw [hf]; rfl)
        omega
    · intro hn
      rw [fillM] at hn
      cases hf : (rowsL l w).find? (rowP l w k (-1)) with
      | none =>
        rw [hf] at hsome
        have : ¬ 0 < Wq l w (k + 1) (w * (k + 1)) 0 := fun h0 => by have := hsome.1 h0; cases this
        omega
      | some r =>
        rw [hf] at hn
        obtain ⟨B, hB⟩ := hrest r hf
        dsimp only at hn
        rw [hB] at hn
        cases hn
  · intro B hB
    rw [fillM] at hB
    have e0 : (0 : Nat) = encS (lineL l).length (List.replicate w 0) 0 := by rw [encS, encD_zero]
    have hpred : ∀ r ∈ rowsL l w, rowP l w k (-1) r = predR l w (k + 1) k 0 (List.replicate w 0) 0 r := fun r hr => by
      obtain ⟨hrl, hn, hso, hE⟩ := row_line hs hr
      have hsl : (souths l r).length = w := by simp [souths, hrl]
      unfold rowP predR
      have e1 := ways_rows (h := k + 1) hs hw k 1 (souths l r) (endE l r) (by omega) (by omega) hsl hso hE
      have e2 : (List.replicate w 0).take 0 ++ (digS l r).drop 0 = (souths l r).map (lidx l) := by simp [digS]
      rw [e2, e1, decide_eq_true (by omega), Bool.true_or, decide_eq_true (p := (0 : Nat) = 0 ∨ matchN l (List.replicate w 0) 0 w r) (.inl rfl)]
    rw [find_congr hpred] at hB
    cases hf : (rowsL l w).find? (predR l w (k + 1) k 0 (List.replicate w 0) 0) with
    | none => rw [hf] at hB; cases hB
    | some r =>
      rw [hf] at hB
      dsimp only at hB
      have hrm := List.mem_of_find?_eq_some hf
      obtain ⟨hrl, hn, hso, hE⟩ := row_line hs hrm
      have hsl : (souths l r).length = w := by simp [souths, hrl]
      cases hB2 : fillM l w k (code (souths l r)) with
      | none => rw [hB2] at hB; cases hB
      | some B2 =>
        rw [hB2] at hB
        simp only [Option.map_some, Option.some.injEq] at hB
        subst hB
        obtain ⟨i1, i2, i3⟩ := fill_cells (h := k + 1) hs hw k 1 (souths l r) (endE l r) B2 (by omega) (by omega) hsl hso hE hB2
        have hl := row_least hs hw (h := k + 1) (k := k) (y := 0) (by omega) w 0 [] (List.replicate w 0) 0 (by omega) rfl (by simp) (by simp) (fun a ha => by rw [List.eq_of_mem_replicate ha]; exact hlp) (by omega) (by omega) r hf
        have e3 : w * (k + 1) = k * w + w := by rw [Nat.mul_comm, Nat.add_mul, Nat.one_mul]
        rw [← e0] at hl
        rw [e3, hl]
        refine ⟨?_, by simp [i2], fun q hq => ?_⟩
        · rw [List.flatten_cons, i1]
          simp [digS]
        · rcases List.mem_cons.1 hq with rfl | hq
          · exact hrl
          · exact i3 q hq

/-! ### which lists are alive -/
theorem alv_fold {N : Nat} {prev : List Bool} (hprev : prev.length = N) : ∀ (M : List Line) (a : List Bool), (∀ x ∈ M, 0 ≤ x.2.1 ∧ x.2.1 < N) → a.length = N → ∀ c : Nat, c < N → (M.foldl (alvF prev) a).getD c false = (a.getD c false || M.any fun x => decide (x.2.1 = (c : Int)) && prev.getD x.2.2.1.toNat false)
  | [], a, _, _, c, _ => by simp
  | x :: M, a, hM, ha, c, hc => by
    have hx := hM x (by simp)
    rw [List.foldl_cons, alv_fold hprev M _ (fun y hy => hM y (by simp [hy])) (by simp [alvF, ha]) c hc, List.any_cons]
    unfold alvF
    by_cases e : x.2.1.toNat = c
    · subst e
      rw [List.getD_eq_getElem?_getD, List.getElem?_set_self (by omega), Option.getD_some, decide_eq_true (show x.2.1 = ((x.2.1.toNat : Nat) : Int) by omega), Bool.true_and, Bool.or_assoc]
    · rw [List.getD_eq_getElem?_getD, List.getElem?_set_ne e, ← List.getD_eq_getElem?_getD, decide_eq_false (show ¬ x.2.1 = (c : Int) by omega), Bool.false_and, Bool.false_or]
theorem alv_pos {L : List Line} {N : Nat} (hL : LnOk N L) : ∀ (k c : Nat), c < N → (alvL L N k).getD c false = decide (0 < Gk L k c)
  | 0, c, hc => by
    have : (List.replicate N true).getD c false = true := by
      rw [List.getD_eq_getElem?_getD, List.getElem?_replicate, if_pos hc]; rfl
    rw [alvL, this, Gk]; rfl
  | k + 1, c, hc => by
    rw [alvL, alv_fold (alvL_len L N k) L _ (fun x hx => (hL x hx).1) (by simp) c hc]
    have h0 : (List.replicate N false).getD c false = false := by
      rw [List.getD_eq_getElem?_getD, List.getElem?_replicate, if_pos hc]; rfl
    rw [h0, Bool.false_or, Gk]
    have key : (L.any fun x => decide (x.2.1 = (c : Int)) && (alvL L N k).getD x.2.2.1.toNat false) = true ↔ 0 < tot (fun x => if x.2.1 = (c : Int) then Gk L k x.2.2.1 else 0) L := by
      rw [tot_pos, List.any_eq_true]
      have each : ∀ x ∈ L, (decide (x.2.1 = (c : Int)) && (alvL L N k).getD x.2.2.1.toNat false) = true ↔ 0 < (if x.2.1 = (c : Int) then Gk L k x.2.2.1 else 0) := fun x hx => by
        have hx' := hL x hx
        rw [alv_pos hL k x.2.2.1.toNat (by omega), show ((x.2.2.1.toNat : Nat) : Int) = x.2.2.1 by omega]
        by_cases hxc : x.2.1 = (c : Int)
        · simp [hxc]
        · simp [hxc]
      constructor
      · rintro ⟨x, hx, h⟩; exact ⟨x, hx, (each x hx).1 h⟩
      · rintro ⟨x, hx, h⟩; exact ⟨x, hx, (each x hx).2 h⟩
    cases hA : L.any fun x => decide (x.2.1 = (c : Int)) && (alvL L N k).getD x.2.2.1.toNat false with
    | true => exact (decide_eq_true (key.1 hA)).symm
    | false => exact (decide_eq_false fun h => by rw [key.2 h] at hA; cases hA).symm

end Go.Proofs.Ytgalbokmgffhkaa

/- Boards as tiles at places: their list, turning and mirroring, what repeats, closed ones are boards. No program. -/
namespace Go.Proofs.Ytgalbokmgffhkaa
open Go.Wg

/-! ### lists without repetition -/
theorem nodup_flat {α β : Type} (key : β → α) : ∀ {L : List α} {F : α → List β}, L.Nodup → (∀ x ∈ L, (F x).Nodup) → (∀ x ∈ L, ∀ y ∈ F x, key y = x) → (L.flatMap F).Nodup
  | [], _, _, _, _ => by simp
  | x :: L, F, hL, h1, h2 => by
    rw [List.flatMap_cons]
    have hL' := List.nodup_cons.1 hL
    refine List.nodup_append.2 ⟨h1 x (by simp), nodup_flat key hL'.2 (fun y hy => h1 y (by simp [hy])) (fun y hy => h2 y (by simp [hy])), fun a ha b hb e => ?_⟩
    obtain ⟨y, hy, hby⟩ := List.mem_flatMap.1 hb
    have e1 := h2 x (by simp) a ha
    have e2 := h2 y (by simp [hy]) b hby
    rw [← e, e1] at e2
    exact hL'.1 (e2 ▸ hy)
theorem len_le_of_sub {α : Type} [DecidableEq α] : ∀ {A B : List α}, A.Nodup → (∀ x ∈ A, x ∈ B) → A.length ≤ B.length
  | [], _, _, _ => by simp
  | x :: A, B, hn, hs => by
    have hn' := List.nodup_cons.1 hn
    have hx := hs x (by simp)
    have h1 := List.length_erase_of_mem hx
    have h2 : A.length ≤ (B.erase x).length := len_le_of_sub hn'.2 fun y hy => by
      refine (List.mem_erase_of_ne (fun e : y = x => hn'.1 (e ▸ hy))).2 (hs y (by simp [hy]))
    have h3 := List.length_pos_of_mem hx
    simp only [List.length_cons]
    omega
theorem len_le_of_inj {α β : Type} [DecidableEq β] {A : List α} {B : List β} (f : α → β) (hn : A.Nodup) (hf : ∀ x ∈ A, f x ∈ B) (hi : ∀ x ∈ A, ∀ y ∈ A, f x = f y → x = y) : A.length ≤ B.length := by
  have h1 : (A.map f).Nodup := by
    unfold List.Nodup
    rw [List.pairwise_map]
    exact List.Pairwise.imp_of_mem (fun hx hy hne e => hne (hi _ hx _ hy e)) hn
  have h2 := len_le_of_sub h1 fun y hy => by
    obtain ⟨x, hx, rfl⟩ := List.mem_map.1 hy
    exact hf x hx
  rwa [List.length_map] at h2

theorem exts_nodup (l : List Tile) : ∀ (n : Nat) (r : List Nat), (exts l n r).Nodup
  | 0, r => by simp [exts]
  | n + 1, r => by
    unfold exts
    refine nodup_flat (fun q => q.getD r.length 0) List.nodup_range (fun i _ => ?_) (fun i _ q hq => ?_)
    · split
      · exact exts_nodup l n _
      · simp
    · split at hq
      · obtain ⟨s, rfl, _⟩ := (mem_exts n (r ++ [i]) q).1 hq
        rw [List.getD_eq_getElem?_getD, List.append_assoc, List.getElem?_append_right (Nat.le_refl _), Nat.sub_self]
        rfl
      · cases hq

/-! ### all boards -/
def BSc (l : List Tile) (w : Nat) : Nat → Int → List (List (List Nat))
  | 0, _ => [[]]
  | k + 1, c => (rowsL l w).flatMap fun r => if code (norths l r) = c then (BSc l w k (code (souths l r))).map (r :: ·) else []
def AB (l : List Tile) (w : Nat) : Nat → List (List (List Nat))
  | 0 => [[]]
  | k + 1 => (rowsL l w).flatMap fun r => (BSc l w k (code (souths l r))).map (r :: ·)

theorem len_flat {α β : Type} (F : α → List β) : ∀ L : List α, (L.flatMap F).length = tot (fun x => (F x).length) L
  | [] => rfl
  | x :: L => by rw [List.flatMap_cons, List.length_append, len_flat F L]; rfl
theorem bsc_len (l : List Tile) (w : Nat) : ∀ (k : Nat) (c : Int), (BSc l w k c).length = Bk l w k c
  | 0, _ => rfl
  | k + 1, c => by
    rw [BSc, Bk, len_flat]
    refine tot_congr fun r _ => ?_
    split
    · rw [List.length_map, bsc_len l w k]
    · rfl
theorem ab_len {l : List Tile} {w h : Nat} (hh : 0 < h) : (AB l w h).length = boards (linesL l w) h := by
  obtain ⟨k, rfl⟩ : ∃ k, h = k + 1 := ⟨h - 1, by omega⟩
  rw [AB, len_flat, boards, linesL, tot_map]
  refine tot_congr fun r _ => ?_
  rw [List.length_map, bsc_len, Bk_eq]
  rfl

theorem map_cons_nodup {α : Type} {x : α} {L : List (List α)} (h : L.Nodup) : (L.map (x :: ·)).Nodup := by
  unfold List.Nodup
  rw [List.pairwise_map]
  exact List.Pairwise.imp (fun hne e => hne (by injection e)) h
theorem rows_nodup (l : List Tile) (w : Nat) : (rowsL l w).Nodup := exts_nodup l w []
theorem bsc_nodup (l : List Tile) (w : Nat) : ∀ (k : Nat) (c : Int), (BSc l w k c).Nodup
  | 0, _ => by simp [BSc]
  | k + 1, c => by
    unfold BSc
    refine nodup_flat (fun B => B.headD []) (rows_nodup l w) (fun r _ => ?_) (fun r _ B hB => ?_)
    · split
      · exact map_cons_nodup (bsc_nodup l w k _)
      · simp
    · split at hB
      · obtain ⟨B', _, rfl⟩ := List.mem_map.1 hB
        rfl
      · cases hB
theorem ab_nodup (l : List Tile) (w : Nat) : ∀ h, (AB l w h).Nodup
  | 0 => by simp [AB]
  | k + 1 => by
    unfold AB
    refine nodup_flat (fun B => B.headD []) (rows_nodup l w) (fun r _ => map_cons_nodup (bsc_nodup l w k _)) (fun r _ B hB => ?_)
    obtain ⟨B', _, rfl⟩ := List.mem_map.1 hB
    rfl

/-- Rows one under the other, below a code. -/
def chainR (l : List Tile) : Int → List (List Nat) → Prop
  | _, [] => True
  | c, r :: B => code (norths l r) = c ∧ chainR l (code (souths l r)) B
theorem mem_bsc {l : List Tile} {w : Nat} : ∀ {k : Nat} {c : Int} {B : List (List Nat)}, B ∈ BSc l w k c ↔ B.length = k ∧ (∀ r ∈ B, r ∈ rowsL l w) ∧ chainR l c B
  | 0, c, B => by
    simp only [BSc, List.mem_singleton]
    constructor
    · rintro rfl; exact ⟨rfl, by simp, trivial⟩
    · rintro ⟨h, _⟩; exact List.length_eq_zero_iff.1 h
  | k + 1, c, B => by
    simp only [BSc, List.mem_flatMap]
    constructor
    · rintro ⟨r, hr, hB⟩
      split at hB
      · rename_i hc
        obtain ⟨B', hB', rfl⟩ := List.mem_map.1 hB
        obtain ⟨h1, h2, h3⟩ := mem_bsc.1 hB'
        refine ⟨by simp [h1], fun q hq => ?_, hc, h3⟩
        rcases List.mem_cons.1 hq with rfl | hq
        · exact hr
        · exact h2 q hq
      · cases hB
    · rintro ⟨h1, h2, h3⟩
      cases B with
      | nil => simp at h1
      | cons r B =>
        refine ⟨r, h2 r (by simp), ?_⟩
        rw [if_pos h3.1]
        exact List.mem_map.2 ⟨B, mem_bsc.2 ⟨by simpa using h1, fun q hq => h2 q (by simp [hq]), h3.2⟩, rfl⟩

/-- The tile at a place. -/
def atB (B : List (List Nat)) (y x : Nat) : Nat := (B.getD y []).getD x 0
structure IsB (l : List Tile) (w h : Nat) (B : List (List Nat)) : Prop where
  len : B.length = h
  row : ∀ y, y < h → (B.getD y []).length = w
  lt : ∀ y x, y < h → x < w → atB B y x < l.length
  ew : ∀ y x, y < h → x + 1 < w → tE (tl l (atB B y x)) = tW (tl l (atB B y (x + 1)))
  sn : ∀ y x, y + 1 < h → x < w → tS (tl l (atB B y x)) = tN (tl l (atB B (y + 1) x))

theorem souths_at {l : List Tile} {r : List Nat} {x : Nat} (hx : x < r.length) : (souths l r).getD x 0 = tS (tl l (r.getD x 0)) := by
  rw [getD_lt _ _ _ (by simpa [souths] using hx), getD_lt _ _ _ hx]; simp [souths]
theorem norths_at {l : List Tile} {r : List Nat} {x : Nat} (hx : x < r.length) : (norths l r).getD x 0 = tN (tl l (r.getD x 0)) := by
  rw [getD_lt _ _ _ (by simpa [norths] using hx), getD_lt _ _ _ hx]; simp [norths]
theorem code_match {l : List Tile} (hs : IsSet l) {w : Nat} {r q : List Nat} (hr : r ∈ rowsL l w) (hq : q ∈ rowsL l w) : code (souths l r) = code (norths l q) ↔ ∀ x, x < w → tS (tl l (r.getD x 0)) = tN (tl l (q.getD x 0)) := by
  obtain ⟨r1, _, r3, _⟩ := row_line hs hr
  obtain ⟨q1, q2, _, _⟩ := row_line hs hq
  have hl : (souths l r).length = (norths l q).length := by simp [souths, norths]; omega
  constructor
  · intro h x hx
    have := code_inj hl (fun c hc => line_range (r3 c hc)) (fun c hc => line_range (q2 c hc)) h
    rw [← souths_at (by omega), ← norths_at (by omega), this]
  · intro h
    have : souths l r = norths l q := by
      refine List.ext_getElem hl fun x h1 h2 => ?_
      have hx : x < w := by simp [souths] at h1; omega
      have := h x hx
      rw [← souths_at (by omega), ← norths_at (by omega), getD_lt _ _ _ h1, getD_lt _ _ _ h2] at this
      exact this
    rw [this]

theorem chain_iff {l : List Tile} : ∀ {B : List (List Nat)} {c : Int}, chainR l c B ↔ (∀ r, B.head? = some r → code (norths l r) = c) ∧ ∀ y, y + 1 < B.length → code (souths l (B.getD y [])) = code (norths l (B.getD (y + 1) []))
  | [], c => by simp [chainR]
  | r :: B, c => by
    rw [chainR, chain_iff]
    constructor
    · rintro ⟨h1, h2, h3⟩
      refine ⟨fun q hq => by cases hq; exact h1, fun y hy => ?_⟩
      cases y with
      | zero =>
        cases B with
        | nil => simp at hy
        | cons q B => exact (h2 q rfl).symm
      | succ y => exact h3 y (by simpa using hy)
    · rintro ⟨h1, h2⟩
      refine ⟨h1 r rfl, fun q hq => ?_, fun y hy => ?_⟩
      · cases B with
        | nil => cases hq
        | cons p B =>
          cases hq
          exact (h2 0 (by simp)).symm
      · exact h2 (y + 1) (by simpa using hy)

theorem mem_ab {l : List Tile} (hs : IsSet l) {w h : Nat} (hh : 0 < h) {B : List (List Nat)} : B ∈ AB l w h ↔ IsB l w h B := by
  obtain ⟨k, rfl⟩ : ∃ k, h = k + 1 := ⟨h - 1, by omega⟩
  have step : B ∈ AB l w (k + 1) ↔ B.length = k + 1 ∧ (∀ r ∈ B, r ∈ rowsL l w) ∧ ∀ y, y + 1 < B.length → code (souths l (B.getD y [])) = code (norths l (B.getD (y + 1) [])) := by
    simp only [AB, List.mem_flatMap]
    constructor
    · rintro ⟨r, hr, hB⟩
      obtain ⟨B', hB', rfl⟩ := List.mem_map.1 hB
      obtain ⟨h1, h2, h3⟩ := mem_bsc.1 hB'
      refine ⟨by simp [h1], fun q hq => ?_, ?_⟩
      · rcases List.mem_cons.1 hq with rfl | hq
        · exact hr
        · exact h2 q hq
      · exact (chain_iff.1 (show chainR l (code (norths l r)) (r :: B') from ⟨rfl, h3⟩)).2
    · rintro ⟨h1, h2, h3⟩
      cases B with
      | nil => simp at h1
      | cons r B =>
        have hc : chainR l (code (norths l r)) (r :: B) := chain_iff.2 ⟨fun q hq => by cases hq; rfl, h3⟩
        exact ⟨r, h2 r (by simp), List.mem_map.2 ⟨B, mem_bsc.2 ⟨by simpa using h1, fun q hq => h2 q (by simp [hq]), hc.2⟩, rfl⟩⟩
  rw [step]
  constructor
  · rintro ⟨h1, h2, h3⟩
    have hrow : ∀ y, y < k + 1 → B.getD y [] ∈ rowsL l w := fun y hy => h2 _ (getD_mem (by omega))
    refine ⟨h1, fun y hy => (mem_rowsL.1 (hrow y hy)).1, fun y x hy hx => ?_, fun y x hy hx => ?_, fun y x hy hx => ?_⟩
    · obtain ⟨e1, e2⟩ := mem_rowsL.1 (hrow y hy)
      exact e2.lt _ (getD_mem (by omega))
    · obtain ⟨e1, e2⟩ := mem_rowsL.1 (hrow y hy)
      exact e2.chain x (by omega)
    · exact (code_match hs (hrow y (by omega)) (hrow (y + 1) hy)).1 (h3 y (by omega)) x hx
  · intro hB
    have hrow : ∀ y, y < k + 1 → B.getD y [] ∈ rowsL l w := fun y hy => by
      refine mem_rowsL.2 ⟨hB.row y hy, fun i hi => ?_, fun x hx => hB.ew y x hy (by have := hB.row y hy; omega)⟩
      obtain ⟨x, hx, rfl⟩ := List.getElem_of_mem hi
      have := hB.lt y x hy (by have := hB.row y hy; omega)
      unfold atB at this
      rwa [getD_lt _ _ _ hx] at this
    refine ⟨hB.len, fun r hr => ?_, fun y hy => ?_⟩
    · obtain ⟨y, hy, rfl⟩ := List.getElem_of_mem hr
      have := hrow y (by have := hB.len; omega)
      rwa [getD_lt _ _ _ hy] at this
    · have := hB.len
      exact (code_match hs (hrow y (by omega)) (hrow (y + 1) (by omega))).2 fun x hx => hB.sn y x (by omega) hx

theorem isB_ext {l : List Tile} {w h : Nat} {A B : List (List Nat)} (hA : IsB l w h A) (hB : IsB l w h B) (h1 : ∀ y x, y < h → x < w → atB A y x = atB B y x) : A = B := by
  refine List.ext_getElem (by rw [hA.len, hB.len]) fun y y1 y2 => ?_
  have hy : y < h := by have := hA.len; omega
  have ra := hA.row y hy
  have rb := hB.row y hy
  rw [getD_lt _ _ _ y1] at ra
  rw [getD_lt _ _ _ y2] at rb
  refine List.ext_getElem (by rw [ra, rb]) fun x x1 x2 => ?_
  have := h1 y x hy (by omega)
  unfold atB at this
  rw [getD_lt _ _ _ y1, getD_lt _ _ _ y2, getD_lt _ _ _ x1, getD_lt _ _ _ x2] at this
  exact this

/-! ### turning, mirroring -/
def mkB (w h : Nat) (f : Nat → Nat → Nat) : List (List Nat) := (List.range h).map fun y => (List.range w).map fun x => f y x
theorem mkB_len (w h : Nat) (f : Nat → Nat → Nat) : (mkB w h f).length = h := by simp [mkB]
theorem mkB_row {w h y : Nat} {f : Nat → Nat → Nat} (hy : y < h) : (mkB w h f).getD y [] = (List.range w).map fun x => f y x := by
  rw [getD_lt _ _ _ (by rw [mkB_len]; exact hy)]
  simp [mkB]
theorem mkB_at {w h y x : Nat} {f : Nat → Nat → Nat} (hy : y < h) (hx : x < w) : atB (mkB w h f) y x = f y x := by
  unfold atB
  rw [mkB_row hy, getD_lt _ _ _ (by simpa using hx)]
  simp
theorem mkB_is {l : List Tile} {w h : Nat} {f : Nat → Nat → Nat} (h1 : ∀ y x, y < h → x < w → f y x < l.length) (h2 : ∀ y x, y < h → x + 1 < w → tE (tl l (f y x)) = tW (tl l (f y (x + 1)))) (h3 : ∀ y x, y + 1 < h → x < w → tS (tl l (f y x)) = tN (tl l (f (y + 1) x))) : IsB l w h (mkB w h f) := by
  refine ⟨mkB_len w h f, fun y hy => by rw [mkB_row hy]; simp, fun y x hy hx => ?_, fun y x hy hx => ?_, fun y x hy hx => ?_⟩
  · rw [mkB_at hy hx]; exact h1 y x hy hx
  · rw [mkB_at hy (by omega), mkB_at hy hx]; exact h2 y x hy hx
  · rw [mkB_at (by omega) hx, mkB_at hy hx]; exact h3 y x hy hx

def turnT' (t : Tile) : Tile := (tW t, tN t, tE t, tS t)
def mirT (t : Tile) : Tile := (tN t, tW t, tS t, tE t)
theorem tl_map {g : Tile → Tile} {l : List Tile} {i : Nat} (hi : i < l.length) : tl (l.map g) i = g (tl l i) := by
  unfold tl
  rw [getD_lt _ _ _ (by simpa using hi), getD_lt _ _ _ hi]
  simp
theorem turn_set {l : List Tile} (h : IsSet l) : IsSet (l.map turnT') := by
  refine ⟨by simpa using h.pos, by simpa using h.most, fun t ht => ?_, ?_⟩
  · obtain ⟨s, hs, rfl⟩ := List.mem_map.1 ht
    have := h.cols s hs
    simp only [colsB, turnT', Bool.and_eq_true] at this ⊢
    exact ⟨⟨⟨this.2, this.1.1.1⟩, this.1.1.2⟩, this.1.2⟩
  · unfold List.Nodup
    rw [List.pairwise_map]
    refine List.Pairwise.imp (fun {s t} hne e => hne ?_) h.nodup
    simp only [turnT', Prod.mk.injEq] at e
    exact Prod.ext e.2.1 (Prod.ext e.2.2.1 (Prod.ext e.2.2.2 e.1))
theorem mir_set {l : List Tile} (h : IsSet l) : IsSet (l.map mirT) := by
  refine ⟨by simpa using h.pos, by simpa using h.most, fun t ht => ?_, ?_⟩
  · obtain ⟨s, hs, rfl⟩ := List.mem_map.1 ht
    have := h.cols s hs
    simp only [colsB, mirT, Bool.and_eq_true] at this ⊢
    exact ⟨⟨⟨this.1.1.1, this.2⟩, this.1.2⟩, this.1.1.2⟩
  · unfold List.Nodup
    rw [List.pairwise_map]
    refine List.Pairwise.imp (fun {s t} hne e => hne ?_) h.nodup
    simp only [mirT, Prod.mk.injEq] at e
    exact Prod.ext e.1 (Prod.ext e.2.2.2 (Prod.ext e.2.2.1 e.2.1))

theorem turn_le {l : List Tile} (hs : IsSet l) {w h : Nat} (hw : 0 < w) (hh : 0 < h) : boards (linesL l w) h ≤ boards (linesL (l.map turnT') h) w := by
  rw [← ab_len hh, ← ab_len hw]
  refine len_le_of_inj (fun B => mkB h w fun y x => atB B (h - 1 - x) y) (ab_nodup l w h) (fun B hB => ?_) fun A hA B hB e => ?_
  · have hB := (mem_ab hs hh).1 hB
    refine (mem_ab (turn_set hs) hw).2 (mkB_is (fun y x hy hx => by rw [List.length_map]; exact hB.lt _ _ (by omega) hy) (fun y x hy hx => ?_) fun y x hy hx => ?_)
    · have l1 := hB.lt (h - 1 - x) y (by omega) hy
      have l2 := hB.lt (h - 1 - (x + 1)) y (by omega) hy
      rw [tl_map l1, tl_map l2]
      have := hB.sn (h - 1 - (x + 1)) y (by omega) hy
      rw [show h - 1 - (x + 1) + 1 = h - 1 - x by omega] at this
      exact this.symm
    · have l1 := hB.lt (h - 1 - x) y (by omega) (by omega)
      have l2 := hB.lt (h - 1 - x) (y + 1) (by omega) hy
      rw [tl_map l1, tl_map l2]
      exact hB.ew (h - 1 - x) y (by omega) hy
  · have hA := (mem_ab hs hh).1 hA
    have hB := (mem_ab hs hh).1 hB
    refine isB_ext hA hB fun y x hy hx => ?_
    have h1 : atB (mkB h w fun y x => atB A (h - 1 - x) y) x (h - 1 - y) = atB (mkB h w fun y x => atB B (h - 1 - x) y) x (h - 1 - y) := by
      have e' : (mkB h w fun y x => atB A (h - 1 - x) y) = (mkB h w fun y x => atB B (h - 1 - x) y) := e
      rw [e']
    rw [mkB_at hx (by omega), mkB_at hx (by omega)] at h1
    rwa [show h - 1 - (h - 1 - y) = y by omega] at h1
theorem mir_le {l : List Tile} (hs : IsSet l) {w h : Nat} (hh : 0 < h) : boards (linesL l w) h ≤ boards (linesL (l.map mirT) w) h := by
  rw [← ab_len hh, ← ab_len hh]
  refine len_le_of_inj (fun B => mkB w h fun y x => atB B y (w - 1 - x)) (ab_nodup l w h) (fun B hB => ?_) fun A hA B hB e => ?_
  · have hB := (mem_ab hs hh).1 hB
    refine (mem_ab (mir_set hs) hh).2 (mkB_is (fun y x hy hx => by rw [List.length_map]; exact hB.lt _ _ hy (by omega)) (fun y x hy hx => ?_) fun y x hy hx => ?_)
    · have l1 := hB.lt y (w - 1 - x) hy (by omega)
      have l2 := hB.lt y (w - 1 - (x + 1)) hy (by omega)
      rw [tl_map l1, tl_map l2]
      have := hB.ew y (w - 1 - (x + 1)) hy (by omega)
      rw [show w - 1 - (x + 1) + 1 = w - 1 - x by omega] at this
      exact this.symm
    · have l1 := hB.lt y (w - 1 - x) (by omega) (by omega)
      have l2 := hB.lt (y + 1) (w - 1 - x) hy (by omega)
      rw [tl_map l1, tl_map l2]
      exact hB.sn y (w - 1 - x) hy (by omega)
  · have hA := (mem_ab hs hh).1 hA
    have hB := (mem_ab hs hh).1 hB
    refine isB_ext hA hB fun y x hy hx => ?_
    have h1 : atB (mkB w h fun y x => atB A y (w - 1 - x)) y (w - 1 - x) = atB (mkB w h fun y x => atB B y (w - 1 - x)) y (w - 1 - x) := by
      have e' : (mkB w h fun y x => atB A y (w - 1 - x)) = (mkB w h fun y x => atB B y (w - 1 - x)) := e
      rw [e']
    rw [mkB_at hy (by omega), mkB_at hy (by omega)] at h1
    rwa [show w - 1 - (w - 1 - x) = x by omega] at h1
/-- Turned sets have as many boards. -/
theorem turn_boards {l : List Tile} (hs : IsSet l) {w h : Nat} (hw : 0 < w) (hh : 0 < h) : boards (linesL (l.map turnT') h) w = boards (linesL l w) h := by
  have s1 := turn_set hs
  have s2 := turn_set s1
  have s3 := turn_set s2
  have h1 := turn_le hs hw hh
  have h2 := turn_le s1 hh hw
  have h3 := turn_le s2 hw hh
  have h4 := turn_le s3 hh hw
  have e : (((l.map turnT').map turnT').map turnT').map turnT' = l := by
    simp only [List.map_map]
    have : (turnT' ∘ turnT' ∘ turnT' ∘ turnT') = id := rfl
    rw [this, List.map_id]
  rw [e] at h4
  omega
theorem mir_boards {l : List Tile} (hs : IsSet l) {w h : Nat} (hh : 0 < h) : boards (linesL (l.map mirT) w) h = boards (linesL l w) h := by
  have s1 := mir_set hs
  have h1 := mir_le hs (w := w) hh
  have h2 := mir_le s1 (w := w) hh
  have e : (l.map mirT).map mirT = l := by
    simp only [List.map_map]
    have : (mirT ∘ mirT) = id := rfl
    rw [this, List.map_id]
  rw [e] at h2
  omega

/-! ### closed boards are boards -/
theorem tot_comm {α β : Type} (F : α → β → Nat) : ∀ (A : List α) (B : List β), tot (fun x => tot (fun y => F x y) B) A = tot (fun y => tot (fun x => F x y) A) B
  | [], B => by simp only [tot]; exact (tot_zero fun _ _ => rfl).symm
  | x :: A, B => by simp only [tot]; rw [tot_comm F A B, tot_add]
theorem tot_mono {α : Type} {f g : α → Nat} : ∀ {a : List α}, (∀ x ∈ a, f x ≤ g x) → tot f a ≤ tot g a
  | [], _ => Nat.le_refl _
  | x :: a, h => by
    have h1 := h x (by simp)
    have h2 := tot_mono (f := f) (g := g) (a := a) fun y hy => h y (by simp [hy])
    simp only [tot]
    omega
theorem pt_first {α : Type} {C : List α} {f g : α → Int} {a : Int} : ∀ (k : Nat) (c : Int), Pt C f g a (k + 1) c = tot (fun x => if f x = a then Pt C f g (g x) k c else 0) C
  | 0, c => by
    unfold Pt
    refine tot_congr fun x _ => ?_
    by_cases h1 : g x = c
    · by_cases h2 : f x = a
      · rw [if_pos h1, if_pos h2]
        unfold Pt
        rw [if_pos h2.symm, if_pos h1]
      · rw [if_pos h1, if_neg h2]
        unfold Pt
        rw [if_neg fun e => h2 e.symm]
    · rw [if_neg h1]
      split
      · simp [Pt, h1]
      · rfl
  | k + 1, c => by
    have e1 : Pt C f g a (k + 2) c = tot (fun y => tot (fun x => if g y = c then (if f x = a then Pt C f g (g x) k (f y) else 0) else 0) C) C := by
      rw [Pt]
      refine tot_congr fun y _ => ?_
      by_cases h : g y = c
      · rw [if_pos h, pt_first k (f y)]
        refine tot_congr fun x _ => ?_
        rw [if_pos h]
      · rw [if_neg h]
        exact (tot_zero fun x _ => if_neg h).symm
    rw [e1, tot_comm]
    refine tot_congr fun x _ => ?_
    by_cases h : f x = a
    · rw [if_pos h, Pt]
      refine tot_congr fun y _ => ?_
      rw [if_pos h]
    · rw [if_neg h]
      refine tot_zero fun y _ => ?_
      rw [if_neg h]
      split <;> rfl
theorem pt_le {L : List Line} {p : Line → Bool} : ∀ (k : Nat) (a c : Int), Pt (L.filter p) lnN lnS a k c ≤ Gk L k a
  | 0, a, c => by unfold Pt Gk; split <;> omega
  | k + 1, a, c => by
    rw [pt_first, Gk, tot_filter]
    refine tot_mono fun x _ => ?_
    split
    · split
      · exact pt_le k _ c
      · exact Nat.zero_le _
    · exact Nat.zero_le _
theorem round_le {L : List Line} {h : Nat} : roundN (closedL L) lnN lnS h ≤ boards L h := by
  unfold roundN boards closedL
  rw [tot_filter]
  refine tot_mono fun x _ => ?_
  split
  · exact pt_le _ _ _
  · exact Nat.zero_le _

/-! ### what closes repeats -/
def walkP {α : Type} (f g : α → Int) : Int → List α → Int → Prop
  | a, [], c => a = c
  | a, x :: xs, c => f x = a ∧ walkP f g (g x) xs c
theorem walk_snoc {α : Type} {f g : α → Int} {x : α} : ∀ {a c : Int} {xs : List α}, walkP f g a xs (f x) → g x = c → walkP f g a (xs ++ [x]) c
  | a, c, [], h, hc => ⟨h.symm, hc⟩
  | a, c, y :: ys, h, hc => ⟨h.1, walk_snoc h.2 hc⟩
theorem pt_walk {α : Type} {C : List α} {f g : α → Int} {a : Int} : ∀ {k : Nat} {c : Int}, 0 < Pt C f g a k c → ∃ xs : List α, xs.length = k ∧ (∀ x ∈ xs, x ∈ C) ∧ walkP f g a xs c
  | 0, c, h => ⟨[], rfl, by simp, by unfold Pt at h; split at h; · assumption
                                     · omega⟩
  | k + 1, c, h => by
    unfold Pt at h
    obtain ⟨x, hx, h1⟩ := tot_pos.1 h
    split at h1
    · rename_i hc
      obtain ⟨xs, h2, h3, h4⟩ := pt_walk h1
      refine ⟨xs ++ [x], by simp [h2], fun y hy => ?_, walk_snoc h4 hc⟩
      rcases List.mem_append.1 hy with h | h
      · exact h3 y h
      · simp at h; rw [h]; exact hx
    · omega
theorem walk_get {α : Type} {f g : α → Int} {d : α} : ∀ {a c : Int} {xs : List α}, walkP f g a xs c → 0 < xs.length → f (xs.getD 0 d) = a ∧ g (xs.getD (xs.length - 1) d) = c ∧ ∀ i, i + 1 < xs.length → g (xs.getD i d) = f (xs.getD (i + 1) d)
  | a, c, [x], h, _ => ⟨h.1, h.2, fun i hi => by simp at hi⟩
  | a, c, x :: y :: ys, h, _ => by
    obtain ⟨h1, h2, h3⟩ := walk_get (d := d) h.2 (by simp)
    refine ⟨h.1, by simpa using h2, fun i hi => ?_⟩
    cases i with
    | zero => exact h1.symm
    | succ i => exact h3 i (by simpa using hi)

theorem rsn_match {l : List Tile} (hs : IsSet l) {w : Nat} {p q : List Nat} (hp : p ∈ rowsL l w) (hq : q ∈ rowsL l w) (h : rS l p = rN l q) : ∀ x, x < w → tS (tl l (p.getD x 0)) = tN (tl l (q.getD x 0)) := by
  obtain ⟨a1, a2, a3, _⟩ := row_line hs hp
  obtain ⟨b1, b2, b3, _⟩ := row_line hs hq
  have he : encD (lineL l).length (digS l p) = encD (lineL l).length (digN l q) := by unfold rS rN at h; omega
  have hd := encD_inj (by rw [digS_len, digN_len]; omega) (fun d hd => by
    obtain ⟨c, hc, rfl⟩ := List.mem_map.1 hd
    exact lidx_lt (a3 c hc)) (fun d hd => by
    obtain ⟨c, hc, rfl⟩ := List.mem_map.1 hd
    exact lidx_lt (b2 c hc)) he
  intro x hx
  have z1 : x < (souths l p).length := by simp [souths]; omega
  have z2 : x < (norths l q).length := by simp [norths]; omega
  have c1 := lidx_get (a3 _ (List.getElem_mem z1))
  have c2 := lidx_get (b2 _ (List.getElem_mem z2))
  have e5 : lidx l ((souths l p)[x]) = lidx l ((norths l q)[x]) := by
    have h1 : (digS l p)[x]'(by rw [digS_len]; omega) = (digN l q)[x]'(by rw [digN_len]; omega) := by simp only [hd]
    simpa [digS, digN] using h1
  rw [e5, c2] at c1
  rw [← souths_at (by omega), ← norths_at (by omega), getD_lt _ _ _ z1, getD_lt _ _ _ z2]
  exact c1.symm

/-- A closed board goes on for ever. -/
theorem closed_plane {l : List Tile} (hs : IsSet l) {w h : Nat} (hw : 0 < w) (hh : 0 < h) (hc : 0 < roundN (closeR l w) (rN l) (rS l) h) :
    ∃ T : Nat → Nat → Nat, (∀ y x, T y x < l.length) ∧ (∀ y x, tE (tl l (T y x)) = tW (tl l (T y (x + 1)))) ∧ ∀ y x, tS (tl l (T y x)) = tN (tl l (T (y + 1) x)) := by
  unfold roundN at hc
  obtain ⟨q, hq, h1⟩ := tot_pos.1 hc
  obtain ⟨xs, h2, h3, h4⟩ := pt_walk h1
  have hwk : walkP (rN l) (rS l) (rN l q) (q :: xs) (rN l q) := ⟨rfl, h4⟩
  obtain ⟨g1, g2, g3⟩ := walk_get (d := []) hwk (by simp)
  have hlen : (q :: xs).length = h := by simp [h2]; omega
  have hmem : ∀ y ∈ q :: xs, y ∈ closeR l w := fun y hy => by
    rcases List.mem_cons.1 hy with rfl | hy
    · exact hq
    · exact h3 y hy
  generalize hys : q :: xs = ys at *
  have hrow : ∀ y, ys.getD (y % h) [] ∈ closeR l w := fun y => hmem _ (getD_mem (by rw [hlen]; exact Nat.mod_lt _ hh))
  have hnext : ∀ y, rS l (ys.getD (y % h) []) = rN l (ys.getD ((y + 1) % h) []) := fun y => by
    by_cases e : y % h + 1 < h
    · have : (y + 1) % h = y % h + 1 := by rw [Nat.add_mod, Nat.mod_eq_of_lt (a := 1) (by omega), Nat.mod_eq_of_lt (by omega)]
      rw [this]
      exact g3 _ (by omega)
    · have hm : y % h < h := Nat.mod_lt _ hh
      have e1 : y % h = h - 1 := by omega
      have e2 : (y + 1) % h = 0 := by
        have := Nat.div_add_mod y h
        have e3 : y + 1 = h * (y / h + 1) := by rw [Nat.mul_add]; omega
        rw [e3, Nat.mul_mod_right]
      rw [e1, e2, g1]
      rw [hlen] at g2
      exact g2
  refine ⟨fun y x => (ys.getD (y % h) []).getD (x % w) 0, fun y x => ?_, fun y x => ?_, fun y x => ?_⟩
  · obtain ⟨e1, e2⟩ := mem_rowsL.1 (List.mem_filter.1 (hrow y)).1
    exact e2.lt _ (getD_mem (by rw [e1]; exact Nat.mod_lt _ hw))
  · obtain ⟨e1, e2⟩ := mem_rowsL.1 (List.mem_filter.1 (hrow y)).1
    have hcl := (List.mem_filter.1 (hrow y)).2
    dsimp only
    have hm : x % w < w := Nat.mod_lt _ hw
    by_cases e : x % w + 1 < w
    · have : (x + 1) % w = x % w + 1 := by rw [Nat.add_mod, Nat.mod_eq_of_lt (a := 1) (by omega), Nat.mod_eq_of_lt (by omega)]
      rw [this]
      exact e2.chain _ (by omega)
    · have e3 : x % w = w - 1 := by omega
      have e4 : (x + 1) % w = 0 := by
        have := Nat.div_add_mod x w
        have e5 : x + 1 = w * (x / w + 1) := by rw [Nat.mul_add]; omega
        rw [e5, Nat.mul_mod_right]
      rw [e3, e4]
      unfold closes at hcl
      have := of_decide_eq_true hcl
      rw [this, last_get (n := w - 1) (by omega)]
  · exact (rsn_match hs (List.mem_filter.1 (hrow y)).1 (List.mem_filter.1 (hrow (y + 1))).1 (hnext y)) _ (Nat.mod_lt _ hw)

/-- Where something closes there are boards of every size. -/
theorem closed_boards {l : List Tile} (hs : IsSet l) {w h a b : Nat} (hw : 0 < w) (hh : 0 < h) (hb : 0 < b) (hc : 0 < roundN (closeR l w) (rN l) (rS l) h) : 0 < boards (linesL l a) b := by
  obtain ⟨T, h1, h2, h3⟩ := closed_plane hs hw hh hc
  rw [← ab_len hb]
  refine List.length_pos_of_mem ((mem_ab hs hb).2 (mkB_is (f := T) (fun y x _ _ => h1 y x) (fun y x _ _ => h2 y x) fun y x _ _ => h3 y x))

end Go.Proofs.Ytgalbokmgffhkaa

/- Machines as tiles, plainly: the one row under a tape. No program. -/
namespace Go.Proofs.Ytgalbokmgffhkaa
open Go.Wg

def entQ (T : List Ent) (q s : Nat) : Ent := T.getD (2 * q + s) (0, false, 0)
def headT (S : Nat) (e : Ent) (q s : Nat) : Tile := if e.2.1 = true then (2 + 2 * (q : Int) + s, 1 + e.2.2, e.1, 0) else (2 + 2 * (q : Int) + s, 0, e.1, 1 + (S : Int) + e.2.2)

theorem mem_mach {S : Nat} {T : List Ent} {t : Tile} : t ∈ machT S T ↔ (∃ s : Nat, s < 2 ∧ t = ((s : Int), 0, (s : Int), 0)) ∨ (∃ s q : Nat, s < 2 ∧ q < S ∧ t = ((s : Int), 0, 2 + 2 * (q : Int) + s, 1 + (q : Int))) ∨ (∃ s q : Nat, s < 2 ∧ q < S ∧ t = ((s : Int), 1 + (S : Int) + q, 2 + 2 * (q : Int) + s, 0)) ∨ (∃ q s : Nat, q < S ∧ s < 2 ∧ 0 ≤ (entQ T q s).2.2 ∧ t = headT S (entQ T q s) q s) := by
  unfold machT
  simp only [List.mem_append, List.mem_flatMap, List.mem_range]
  constructor
  · rintro ((h | ⟨s, hs, q, hq, h⟩) | ⟨q, hq, s, hs, h⟩)
    · left
      simp only [mt1, List.mem_cons, List.not_mem_nil, or_false] at h
      rcases h with rfl | rfl
      · exact ⟨0, by omega, rfl⟩
      · exact ⟨1, by omega, rfl⟩
    · simp only [mt2, List.mem_cons, List.not_mem_nil, or_false] at h
      rcases h with rfl | rfl
      · exact .inr (.inl ⟨s, q, hs, hq, rfl⟩)
      · exact .inr (.inr (.inl ⟨s, q, hs, hq, rfl⟩))
    · right; right; right
      simp only [mt3] at h
      split at h
      · cases h
      · rename_i hn
        refine ⟨q, s, hq, hs, by unfold entQ; omega, ?_⟩
        unfold headT entQ
        split at h
        · rename_i hr
          simp at h
          rw [if_pos hr]; exact h
        · rename_i hr
          simp at h
          rw [if_neg hr]; exact h
  · rintro (⟨s, hs, rfl⟩ | ⟨s, q, hs, hq, rfl⟩ | ⟨s, q, hs, hq, rfl⟩ | ⟨q, s, hq, hs, hn, rfl⟩)
    · left; left
      have : s = 0 ∨ s = 1 := by omega
      rcases this with rfl | rfl <;> simp [mt1]
    · exact .inl (.inr ⟨s, hs, q, hq, by simp [mt2]⟩)
    · exact .inl (.inr ⟨s, hs, q, hq, by simp [mt2]⟩)
    · right
      refine ⟨q, hq, s, hs, ?_⟩
      unfold entQ at hn
      simp only [mt3]
      rw [if_neg (by omega)]
      unfold headT entQ
      split <;> simp

theorem head_N (S : Nat) (e : Ent) (q s : Nat) : tN (headT S e q s) = 2 + 2 * (q : Int) + s := by unfold headT; split <;> rfl

/-- A tile that no head is on. -/
theorem mach_plain {S : Nat} {T : List Ent} {t : Tile} (ht : t ∈ machT S T) (hN : tN t ≤ 1) : 0 ≤ tN t ∧ 0 ≤ tW t ∧ tW t ≤ S ∧ (tE t = 0 ∨ 1 + (S : Int) ≤ tE t) ∧ (tW t = 0 ∨ tE t = 0) ∧
    tS t = (if tW t = 0 then (if tE t = 0 then tN t else 2 + 2 * (tE t - 1 - S) + tN t) else 2 + 2 * (tW t - 1) + tN t) := by
  rcases mem_mach.1 ht with ⟨s, hs, rfl⟩ | ⟨s, q, hs, hq, rfl⟩ | ⟨s, q, hs, hq, rfl⟩ | ⟨q, s, hq, hs, hn, rfl⟩
  · dsimp only [tN, tE, tS, tW] at *
    refine ⟨by omega, by omega, by omega, .inl rfl, .inl rfl, by simp⟩
  · dsimp only [tN, tE, tS, tW] at *
    refine ⟨by omega, by omega, by omega, .inl rfl, .inr rfl, ?_⟩
    rw [if_neg (by omega)]; omega
  · dsimp only [tN, tE, tS, tW] at *
    refine ⟨by omega, by omega, by omega, .inr (by omega), .inl rfl, ?_⟩
    rw [if_pos rfl, if_neg (by omega)]; omega
  · rw [head_N] at hN; omega
/-- The tile that the head is on. -/
theorem mach_head {S : Nat} {T : List Ent} {t : Tile} {q s : Nat} (hs : s < 2) (ht : t ∈ machT S T) (hN : tN t = 2 + 2 * (q : Int) + s) : q < S ∧ 0 ≤ (entQ T q s).2.2 ∧ t = headT S (entQ T q s) q s := by
  rcases mem_mach.1 ht with ⟨s', hs', rfl⟩ | ⟨s', q', hs', hq', rfl⟩ | ⟨s', q', hs', hq', rfl⟩ | ⟨q', s', hq', hs', hn, rfl⟩
  · dsimp only [tN] at hN; omega
  · dsimp only [tN] at hN; omega
  · dsimp only [tN] at hN; omega
  · rw [head_N] at hN
    have e1 : q' = q := by omega
    have e2 : s' = s := by omega
    subst e1
    subst e2
    exact ⟨hq', hn, rfl⟩
theorem mach_N {S : Nat} {T : List Ent} {t : Tile} (ht : t ∈ machT S T) : 0 ≤ tN t ∧ (tN t ≤ 1 ∨ ∃ q s : Nat, s < 2 ∧ tN t = 2 + 2 * (q : Int) + s) := by
  rcases mem_mach.1 ht with ⟨s, hs, rfl⟩ | ⟨s, q, hs, hq, rfl⟩ | ⟨s, q, hs, hq, rfl⟩ | ⟨q, s, hq, hs, hn, rfl⟩
  · dsimp only [tN]; exact ⟨by omega, .inl (by omega)⟩
  · dsimp only [tN]; exact ⟨by omega, .inl (by omega)⟩
  · dsimp only [tN]; exact ⟨by omega, .inl (by omega)⟩
  · rw [head_N]; exact ⟨by omega, .inr ⟨q, s, hs, rfl⟩⟩
/-- North, West and East say which tile it is. -/
theorem mach_det {S : Nat} {T : List Ent} {t u : Tile} (ht : t ∈ machT S T) (hu : u ∈ machT S T) (h1 : tN t = tN u) (h2 : tW t = tW u) (h3 : tE t = tE u) : t = u := by
  rcases (mach_N ht).2 with h | ⟨q, s, hs, h⟩
  · have e1 := (mach_plain ht h).2.2.2.2.2
    have e2 := (mach_plain hu (by omega)).2.2.2.2.2
    rw [h1, h2, h3, ← e2] at e1
    exact Prod.ext h1 (Prod.ext h3 (Prod.ext e1 h2))
  · rw [(mach_head hs ht h).2.2, (mach_head (q := q) hs hu (by omega)).2.2]

theorem ent_ok {S : Nat} {T : List Ent} (hT : TOk S T) {q s : Nat} (hq : q < S) (hs : s < 2) : (0 ≤ (entQ T q s).1 ∧ (entQ T q s).1 ≤ 1) ∧ -1 ≤ (entQ T q s).2.2 ∧ (entQ T q s).2.2 < S := by
  have hl := hT.len
  exact hT.ent _ (getD_mem (by omega))

theorem mach_set {S : Nat} {T : List Ent} (hT : TOk S T) : IsSet (machT S T) := by
  have hS1 := hT.s1
  have hS2 := hT.s2
  refine ⟨?_, ?_, fun t ht => ?_, ?_⟩
  · exact List.length_pos_of_mem (mem_mach.2 (.inl ⟨0, by omega, rfl⟩))
  · unfold machT
    rw [List.length_append, List.length_append]
    have h1 : ((List.range 2).flatMap fun s => (List.range S).flatMap (mt2 S s)).length ≤ 8 := by
      rw [len_flat]
      have : tot (fun s => ((List.range S).flatMap (mt2 S s)).length) (List.range 2) ≤ (List.range 2).length * 4 := tot_le fun s _ => by
        rw [len_flat]
        have : tot (fun q => (mt2 S s q).length) (List.range S) ≤ (List.range S).length * 2 := tot_le fun q _ => by simp [mt2]
        rw [List.length_range] at this
        omega
      simpa using this
    have h2 : ((List.range S).flatMap fun q => (List.range 2).flatMap (mt3 S T q)).length ≤ 4 := by
      rw [len_flat]
      have : tot (fun q => ((List.range 2).flatMap (mt3 S T q)).length) (List.range S) ≤ (List.range S).length * 2 := tot_le fun q _ => by
        rw [len_flat]
        have : tot (fun s => (mt3 S T q s).length) (List.range 2) ≤ (List.range 2).length * 1 := tot_le fun s _ => by
          simp only [mt3]
          split
          · simp
          · split <;> simp
        simpa using this
      rw [List.length_range] at this
      omega
    have h3 : mt1.length = 2 := rfl
    omega
  · simp only [colsB, colB, Bool.and_eq_true, decide_eq_true_eq]
    rcases mem_mach.1 ht with ⟨s, hs, rfl⟩ | ⟨s, q, hs, hq, rfl⟩ | ⟨s, q, hs, hq, rfl⟩ | ⟨q, s, hq, hs, hn, rfl⟩
    · dsimp only [tN, tE, tS, tW]; omega
    · dsimp only [tN, tE, tS, tW]; omega
    · dsimp only [tN, tE, tS, tW]; omega
    · have he := ent_ok hT hq hs
      unfold headT
      split
      · dsimp only [tN, tE, tS, tW]; omega
      · dsimp only [tN, tE, tS, tW]; omega
  · unfold machT
    refine List.nodup_append.2 ⟨List.nodup_append.2 ⟨by decide, ?_, fun a ha b hb e => ?_⟩, ?_, fun a ha b hb e => ?_⟩
    · refine nodup_flat (fun t => (tN t).toNat) List.nodup_range (fun s hs => ?_) fun s hs t ht => ?_
      · refine nodup_flat (fun t => ((tS t - 2 - tN t) / 2).toNat) List.nodup_range (fun q hq => ?_) fun q hq t ht => ?_
        · simp only [mt2, List.nodup_cons, List.mem_cons, List.not_mem_nil, or_false, not_false_eq_true, List.nodup_nil, and_true]
          intro e
          simp only [Prod.mk.injEq] at e
          omega
        · simp only [mt2, List.mem_cons, List.not_mem_nil, or_false] at ht
          rcases ht with rfl | rfl
          · dsimp only [tS, tN]; omega
          · dsimp only [tS, tN]; omega
      · obtain ⟨q, hq, ht⟩ := List.mem_flatMap.1 ht
        simp only [mt2, List.mem_cons, List.not_mem_nil, or_false] at ht
        rcases ht with rfl | rfl
        · dsimp only [tN]; omega
        · dsimp only [tN]; omega
    · obtain ⟨s, hs, hb⟩ := List.mem_flatMap.1 hb
      obtain ⟨q, hq, hb⟩ := List.mem_flatMap.1 hb
      have h1 : tS a ≤ 1 := by
        simp only [mt1, List.mem_cons, List.not_mem_nil, or_false] at ha
        rcases ha with rfl | rfl
        · decide
        · decide
      have h2 : 2 ≤ tS b := by
        simp only [mt2, List.mem_cons, List.not_mem_nil, or_false] at hb
        rcases hb with rfl | rfl
        · dsimp only [tS]; omega
        · dsimp only [tS]; omega
      rw [e] at h1
      omega
    · refine nodup_flat (fun t => ((tN t - 2) / 2).toNat) List.nodup_range (fun q hq => ?_) fun q hq t ht => ?_
      · refine nodup_flat (fun t => ((tN t - 2) % 2).toNat) List.nodup_range (fun s hs => ?_) fun s hs t ht => ?_
        · simp only [mt3]
          split
          · simp
          · split <;> simp
        · have hs2 := List.mem_range.1 hs
          simp only [mt3] at ht
          split at ht
          · cases ht
          · split at ht
            · simp at ht; rw [ht]; dsimp only [tN]; omega
            · simp at ht; rw [ht]; dsimp only [tN]; omega
      · obtain ⟨s, hs, ht⟩ := List.mem_flatMap.1 ht
        have hs2 := List.mem_range.1 hs
        simp only [mt3] at ht
        split at ht
        · cases ht
        · split at ht
          · simp at ht; rw [ht]; dsimp only [tN]; omega
          · simp at ht; rw [ht]; dsimp only [tN]; omega
    · have h1 : tN a ≤ 1 := by
        rcases List.mem_append.1 ha with h | h
        · simp only [mt1, List.mem_cons, List.not_mem_nil, or_false] at h
          rcases h with rfl | rfl
          · decide
          · decide
        · obtain ⟨s, hs, h⟩ := List.mem_flatMap.1 h
          obtain ⟨q, hq, h⟩ := List.mem_flatMap.1 h
          have hs2 := List.mem_range.1 hs
          simp only [mt2, List.mem_cons, List.not_mem_nil, or_false] at h
          rcases h with rfl | rfl
          · dsimp only [tN]; omega
          · dsimp only [tN]; omega
      have h2 : 2 ≤ tN b := by
        obtain ⟨q, hq, h⟩ := List.mem_flatMap.1 hb
        obtain ⟨s, hs, h⟩ := List.mem_flatMap.1 h
        simp only [mt3] at h
        split at h
        · cases h
        · split at h
          · simp at h; rw [h]; dsimp only [tN]; omega
          · simp at h; rw [h]; dsimp only [tN]; omega
      rw [e] at h1
      omega

/-! ### the row under a tape -/
def lineI (x : MSt) : List Int := x.1.set x.2.1.toNat (x.1.getD x.2.1.toNat 0 + (2 + 2 * x.2.2))
structure RowC (l : List Tile) (n : List Int) (ts : List Tile) : Prop where
  len : ts.length = n.length
  mem : ∀ j, j < n.length → ts.getD j t0 ∈ l
  chain : ∀ j, j + 1 < n.length → tE (ts.getD j t0) = tW (ts.getD (j + 1) t0)
  nor : ∀ j, j < n.length → tN (ts.getD j t0) = n.getD j 0
  west : 0 < n.length → tW (ts.getD 0 t0) = 0
  east : 0 < n.length → tE (ts.getD (n.length - 1) t0) = 0

theorem line_at {x : MSt} (hg : goes x) {j : Nat} (hj : j < x.1.length) : (lineI x).getD j 0 = if j = x.2.1.toNat then x.1.getD j 0 + (2 + 2 * x.2.2) else x.1.getD j 0 := by
  unfold lineI
  obtain ⟨_, g2, g3⟩ := hg
  by_cases e : j = x.2.1.toNat
  · rw [if_pos e, e, List.getD_eq_getElem?_getD, List.getElem?_set_self (by omega)]; rfl
  · rw [if_neg e, List.getD_eq_getElem?_getD, List.getElem?_set_ne (fun h => e h.symm), ← List.getD_eq_getElem?_getD]

section
variable {S n k : Nat} {T : List Ent} {x : MSt}

/-- Wests and Easts of the one row. -/
def wD (S h : Nat) (e : Ent) (j : Nat) : Int := if j = h then (if e.2.1 = true then 0 else 1 + (S : Int) + e.2.2) else if j = h + 1 ∧ e.2.1 = true then 1 + e.2.2 else 0
def eD (S h : Nat) (e : Ent) (j : Nat) : Int := if j = h then (if e.2.1 = true then 1 + e.2.2 else 0) else if j + 1 = h ∧ ¬ e.2.1 = true then 1 + (S : Int) + e.2.2 else 0
def nowE (T : List Ent) (x : MSt) : Ent := entQ T x.2.2.toNat (x.1.getD x.2.1.toNat 0).toNat

theorem row_det (hT : TOk S T) (hx : MOk S n x k) (hg : goes x) {ts : List Tile} (h : RowC (machT S T) (lineI x) ts) : 0 ≤ (nowE T x).2.2 ∧ ∀ j, j < n → tW (ts.getD j t0) = wD S x.2.1.toNat (nowE T x) j ∧ tE (ts.getD j t0) = eD S x.2.1.toNat (nowE T x) j := by
  have hn : (lineI x).length = n := by unfold lineI; rw [List.length_set]; exact hx.len
  have hxl := hx.len
  obtain ⟨g1, g2, g3⟩ := hg
  have hh : x.2.1.toNat < n := by omega
  have hbit := hx.bits (x.1.getD x.2.1.toNat 0) (getD_mem (by omega))
  have hhead := mach_head (q := x.2.2.toNat) (s := (x.1.getD x.2.1.toNat 0).toNat) (by omega) (h.mem x.2.1.toNat (by omega)) (by
    rw [h.nor _ (by omega), line_at ⟨g1, g2, g3⟩ (by omega), if_pos rfl]; omega)
  obtain ⟨hq, hnx, hu⟩ := hhead
  change 0 ≤ (nowE T x).2.2 at hnx
  have hpl : ∀ j, j < n → j ≠ x.2.1.toNat → 0 ≤ tW (ts.getD j t0) ∧ tW (ts.getD j t0) ≤ S ∧ (tE (ts.getD j t0) = 0 ∨ 1 + (S : Int) ≤ tE (ts.getD j t0)) := fun j hj hne => by
    have hb := hx.bits (x.1.getD j 0) (getD_mem (by omega))
    have := mach_plain (h.mem j (by omega)) (by rw [h.nor j (by omega), line_at ⟨g1, g2, g3⟩ (by omega), if_neg hne]; exact hb.2)
    exact ⟨this.2.1, this.2.2.1, this.2.2.2.1⟩
  have hW : tW (ts.getD x.2.1.toNat t0) = if (nowE T x).2.1 = true then 0 else 1 + (S : Int) + (nowE T x).2.2 := by
    rw [hu]
    change tW (headT S (nowE T x) _ _) = _
    unfold headT
    split <;> rfl
  have hE : tE (ts.getD x.2.1.toNat t0) = if (nowE T x).2.1 = true then 1 + (nowE T x).2.2 else 0 := by
    rw [hu]
    change tE (headT S (nowE T x) _ _) = _
    unfold headT
    split <;> rfl
  generalize hhd : x.2.1.toNat = hd at *
  have hwest := h.west (by omega)
  have heast := h.east (by omega)
  rw [hn] at heast
  have hch : ∀ j, j + 1 < n → tE (ts.getD j t0) = tW (ts.getD (j + 1) t0) := fun j hj => h.chain j (by omega)
  -- ahead of the head
  have A1 : ∀ j, j < hd → tW (ts.getD j t0) = 0 := by
    intro j
    induction j with
    | zero => intro _; exact hwest
    | succ j ih =>
      intro hj
      have h1 := hpl j (by omega) (by omega)
      have h2 := hpl (j + 1) (by omega) (by omega)
      have h3 := hch j (by omega)
      omega
  have A2 : ∀ j, j + 1 < hd → tE (ts.getD j t0) = 0 := fun j hj => by
    have h1 := A1 (j + 1) hj
    have h3 := hch j (by omega)
    omega
  have B1 : ∀ j, hd < j → j < n → tE (ts.getD j t0) = 0 := fun j hj hjn => by
    by_cases e : j + 1 < n
    · have h1 := hpl j hjn (by omega)
      have h2 := hpl (j + 1) e (by omega)
      have h3 := hch j e
      omega
    · have : j = n - 1 := by omega
      rw [this]; exact heast
  refine ⟨hnx, fun j hj => ?_⟩
  unfold wD eD
  rcases Nat.lt_trichotomy j hd with hlt | heq | hgt
  · have hne : ¬ j = hd := by omega
    have hne2 : ¬ (j = hd + 1 ∧ (nowE T x).2.1 = true) := fun h => by omega
    refine ⟨by rw [if_neg hne, if_neg hne2]; exact A1 j hlt, ?_⟩
    rw [if_neg hne]
    by_cases e : j + 1 = hd
    · have h3 := hch j (by omega)
      rw [e, hW] at h3
      rw [h3]
      by_cases hr : (nowE T x).2.1 = true
      · rw [if_pos hr, if_neg fun h => h.2 hr]
      · rw [if_neg hr, if_pos ⟨e, hr⟩]
    · rw [if_neg fun h => e h.1]
      exact A2 j (by omega)
  · subst heq
    rw [if_pos rfl, if_pos rfl]
    exact ⟨hW, hE⟩
  · have hne : ¬ j = hd := by omega
    have hne2 : ¬ (j + 1 = hd ∧ ¬ (nowE T x).2.1 = true) := fun h => by omega
    refine ⟨?_, by rw [if_neg hne, if_neg hne2]; exact B1 j hgt hj⟩
    rw [if_neg hne]
    have h3 := hch (j - 1) (by omega)
    rw [show j - 1 + 1 = j by omega] at h3
    rw [← h3]
    by_cases e : j = hd + 1
    · rw [show j - 1 = hd by omega, hE]
      by_cases hr : (nowE T x).2.1 = true
      · rw [if_pos hr, if_pos ⟨e, hr⟩]
      · rw [if_neg hr, if_neg fun h => hr h.2]
    · rw [if_neg fun h => e h.1]
      exact B1 (j - 1) (by omega) (by omega)

theorem now_ent (hT : TOk S T) (hx : MOk S n x k) (hg : goes x) : entAt T x = nowE T x := by
  obtain ⟨o, ho, e1, hlt, he, _⟩ := entAt_get hT hx hg
  unfold nowE entQ
  have e2 : (x.1.getD x.2.1.toNat 0).toNat = o := by omega
  rw [e2, getD_lt _ _ _ hlt]
  rw [List.getElem?_eq_getElem hlt] at he
  injection he with he
  exact he.symm

theorem step_eq (hT : TOk S T) (hx : MOk S n x k) (hg : goes x) : stp T x = (x.1.set x.2.1.toNat (nowE T x).1, moved (nowE T x) x.2.1, (nowE T x).2.2) := by
  rw [stp, if_pos hg, now_ent hT hx hg]

/-- Where the machine halts or leaves the tape there is no row. -/
theorem row_none (hT : TOk S T) (hx : MOk S n x k) (hg : goes x) (hs : ¬ goes (stp T x)) (ts : List Tile) : ¬ RowC (machT S T) (lineI x) ts := by
  intro h
  obtain ⟨h0, hd⟩ := row_det hT hx hg h
  have hn : (lineI x).length = n := by unfold lineI; rw [List.length_set]; exact hx.len
  have hxl := hx.len
  have hg' := hg
  obtain ⟨g1, g2, g3⟩ := hg
  rw [step_eq hT hx hg'] at hs
  apply hs
  refine ⟨h0, ?_, ?_⟩
  · show 0 ≤ moved (nowE T x) x.2.1
    unfold moved
    rw [if_neg (by omega)]
    by_cases hr : (nowE T x).2.1 = true
    · rw [if_pos hr]; omega
    · rw [if_neg hr]
      refine Classical.byContradiction fun hc => ?_
      have h1 := h.west (by omega)
      have h2 := (hd 0 (by omega)).1
      unfold wD at h2
      rw [if_pos (by omega), if_neg hr] at h2
      omega
  · show moved (nowE T x) x.2.1 < ((x.1.set x.2.1.toNat (nowE T x).1).length : Int)
    rw [List.length_set]
    unfold moved
    rw [if_neg (by omega)]
    by_cases hr : (nowE T x).2.1 = true
    · rw [if_pos hr]
      refine Classical.byContradiction fun hc => ?_
      have h1 := h.east (by omega)
      have h2 := (hd (n - 1) (by omega)).2
      unfold eD at h2
      rw [if_pos (by omega), if_pos hr] at h2
      rw [hn] at h1
      omega
    · rw [if_neg hr]; omega

def rowD (S : Nat) (T : List Ent) (x : MSt) : List Tile := (List.range x.1.length).map fun j => ((lineI x).getD j 0, eD S x.2.1.toNat (nowE T x) j, (lineI (stp T x)).getD j 0, wD S x.2.1.toNat (nowE T x) j)

/-- Else there is just one, and its Souths are the tape behind the step. -/
theorem row_one (hT : TOk S T) (hx : MOk S n x k) (hg : goes x) (hs : goes (stp T x)) : RowC (machT S T) (lineI x) (rowD S T x) ∧ (∀ ts, RowC (machT S T) (lineI x) ts → ts = rowD S T x) ∧ (rowD S T x).map tS = lineI (stp T x) := by
  have hn : (lineI x).length = n := by unfold lineI; rw [List.length_set]; exact hx.len
  have hxl := hx.len
  have hs' := hs
  have hst := step_eq hT hx hg
  have hl' : (stp T x).1.length = n := by rw [hst]; show (x.1.set _ _).length = n; rw [List.length_set]; exact hxl
  have hg' := hg
  obtain ⟨g1, g2, g3⟩ := hg
  have hh : x.2.1.toNat < n := by omega
  have hq := hx.q
  have hlen : (rowD S T x).length = n := by simp [rowD, hxl]
  have hat : ∀ j, j < n → (rowD S T x).getD j t0 = ((lineI x).getD j 0, eD S x.2.1.toNat (nowE T x) j, (lineI (stp T x)).getD j 0, wD S x.2.1.toNat (nowE T x) j) := fun j hj => by
    rw [getD_lt _ _ _ (by omega)]
    simp [rowD]
  -- the next head
  have hq' : 0 ≤ (nowE T x).2.2 := by
    have := hs.1
    rw [hst] at this
    exact this
  have hmv := hs.2
  have hmoved : (stp T x).2.1 = if (nowE T x).2.1 = true then x.2.1 + 1 else x.2.1 - 1 := by
    rw [hst]
    show moved (nowE T x) x.2.1 = _
    unfold moved
    rw [if_neg (by omega)]
  have hqs : (stp T x).2.2 = (nowE T x).2.2 := by rw [hst]
  have hbit := hx.bits (x.1.getD x.2.1.toNat 0) (getD_mem (by omega))
  have hent := ent_ok hT (q := x.2.2.toNat) (s := (x.1.getD x.2.1.toNat 0).toNat) (by omega) (by omega)
  change (0 ≤ (nowE T x).1 ∧ (nowE T x).1 ≤ 1) ∧ -1 ≤ (nowE T x).2.2 ∧ (nowE T x).2.2 < S at hent
  have htape : ∀ j, j < n → (stp T x).1.getD j 0 = if j = x.2.1.toNat then (nowE T x).1 else x.1.getD j 0 := fun j hj => by
    rw [hst]
    show (x.1.set x.2.1.toNat (nowE T x).1).getD j 0 = _
    by_cases e : j = x.2.1.toNat
    · rw [if_pos e, e, List.getD_eq_getElem?_getD, List.getElem?_set_self (by omega)]; rfl
    · rw [if_neg e, List.getD_eq_getElem?_getD, List.getElem?_set_ne (fun h => e h.symm), ← List.getD_eq_getElem?_getD]
  have hline : ∀ j, j < n → (lineI x).getD j 0 = if j = x.2.1.toNat then x.1.getD j 0 + (2 + 2 * x.2.2) else x.1.getD j 0 := fun j hj => line_at hg' (by omega)
  have hline' : ∀ j, j < n → (lineI (stp T x)).getD j 0 = if j = (stp T x).2.1.toNat then (stp T x).1.getD j 0 + (2 + 2 * (stp T x).2.2) else (stp T x).1.getD j 0 := fun j hj => line_at hs' (by omega)
  have hmemb : ∀ j, j < n → (rowD S T x).getD j t0 ∈ machT S T := fun j hj => by
    rw [hat j hj, hline j hj, hline' j hj, htape j hj, hqs]
    have hbj := hx.bits (x.1.getD j 0) (getD_mem (by omega))
    refine mem_mach.2 ?_
    unfold eD wD
    by_cases e : j = x.2.1.toNat
    · right; right; right
      refine ⟨x.2.2.toNat, (x.1.getD x.2.1.toNat 0).toNat, by omega, by omega, hq', ?_⟩
      change _ = headT S (nowE T x) _ _
      have hmn : ¬ x.2.1.toNat = (stp T x).2.1.toNat := by
        rw [hmoved]
        split
        · omega
        · rename_i hr
          rw [if_neg hr] at hmoved
          omega
      rw [e, if_pos rfl, if_pos rfl, if_pos rfl, if_pos rfl, if_neg hmn]
      unfold headT
      by_cases hr : (nowE T x).2.1 = true
      · rw [if_pos hr, if_pos hr, if_pos hr]
        refine Prod.ext ?_ rfl
        show _ = _
        dsimp only
        omega
      · rw [if_neg hr, if_neg hr, if_neg hr]
        refine Prod.ext ?_ rfl
        show _ = _
        dsimp only
        omega
    · rw [if_neg e, if_neg e, if_neg e, if_neg e]
      by_cases hr : (nowE T x).2.1 = true
      · rw [if_pos hr] at hmoved
        rw [if_neg (show ¬ (j + 1 = x.2.1.toNat ∧ ¬ (nowE T x).2.1 = true) from fun h => h.2 hr)]
        by_cases e2 : j = x.2.1.toNat + 1
        · right; left
          refine ⟨(x.1.getD j 0).toNat, (nowE T x).2.2.toNat, by omega, by omega, ?_⟩
          rw [if_pos (by omega), if_pos ⟨e2, hr⟩]
          refine Prod.ext ?_ (Prod.ext rfl (Prod.ext ?_ ?_)) <;> dsimp only <;> omega
        · left
          refine ⟨(x.1.getD j 0).toNat, by omega, ?_⟩
          rw [if_neg (by omega), if_neg fun h => e2 h.1]
          refine Prod.ext ?_ (Prod.ext rfl (Prod.ext ?_ rfl)) <;> dsimp only <;> omega
      · rw [if_neg hr] at hmoved
        rw [if_neg (show ¬ (j = x.2.1.toNat + 1 ∧ (nowE T x).2.1 = true) from fun h => hr h.2)]
        by_cases e2 : j + 1 = x.2.1.toNat
        · right; right; left
          refine ⟨(x.1.getD j 0).toNat, (nowE T x).2.2.toNat, by omega, by omega, ?_⟩
          rw [if_pos ⟨e2, hr⟩, if_pos (show j = (stp T x).2.1.toNat by omega)]
          refine Prod.ext ?_ (Prod.ext ?_ (Prod.ext ?_ rfl)) <;> dsimp only <;> omega
        · left
          refine ⟨(x.1.getD j 0).toNat, by omega, ?_⟩
          rw [if_neg fun h => e2 h.1, if_neg (show ¬ j = (stp T x).2.1.toNat by omega)]
          refine Prod.ext ?_ (Prod.ext rfl (Prod.ext ?_ rfl)) <;> dsimp only <;> omega
  have hRow : RowC (machT S T) (lineI x) (rowD S T x) := by
    refine ⟨by rw [hlen, hn], fun j hj => hmemb j (by omega), fun j hj => ?_, fun j hj => ?_, fun h0 => ?_, fun h0 => ?_⟩
    · rw [hat j (by omega), hat (j + 1) (by omega)]
      show eD S x.2.1.toNat (nowE T x) j = wD S x.2.1.toNat (nowE T x) (j + 1)
      unfold eD wD
      by_cases hr : (nowE T x).2.1 = true
      · by_cases e : j = x.2.1.toNat
        · rw [if_pos e, if_pos hr, if_neg (by omega), if_pos ⟨by omega, hr⟩]
        · rw [if_neg e, if_neg fun h => h.2 hr]
          by_cases e2 : j + 1 = x.2.1.toNat
          · rw [if_pos e2, if_pos hr]
          · rw [if_neg e2, if_neg fun h => e (by omega)]
      · by_cases e : j = x.2.1.toNat
        · rw [if_pos e, if_neg hr, if_neg (by omega), if_neg fun h => hr h.2]
        · rw [if_neg e]
          by_cases e2 : j + 1 = x.2.1.toNat
          · rw [if_pos ⟨e2, hr⟩, if_pos e2, if_neg hr]
          · rw [if_neg fun h => e2 h.1, if_neg e2, if_neg fun h => hr h.2]
    · rw [hat j (by omega)]
    · rw [hat 0 (by omega)]
      show wD S x.2.1.toNat (nowE T x) 0 = 0
      unfold wD
      by_cases hr : (nowE T x).2.1 = true
      · by_cases e : 0 = x.2.1.toNat
        · rw [if_pos e, if_pos hr]
        · rw [if_neg e, if_neg fun h => by omega]
      · rw [if_neg hr] at hmoved
        rw [if_neg (by omega), if_neg fun h => hr h.2]
    · rw [hn, hat (n - 1) (by omega)]
      show eD S x.2.1.toNat (nowE T x) (n - 1) = 0
      unfold eD
      by_cases hr : (nowE T x).2.1 = true
      · rw [if_pos hr] at hmoved
        rw [if_neg (by omega), if_neg fun h => h.2 hr]
      · by_cases e : n - 1 = x.2.1.toNat
        · rw [if_pos e, if_neg hr]
        · rw [if_neg e, if_neg fun h => by omega]
  refine ⟨hRow, fun ts h => ?_, ?_⟩
  · obtain ⟨_, hd⟩ := row_det hT hx hg' h
    obtain ⟨_, hd2⟩ := row_det hT hx hg' hRow
    refine List.ext_getElem (by rw [h.len, hRow.len]) fun j j1 j2 => ?_
    have hj : j < n := by have := h.len; omega
    have e := mach_det (h.mem j (by omega)) (hmemb j hj) (by rw [h.nor j (by omega), hRow.nor j (by omega)]) (by rw [(hd j hj).1, (hd2 j hj).1]) (by rw [(hd j hj).2, (hd2 j hj).2])
    rw [getD_lt _ _ _ j1, getD_lt _ _ _ j2] at e
    exact e
  · refine List.ext_getElem (by rw [List.length_map, hlen]; unfold lineI; rw [List.length_set, hl']) fun j j1 j2 => ?_
    rw [List.length_map] at j1
    have hj : j < n := by omega
    have := hat j hj
    rw [getD_lt _ _ _ j1] at this
    rw [List.getElem_map, this]
    show (lineI (stp T x)).getD j 0 = _
    rw [getD_lt _ _ _ j2]
end

end Go.Proofs.Ytgalbokmgffhkaa
