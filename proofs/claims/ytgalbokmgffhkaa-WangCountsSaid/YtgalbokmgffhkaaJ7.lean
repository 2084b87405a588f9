/- The least board, plainly: cell by cell is row by row. No program. -/
import Derived.Test.YtgalbokmgffhkaaJ2
import Derived.Test.YtgalbokmgffhkaaB4
set_option linter.all false
namespace Go.Proofs.Ytgalbokmgffhkaa
open Go.Wg

theorem find_flat {α β : Type} {p : β → Bool} {f : α → List β} : ∀ {l : List α}, (l.flatMap f).find? p = l.findSome? fun x => (f x).find? p
  | [] => rfl
  | x :: l => by
    rw [List.flatMap_cons, List.find?_append, List.findSome?_cons, find_flat]
    cases (f x).find? p <;> rfl
theorem findSome_bind {α β : Type} {B : α → Bool} {F : α → Option β} : ∀ {l : List α}, (∀ x ∈ l, B x = (F x).isSome) → l.findSome? F = (l.find? B).bind F
  | [], _ => rfl
  | x :: l, h => by
    have hx := h x (by simp)
    rw [List.findSome?_cons, List.find?_cons]
    cases hF : F x with
    | none =>
      rw [hF] at hx
      rw [hx]
      exact findSome_bind fun y hy => h y (by simp [hy])
    | some b =>
      rw [hF] at hx
      rw [hx]
      simp [hF]
theorem find_congr {α : Type} {p q : α → Bool} : ∀ {l : List α}, (∀ x ∈ l, p x = q x) → l.find? p = l.find? q
  | [], _ => rfl
  | x :: l, h => by
    rw [List.find?_cons, List.find?_cons, h x (by simp), find_congr fun y hy => h y (by simp [hy])]

/-- May tile i come at a cell, so that the board can still be filled? -/
def okB (l : List Tile) (w h q s i : Nat) : Bool := match putM l w (w * h - (q + 1)) s (tl l i) with
  | some s' => decide (0 < Wq l w h q s')
  | none => false
def stS (l : List Tile) (w p s i : Nat) : Nat := (putM l w p s (tl l i)).getD 0
/-- The least tiles, cell by cell. -/
def gS (l : List Tile) (w h : Nat) : Nat → Nat → List Nat
  | 0, _ => []
  | q + 1, s => match (List.range l.length).find? (okB l w h q s) with
    | some i => i :: gS l w h q (stS l w (w * h - (q + 1)) s i)
    | none => []

/-- What a row must be. -/
def predR (l : List Tile) (w h k y : Nat) (d : List Nat) (x : Nat) (q : List Nat) : Bool := decide (y = 0 ∨ matchN l d x w q) && decide (0 < Wq l w h (k * w) (encS (lineL l).length (d.take x ++ (digS l q).drop x) (endE l q)))

theorem row_pos {l : List Tile} (hs : IsSet l) {w h k y : Nat} (hw : 0 < w) (hy : y + 1 + k = h) (m x : Nat) (r d : List Nat) (e : Nat) (hxm : x + m = w) (hr : r.length = x) (hrl : ∀ i ∈ r, i < l.length) (hd : d.length = w) (hdn : ∀ a ∈ d, a < (lineL l).length) (he : e < 8) (hre : 0 < x → e = endE l r) :
    0 < Wq l w h (k * w + m) (encS (lineL l).length d e) ↔ ((exts l m r).find? (predR l w h k y d x)).isSome = true := by
  rw [row_ways hs hw hy m x r d e hxm hr hrl hd hdn he hre, tot_pos, List.find?_isSome]
  constructor
  · rintro ⟨q, hq, h0⟩
    refine ⟨q, hq, ?_⟩
    by_cases hc : y = 0 ∨ matchN l d x w q
    · rw [if_pos hc] at h0
      simp only [predR, Bool.and_eq_true, decide_eq_true_eq]
      exact ⟨hc, h0⟩
    · rw [if_neg hc] at h0; omega
  · rintro ⟨q, hq, h0⟩
    simp only [predR, Bool.and_eq_true, decide_eq_true_eq] at h0
    exact ⟨q, hq, by rw [if_pos h0.1]; exact h0.2⟩

/-- The rest of the least row. -/
theorem row_least {l : List Tile} (hs : IsSet l) {w h k y : Nat} (hw : 0 < w) (hy : y + 1 + k = h) : ∀ (m x : Nat) (r d : List Nat) (e : Nat), x + m = w → r.length = x → (∀ i ∈ r, i < l.length) → d.length = w → (∀ a ∈ d, a < (lineL l).length) → e < 8 → (0 < x → e = endE l r) →
    ∀ q, (exts l m r).find? (predR l w h k y d x) = some q → gS l w h (k * w + m) (encS (lineL l).length d e) = q.drop x ++ gS l w h (k * w) (encS (lineL l).length (d.take x ++ (digS l q).drop x) (endE l q))
  | 0, x, r, d, e, hxm, hr, hrl, hd, hdn, he, hre, q, hq => by
    have hq' : q = r := by
      have := List.mem_of_find?_eq_some hq
      simpa [exts] using this
    subst hq'
    have e1 : d.take x = d := List.take_of_length_le (by omega)
    have e2 : (digS l q).drop x = [] := List.drop_eq_nil_of_le (by simp [digS, souths]; omega)
    have e3 : q.drop x = [] := List.drop_eq_nil_of_le (by omega)
    rw [e1, e2, e3, List.append_nil, hre (by omega)]
    rfl
  | m + 1, x, r, d, e, hxm, hr, hrl, hd, hdn, he, hre, q, hq => by
    have hxw : x < w := by omega
    have hp : w * h - (k * w + m + 1) = y * w + x := by
      have : w * h = y * w + w + k * w := by rw [← hy, Nat.mul_comm, Nat.add_mul, Nat.add_mul, Nat.one_mul]
      omega
    have hpm : (y * w + x) % w = x := by rw [Nat.add_comm, Nat.add_mul_mod_self_right, Nat.mod_eq_of_lt hxw]
    have hpw : (w ≤ y * w + x) ↔ ¬ y = 0 := by
      constructor
      · intro h1 h2; subst h2; omega
      · intro h1
        have : 1 * w ≤ y * w := Nat.mul_le_mul_right w (by omega)
        omega
    -- what each tile leads to
    have tile : ∀ i, i < l.length → okB l w h (k * w + m) (encS (lineL l).length d e) i = ((if fits l r i = true then exts l m (r ++ [i]) else []).find? (predR l w h k y d x)).isSome ∧
        (okB l w h (k * w + m) (encS (lineL l).length d e) i = true → fits l r i = true ∧ stS l w (w * h - (k * w + m + 1)) (encS (lineL l).length d e) i = encS (lineL l).length (d.set x (lidx l (tS (tl l i)))) (tE (tl l i)).toNat ∧
          (∀ z ∈ exts l m (r ++ [i]), predR l w h k y d x z = predR l w h k y (d.set x (lidx l (tS (tl l i)))) (x + 1) z) ∧ ∀ z ∈ exts l m (r ++ [i]), (d.set x (lidx l (tS (tl l i)))).take (x + 1) ++ (digS l z).drop (x + 1) = d.take x ++ (digS l z).drop x ∧ z.drop x = i :: z.drop (x + 1)) := fun i hil => by
      have htm : tl l i ∈ l := by unfold tl; exact getD_mem hil
      have hcr := cols_range (hs.cols _ htm)
      have hfit : fits l r i = true ↔ ¬ (0 < x ∧ (e : Int) ≠ tW (tl l i)) := by
        unfold fits
        simp only [Bool.or_eq_true, decide_eq_true_eq]
        by_cases hx0 : x = 0
        · have : r = [] := List.length_eq_zero_iff.1 (by omega)
          simp [this, hx0]
        · have hne : r ≠ [] := fun h0 => hx0 (by rw [← hr, h0]; rfl)
          have hel := hre (by omega)
          have hlast : r.getLastD 0 < l.length := by
            refine hrl _ ?_
            rw [List.getLastD_eq_getLast?, List.getLast?_eq_some_getLast hne]
            exact List.getLast_mem hne
          have hlc := cols_range (hs.cols (tl l (r.getLastD 0)) (by unfold tl; exact getD_mem hlast))
          unfold endE at hel
          constructor
          · rintro (h1 | h1)
            · exact absurd h1 hne
            · rintro ⟨_, h2⟩; exact h2 (by omega)
          · intro h1
            right
            by_cases h2 : (e : Int) = tW (tl l i)
            · omega
            · exact absurd ⟨by omega, h2⟩ h1
      have hz : ∀ z ∈ exts l m (r ++ [i]), z.length = w ∧ z.getD x 0 = i := fun z hz => by
        obtain ⟨s, rfl, hs1, _⟩ := (mem_exts m (r ++ [i]) z).1 hz
        refine ⟨by simp; omega, ?_⟩
        rw [List.getD_eq_getElem?_getD, List.append_assoc, List.getElem?_append_right (by omega), hr, Nat.sub_self]
        rfl
      have hdd : ∀ z ∈ exts l m (r ++ [i]), (d.set x (lidx l (tS (tl l i)))).take (x + 1) ++ (digS l z).drop (x + 1) = d.take x ++ (digS l z).drop x ∧ z.drop x = i :: z.drop (x + 1) := fun z hzm => by
        obtain ⟨hzl, hzx⟩ := hz z hzm
        have hxd : x < (d.set x (lidx l (tS (tl l i)))).length := by simp; omega
        have hxq : x < (digS l z).length := by simp [digS, souths]; omega
        have hxz : x < z.length := by omega
        have h5 : z[x] = i := by
          rw [List.getD_eq_getElem?_getD, List.getElem?_eq_getElem hxz] at hzx
          exact hzx
        constructor
        · rw [List.take_add_one, List.getElem?_eq_getElem hxd, List.getElem_set_self, List.take_set_of_le (Nat.le_refl _), List.drop_eq_getElem_cons hxq]
          have : (digS l z)[x] = lidx l (tS (tl l i)) := by simp [digS, souths, h5]
          rw [this]
          simp
        · rw [List.drop_eq_getElem_cons hxz, h5]
      have hput : putM l w (w * h - (k * w + m + 1)) (encS (lineL l).length d e) (tl l i) = if (w ≤ y * w + x ∧ (lineL l).getD (d.getD x 0) 0 ≠ tN (tl l i)) ∨ (0 < x ∧ (e : Int) ≠ tW (tl l i)) then none else some (encS (lineL l).length (d.set x (lidx l (tS (tl l i)))) (tE (tl l i)).toNat) := by
        rw [hp, put_enc hs.cols htm hd hw hdn he, hpm]
      by_cases hf : fits l r i = true
      case neg =>
        have hb : okB l w h (k * w + m) (encS (lineL l).length d e) i = false := by
          rw [okB, hput, if_pos (.inr (Classical.byContradiction fun h1 => hf (hfit.2 h1)))]
        rw [hb, if_neg hf]
        exact ⟨rfl, fun h => by cases h⟩
      rw [if_pos hf]
      by_cases hn : y = 0 ∨ (lineL l).getD (d.getD x 0) 0 = tN (tl l i)
      · have hno : ¬ ((w ≤ y * w + x ∧ (lineL l).getD (d.getD x 0) 0 ≠ tN (tl l i)) ∨ (0 < x ∧ (e : Int) ≠ tW (tl l i))) := by
          rintro (⟨h1, h2⟩ | h1)
          · rcases hn with h3 | h3
            · exact (hpw.1 h1) h3
            · exact h2 h3
          · exact (hfit.1 hf) h1
        rw [if_neg hno] at hput
        have hmm : ∀ z ∈ exts l m (r ++ [i]), (y = 0 ∨ matchN l d x w z) ↔ (y = 0 ∨ matchN l (d.set x (lidx l (tS (tl l i)))) (x + 1) w z) := fun z hzm => by
          obtain ⟨hzl, hzx⟩ := hz z hzm
          constructor
          · rintro (h1 | h1)
            · exact .inl h1
            · refine .inr fun j h3 h4 => ?_
              rw [Go.Wg.getD_set_ne (by omega)]
              exact h1 j (by omega) h4
          · rintro (h1 | h1)
            · exact .inl h1
            · rcases hn with h2 | h2
              · exact .inl h2
              · refine .inr fun j h3 h4 => ?_
                by_cases hjx : j = x
                · subst hjx; rw [hzx]; exact h2
                · have := h1 j (by omega) h4
                  rwa [Go.Wg.getD_set_ne (by omega)] at this
        have hpr : ∀ z ∈ exts l m (r ++ [i]), predR l w h k y d x z = predR l w h k y (d.set x (lidx l (tS (tl l i)))) (x + 1) z := fun z hzm => by
          unfold predR
          rw [decide_eq_decide.2 (hmm z hzm), (hdd z hzm).1]
        have hpos := row_pos hs hw hy m (x + 1) (r ++ [i]) (d.set x (lidx l (tS (tl l i)))) (tE (tl l i)).toNat (by omega) (by simp [hr]) (fun j hj => by
          rcases List.mem_append.1 hj with h1 | h1
          · exact hrl j h1
          · simp at h1; rw [h1]; exact hil) (by simp [hd]) (fun a ha => by
          rcases List.mem_or_eq_of_mem_set ha with h1 | h1
          · exact hdn a h1
          · rw [h1]; exact lidx_lt (mem_line hs.cols htm).2) (by omega) (fun _ => by simp [endE])
        rw [← find_congr hpr] at hpos
        refine ⟨?_, fun _ => ⟨hf, by rw [stS, hput]; rfl, hpr, hdd⟩⟩
        rw [okB, hput]
        show decide (0 < _) = _
        cases hh : ((exts l m (r ++ [i])).find? (predR l w h k y d x)).isSome with
        | true => exact decide_eq_true (hpos.2 hh)
        | false => exact decide_eq_false fun h0 => by rw [hpos.1 h0] at hh; cases hh
      · have hyes : (w ≤ y * w + x ∧ (lineL l).getD (d.getD x 0) 0 ≠ tN (tl l i)) ∨ (0 < x ∧ (e : Int) ≠ tW (tl l i)) := .inl ⟨hpw.2 fun h1 => hn (.inl h1), fun h1 => hn (.inr h1)⟩
        rw [if_pos hyes] at hput
        have hb : okB l w h (k * w + m) (encS (lineL l).length d e) i = false := by rw [okB, hput]
        rw [hb]
        refine ⟨?_, fun h => by cases h⟩
        have : (exts l m (r ++ [i])).find? (predR l w h k y d x) = none := by
          rw [List.find?_eq_none]
          intro z hzm h1
          simp only [predR, Bool.and_eq_true, decide_eq_true_eq] at h1
          rcases h1.1 with h2 | h2
          · exact hn (.inl h2)
          · have := h2 x (Nat.le_refl _) hxw
            rw [(hz z hzm).2] at this
            exact hn (.inr this)
        rw [this]; rfl
    rw [exts, find_flat, findSome_bind (B := okB l w h (k * w + m) (encS (lineL l).length d e)) fun i hi => (tile i (List.mem_range.1 hi)).1] at hq
    cases hfi : (List.range l.length).find? (okB l w h (k * w + m) (encS (lineL l).length d e)) with
    | none => rw [hfi] at hq; cases hq
    | some i =>
      rw [hfi] at hq
      have hil : i < l.length := List.mem_range.1 (List.mem_of_find?_eq_some hfi)
      have hok := List.find?_some hfi
      obtain ⟨hf, hst, hpr, hdd⟩ := (tile i hil).2 hok
      simp only [Option.bind_some] at hq
      rw [if_pos hf, find_congr hpr] at hq
      have htm : tl l i ∈ l := by unfold tl; exact getD_mem hil
      have hcr := cols_range (hs.cols _ htm)
      have ih := row_least hs hw hy m (x + 1) (r ++ [i]) (d.set x (lidx l (tS (tl l i)))) (tE (tl l i)).toNat (by omega) (by simp [hr]) (fun j hj => by
        rcases List.mem_append.1 hj with h1 | h1
        · exact hrl j h1
        · simp at h1; rw [h1]; exact hil) (by simp [hd]) (fun a ha => by
        rcases List.mem_or_eq_of_mem_set ha with h1 | h1
        · exact hdn a h1
        · rw [h1]; exact lidx_lt (mem_line hs.cols htm).2) (by omega) (fun _ => by simp [endE]) q hq
      have hqm := List.mem_of_find?_eq_some hq
      obtain ⟨d1, d2⟩ := hdd q hqm
      show (match (List.range l.length).find? (okB l w h (k * w + m) (encS (lineL l).length d e)) with
        | some i => i :: gS l w h (k * w + m) (stS l w (w * h - (k * w + m + 1)) (encS (lineL l).length d e) i)
        | none => []) = _
      rw [hfi]
      dsimp only
      rw [hst, ih, d1, d2]
      rfl

/-! ### row by row -/
def rowP (l : List Tile) (w k : Nat) (ab : Int) (r : List Nat) : Bool := (decide (ab < 0) || decide (code (norths l r) = ab)) && decide (0 < Bk l w k (code (souths l r)))
def intsR (r : List Nat) : List Int := r.map fun i : Nat => (i : Int)
/-- The least rows, k of them below a code (none above: -1). -/
def fillM (l : List Tile) (w : Nat) : Nat → Int → Option (List (List Nat))
  | 0, _ => some []
  | k + 1, ab => match (rowsL l w).find? (rowP l w k ab) with
    | none => none
    | some r => (fillM l w k (code (souths l r))).map fun B => r :: B

theorem fill_some {l : List Tile} (hs : IsSet l) {w : Nat} : ∀ (k : Nat) (c : Int), 0 ≤ c → 0 < Bk l w k c → ∃ B, fillM l w k c = some B
  | 0, c, _, _ => ⟨[], rfl⟩
  | k + 1, c, hc, h => by
    rw [Bk, tot_pos] at h
    obtain ⟨r, hr, h0⟩ := h
    have hn : code (norths l r) = c ∧ 0 < Bk l w k (code (souths l r)) := by
      split at h0
      · rename_i h1; exact ⟨h1, h0⟩
      · omega
    have hf : ((rowsL l w).find? (rowP l w k c)).isSome = true := by
      rw [List.find?_isSome]
      exact ⟨r, hr, by simp [rowP, hn.1, hn.2]⟩
    obtain ⟨q, hq⟩ := Option.isSome_iff_exists.1 hf
    have hqp := List.find?_some hq
    have hqm := List.mem_of_find?_eq_some hq
    simp only [rowP, Bool.and_eq_true, decide_eq_true_eq] at hqp
    have hcs : 0 ≤ code (souths l q) := (code_bound (row_cols' hs hqm)).1
    obtain ⟨B, hB⟩ := fill_some hs k _ hcs hqp.2
    exact ⟨q :: B, by rw [fillM, hq]; dsimp only; rw [hB]; rfl⟩
where
  row_cols' {l : List Tile} (hs : IsSet l) {w : Nat} {r : List Nat} (hr : r ∈ rowsL l w) : ∀ x ∈ souths l r, 0 ≤ x ∧ x ≤ 7 := fun x hx => line_range ((row_line hs hr).2.2.1 x hx)

/-- Row by row is cell by cell. -/
theorem fill_cells {l : List Tile} (hs : IsSet l) {w h : Nat} (hw : 0 < w) : ∀ (k y : Nat) (cs : List Int) (e : Nat) (B : List (List Nat)), 0 < y → y + k = h → cs.length = w → (∀ c ∈ cs, c ∈ lineL l) → e < 8 → fillM l w k (code cs) = some B →
    B.flatten = gS l w h (k * w) (encS (lineL l).length (cs.map (lidx l)) e) ∧ B.length = k ∧ ∀ r ∈ B, r.length = w
  | 0, y, cs, e, B, hy, hyk, hcl, hc, he, hB => by
    simp only [fillM, Option.some.injEq] at hB
    subst hB
    simp [gS]
  | k + 1, y, cs, e, B, hy, hyk, hcl, hc, he, hB => by
    rw [fillM] at hB
    have hcr : 0 ≤ code cs := (code_bound fun x hx => line_range (hc x hx)).1
    have hpred : ∀ r ∈ rowsL l w, rowP l w k (code cs) r = predR l w h k y (cs.map (lidx l)) 0 r := fun r hr => by
      obtain ⟨hrl, hn, hso, hE⟩ := row_line hs hr
      have hsl : (souths l r).length = w := by simp [souths, hrl]
      unfold rowP predR
      have e1 := ways_rows (h := h) hs hw k (y + 1) (souths l r) (endE l r) (by omega) (by omega) hsl hso hE
      have e2 : (cs.map (lidx l)).take 0 ++ (digS l r).drop 0 = (souths l r).map (lidx l) := by simp [digS]
      rw [e2, e1, decide_eq_false (by omega), Bool.false_or]
      congr 1
      rw [decide_eq_decide]
      have hm := match_iff hc hcl hrl hn
      constructor
      · intro h1; exact .inr (hm.2 h1)
      · rintro (h1 | h1)
        · omega
        · exact hm.1 h1
    rw [find_congr hpred] at hB
    cases hf : (rowsL l w).find? (predR l w h k y (cs.map (lidx l)) 0) with
    | none => rw [hf] at hB; cases hB
    | some r =>
      rw [hf] at hB
      dsimp only at hB
      have hrm := List.mem_of_find?_eq_some hf
      obtain ⟨hrl, hn, hso, hE⟩ := row_line hs hrm
      have hsl : (souths l r).length = w := by simp [souths, hrl]
      cases hB2 : fillM l w k (code (souths l r)) with
      | none => rw [hB2] at hB; cases hB
      | some B2 =>
        rw [hB2] at hB
        simp only [Option.map_some, Option.some.injEq] at hB
        subst hB
        obtain ⟨i1, i2, i3⟩ := fill_cells (h := h) hs hw k (y + 1) (souths l r) (endE l r) B2 (by omega) (by omega) hsl hso hE hB2
        have hl := row_least hs hw (h := h) (k := k) (y := y) (by omega) w 0 [] (cs.map (lidx l)) e (by omega) rfl (by simp) (by simpa using hcl) (fun a ha => by
          obtain ⟨c, hcm, rfl⟩ := List.mem_map.1 ha
          exact lidx_lt (hc c hcm)) he (by omega) r hf
        have e3 : (k + 1) * w = k * w + w := by rw [Nat.add_mul, Nat.one_mul]
        rw [e3, hl]
        refine ⟨?_, by simp [i2], fun q hq => ?_⟩
        · rw [List.flatten_cons, i1]
          simp [digS]
        · rcases List.mem_cons.1 hq with rfl | hq
          · exact hrl
          · exact i3 q hq

/-- All of a board: the least one. -/
theorem fill_all {l : List Tile} (hs : IsSet l) {w h : Nat} (hw : 0 < w) (hh : 0 < h) :
    (Wq l w h (w * h) 0 = 0 ↔ fillM l w h (-1) = none) ∧ ∀ B, fillM l w h (-1) = some B → B.flatten = gS l w h (w * h) 0 ∧ B.length = h ∧ ∀ r ∈ B, r.length = w := by
  obtain ⟨k, rfl⟩ : ∃ k, h = k + 1 := ⟨h - 1, by omega⟩
  have hlp := line_pos hs
  have hall := ways_all hs hw hh
  rw [show k + 1 - 1 = k by omega] at hall
  have hsome : 0 < Wq l w (k + 1) (w * (k + 1)) 0 ↔ ((rowsL l w).find? (rowP l w k (-1))).isSome = true := by
    rw [hall, tot_pos, List.find?_isSome]
    constructor
    · rintro ⟨r, hr, h0⟩
      exact ⟨r, hr, by simp [rowP, h0]⟩
    · rintro ⟨r, hr, h0⟩
      simp [rowP] at h0
      exact ⟨r, hr, h0⟩
  have hrest : ∀ r, (rowsL l w).find? (rowP l w k (-1)) = some r → ∃ B, fillM l w k (code (souths l r)) = some B := fun r hf => by
    have hp := List.find?_some hf
    simp only [rowP, Bool.and_eq_true, decide_eq_true_eq] at hp
    have hrm := List.mem_of_find?_eq_some hf
    exact fill_some hs k _ (code_bound fun x hx => line_range ((row_line hs hrm).2.2.1 x hx)).1 hp.2
  constructor
  · constructor
    · intro h0
      rw [fillM]
      cases hf : (rowsL l w).find? (rowP l w k (-1)) with
      | none => rfl
      | some r =>
        have := hsome.2 (by rw [hf]; rfl)
        omega
    · intro hn
      rw [fillM] at hn
      cases hf : (rowsL l w).find? (rowP l w k (-1)) with
      | none =>
        rw [hf] at hsome
        have : ¬ 0 < Wq l w (k + 1) (w * (k + 1)) 0 := fun h0 => by have := hsome.1 h0; cases this
        omega
      | some r =>
        rw [hf] at hn
        obtain ⟨B, hB⟩ := hrest r hf
        dsimp only at hn
        rw [hB] at hn
        cases hn
  · intro B hB
    rw [fillM] at hB
    have e0 : (0 : Nat) = encS (lineL l).length (List.replicate w 0) 0 := by rw [encS, encD_zero]
    have hpred : ∀ r ∈ rowsL l w, rowP l w k (-1) r = predR l w (k + 1) k 0 (List.replicate w 0) 0 r := fun r hr => by
      obtain ⟨hrl, hn, hso, hE⟩ := row_line hs hr
      have hsl : (souths l r).length = w := by simp [souths, hrl]
      unfold rowP predR
      have e1 := ways_rows (h := k + 1) hs hw k 1 (souths l r) (endE l r) (by omega) (by omega) hsl hso hE
      have e2 : (List.replicate w 0).take 0 ++ (digS l r).drop 0 = (souths l r).map (lidx l) := by simp [digS]
      rw [e2, e1, decide_eq_true (by omega), Bool.true_or, decide_eq_true (p := (0 : Nat) = 0 ∨ matchN l (List.replicate w 0) 0 w r) (.inl rfl)]
    rw [find_congr hpred] at hB
    cases hf : (rowsL l w).find? (predR l w (k + 1) k 0 (List.replicate w 0) 0) with
    | none => rw [hf] at hB; cases hB
    | some r =>
      rw [hf] at hB
      dsimp only at hB
      have hrm := List.mem_of_find?_eq_some hf
      obtain ⟨hrl, hn, hso, hE⟩ := row_line hs hrm
      have hsl : (souths l r).length = w := by simp [souths, hrl]
      cases hB2 : fillM l w k (code (souths l r)) with
      | none => rw [hB2] at hB; cases hB
      | some B2 =>
        rw [hB2] at hB
        simp only [Option.map_some, Option.some.injEq] at hB
        subst hB
        obtain ⟨i1, i2, i3⟩ := fill_cells (h := k + 1) hs hw k 1 (souths l r) (endE l r) B2 (by omega) (by omega) hsl hso hE hB2
        have hl := row_least hs hw (h := k + 1) (k := k) (y := 0) (by omega) w 0 [] (List.replicate w 0) 0 (by omega) rfl (by simp) (by simp) (fun a ha => by rw [List.eq_of_mem_replicate ha]; exact hlp) (by omega) (by omega) r hf
        have e3 : w * (k + 1) = k * w + w := by rw [Nat.mul_comm, Nat.add_mul, Nat.one_mul]
        rw [← e0] at hl
        rw [e3, hl]
        refine ⟨?_, by simp [i2], fun q hq => ?_⟩
        · rw [List.flatten_cons, i1]
          simp [digS]
        · rcases List.mem_cons.1 hq with rfl | hq
          · exact hrl
          · exact i3 q hq

/-! ### which lists are alive -/
theorem alv_fold {N : Nat} {prev : List Bool} (hprev : prev.length = N) : ∀ (M : List Line) (a : List Bool), (∀ x ∈ M, 0 ≤ x.2.1 ∧ x.2.1 < N) → a.length = N → ∀ c : Nat, c < N → (M.foldl (alvF prev) a).getD c false = (a.getD c false || M.any fun x => decide (x.2.1 = (c : Int)) && prev.getD x.2.2.1.toNat false)
  | [], a, _, _, c, _ => by simp
  | x :: M, a, hM, ha, c, hc => by
    have hx := hM x (by simp)
    rw [List.foldl_cons, alv_fold hprev M _ (fun y hy => hM y (by simp [hy])) (by simp [alvF, ha]) c hc, List.any_cons]
    unfold alvF
    by_cases e : x.2.1.toNat = c
    · subst e
      rw [List.getD_eq_getElem?_getD, List.getElem?_set_self (by omega), Option.getD_some, decide_eq_true (show x.2.1 = ((x.2.1.toNat : Nat) : Int) by omega), Bool.true_and, Bool.or_assoc]
    · rw [List.getD_eq_getElem?_getD, List.getElem?_set_ne e, ← List.getD_eq_getElem?_getD, decide_eq_false (show ¬ x.2.1 = (c : Int) by omega), Bool.false_and, Bool.false_or]
theorem alv_pos {L : List Line} {N : Nat} (hL : LnOk N L) : ∀ (k c : Nat), c < N → (alvL L N k).getD c false = decide (0 < Gk L k c)
  | 0, c, hc => by
    have : (List.replicate N true).getD c false = true := by
      rw [List.getD_eq_getElem?_getD, List.getElem?_replicate, if_pos hc]; rfl
    rw [alvL, this, Gk]; rfl
  | k + 1, c, hc => by
    rw [alvL, alv_fold (alvL_len L N k) L _ (fun x hx => (hL x hx).1) (by simp) c hc]
    have h0 : (List.replicate N false).getD c false = false := by
      rw [List.getD_eq_getElem?_getD, List.getElem?_replicate, if_pos hc]; rfl
    rw [h0, Bool.false_or, Gk]
    have key : (L.any fun x => decide (x.2.1 = (c : Int)) && (alvL L N k).getD x.2.2.1.toNat false) = true ↔ 0 < tot (fun x => if x.2.1 = (c : Int) then Gk L k x.2.2.1 else 0) L := by
      rw [tot_pos, List.any_eq_true]
      have each : ∀ x ∈ L, (decide (x.2.1 = (c : Int)) && (alvL L N k).getD x.2.2.1.toNat false) = true ↔ 0 < (if x.2.1 = (c : Int) then Gk L k x.2.2.1 else 0) := fun x hx => by
        have hx' := hL x hx
        rw [alv_pos hL k x.2.2.1.toNat (by omega), show ((x.2.2.1.toNat : Nat) : Int) = x.2.2.1 by omega]
        by_cases hxc : x.2.1 = (c : Int)
        · simp [hxc]
        · simp [hxc]
      constructor
      · rintro ⟨x, hx, h⟩; exact ⟨x, hx, (each x hx).1 h⟩
      · rintro ⟨x, hx, h⟩; exact ⟨x, hx, (each x hx).2 h⟩
    cases hA : L.any fun x => decide (x.2.1 = (c : Int)) && (alvL L N k).getD x.2.2.1.toNat false with
    | true => exact (decide_eq_true (key.1 hA)).symm
    | false => exact (decide_eq_false fun h => by rw [key.2 h] at hA; cases hA).symm

end Go.Proofs.Ytgalbokmgffhkaa
