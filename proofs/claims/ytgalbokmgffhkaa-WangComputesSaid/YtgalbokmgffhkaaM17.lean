/- Texts of my own, merged by program: In E3 Ru. -/
import Derived.Test.YtgalbokmgffhkaaM15
import Derived.Test.YtgalbokmgffhkaaM16
import Derived.Test.YtgalbokmgffhkaaM12
import Derived.Test.YtgalbokmgffhkaaM02
set_option linter.all false
/- No lists. -/
namespace Go.Proofs.Ytgalbokmgffhkaa
open Go.Lf Go.RowKit Go.Wg

theorem IRows.nil {base : Nat} {w : World} : IRows base w nilS [] := ⟨[], RecAt.nil, rfl, by simp⟩

end Go.Proofs.Ytgalbokmgffhkaa

/- Shifts, sets of bits; lists of lists that are put behind lists of lists. -/
namespace Go.Proofs.Ytgalbokmgffhkaa
open Go.Lf Go.RowKit Go.Wg

theorem b_genE {op : BinOp} {t : TypeId} {lit : Bool} {k k' : IntKind} {x y : Int} {v : Value} {w : World} {K : Value → Prop} (h : ∀ w', (semBin op t lit (.int k x) (.int k' y)).run Try.prog w' = .ok (.value v) w') (hn : intBin op k x y = none) : binQ Try.prog w op t lit (.int k x) (.int k' y) K = K v := by
  have e : binQ Try.prog w op t lit (.int k x) (.int k' y) K = genQ Try.prog w (semBin op t lit (.int k x) (.int k' y)) K := by
    simp [binQ, hn]
  rw [e]
  refine propext ⟨?_, fun hk => ⟨v, fun w' _ => h w', hk⟩⟩
  rintro ⟨u, hu, hk⟩
  have h1 := hu w (Below.refl _ _)
  rw [h] at h1
  injection h1 with h1 _
  injection h1 with h1
  rw [h1]; exact hk

set_option maxRecDepth 100000 in
theorem shl_run : ∀ (E : Nat), E ≤ 7 → ∀ (t : TypeId) (lit : Bool) (w' : World), (semBin .shl t lit (.int .i64 1) (.int .i64 E)).run Try.prog w' = .ok (.value (.int .i64 ((2 ^ E : Nat) : Int))) w'
  | 0, _, _, _, _ => by kernel_rfl
  | 1, _, _, _, _ => by kernel_rfl
  | 2, _, _, _, _ => by kernel_rfl
  | 3, _, _, _, _ => by kernel_rfl
  | 4, _, _, _, _ => by kernel_rfl
  | 5, _, _, _, _ => by kernel_rfl
  | 6, _, _, _, _ => by kernel_rfl
  | 7, _, _, _, _ => by kernel_rfl
  | _ + 8, h, _, _, _ => absurd h (by omega)
theorem r_shl1 {w : World} {K : Value → Prop} {t : TypeId} {lit : Bool} (E : Nat) (hE : E ≤ 7) : binQ Try.prog w .shl t lit (.int .i64 1) (.int .i64 E) K = K (.int .i64 ((2 ^ E : Nat) : Int)) :=
  b_genE (fun w' => shl_run E hE t lit w') rfl

set_option maxRecDepth 100000 in
theorem shr_run (e : Int) : ∀ (E : Nat), E ≤ 7 → ∀ (t : TypeId) (lit : Bool) (w' : World), (semBin .shr t lit (.int .i64 e) (.int .i64 E)).run Try.prog w' = .ok (.value (.int .i64 (e.fdiv (2 ^ E)))) w'
  | 0, _, _, _, _ => by kernel_rfl
  | 1, _, _, _, _ => by kernel_rfl
  | 2, _, _, _, _ => by kernel_rfl
  | 3, _, _, _, _ => by kernel_rfl
  | 4, _, _, _, _ => by kernel_rfl
  | 5, _, _, _, _ => by kernel_rfl
  | 6, _, _, _, _ => by kernel_rfl
  | 7, _, _, _, _ => by kernel_rfl
  | _ + 8, h, _, _, _ => absurd h (by omega)
theorem r_shrN {w : World} {K : Value → Prop} {t : TypeId} {lit : Bool} (e E : Nat) (hE : E ≤ 7) : binQ Try.prog w .shr t lit (.int .i64 e) (.int .i64 E) K = K (.int .i64 ((e / 2 ^ E : Nat) : Int)) := by
  refine b_genE (fun w' => ?_) rfl
  rw [shr_run e E hE]
  have : (e : Int).fdiv (2 ^ E) = ((e / 2 ^ E : Nat) : Int) := by
    rw [Int.fdiv_eq_ediv_of_nonneg _ (Int.pow_nonneg (by omega))]
    simp
  rw [this]

set_option maxRecDepth 100000 in
theorem or_run (a b : Int) (t : TypeId) (lit : Bool) (w' : World) : (semBin .or t lit (.int .i64 a) (.int .i64 b)).run Try.prog w' = .ok (.value (.int .i64 (IntKind.i64.wrap ((BitVec.ofInt 64 a ||| BitVec.ofInt 64 b).toNat)))) w' := by kernel_rfl
theorem r_orN {w : World} {K : Value → Prop} {t : TypeId} {lit : Bool} (a b : Nat) (ha : a < 256) (hb : b < 256) : binQ Try.prog w .or t lit (.int .i64 a) (.int .i64 b) K = K (.int .i64 ((a ||| b : Nat) : Int)) := by
  refine b_genE (fun w' => ?_) rfl
  rw [or_run]
  have hab : a ||| b < 2 ^ 8 := Nat.or_lt_two_pow ha hb
  have e : (BitVec.ofInt 64 (a : Int) ||| BitVec.ofInt 64 (b : Int)).toNat = a ||| b := by
    have h1 : (BitVec.ofInt 64 (a : Int)).toNat = a := by simp [BitVec.toNat_ofInt]; omega
    have h2 : (BitVec.ofInt 64 (b : Int)).toNat = b := by simp [BitVec.toNat_ofInt]; omega
    rw [BitVec.toNat_or, h1, h2]
  rw [e, IntWalk.i64_in _ (by omega)]

theorem testBit_div (e n : Nat) : e.testBit n = decide (((e / 2 ^ n % 2 : Nat) : Int) = 1) := by
  rw [Nat.testBit_eq_decide_div_mod_eq]
  by_cases h : e / 2 ^ n % 2 = 1
  · rw [decide_eq_true h, decide_eq_true (by omega)]
  · rw [decide_eq_false h, decide_eq_false (by omega)]

theorem ints_slice {base : Nat} {w : World} {v : Value} {l : List Int} (h : IntsAt base w v l) : v.oneCell' = true := by
  obtain ⟨a, cap, rfl, _⟩ := h.len
  rfl

set_option maxRecDepth 100000 in
/-- append(nil, l...) at integers. -/
theorem r_copyN {w : World} {v : Value} {l : List Int} {K : Value → World → Prop} (hr : RdInts w v l) (hl : l.length ≤ 1000000)
    (hk : ∀ v' w', IntsAt w.heap.size w' v' l → Kp w w' → K v' w') : semW Try.prog (apS [30, 30] 30 [nilS, v]) w K := by
  have hown : w.ownsRow w.heap.size 3 1 nilS 0 [] := World.ownsRow_nil _ _ _ _
  obtain ⟨a, cap, rfl, _, hh⟩ := hr
  cases l with
  | nil => exact r_ap0 slt30 hown (hk _ _ hown (Kp.refl _))
  | cons x l =>
    obtain ⟨b, off, rfl, hc⟩ := hh (by simp)
    refine r_ap (xs := []) (news := intCells (x :: l)) slt30 hown (by simp [intCells]) (fun j u hj => ?_) intCells_one (by simp at hl ⊢; omega) (by omega) (Nat.le_refl _) fun v' w' ho hg hn => ?_
    · have hlt : j < (x :: l).length := by
        have := (List.getElem?_eq_some_iff.1 hj).1
        simpa [intCells] using this
      rw [r_addr, hc j hlt]
      rw [← hj, intCells, List.getElem?_map, List.getElem?_eq_getElem hlt]
      rw [getD_lt _ _ _ hlt]; rfl
    · refine hk _ _ ?_ (Kp.of_chg (Kp.refl _) (Chg.of_grown (S := fun _ => False) hg fun k e => by cases e) fun i e => e.elim)
      have e2 : recCells iC (x :: l) = intCells (x :: l) := by rw [rec_ints]; rfl
      unfold IntsAt RecAt
      rw [e2]
      simpa using ho

set_option maxRecDepth 100000 in
/-- append(out, rows...) -/
theorem r_apRows {base base' : Nat} {w : World} {v v' : Value} {R R' : List (List Int)} {K : Value → World → Prop} (h : IRows base w v R) (h' : IRows base' w v' R') (hb' : base ≤ base') (hn : R.length + R'.length ≤ 1000000) (hb : base ≤ w.heap.size)
    (hk : ∀ v2 w2, IRows base w2 v2 (R ++ R') → Chg (fun k => v.ownBlock = some k) w w2 → K v2 w2) : semW Try.prog (apS [23, 23] 23 [v, v']) w K := by
  have h0 := h
  obtain ⟨vs, h1, h2, h3⟩ := h
  obtain ⟨vs', g1, g2, g3⟩ := h'
  obtain ⟨a', cap', ev', _⟩ := g1.len
  by_cases h00 : vs'.length = 0
  · have e : R' = [] := List.length_eq_zero_iff.1 (by omega)
    rw [h00] at ev'
    subst ev'
    subst e
    exact r_ap0 slt23 h1 (hk _ _ (by rw [List.append_nil]; exact h0) (Chg.refl _ _))
  obtain ⟨g, cap, cur, ev, hgb, hg, hle, hm, hs, ht⟩ := g1.blk (by omega)
  rw [ev]
  have ecell : recCells vE vs' = vs' := by simp [recCells]
  rw [ecell] at ht
  refine r_ap (xs := recCells vE vs) (news := vs') (m := vs'.length) slt23 h1 (by simp) (fun j u hj => ?_) (fun u hu => ?_) (by omega) (by omega) hb fun v2 w2 ho hgr _ => ?_
  · have hlt := (List.getElem?_eq_some_iff.1 hj).1
    rw [r_addr, Nat.zero_add, cell_row hg]
    rw [← ht, List.getElem?_take, if_pos (by omega)] at hj
    simpa using hj
  · obtain ⟨i, hi, rfl⟩ := List.getElem_of_mem hu
    exact ints_slice (g3 i _ _ (List.getElem?_eq_getElem hi) (List.getElem?_eq_getElem (by omega)))
  · have hc : Chg (fun k => v.ownBlock = some k) w w2 := Chg.of_grown hgr fun k hk => hk
    have key : ∀ b u r, IntsAt b w u r → IntsAt b w2 u r := fun b u r hb => hb.chg hc fun q hq => rec_ne hb h1 (by decide) q hq
    refine hk v2 w2 ⟨vs ++ vs', ?_, by simp; omega, fun j u r hu hr => ?_⟩ hc
    · unfold RecAt
      rw [recCells_append, List.length_append, ecell]
      exact ho
    · by_cases hj : j < vs.length
      · rw [List.getElem?_append_left hj] at hu
        rw [List.getElem?_append_left (by omega)] at hr
        exact key _ _ _ (h3 j u r hu hr)
      · rw [List.getElem?_append_right (by omega)] at hu
        rw [List.getElem?_append_right (by omega), ← h2] at hr
        exact (key _ _ _ (g3 _ u r hu hr)).down hb'


end Go.Proofs.Ytgalbokmgffhkaa

/- Rules for what is not asked. -/
namespace Go.Proofs.Ytgalbokmgffhkaa
open Go.Lf Go.RowKit

theorem r_gqU {want : Bool} {run : (Value → Prop) → Prop} {K : Value → Prop} : gdQ undef want run K = K undef := rfl
theorem r_gdU {want : Bool} {run : (Value → World → Prop) → Prop} {w : World} {K : Value → World → Prop} : gd undef want run w K = K undef w := rfl

end Go.Proofs.Ytgalbokmgffhkaa
