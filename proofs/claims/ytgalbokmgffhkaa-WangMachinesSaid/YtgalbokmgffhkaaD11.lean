/- What Run computes. -/
import Derived.Test.YtgalbokmgffhkaaD10
set_option linter.all false
namespace Go.Proofs.Ytgalbokmgffhkaa
open Go.Lf Go.RowKit Go.Wg

abbrev MSt := List Int × Int × Int
def bitB (n : Int) : Bool := decide (0 ≤ n ∧ n ≤ 1)
/-- Does the machine go on? -/
def goes (x : MSt) : Prop := 0 ≤ x.2.2 ∧ 0 ≤ x.2.1 ∧ x.2.1 < x.1.length
instance (x : MSt) : Decidable (goes x) := inferInstanceAs (Decidable (_ ∧ _))
def entAt (T : List Ent) (x : MSt) : Ent := T.getD (2 * x.2.2 + x.1.getD x.2.1.toNat 0).toNat (0, false, -1)
def moved (e : Ent) (a : Int) : Int := if e.2.2 < 0 then a else if e.2.1 = true then a + 1 else a - 1
def stp (T : List Ent) (x : MSt) : MSt := if goes x then (x.1.set x.2.1.toNat (entAt T x).1, moved (entAt T x) x.2.1, (entAt T x).2.2) else x
def runM (T : List Ent) (x : MSt) : Nat → MSt
  | 0 => x
  | k + 1 => stp T (runM T x k)
theorem runM_stop {T : List Ent} {x : MSt} {i : Nat} (h : ¬ goes (runM T x i)) : ∀ k, i ≤ k → runM T x k = runM T x i
  | 0, hk => by have : i = 0 := by omega
                subst this; rfl
  | k + 1, hk => by
    by_cases e : i = k + 1
    · rw [e]
    · have := runM_stop h k (by omega)
      simp only [runM, this]
      rw [stp, if_neg h]

/-- What holds of every state. -/
structure MOk (s n : Nat) (x : MSt) (k : Nat) : Prop where
  len : x.1.length = n
  bits : ∀ c ∈ x.1, 0 ≤ c ∧ c ≤ 1
  q : -1 ≤ x.2.2 ∧ x.2.2 < s
  a : -(k : Int) ≤ x.2.1 ∧ x.2.1 ≤ k

structure TOk (s : Nat) (T : List Ent) : Prop where
  s1 : 1 ≤ s
  s2 : s ≤ 2
  len : T.length = 2 * s
  ent : ∀ x ∈ T, (0 ≤ x.1 ∧ x.1 ≤ 1) ∧ -1 ≤ x.2.2 ∧ x.2.2 < s

theorem entAt_get {s n k : Nat} {T : List Ent} {x : MSt} (hT : TOk s T) (h : MOk s n x k) (hg : goes x) :
    ∃ o : Nat, o ≤ 1 ∧ x.1.getD x.2.1.toNat 0 = o ∧ 2 * x.2.2.toNat + o < T.length ∧ T[2 * x.2.2.toNat + o]? = some (entAt T x) ∧ entAt T x ∈ T := by
  obtain ⟨g1, g2, g3⟩ := hg
  have hlt : x.2.1.toNat < x.1.length := by omega
  have hb := h.bits (x.1[x.2.1.toNat]) (List.getElem_mem hlt)
  have e1 : x.1.getD x.2.1.toNat 0 = x.1[x.2.1.toNat] := getD_lt _ _ _ hlt
  have hq := h.q
  have hl := hT.len
  have hlt2 : 2 * x.2.2.toNat + (x.1[x.2.1.toNat]).toNat < T.length := by omega
  have e2 : (2 * x.2.2 + x.1.getD x.2.1.toNat 0).toNat = 2 * x.2.2.toNat + (x.1[x.2.1.toNat]).toNat := by rw [e1]; omega
  have e3 : entAt T x = T[2 * x.2.2.toNat + (x.1[x.2.1.toNat]).toNat] := by rw [entAt, e2]; exact getD_lt _ _ _ hlt2
  refine ⟨(x.1[x.2.1.toNat]).toNat, by omega, by rw [e1]; omega, hlt2, ?_, ?_⟩
  · rw [e3]; exact List.getElem?_eq_getElem hlt2
  · rw [e3]; exact List.getElem_mem hlt2

theorem MOk.step {s n k : Nat} {T : List Ent} {x : MSt} (hT : TOk s T) (h : MOk s n x k) : MOk s n (stp T x) (k + 1) := by
  unfold stp
  have ha := h.a
  split
  · rename_i hg
    obtain ⟨o, ho, _, _, _, hm⟩ := entAt_get hT h hg
    have he := hT.ent _ hm
    refine ⟨by rw [List.length_set]; exact h.len, fun c hc => ?_, he.2, ?_⟩
    · rcases List.mem_or_eq_of_mem_set hc with h1 | h1
      · exact h.bits c h1
      · rw [h1]; exact he.1
    · show _ ≤ moved _ _ ∧ moved _ _ ≤ _
      unfold moved
      split
      · omega
      · split <;> omega
  · exact ⟨h.len, h.bits, h.q, by omega⟩
theorem MOk.run {s n : Nat} {T : List Ent} {x : MSt} (hT : TOk s T) (h : MOk s n x 0) : ∀ k, MOk s n (runM T x k) k
  | 0 => h
  | k + 1 => (MOk.run hT h k).step hT

def runOk (S : Int) (T : List Ent) (tape : List Int) (n : Int) : Bool := macB S T && sideB tape.length && tape.all bitB && decide (0 ≤ n ∧ n ≤ 4)
theorem runOk_iff {S : Int} {T : List Ent} {tape : List Int} {n : Int} : runOk S T tape n = true ↔ (macB S T = true ∧ sideB tape.length = true ∧ tape.all bitB = true ∧ 0 ≤ n ∧ n ≤ 4) := by
  simp only [runOk, Bool.and_eq_true, decide_eq_true_eq, and_assoc]
theorem bits_iff {tape : List Int} : tape.all bitB = true ↔ ∀ c ∈ tape, 0 ≤ c ∧ c ≤ 1 := by
  simp [bitB, List.all_eq_true]

/-- What Run returns. -/
def RunPost (S : Int) (T : List Ent) (tape : List Int) (n : Int) (base : Nat) (w' : World) (e : Ending) : Prop :=
  (runOk S T tape n = false ∧ e = .returned (.tuple #[nilS, .int .i64 0, .int .i64 0, .int .i64 2])) ∨
  (runOk S T tape n = true ∧ ∃ v, e = .returned (.tuple #[v, .int .i64 (runM T (tape, 0, 0) n.toNat).2.1, .int .i64 (runM T (tape, 0, 0) n.toNat).2.2, .int .i64 0]) ∧ IntsAt base w' v (runM T (tape, 0, 0) n.toNat).1)

theorem tOk_of {S : Int} {T : List Ent} (h : macB S T = true) : ∃ s : Nat, S = s ∧ TOk s T := by
  obtain ⟨s, e, h1, h2, h3, h4⟩ := mac_of h
  exact ⟨s, e, ⟨h1, h2, h3, h4⟩⟩
theorem mOk_start {s : Nat} {tape : List Int} (hs : 1 ≤ s) (hb : ∀ c ∈ tape, 0 ≤ c ∧ c ≤ 1) : MOk s tape.length (tape, 0, 0) 0 := ⟨rfl, hb, ⟨by show (-1 : Int) ≤ 0; omega, by show (0 : Int) < s; omega⟩, ⟨by simp, by simp⟩⟩

end Go.Proofs.Ytgalbokmgffhkaa
