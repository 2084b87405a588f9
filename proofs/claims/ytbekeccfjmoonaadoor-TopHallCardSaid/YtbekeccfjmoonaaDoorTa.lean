/- Strings: what memory holds of them, bytes; the contract of strings.Trim, by the shelf; few. -/
import Derived.Test.YtbekeccfjmoonaaDoorMo
import Derived.Test.YtbekeccfjmoonaaDoorSa
import Derived.Shelf.Strings.SlTrimAscii
set_option linter.all false
namespace Go.Proofs.YtbekeccfjmoonaaDoor
open Go.Lf Go.RowKit Go.Shelf Go.Proofs

def trimR_ren : Go.Shelf.Ren := ⟨fun | 160 => 53 | 232 => 74 | 231 => 73 | 227 => 75 | 234 => 77 | 233 => 76 | 236 => 79 | 235 => 78 | 228 => 94 | 271 => 97 | 151 => 96 | 197 => 95 | 120 => 105 | 152 => 104 | 260 => 103 | 137 => 107 | 119 => 108 | 224 => 109 | 225 => 110 | 217 => 111 | 266 => 112 | n => n, fun | 9 => 9 | 4 => 4 | 3 => 3 | 5 => 5 | 117 => 129 | 116 => 128 | 0 => 0 | 124 => 132 | 21 => 21 | 105 => 148 | 46 => 122 | 119 => 161 | 139 => 164 | 138 => 163 | n => n, fun | 3 => 1 | 4 => 2 | n => n⟩
set_option maxRecDepth 100000 in
theorem trimR : Go.Proofs.Lays.n160 Tryd.prog trimR_ren :=
  { mixed := by kernel_rfl,
    f119 := Tryd.func108.trans (congrArg some (by kernel_rfl)),
    f120 := Tryd.func105.trans (congrArg some (by kernel_rfl)),
    f137 := Tryd.func107.trans (congrArg some (by kernel_rfl)),
    f151 := Tryd.func96.trans (congrArg some (by kernel_rfl)),
    f152 := Tryd.func104.trans (congrArg some (by kernel_rfl)),
    f160 := Tryd.func53.trans (congrArg some (by kernel_rfl)),
    f197 := Tryd.func95.trans (congrArg some (by kernel_rfl)),
    f217 := Tryd.func111.trans (congrArg some (by kernel_rfl)),
    f224 := Tryd.func109.trans (congrArg some (by kernel_rfl)),
    f225 := Tryd.func110.trans (congrArg some (by kernel_rfl)),
    f227 := Tryd.func75.trans (congrArg some (by kernel_rfl)),
    f228 := Tryd.func94.trans (congrArg some (by kernel_rfl)),
    f231 := Tryd.func73.trans (congrArg some (by kernel_rfl)),
    f232 := Tryd.func74.trans (congrArg some (by kernel_rfl)),
    f233 := Tryd.func76.trans (congrArg some (by kernel_rfl)),
    f234 := Tryd.func77.trans (congrArg some (by kernel_rfl)),
    f235 := Tryd.func78.trans (congrArg some (by kernel_rfl)),
    f236 := Tryd.func79.trans (congrArg some (by kernel_rfl)),
    f260 := Tryd.func103.trans (congrArg some (by kernel_rfl)),
    f266 := Tryd.func112.trans (congrArg some (by kernel_rfl)),
    f271 := Tryd.func97.trans (congrArg some (by kernel_rfl)),
    t0 := Tryd.underlying0,
    a0 := Tryd.isAgg0,
    z0 := Tryd.sizeOf0,
    v0 := Tryd.zeroValue0,
    t3 := Tryd.underlying3,
    a3 := Tryd.isAgg3,
    z3 := Tryd.sizeOf3,
    v3 := Tryd.zeroValue3,
    t4 := Tryd.underlying4,
    a4 := Tryd.isAgg4,
    z4 := Tryd.sizeOf4,
    v4 := Tryd.zeroValue4,
    t5 := Tryd.underlying5,
    a5 := Tryd.isAgg5,
    z5 := Tryd.sizeOf5,
    v5 := Tryd.zeroValue5,
    t9 := Tryd.underlying9,
    a9 := Tryd.isAgg9,
    z9 := Tryd.sizeOf9,
    v9 := Tryd.zeroValue9,
    t21 := Tryd.underlying21,
    a21 := Tryd.isAgg21,
    z21 := Tryd.sizeOf21,
    v21 := Tryd.zeroValue21,
    t46 := Tryd.underlying122,
    a46 := Tryd.isAgg122,
    z46 := Tryd.sizeOf122,
    v46 := Tryd.zeroValue122,
    t105 := Tryd.underlying148,
    a105 := Tryd.isAgg148,
    z105 := Tryd.sizeOf148,
    v105 := Tryd.zeroValue148,
    t116 := Tryd.underlying128,
    a116 := Tryd.isAgg128,
    z116 := Tryd.sizeOf128,
    t117 := Tryd.underlying129,
    a117 := Tryd.isAgg129,
    z117 := Tryd.sizeOf129,
    v117 := Tryd.zeroValue129,
    t119 := Tryd.underlying161,
    a119 := Tryd.isAgg161,
    z119 := Tryd.sizeOf161,
    t124 := Tryd.underlying132,
    a124 := Tryd.isAgg132,
    z124 := Tryd.sizeOf132,
    v124 := Tryd.zeroValue132,
    t138 := Tryd.underlying163,
    a138 := Tryd.isAgg163,
    z138 := Tryd.sizeOf163,
    v138 := Tryd.zeroValue163,
    t139 := Tryd.underlying164,
    a139 := Tryd.isAgg164,
    z139 := Tryd.sizeOf164,
    v139 := Tryd.zeroValue164,
    g3 := by kernel_rfl,
    g4 := by kernel_rfl }

def SameW (a b : World) : Prop := a = b
def sC (s : ByteArray) : List Value := [.string s]
theorem sC_len (s : ByteArray) : (sC s).length = 1 := rfl
abbrev RdB (w : World) (v : Value) (l : List ByteArray) : Prop := Rd 1 sC w v l
theorem str_at {w : World} {v : Value} {l : List ByteArray} (h : RdB w v l) {i : Nat} (hi : i < l.length) (K : Value → Prop) : (iaS 1 v (.int .i64 i) fun p => ld1 w p K) = K (.string (l.getD i ⟨#[]⟩)) := by
  obtain ⟨b, off, cap, e, _, hc⟩ := h.at (List.getElem?_eq_getElem hi)
  have hii : (i : Int).toNat = i := by omega
  have h0 := hc 0 _ rfl
  rw [Nat.mul_one, Nat.add_zero] at h0
  rw [e, r_iaS _ _ _ _ _ _ _ (by omega) (by omega), hii, Nat.mul_one, r_ld h0, getD_lt _ _ _ hi]
theorem r_lnS (s : ByteArray) (K : Value → Prop) : lnS (.string s) K = K (.int .i64 s.size) := rfl
theorem und9 : Tryd.prog.underlying 9 = some .string := by kernel_rfl

/-- Are all bytes of a string of the cutset? -/
def plainB (s : ByteArray) : Bool := s.data.toList.all fun b => b == 35 || b == 46
theorem dropWhile_all {p : UInt8 → Bool} : ∀ {l : List UInt8}, l.dropWhile p = [] ↔ l.all p = true
  | [] => by simp
  | a :: l => by
    by_cases h : p a = true
    · rw [List.dropWhile_cons_of_pos h, List.all_cons, h, Bool.true_and]; exact dropWhile_all
    · have h : p a = false := by simpa using h
      rw [List.dropWhile_cons_of_neg (by simp [h]), List.all_cons, h]; simp
theorem trim_plain (s : ByteArray) : Lib.trimS s.data.toList [35, 46] = [] ↔ plainB s = true := by
  have hc : ∀ b : UInt8, [35, 46].contains b = (b == 35 || b == 46) := fun b => by simp [List.contains, List.elem]; cases (b == 35) <;> cases (b == 46) <;> rfl
  unfold Lib.trimS Lib.trimLeftS Lib.trimRightS plainB
  rw [dropWhile_all]
  constructor
  · intro h
    have h1 : (s.data.toList.reverse.dropWhile fun x => [35, 46].contains x) = [] := by
      refine Classical.byContradiction fun hne => ?_
      obtain ⟨a, t, e⟩ : ∃ a t, (s.data.toList.reverse.dropWhile fun x => [35, 46].contains x) = a :: t := by
        cases q : (s.data.toList.reverse.dropWhile fun x => [35, 46].contains x) with
        | nil => exact absurd q hne
        | cons a t => exact ⟨a, t, rfl⟩
      have hn : [35, 46].contains a = false := by
        have := List.head?_dropWhile_not (fun x => [35, 46].contains x) s.data.toList.reverse
        rw [e] at this
        simpa using this
      have := List.all_eq_true.1 h a (by rw [e]; simp)
      rw [hn] at this; cases this
    rw [dropWhile_all, List.all_reverse] at h1
    rw [List.all_eq_true] at h1 ⊢
    intro b hb
    rw [← hc]; exact h1 b hb
  · intro h
    have h1 : (s.data.toList.reverse.dropWhile fun x => [35, 46].contains x) = [] := by
      rw [dropWhile_all, List.all_reverse, List.all_eq_true]
      intro b hb
      rw [hc]; exact List.all_eq_true.1 h b hb
    rw [h1]; rfl

set_option maxRecDepth 100000 in
theorem trim_calls (s : ByteArray) (w : World) (hs : s.size ≤ 9223372036854775807) : Calls Tryd.prog 53 #[.string s, .string ⟨#[35, 46]⟩] w fun e w' => Kp w w' ∧ ∃ r : ByteArray, e = .returned (.string r) ∧ (r = ⟨#[]⟩ ↔ plainB s = true) := by
  have h := Any.strings_Trim_laid trimR (by kernel_rfl) s ⟨#[35, 46]⟩ w hs (by decide) (ascii_of_all (by decide))
  refine h.mono ?_
  rintro e w' ⟨rfl, hB⟩
  refine ⟨hB, _, rfl, ?_⟩
  rw [← trim_plain]
  constructor
  · intro e
    have := congrArg (fun b : ByteArray => b.data.toList) e
    simpa using this
  · intro e
    show (⟨(Lib.trimS s.data.toList [35, 46]).toArray⟩ : ByteArray) = _
    rw [e]

/-- Are strings few and short? -/
def fewB (l : List ByteArray) : Bool := decide (l.length ≤ 20) && l.all fun s => decide (s.size ≤ 20)
set_option maxRecDepth 100000 in
theorem few_calls {v : Value} {l : List ByteArray} (w : World) (hr : RdB w v l) : Calls Tryd.prog 5 #[v] w fun e w' => e = .returned (.bool (fewB l)) ∧ w = w' := by
  obtain ⟨a, cap, ev, _⟩ := hr.len
  have lnv : ∀ K : Value → Prop, ln1 v K = K (.int .i64 l.length) := fun K => by rw [ev]; rfl
  refine lift5 ?_
  unfold S5 S5L0
  refine ⟨fun t3 wr => ∃ i : Nat, i ≤ l.length ∧ i ≤ 20 ∧ t3 = .int .i64 i ∧ (∀ j, j < i → (l.getD j ⟨#[]⟩).size ≤ 20) ∧ SameW w wr, fun t3 _ => l.length - (intOf t3).toNat, ⟨0, by omega, by omega, rfl, fun j hj => by omega, rfl⟩, ?_⟩
  rintro _ _ wr ⟨i, hi, h20, rfl, hall, rfl⟩
  rw [lnv]
  by_cases hlt : i < l.length
  case neg =>
    have hlt' : ¬ (i : Int) < (l.length : Int) := by omega
    rw [r_lss, decide_eq_false hlt', r_condF]
    refine ⟨ret_bool ?_, rfl⟩
    unfold fewB
    rw [decide_eq_true (show l.length ≤ 20 by omega), Bool.true_and]
    refine (List.all_eq_true.2 fun s hs => ?_).symm
    obtain ⟨j, hj, rfl⟩ := List.getElem_of_mem hs
    have := hall j (by omega)
    rw [getD_lt _ _ _ hj] at this
    exact decide_eq_true this
  have hlt' : (i : Int) < (l.length : Int) := by omega
  rw [r_lss, decide_eq_true hlt', r_condT, r_geq]
  by_cases g1 : (20 : Int) ≤ (i : Int)
  · rw [decide_eq_true g1]
    simp only [r_gdTF, r_gdU, r_pickT, r_condT]
    refine ⟨ret_bool ?_, by first | rfl | trivial⟩
    unfold fewB
    rw [decide_eq_false (show ¬ l.length ≤ 20 by omega)]; rfl
  rw [decide_eq_false g1]
  simp only [r_gdFF, r_pickF]
  rw [str_at hr hlt, r_lnS, r_gtr]
  by_cases g2 : (20 : Int) < ((l.getD i ⟨#[]⟩).size : Int)
  · rw [decide_eq_true g2, r_condT]
    refine ⟨ret_bool ?_, by first | rfl | trivial⟩
    unfold fewB
    have : (l.all fun s => decide (s.size ≤ 20)) = false := by
      rw [← Bool.not_eq_true, List.all_eq_true]
      intro h
      have := of_decide_eq_true (h (l.getD i ⟨#[]⟩) (getD_mem hlt))
      omega
    rw [this, Bool.and_false]
  · rw [decide_eq_false g2, r_condF, r_add _ _ (by omega) (by omega)]
    refine ⟨⟨i + 1, by omega, by omega, by go_num, fun j hj => ?_, rfl⟩, by simp only [intOf]; omega⟩
    by_cases e : j = i
    · subst e; omega
    · exact hall j (by omega)

end Go.Proofs.YtbekeccfjmoonaaDoor
