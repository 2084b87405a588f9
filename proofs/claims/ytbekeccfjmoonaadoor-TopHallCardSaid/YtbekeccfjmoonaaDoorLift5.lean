/- Lifting, part 5: code; a call. -/
import Derived.Test.YtbekeccfjmoonaaDoorLift4x
import Derived.ScopeJumps
set_option linter.all false
namespace Go.Lf
open Go.RowKit

structure Ann where
  /-- by a loop's block: the slots that a round takes over from the one before -/
  live : Nat → List Nat
  /-- by a loop's block: may the round write this slot? -/
  wr : Nat → Nat → Bool
  /-- by a region's number -/
  sched : Nat → Sched

def thn (next : Fr → World → Prop) (Q : Exit → Fr → World → Prop) : Exit → Fr → World → Prop
  | .normal, f, w => next f w
  | e, f, w => Q e f w

def inBlk (id : Nat) (Q : Exit → Fr → World → Prop) : Exit → Fr → World → Prop
  | .exit id', f, w => if id' = id then Q .normal f w else Q (.exit id') f w
  | e, f, w => Q e f w

def condW (c : Value) (x y : Prop) : Prop :=
  match c with
  | .bool b => if b = true then x else y
  | _ => False

def Loop0 (w0 : World) (body : Fr → World → (World → Prop) → Prop) : Prop :=
  ∃ (I : World → Prop) (μ : World → Nat), I w0 ∧ ∀ (junk : Fr)  (w : World), I w → body junk w fun w' => I w' ∧ μ w' < μ w

def Loop1 (a0 : Value) (w0 : World) (body : Fr → Value → World → (Value → World → Prop) → Prop) : Prop :=
  ∃ (I : Value → World → Prop) (μ : Value → World → Nat), I a0 w0 ∧ ∀ (junk : Fr) (a : Value) (w : World), I a w → body junk a w fun a' w' => I a' w' ∧ μ a' w' < μ a w

def Loop2 (a0 : Value) (b0 : Value) (w0 : World) (body : Fr → Value → Value → World → (Value → Value → World → Prop) → Prop) : Prop :=
  ∃ (I : Value → Value → World → Prop) (μ : Value → Value → World → Nat), I a0 b0 w0 ∧ ∀ (junk : Fr) (a : Value) (b : Value) (w : World), I a b w → body junk a b w fun a' b' w' => I a' b' w' ∧ μ a' b' w' < μ a b w

def Loop3 (a0 : Value) (b0 : Value) (c0 : Value) (w0 : World) (body : Fr → Value → Value → Value → World → (Value → Value → Value → World → Prop) → Prop) : Prop :=
  ∃ (I : Value → Value → Value → World → Prop) (μ : Value → Value → Value → World → Nat), I a0 b0 c0 w0 ∧ ∀ (junk : Fr) (a : Value) (b : Value) (c : Value) (w : World), I a b c w → body junk a b c w fun a' b' c' w' => I a' b' c' w' ∧ μ a' b' c' w' < μ a b c w

def Loop4 (a0 : Value) (b0 : Value) (c0 : Value) (d0 : Value) (w0 : World) (body : Fr → Value → Value → Value → Value → World → (Value → Value → Value → Value → World → Prop) → Prop) : Prop :=
  ∃ (I : Value → Value → Value → Value → World → Prop) (μ : Value → Value → Value → Value → World → Nat), I a0 b0 c0 d0 w0 ∧ ∀ (junk : Fr) (a : Value) (b : Value) (c : Value) (d : Value) (w : World), I a b c d w → body junk a b c d w fun a' b' c' d' w' => I a' b' c' d' w' ∧ μ a' b' c' d' w' < μ a b c d w

def Loop5 (a0 : Value) (b0 : Value) (c0 : Value) (d0 : Value) (x0 : Value) (w0 : World) (body : Fr → Value → Value → Value → Value → Value → World → (Value → Value → Value → Value → Value → World → Prop) → Prop) : Prop :=
  ∃ (I : Value → Value → Value → Value → Value → World → Prop) (μ : Value → Value → Value → Value → Value → World → Nat), I a0 b0 c0 d0 x0 w0 ∧ ∀ (junk : Fr) (a : Value) (b : Value) (c : Value) (d : Value) (x : Value) (w : World), I a b c d x w → body junk a b c d x w fun a' b' c' d' x' w' => I a' b' c' d' x' w' ∧ μ a' b' c' d' x' w' < μ a b c d x w

def Loop6 (a0 : Value) (b0 : Value) (c0 : Value) (d0 : Value) (x0 : Value) (y0 : Value) (w0 : World) (body : Fr → Value → Value → Value → Value → Value → Value → World → (Value → Value → Value → Value → Value → Value → World → Prop) → Prop) : Prop :=
  ∃ (I : Value → Value → Value → Value → Value → Value → World → Prop) (μ : Value → Value → Value → Value → Value → Value → World → Nat), I a0 b0 c0 d0 x0 y0 w0 ∧ ∀ (junk : Fr) (a : Value) (b : Value) (c : Value) (d : Value) (x : Value) (y : Value) (w : World), I a b c d x y w → body junk a b c d x y w fun a' b' c' d' x' y' w' => I a' b' c' d' x' y' w' ∧ μ a' b' c' d' x' y' w' < μ a b c d x y w

def Loop7 (a0 : Value) (b0 : Value) (c0 : Value) (d0 : Value) (x0 : Value) (y0 : Value) (z0 : Value) (w0 : World) (body : Fr → Value → Value → Value → Value → Value → Value → Value → World → (Value → Value → Value → Value → Value → Value → Value → World → Prop) → Prop) : Prop :=
  ∃ (I : Value → Value → Value → Value → Value → Value → Value → World → Prop) (μ : Value → Value → Value → Value → Value → Value → Value → World → Nat), I a0 b0 c0 d0 x0 y0 z0 w0 ∧ ∀ (junk : Fr) (a : Value) (b : Value) (c : Value) (d : Value) (x : Value) (y : Value) (z : Value) (w : World), I a b c d x y z w → body junk a b c d x y z w fun a' b' c' d' x' y' z' w' => I a' b' c' d' x' y' z' w' ∧ μ a' b' c' d' x' y' z' w' < μ a b c d x y z w

def Loop8 (a0 : Value) (b0 : Value) (c0 : Value) (d0 : Value) (x0 : Value) (y0 : Value) (z0 : Value) (p0 : Value) (w0 : World) (body : Fr → Value → Value → Value → Value → Value → Value → Value → Value → World → (Value → Value → Value → Value → Value → Value → Value → Value → World → Prop) → Prop) : Prop :=
  ∃ (I : Value → Value → Value → Value → Value → Value → Value → Value → World → Prop) (μ : Value → Value → Value → Value → Value → Value → Value → Value → World → Nat), I a0 b0 c0 d0 x0 y0 z0 p0 w0 ∧ ∀ (junk : Fr) (a : Value) (b : Value) (c : Value) (d : Value) (x : Value) (y : Value) (z : Value) (p : Value) (w : World), I a b c d x y z p w → body junk a b c d x y z p w fun a' b' c' d' x' y' z' p' w' => I a' b' c' d' x' y' z' p' w' ∧ μ a' b' c' d' x' y' z' p' w' < μ a b c d x y z p w

def Loop9 (a0 : Value) (b0 : Value) (c0 : Value) (d0 : Value) (x0 : Value) (y0 : Value) (z0 : Value) (p0 : Value) (q0 : Value) (w0 : World) (body : Fr → Value → Value → Value → Value → Value → Value → Value → Value → Value → World → (Value → Value → Value → Value → Value → Value → Value → Value → Value → World → Prop) → Prop) : Prop :=
  ∃ (I : Value → Value → Value → Value → Value → Value → Value → Value → Value → World → Prop) (μ : Value → Value → Value → Value → Value → Value → Value → Value → Value → World → Nat), I a0 b0 c0 d0 x0 y0 z0 p0 q0 w0 ∧ ∀ (junk : Fr) (a : Value) (b : Value) (c : Value) (d : Value) (x : Value) (y : Value) (z : Value) (p : Value) (q : Value) (w : World), I a b c d x y z p q w → body junk a b c d x y z p q w fun a' b' c' d' x' y' z' p' q' w' => I a' b' c' d' x' y' z' p' q' w' ∧ μ a' b' c' d' x' y' z' p' q' w' < μ a b c d x y z p q w

def Loop10 (a0 : Value) (b0 : Value) (c0 : Value) (d0 : Value) (x0 : Value) (y0 : Value) (z0 : Value) (p0 : Value) (q0 : Value) (r0 : Value) (w0 : World) (body : Fr → Value → Value → Value → Value → Value → Value → Value → Value → Value → Value → World → (Value → Value → Value → Value → Value → Value → Value → Value → Value → Value → World → Prop) → Prop) : Prop :=
  ∃ (I : Value → Value → Value → Value → Value → Value → Value → Value → Value → Value → World → Prop) (μ : Value → Value → Value → Value → Value → Value → Value → Value → Value → Value → World → Nat), I a0 b0 c0 d0 x0 y0 z0 p0 q0 r0 w0 ∧ ∀ (junk : Fr) (a : Value) (b : Value) (c : Value) (d : Value) (x : Value) (y : Value) (z : Value) (p : Value) (q : Value) (r : Value) (w : World), I a b c d x y z p q r w → body junk a b c d x y z p q r w fun a' b' c' d' x' y' z' p' q' r' w' => I a' b' c' d' x' y' z' p' q' r' w' ∧ μ a' b' c' d' x' y' z' p' q' r' w' < μ a b c d x y z p q r w

def loopW (live : List Nat) (wr : Nat → Bool) (body : (Exit → Fr → World → Prop) → Fr → World → Prop) (Q : Exit → Fr → World → Prop) (fr : Fr) (w : World) : Prop :=
  match live with
  | [] => Loop0  w fun junk  w next => body (thn (fun _ w => next w) Q) (fun i => bif wr i then junk i else fr i) w
  | [sa] => Loop1 (fr sa) w fun junk a w next => body (thn (fun f w => next (f sa) w) Q) (fun i => bif Nat.beq i sa then a else bif wr i then junk i else fr i) w
  | [sa, sb] => Loop2 (fr sa) (fr sb) w fun junk a b w next => body (thn (fun f w => next (f sa) (f sb) w) Q) (fun i => bif Nat.beq i sa then a else bif Nat.beq i sb then b else bif wr i then junk i else fr i) w
  | [sa, sb, sc] => Loop3 (fr sa) (fr sb) (fr sc) w fun junk a b c w next => body (thn (fun f w => next (f sa) (f sb) (f sc) w) Q) (fun i => bif Nat.beq i sa then a else bif Nat.beq i sb then b else bif Nat.beq i sc then c else bif wr i then junk i else fr i) w
  | [sa, sb, sc, sd] => Loop4 (fr sa) (fr sb) (fr sc) (fr sd) w fun junk a b c d w next => body (thn (fun f w => next (f sa) (f sb) (f sc) (f sd) w) Q) (fun i => bif Nat.beq i sa then a else bif Nat.beq i sb then b else bif Nat.beq i sc then c else bif Nat.beq i sd then d else bif wr i then junk i else fr i) w
  | [sa, sb, sc, sd, sx] => Loop5 (fr sa) (fr sb) (fr sc) (fr sd) (fr sx) w fun junk a b c d x w next => body (thn (fun f w => next (f sa) (f sb) (f sc) (f sd) (f sx) w) Q) (fun i => bif Nat.beq i sa then a else bif Nat.beq i sb then b else bif Nat.beq i sc then c else bif Nat.beq i sd then d else bif Nat.beq i sx then x else bif wr i then junk i else fr i) w
  | [sa, sb, sc, sd, sx, sy] => Loop6 (fr sa) (fr sb) (fr sc) (fr sd) (fr sx) (fr sy) w fun junk a b c d x y w next => body (thn (fun f w => next (f sa) (f sb) (f sc) (f sd) (f sx) (f sy) w) Q) (fun i => bif Nat.beq i sa then a else bif Nat.beq i sb then b else bif Nat.beq i sc then c else bif Nat.beq i sd then d else bif Nat.beq i sx then x else bif Nat.beq i sy then y else bif wr i then junk i else fr i) w
  | [sa, sb, sc, sd, sx, sy, sz] => Loop7 (fr sa) (fr sb) (fr sc) (fr sd) (fr sx) (fr sy) (fr sz) w fun junk a b c d x y z w next => body (thn (fun f w => next (f sa) (f sb) (f sc) (f sd) (f sx) (f sy) (f sz) w) Q) (fun i => bif Nat.beq i sa then a else bif Nat.beq i sb then b else bif Nat.beq i sc then c else bif Nat.beq i sd then d else bif Nat.beq i sx then x else bif Nat.beq i sy then y else bif Nat.beq i sz then z else bif wr i then junk i else fr i) w
  | [sa, sb, sc, sd, sx, sy, sz, sp] => Loop8 (fr sa) (fr sb) (fr sc) (fr sd) (fr sx) (fr sy) (fr sz) (fr sp) w fun junk a b c d x y z p w next => body (thn (fun f w => next (f sa) (f sb) (f sc) (f sd) (f sx) (f sy) (f sz) (f sp) w) Q) (fun i => bif Nat.beq i sa then a else bif Nat.beq i sb then b else bif Nat.beq i sc then c else bif Nat.beq i sd then d else bif Nat.beq i sx then x else bif Nat.beq i sy then y else bif Nat.beq i sz then z else bif Nat.beq i sp then p else bif wr i then junk i else fr i) w
  | [sa, sb, sc, sd, sx, sy, sz, sp, sq] => Loop9 (fr sa) (fr sb) (fr sc) (fr sd) (fr sx) (fr sy) (fr sz) (fr sp) (fr sq) w fun junk a b c d x y z p q w next => body (thn (fun f w => next (f sa) (f sb) (f sc) (f sd) (f sx) (f sy) (f sz) (f sp) (f sq) w) Q) (fun i => bif Nat.beq i sa then a else bif Nat.beq i sb then b else bif Nat.beq i sc then c else bif Nat.beq i sd then d else bif Nat.beq i sx then x else bif Nat.beq i sy then y else bif Nat.beq i sz then z else bif Nat.beq i sp then p else bif Nat.beq i sq then q else bif wr i then junk i else fr i) w
  | [sa, sb, sc, sd, sx, sy, sz, sp, sq, sr] => Loop10 (fr sa) (fr sb) (fr sc) (fr sd) (fr sx) (fr sy) (fr sz) (fr sp) (fr sq) (fr sr) w fun junk a b c d x y z p q r w next => body (thn (fun f w => next (f sa) (f sb) (f sc) (f sd) (f sx) (f sy) (f sz) (f sp) (f sq) (f sr) w) Q) (fun i => bif Nat.beq i sa then a else bif Nat.beq i sb then b else bif Nat.beq i sc then c else bif Nat.beq i sd then d else bif Nat.beq i sx then x else bif Nat.beq i sy then y else bif Nat.beq i sz then z else bif Nat.beq i sp then p else bif Nat.beq i sq then q else bif Nat.beq i sr then r else bif wr i then junk i else fr i) w
  | _ => False

theorem emb_eq {wr : Nat → Bool} {fr fr' : Fr} (h : ∀ i, wr i = false → fr' i = fr i) (i : Nat) : (bif wr i then fr' i else fr i) = fr' i := by
  cases hw : wr i with
  | true => rfl
  | false => exact (h i hw).symm

theorem emb_at {x : Fr} {i s : Nat} {r : Value} (h : r = x i) : (bif Nat.beq i s then x s else r) = x i := by
  cases hb : Nat.beq i s with
  | true => rw [Nat.eq_of_beq_eq_true hb]; rfl
  | false => exact h

theorem loopW_gen {live : List Nat} {wr : Nat → Bool} {body : (Exit → Fr → World → Prop) → Fr → World → Prop} {Q : Exit → Fr → World → Prop} {fr : Fr} {w : World} (h : loopW live wr body Q fr w) :
    ∃ (I : Fr → World → Prop) (μ : Fr → World → Nat), I fr w ∧ ∀ fr' w', (∀ i, wr i = false → fr' i = fr i) → I fr' w' → body (thn (fun f x => I f x ∧ μ f x < μ fr' w') Q) fr' w' := by
  unfold loopW at h
  split at h
  · obtain ⟨I, μ, h0, hr⟩ := h
    refine ⟨fun f x => I  x, fun f x => μ  x, h0, fun fr' w' hoff hI => ?_⟩
    have := hr fr'  w' hI
    have e : (fun i => bif wr i then fr' i else fr i) = fr' := funext fun i => emb_eq hoff i
    dsimp only at this
    rw [e] at this
    exact this
  · rename_i sa; obtain ⟨I, μ, h0, hr⟩ := h
    refine ⟨fun f x => I (f sa) x, fun f x => μ (f sa) x, h0, fun fr' w' hoff hI => ?_⟩
    have := hr fr' (fr' sa) w' hI
    have e : (fun i => bif Nat.beq i sa then fr' sa else bif wr i then fr' i else fr i) = fr' := funext fun i => emb_at (emb_eq hoff i)
    dsimp only at this
    rw [e] at this
    exact this
  · rename_i sa sb; obtain ⟨I, μ, h0, hr⟩ := h
    refine ⟨fun f x => I (f sa) (f sb) x, fun f x => μ (f sa) (f sb) x, h0, fun fr' w' hoff hI => ?_⟩
    have := hr fr' (fr' sa) (fr' sb) w' hI
    have e : (fun i => bif Nat.beq i sa then fr' sa else bif Nat.beq i sb then fr' sb else bif wr i then fr' i else fr i) = fr' := funext fun i => emb_at (emb_at (emb_eq hoff i))
    dsimp only at this
    rw [e] at this
    exact this
  · rename_i sa sb sc; obtain ⟨I, μ, h0, hr⟩ := h
    refine ⟨fun f x => I (f sa) (f sb) (f sc) x, fun f x => μ (f sa) (f sb) (f sc) x, h0, fun fr' w' hoff hI => ?_⟩
    have := hr fr' (fr' sa) (fr' sb) (fr' sc) w' hI
    have e : (fun i => bif Nat.beq i sa then fr' sa else bif Nat.beq i sb then fr' sb else bif Nat.beq i sc then fr' sc else bif wr i then fr' i else fr i) = fr' := funext fun i => emb_at (emb_at (emb_at (emb_eq hoff i)))
    dsimp only at this
    rw [e] at this
    exact this
  · rename_i sa sb sc sd; obtain ⟨I, μ, h0, hr⟩ := h
    refine ⟨fun f x => I (f sa) (f sb) (f sc) (f sd) x, fun f x => μ (f sa) (f sb) (f sc) (f sd) x, h0, fun fr' w' hoff hI => ?_⟩
    have := hr fr' (fr' sa) (fr' sb) (fr' sc) (fr' sd) w' hI
    have e : (fun i => bif Nat.beq i sa then fr' sa else bif Nat.beq i sb then fr' sb else bif Nat.beq i sc then fr' sc else bif Nat.beq i sd then fr' sd else bif wr i then fr' i else fr i) = fr' := funext fun i => emb_at (emb_at (emb_at (emb_at (emb_eq hoff i))))
    dsimp only at this
    rw [e] at this
    exact this
  · rename_i sa sb sc sd sx; obtain ⟨I, μ, h0, hr⟩ := h
    refine ⟨fun f x => I (f sa) (f sb) (f sc) (f sd) (f sx) x, fun f x => μ (f sa) (f sb) (f sc) (f sd) (f sx) x, h0, fun fr' w' hoff hI => ?_⟩
    have := hr fr' (fr' sa) (fr' sb) (fr' sc) (fr' sd) (fr' sx) w' hI
    have e : (fun i => bif Nat.beq i sa then fr' sa else bif Nat.beq i sb then fr' sb else bif Nat.beq i sc then fr' sc else bif Nat.beq i sd then fr' sd else bif Nat.beq i sx then fr' sx else bif wr i then fr' i else fr i) = fr' := funext fun i => emb_at (emb_at (emb_at (emb_at (emb_at (emb_eq hoff i)))))
    dsimp only at this
    rw [e] at this
    exact this
  · rename_i sa sb sc sd sx sy; obtain ⟨I, μ, h0, hr⟩ := h
    refine ⟨fun f x => I (f sa) (f sb) (f sc) (f sd) (f sx) (f sy) x, fun f x => μ (f sa) (f sb) (f sc) (f sd) (f sx) (f sy) x, h0, fun fr' w' hoff hI => ?_⟩
    have := hr fr' (fr' sa) (fr' sb) (fr' sc) (fr' sd) (fr' sx) (fr' sy) w' hI
    have e : (fun i => bif Nat.beq i sa then fr' sa else bif Nat.beq i sb then fr' sb else bif Nat.beq i sc then fr' sc else bif Nat.beq i sd then fr' sd else bif Nat.beq i sx then fr' sx else bif Nat.beq i sy then fr' sy else bif wr i then fr' i else fr i) = fr' := funext fun i => emb_at (emb_at (emb_at (emb_at (emb_at (emb_at (emb_eq hoff i))))))
    dsimp only at this
    rw [e] at this
    exact this
  · rename_i sa sb sc sd sx sy sz; obtain ⟨I, μ, h0, hr⟩ := h
    refine ⟨fun f x => I (f sa) (f sb) (f sc) (f sd) (f sx) (f sy) (f sz) x, fun f x => μ (f sa) (f sb) (f sc) (f sd) (f sx) (f sy) (f sz) x, h0, fun fr' w' hoff hI => ?_⟩
    have := hr fr' (fr' sa) (fr' sb) (fr' sc) (fr' sd) (fr' sx) (fr' sy) (fr' sz) w' hI
    have e : (fun i => bif Nat.beq i sa then fr' sa else bif Nat.beq i sb then fr' sb else bif Nat.beq i sc then fr' sc else bif Nat.beq i sd then fr' sd else bif Nat.beq i sx then fr' sx else bif Nat.beq i sy then fr' sy else bif Nat.beq i sz then fr' sz else bif wr i then fr' i else fr i) = fr' := funext fun i => emb_at (emb_at (emb_at (emb_at (emb_at (emb_at (emb_at (emb_eq hoff i)))))))
    dsimp only at this
    rw [e] at this
    exact this
  · rename_i sa sb sc sd sx sy sz sp; obtain ⟨I, μ, h0, hr⟩ := h
    refine ⟨fun f x => I (f sa) (f sb) (f sc) (f sd) (f sx) (f sy) (f sz) (f sp) x, fun f x => μ (f sa) (f sb) (f sc) (f sd) (f sx) (f sy) (f sz) (f sp) x, h0, fun fr' w' hoff hI => ?_⟩
    have := hr fr' (fr' sa) (fr' sb) (fr' sc) (fr' sd) (fr' sx) (fr' sy) (fr' sz) (fr' sp) w' hI
    have e : (fun i => bif Nat.beq i sa then fr' sa else bif Nat.beq i sb then fr' sb else bif Nat.beq i sc then fr' sc else bif Nat.beq i sd then fr' sd else bif Nat.beq i sx then fr' sx else bif Nat.beq i sy then fr' sy else bif Nat.beq i sz then fr' sz else bif Nat.beq i sp then fr' sp else bif wr i then fr' i else fr i) = fr' := funext fun i => emb_at (emb_at (emb_at (emb_at (emb_at (emb_at (emb_at (emb_at (emb_eq hoff i))))))))
    dsimp only at this
    rw [e] at this
    exact this
  · rename_i sa sb sc sd sx sy sz sp sq; obtain ⟨I, μ, h0, hr⟩ := h
    refine ⟨fun f x => I (f sa) (f sb) (f sc) (f sd) (f sx) (f sy) (f sz) (f sp) (f sq) x, fun f x => μ (f sa) (f sb) (f sc) (f sd) (f sx) (f sy) (f sz) (f sp) (f sq) x, h0, fun fr' w' hoff hI => ?_⟩
    have := hr fr' (fr' sa) (fr' sb) (fr' sc) (fr' sd) (fr' sx) (fr' sy) (fr' sz) (fr' sp) (fr' sq) w' hI
    have e : (fun i => bif Nat.beq i sa then fr' sa else bif Nat.beq i sb then fr' sb else bif Nat.beq i sc then fr' sc else bif Nat.beq i sd then fr' sd else bif Nat.beq i sx then fr' sx else bif Nat.beq i sy then fr' sy else bif Nat.beq i sz then fr' sz else bif Nat.beq i sp then fr' sp else bif Nat.beq i sq then fr' sq else bif wr i then fr' i else fr i) = fr' := funext fun i => emb_at (emb_at (emb_at (emb_at (emb_at (emb_at (emb_at (emb_at (emb_at (emb_eq hoff i)))))))))
    dsimp only at this
    rw [e] at this
    exact this
  · rename_i sa sb sc sd sx sy sz sp sq sr; obtain ⟨I, μ, h0, hr⟩ := h
    refine ⟨fun f x => I (f sa) (f sb) (f sc) (f sd) (f sx) (f sy) (f sz) (f sp) (f sq) (f sr) x, fun f x => μ (f sa) (f sb) (f sc) (f sd) (f sx) (f sy) (f sz) (f sp) (f sq) (f sr) x, h0, fun fr' w' hoff hI => ?_⟩
    have := hr fr' (fr' sa) (fr' sb) (fr' sc) (fr' sd) (fr' sx) (fr' sy) (fr' sz) (fr' sp) (fr' sq) (fr' sr) w' hI
    have e : (fun i => bif Nat.beq i sa then fr' sa else bif Nat.beq i sb then fr' sb else bif Nat.beq i sc then fr' sc else bif Nat.beq i sd then fr' sd else bif Nat.beq i sx then fr' sx else bif Nat.beq i sy then fr' sy else bif Nat.beq i sz then fr' sz else bif Nat.beq i sp then fr' sp else bif Nat.beq i sq then fr' sq else bif Nat.beq i sr then fr' sr else bif wr i then fr' i else fr i) = fr' := funext fun i => emb_at (emb_at (emb_at (emb_at (emb_at (emb_at (emb_at (emb_at (emb_at (emb_at (emb_eq hoff i))))))))))
    dsimp only at this
    rw [e] at this
    exact this
  · exact h.elim

def cw (P : Program) (A : Ann) : Code → Nat → (Exit → Fr → World → Prop) → Fr → World → Prop
  | .skip, _, Q, fr, w => Q .normal fr w
  | .label _, _, Q, fr, w => Q .normal fr w
  | .region id ops draw, _, Q, fr, w => match draw with
    | true => schT P ops (A.sched id) (fun fr w => Q .normal fr w) fr w.drew
    | false => opsW P ops ops.toList (fun fr w => Q .normal fr w) fr w
  | .seq x y, b, Q, fr, w => cw P A x b (thn (fun fr w => cw P A y b Q fr w) Q) fr w
  | .cond c x y, b, Q, fr, w => condW (evO fr c) (cw P A x b Q fr w) (cw P A y b Q fr w)
  | .block id c, _, Q, fr, w => cw P A c id (inBlk id Q) fr w
  | .loop c, b, Q, fr, w => loopW (A.live b) (A.wr b) (cw P A c b) Q fr w
  | .exit id, _, Q, fr, w => Q (.exit id) fr w
  | .ret, _, Q, fr, w => Q .ret fr w
  | _, _, _, _, _ => False

def dstsC : Code → List Nat
  | .region _ ops _ => dstsOf ops.toList
  | .seq x y => dstsC x ++ dstsC y
  | .cond _ x y => dstsC x ++ dstsC y
  | .block _ c => dstsC c
  | .loop c => dstsC c
  | _ => []

def codeOk (n : Nat) (A : Ann) : Code → Nat → Bool
  | .region id ops draw, _ => (dstsOf ops.toList).all (Nat.blt · n) && (!draw || drawOkT ops (A.sched id))
  | .seq x y, b => codeOk n A x b && codeOk n A y b
  | .cond _ x y, b => codeOk n A x b && codeOk n A y b
  | .block id c, _ => codeOk n A c id
  | .loop c, b => codeOk n A c b && (dstsC c).all (A.wr b)
  | _, _ => true

theorem Post.mono {n : Nat} {S S' : List Nat} {fr0 : Fr} {K K' : Fr → World → Prop} {a : Act} {w : World} (h : Post n S fr0 K a w) (hS : ∀ i ∈ S, i ∈ S') (hk : ∀ f w, K f w → K' f w) : Post n S' fr0 K' a w :=
  let ⟨fr, h1, h2, h3⟩ := h
  ⟨fr, h1, fun i hi => h2 i fun hi' => hi (hS i hi'), hk _ _ h3⟩

theorem cw_wp {P : Program} {A : Ann} {n : Nat} (hmix : P.follows .mixedOrders = true) :
    ∀ (c : Code) (b : Nat) (Q : Exit → Fr → World → Prop) (fr : Fr) (w : World) (a : Act), codeOk n A c b = true → Mt n fr a → cw P A c b Q fr w →
      c.wp P (fun e a' w' => Post n (dstsC c) fr (Q e) a' w') a w := by
  intro c
  induction c with
  | skip => exact fun b Q fr w a _ hm h => wp_skip ⟨fr, hm, fun _ _ => rfl, h⟩
  | label l => exact fun b Q fr w a _ hm h => wp_label ⟨fr, hm, fun _ _ => rfl, h⟩
  | exit id => exact fun b Q fr w a _ hm h => wp_exit ⟨fr, hm, fun _ _ => rfl, h⟩
  | ret => exact fun b Q fr w a _ hm h => wp_ret ⟨fr, hm, fun _ _ => rfl, h⟩
  | region id ops draw =>
    intro b Q fr w a hok hm h
    simp only [codeOk, Bool.and_eq_true, List.all_eq_true] at hok
    have hd : ∀ d ∈ dstsOf ops.toList, d < n := fun d hd => Nat.lt_of_succ_le (by simpa [Nat.blt] using hok.1 d hd)
    cases draw with
    | false => exact region_wp hd hm h fun a w hp => hp
    | true => exact draw_wpT hmix (by simpa using hok.2) hd hm h fun a w hp => hp
  | seq x y ihx ihy =>
    intro b Q fr w a hok hm h
    simp only [codeOk, Bool.and_eq_true] at hok
    refine wp_seq (wp_mono (ihx b _ fr w a hok.1 hm h) fun e a' w' hp => ?_)
    cases e with
    | normal =>
      obtain ⟨fr', hm', hs', hk⟩ := hp
      refine wp_mono (ihy b Q fr' w' a' hok.2 hm' hk) fun e a'' w'' ⟨fr'', hm'', hs'', hk''⟩ => ⟨fr'', hm'', fun i hi => ?_, hk''⟩
      simp only [dstsC, List.mem_append, not_or] at hi
      rw [hs'' i hi.2, hs' i hi.1]
    | _ => exact hp.mono (fun i hi => by simp [dstsC, hi]) fun _ _ h => h
  | cond c x y ihx ihy =>
    intro b Q fr w a hok hm h
    simp only [codeOk, Bool.and_eq_true] at hok
    simp only [cw, condW] at h
    split at h
    · rename_i t ht
      refine wp_cond (t := t) (by rw [hm.eval]; exact ht) ?_
      cases t with
      | true => exact wp_mono (ihx b Q fr w a hok.1 hm (by simpa using h)) fun e a' w' hp => hp.mono (fun i hi => by simp [dstsC, hi]) fun _ _ h => h
      | false => exact wp_mono (ihy b Q fr w a hok.2 hm (by simpa using h)) fun e a' w' hp => hp.mono (fun i hi => by simp [dstsC, hi]) fun _ _ h => h
    · exact h.elim
  | block id c ih =>
    intro b Q fr w a hok hm h
    refine wp_block (wp_mono (ih id _ fr w a hok hm h) fun e a' w' hp => ?_)
    cases e with
    | exit id' =>
      simp only [Exit.inBlock]
      by_cases hid : id' = id
      · rw [if_pos hid]; exact hp.mono (fun i hi => hi) fun _ _ h => by simpa [inBlk, hid] using h
      · rw [if_neg hid]; exact hp.mono (fun i hi => hi) fun _ _ h => by simpa [inBlk, hid] using h
    | _ => exact hp
  | loop c ih =>
    intro b Q fr w a hok hm h
    simp only [codeOk, Bool.and_eq_true, List.all_eq_true] at hok
    obtain ⟨I, μ, h0, hr⟩ := loopW_gen h
    have hoff : ∀ i, A.wr b i = false → i ∉ dstsC c := fun i hi hmem => by rw [hok.2 i hmem] at hi; cases hi
    -- the frame that a machine's state is
    let fo : Act → Fr := fun a i => a.tmps.getD i undef
    have hfo : ∀ {f : Fr} {a : Act}, Mt n f a → fo a = f := fun hm => funext fun i => hm.slot i
    refine wp_loop (fun a' w' => ∃ fr', Mt n fr' a' ∧ (∀ i, i ∉ dstsC c → fr' i = fr i) ∧ I fr' w') (fun a' w' => μ (fo a') w') ⟨fr, hm, fun _ _ => rfl, h0⟩ ?_
    rintro a₁ w₁ ⟨fr₁, hm₁, hs₁, hI₁⟩
    have hbody := hr fr₁ w₁ (fun i hi => hs₁ i (hoff i hi)) hI₁
    refine wp_mono (ih b _ fr₁ w₁ a₁ hok.1 hm₁ hbody) fun e a' w' hp => ?_
    obtain ⟨fr', hm', hs', hk⟩ := hp
    cases e with
    | normal => exact ⟨⟨fr', hm', fun i hi => (hs' i hi).trans (hs₁ i hi), hk.1⟩, by rw [hfo hm', hfo hm₁]; exact hk.2⟩
    | _ => exact ⟨fr', hm', fun i hi => (hs' i hi).trans (hs₁ i hi), hk⟩
  | _ => exact fun b Q fr w a _ _ h => h.elim

def retW (P : Program) (R : Ending → World → Prop) : List ResultVar → List Value → Fr → World → Prop
  | [], acc, _, w => R (.returned (match acc.reverse with | [v] => v | vs => .tuple vs.toArray)) w
  | .tmp t :: rest, acc, fr, w => retW P R rest (fr t :: acc) fr w
  | .cell a t :: rest, acc, fr, w => ldQ P t w (fr a) fun v => retW P R rest (v :: acc) fr w

def bodyQ (P : Program) (fn : Func) (R : Ending → World → Prop) : Exit → Fr → World → Prop
  | .normal, fr, w => retW P R fn.results.toList [] fr w
  | .ret, fr, w => retW P R fn.results.toList [] fr w
  | _, _, _ => False

theorem retW_run {P : Program} {R : Ending → World → Prop} {n : Nat} {fr : Fr} {a : Act} {w : World} (hm : Mt n fr a) : ∀ (l : List ResultVar) (acc : List Value), retW P R l acc fr w →
    ∃ vs, (l.mapM (fun | .tmp t => pure (a.tmps.getD t undef) | .cell x t => do loadVar t (← asAddr (a.tmps.getD x undef))) : Sem (List Value)).run P w = .ok vs w ∧
      R (.returned (match acc.reverse ++ vs with | [v] => v | vs => .tuple vs.toArray)) w
  | [], acc, h => ⟨[], by simp, by simpa [retW] using h⟩
  | .tmp t :: l, acc, h => by
    obtain ⟨vs, h1, h2⟩ := retW_run hm l _ h
    refine ⟨fr t :: vs, ?_, by simpa using h2⟩
    have hs := hm.slot t
    simp only [List.mapM_cons, Sem.run_bind, hs, Sem.run_pure, Result.andThen_ok, h1]
  | .cell x t :: l, acc, h => by
    obtain ⟨v, hy, hk⟩ := ldQ_yld h
    obtain ⟨vs, h1, h2⟩ := retW_run hm l _ hk
    refine ⟨v :: vs, ?_, by simpa using h2⟩
    have hs := hm.slot x
    have hr := hy w (Below.refl _ _)
    have hload : (do loadVar t (← asAddr (fr x)) : Sem Value).run P w = .ok v w := by
      cases hx : fr x with
      | pointer p =>
        cases p with
        | none => rw [hx] at hr; simp [Instr.loadAt, Instr.sureAddr] at hr
        | some ad =>
          rw [hx] at hr
          simp only [Instr.loadAt, Instr.sureAddr, Sem.run_bind, Sem.run_pure, Result.andThen_ok] at hr
          simp only [asAddr, Sem.run_bind, Sem.run_pure, Result.andThen_ok]
          cases hl : (loadVar t ad).run P w with
          | halt e w' => rw [hl] at hr; simp at hr
          | ok u w' => rw [hl] at hr; simp at hr; rw [hr.1, hr.2]
      | _ => rw [hx] at hr; simp [Instr.loadAt, Instr.sureAddr] at hr
    simp only [List.mapM_cons, Sem.run_bind, hs, Sem.run_pure] at *
    rw [hload]
    simp only [Result.andThen_ok, h1]

theorem bodyQ_post {P : Program} {fn : Func} {R : Ending → World → Prop} {n : Nat} {fr : Fr} {a : Act} {w : World} (hm : Mt n fr a) (h : retW P R fn.results.toList [] fr w) :
    ∃ v, (results fn a.tmps).run P w = .ok v w ∧ R (.returned v) w := by
  obtain ⟨vs, h1, h2⟩ := retW_run hm _ _ h
  refine ⟨_, ?_, h2⟩
  unfold results
  rw [Array.mapM_eq_mapM_toList]
  simp only [Sem.run_bind, Sem.run_map]
  refine (congrArg (fun r => (Result.andThen (Result.andThen r fun a w' => Result.ok a.toArray w') fun a w' => Sem.run P (pure (if h : a.size = 1 then a[0] else Value.tuple a)) w')) h1).trans ?_
  simp only [Result.andThen_ok, Sem.run_pure, List.reverse_nil, List.nil_append]
  congr 1
  match vs with
  | [] => rfl
  | [v] => rfl
  | v :: u :: r => simp

/-- A way on that is met more than once. -/
def Join {α : Type _} (F : α → Prop) (k : α) : Prop := F k

/-- A region draws its order. -/
def Drew (w : World) (K : World → Prop) : Prop := K w.drew

def frOf (args : Array Value) : Fr := fun i => args.getD i undef

/-- **A CALL, BY THE LIFTED TEXT OF ITS BODY.** -/
theorem calls_of_cw {P : Program} {f : FuncId} {fn : Func} {c : Code} {args : Array Value} {w : World} {R : Ending → World → Prop} (A : Ann) (hmix : P.follows .mixedOrders = true)
    (hf : P.funcs[f]? = some fn) (hb : fn.body = some c) (hok : (codeOk fn.ntmps A c 0 && Nat.ble args.size fn.ntmps) = true)
    (h : cw P A c 0 (bodyQ P fn R) (frOf args) w) : Calls P f args w R := by
  simp only [Bool.and_eq_true, Nat.ble_eq] at hok
  have hm : Mt fn.ntmps (frOf args) { tmps := args ++ Array.replicate (fn.ntmps - args.size) undef, defers := [] } := by
    refine ⟨rfl, by simp; omega, fun i => ?_⟩
    simp only [frOf]
    rcases Nat.lt_or_ge i args.size with hi | hi
    · simp [Array.getElem?_append, hi]
    · simp only [Array.getD_eq_getD_getElem?, Array.getElem?_append_right hi, Array.getElem?_replicate, Array.getElem?_eq_none hi]
      split <;> rfl
  refine calls_of_wp hf hb (wp_mono (cw_wp hmix c 0 _ _ _ _ hok.1 hm h) fun e a' w' hp => ?_)
  obtain ⟨fr, hm', _, hk⟩ := hp
  cases e with
  | normal => exact ⟨hm'.defers, bodyQ_post hm' hk⟩
  | ret => exact ⟨hm'.defers, bodyQ_post hm' hk⟩
  | _ => exact hk.elim

end Go.Lf
