/- Rayleigh's law and the triangle, plainly: one wire more, and three vertices. No program. -/
import Derived.Test.YtkdcldbedbagjaaDoorGc
set_option linter.all false
namespace Go.Dt

/-- y^T L x is symmetric. -/
theorem lap_swap {n : Nat} (x y : Nat → Int) {l : List Wr} (hl : Wf n l) : sumN (fun i => x i * sumN (fun j => lap l i j * y j) n) n = sumN (fun i => y i * sumN (fun j => lap l i j * x j) n) n := by
  rw [lap_form x y hl, lap_form y x hl]
  congr 1
  exact List.map_congr_left fun e _ => Int.mul_comm _ _

theorem sum_ends {n : Nat} {s t : Nat} (hs : s < n) (ht : t < n) (c : Int) (x : Nat → Int) : sumN (fun i => x i * (c * (unit s i - unit t i))) n = c * (x s - x t) := by
  rw [sum_congr (g := fun i => c * (unit s i * x i - unit t i * x i)) fun i _ => by grind]
  rw [sum_mul, sum_sub, sum_one (f := fun i => unit s i * x i) hs fun i _ h => by simp [unit, h], sum_one (f := fun i => unit t i * x i) ht fun i _ h => by simp [unit, h]]
  simp [unit]

theorem trees_cons {n : Nat} {e : Wr} {l : List Wr} (hl : Wf n (e :: l)) : trees n (e :: l) = trees n l + volt n l e.1 e.2 := by
  have hw := hl e (List.mem_cons_self ..)
  have h := with_volt hl (i := 0) (by simp)
  have e1 : withI 0 (RF n (one 0)) (e :: l) = cnt (fun s => RF n (one 0) (e :: s)) l := rfl
  unfold trees
  rw [cnt_cons]
  congr 1
  have h2 : volt n (e :: l) e.1 e.2 = volt n l e.1 e.2 := by
    unfold volt
    rw [cnt_cons, cnt_false (P := fun s => RF n (ins (one e.2) e.1) (e :: s)) fun s hs => RF.shut (fun x hx => hl x ((hs.cons_cons _).subset hx)) (ins_self _ _) (ins_of (one_self _)), Nat.add_zero]
  rw [← e1, h]
  exact h2

theorem lap_more {n : Nat} (e : Wr) (l : List Wr) (x : Nat → Int) (i : Nat) (h1 : e.1 < n) (h2 : e.2 < n) : sumN (fun j => lap (e :: l) i j * x j) n = sumN (fun j => lap l i j * x j) n + ends e i * (x e.1 - x e.2) := by
  rw [← ends_sum x h1 h2, ← sum_mul, ← sum_add]
  refine sum_congr fun j _ => ?_
  simp only [lap]
  grind

theorem lap_add3 {n : Nat} (l : List Wr) (x y z : Nat → Int) (a b c : Int) (i : Nat) : sumN (fun j => lap l i j * (a * x j + b * y j + c * z j)) n = a * sumN (fun j => lap l i j * x j) n + b * sumN (fun j => lap l i j * y j) n + c * sumN (fun j => lap l i j * z j) n := by
  rw [← sum_mul, ← sum_mul, ← sum_mul, ← sum_add, ← sum_add]
  exact sum_congr fun j _ => by grind

/-- RAYLEIGH: one wire more never makes a resistance greater. -/
theorem rayleigh {n s t : Nat} {e : Wr} {l : List Wr} (hl : Wf n (e :: l)) (ls : s < n) (lt : t < n) (hst : s ≠ t) (h0 : trees n l ≠ 0) :
    volt n (e :: l) s t * trees n l ≤ volt n l s t * trees n (e :: l) := by
  have hw := hl e (List.mem_cons_self ..)
  have hl' := hl.tail
  have hx := fun i hi => pot_lap (i := i) hl' ls lt hst hi
  have hx' := fun i hi => pot_lap (i := i) hl ls lt hst hi
  have hy := fun i hi => pot_lap (i := i) hl' hw.1 hw.2.1 hw.2.2 hi
  have x1 : (pot n l s t s : Int) = volt n l s t := by rw [pot_s hst]
  have x2 : (pot n l s t t : Int) = 0 := by rw [pot_t]; rfl
  have x1' : (pot n (e :: l) s t s : Int) = volt n (e :: l) s t := by rw [pot_s hst]
  have x2' : (pot n (e :: l) s t t : Int) = 0 := by rw [pot_t]; rfl
  have y1 : (pot n l e.1 e.2 e.1 : Int) = volt n l e.1 e.2 := by rw [pot_s hw.2.2]
  have y2 : (pot n l e.1 e.2 e.2 : Int) = 0 := by rw [pot_t]; rfl
  generalize hX : (fun v => (pot n l s t v : Int)) = x at *
  generalize hX' : (fun v => (pot n (e :: l) s t v : Int)) = x' at *
  generalize hY : (fun v => (pot n l e.1 e.2 v : Int)) = y at *
  have ex : ∀ v, (pot n l s t v : Int) = x v := fun v => by rw [← hX]
  have ex' : ∀ v, (pot n (e :: l) s t v : Int) = x' v := fun v => by rw [← hX']
  have ey : ∀ v, (pot n l e.1 e.2 v : Int) = y v := fun v => by rw [← hY]
  simp only [ex, ex', ey] at hx hx' hy x1 x2 x1' x2' y1 y2
  have key : ∀ i, i < n → sumN (fun j => lap l i j * ((trees n l : Int) * x' j + (-(trees n (e :: l) : Int)) * x j + (x' e.1 - x' e.2) * y j)) n = 0 := fun i hi => by
    have h1 := hx' i hi
    rw [lap_more e l x' i hw.1 hw.2.1] at h1
    rw [lap_add3, hx i hi, hy i hi]
    have h2 : ends e i = unit e.1 i - unit e.2 i := rfl
    rw [← h2]
    have h3 : sumN (fun j => lap l i j * x' j) n = trees n (e :: l) * (unit s i - unit t i) - ends e i * (x' e.1 - x' e.2) := by omega
    rw [h3]
    grind
  have c1 := lap_const (z := fun j => (trees n l : Int) * x' j + (-(trees n (e :: l) : Int)) * x j + (x' e.1 - x' e.2) * y j) hl' lt h0 key ls
  have c2 := lap_const (z := fun j => (trees n l : Int) * x' j + (-(trees n (e :: l) : Int)) * x j + (x' e.1 - x' e.2) * y j) hl' hw.2.1 h0 key hw.1
  have rec0 := lap_swap x y hl'
  rw [sum_congr (g := fun i => x i * ((trees n l : Int) * (unit e.1 i - unit e.2 i))) fun i hi => by rw [hy i hi], sum_congr (f := fun i => y i * _) (g := fun i => y i * ((trees n l : Int) * (unit s i - unit t i))) fun i hi => by rw [hx i hi], sum_ends hw.1 hw.2.1, sum_ends ls lt] at rec0
  have hT : (0 : Int) < trees n l := by omega
  have rec1 := Int.eq_of_mul_eq_mul_left (by omega) rec0
  simp only [x1, x2, x1', x2'] at c1
  simp only [y1, y2] at c2
  generalize hu : x e.1 - x e.2 = u at *
  generalize hu' : x' e.1 - x' e.2 = u' at *
  have d1 : (trees n l : Int) * volt n (e :: l) s t = trees n (e :: l) * volt n l s t - u' * u := by rw [rec1]; grind
  have d2 : u' * ((trees n l : Int) + volt n l e.1 e.2) = trees n (e :: l) * u := by rw [← hu, ← hu']; rw [← hu'] at c2; grind
  have d3 : 0 ≤ u' * u := by
    have hR : (0 : Int) < (trees n l : Int) + volt n l e.1 e.2 := by omega
    have hs : 0 ≤ u * u := by
      rcases Int.le_total 0 u with g | g
      · exact Int.mul_nonneg g g
      · exact Int.mul_nonneg_of_nonpos_of_nonpos g g
    have hp : 0 ≤ ((trees n l : Int) + volt n l e.1 e.2) * (u' * u) := by
      have : ((trees n l : Int) + volt n l e.1 e.2) * (u' * u) = trees n (e :: l) * (u * u) := by rw [← Int.mul_assoc, Int.mul_comm _ u', d2, Int.mul_assoc]
      rw [this]
      exact Int.mul_nonneg (by omega) hs
    exact Int.nonneg_of_mul_nonneg_right hp hR
  have d4 : (trees n l : Int) * volt n (e :: l) s t ≤ trees n (e :: l) * volt n l s t := by omega
  have : trees n l * volt n (e :: l) s t ≤ trees n (e :: l) * volt n l s t := by
    rw [← Int.natCast_mul, ← Int.natCast_mul] at d4
    omega
  rw [Nat.mul_comm, Nat.mul_comm (volt n l s t)]
  exact this

/-- A resistance is at most the sum over a vertex between. -/
theorem triangle {n s t u : Nat} {l : List Wr} (hl : Wf n l) (ls : s < n) (lt : t < n) (lu : u < n) (hst : s ≠ t) (hsu : s ≠ u) (hut : u ≠ t) (h0 : trees n l ≠ 0) :
    volt n l s t ≤ volt n l s u + volt n l u t := by
  have key : ∀ i, i < n → sumN (fun j => lap l i j * ((1 : Int) * (pot n l s t j : Int) + (-1) * (pot n l s u j : Int) + (-1) * (pot n l u t j : Int))) n = 0 := fun i hi => by
    rw [lap_add3 l (fun j => (pot n l s t j : Int)) (fun j => (pot n l s u j : Int)) (fun j => (pot n l u t j : Int)), pot_lap hl ls lt hst hi, pot_lap hl ls lu hsu hi, pot_lap hl lu lt hut hi]
    grind
  have c1 := lap_const (z := fun j => (1 : Int) * (pot n l s t j : Int) + (-1) * (pot n l s u j : Int) + (-1) * (pot n l u t j : Int)) hl lt h0 key ls
  simp only [pot_s hst, pot_s hsu, pot_t] at c1
  have h1 := pot_le (n := n) (l := l) (s := u) (t := t) (v := s)
  omega

theorem volt_perm {n : Nat} {l l' : List Wr} {s t : Nat} (p : l.Perm l') : volt n l s t = volt n l' s t := cnt_perm p (PI_RF n _)
theorem trees_perm {n : Nat} {l l' : List Wr} (p : l.Perm l') : trees n l = trees n l' := cnt_perm p (PI_RF n _)

end Go.Dt
