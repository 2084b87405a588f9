/- Lifted texts, printed by program (gen.py): what each function's code asks. The ties are by the kernel. -/
import Derived.Test.YtgalbokmgffhkaaBase
set_option linter.all false
namespace Go.Proofs.Ytgalbokmgffhkaa
open Go.Lf Go.RowKit

def S67 (t0 t1 : Value) (w : World) (R : Ending → World → Prop) : Prop :=
  binQ Try.prog w .lss 3 true t0 (.int .i64 0) fun t5 =>
  gd t5 false (fun k => k t0 w) w fun t7 w =>
  gd t5 false (fun k => ld1 w t1 fun v => k v w) w fun t8 w =>
  gd t5 false (fun k => ln1 t8 fun v => k v w) w fun t9 w =>
  gd t5 false (fun k => binQ Try.prog w .geq 3 false t7 t9 fun v => k v w) w fun t10 w =>
  pickQ t5 (.bool true) t10 fun t11 =>
  R (.returned t11) w

def A67 : Ann where
  live := fun _ => []
  wr := fun _ _ => false
  sched := fun _ => .done

set_option maxRecDepth 100000 in
theorem ok67 : (codeOk Try.f67.ntmps A67 (Try.f67.body.getD .skip) 0 && Nat.ble 2 Try.f67.ntmps) = true := by kernel_rfl
set_option maxRecDepth 100000 in
theorem lift67 {t0 t1 : Value} {w : World} {R : Ending → World → Prop} (h : S67 t0 t1 w R) : Calls Try.prog 67 #[t0, t1] w R :=
  calls_of_cw (fn := Try.f67) (c := Try.f67.body.getD .skip) A67 mixes Try.func67 (by kernel_rfl) ok67
    ((by kernel_rfl : (S67 t0 t1 w R) = cw Try.prog A67 (Try.f67.body.getD .skip) 0 (bodyQ Try.prog Try.f67 R) (frOf #[t0, t1]) w).mp h)

theorem fok67 : fnOk Try.prog 67 = true := by kernel_rfl
end Go.Proofs.Ytgalbokmgffhkaa
