/- Lifted text of a constant list of squares, tied by the kernel. -/
import Derived.Test.YtkdcldbedbagjaaDoorBase
set_option linter.all false
namespace Go.Proofs.YtkdcldbedbagjaaDoor
open Go.Lf Go.RowKit
def S41 (w : World) (R : Ending → World → Prop) : Prop :=
  bdQ Tryd.prog 44 [(0, (.int .i64 0)), (1, (.int .i64 0)), (2, (.int .i64 18))] fun t1 =>
  bdQ Tryd.prog 44 [(0, (.int .i64 18)), (1, (.int .i64 0)), (2, (.int .i64 15))] fun t2 =>
  bdQ Tryd.prog 44 [(0, (.int .i64 18)), (1, (.int .i64 15)), (2, (.int .i64 7))] fun t3 =>
  bdQ Tryd.prog 44 [(0, (.int .i64 25)), (1, (.int .i64 15)), (2, (.int .i64 8))] fun t4 =>
  bdQ Tryd.prog 44 [(0, (.int .i64 0)), (1, (.int .i64 18)), (2, (.int .i64 14))] fun t5 =>
  bdQ Tryd.prog 44 [(0, (.int .i64 14)), (1, (.int .i64 18)), (2, (.int .i64 4))] fun t6 =>
  bdQ Tryd.prog 44 [(0, (.int .i64 14)), (1, (.int .i64 22)), (2, (.int .i64 10))] fun t7 =>
  bdQ Tryd.prog 44 [(0, (.int .i64 24)), (1, (.int .i64 22)), (2, (.int .i64 1))] fun t8 =>
  bdQ Tryd.prog 44 [(0, (.int .i64 24)), (1, (.int .i64 23)), (2, (.int .i64 9))] fun t9 =>
  bsW Tryd.prog 22 9 [(0, t1), (1, t2), (2, t3), (3, t4), (4, t5), (5, t6), (6, t7), (7, t8), (8, t9)] w fun t10 w =>
  R (.returned t10) w

def A41 : Ann where
  live := fun _ => []
  wr := fun _ _ => false
  sched := fun _ => .done
set_option maxRecDepth 100000 in
theorem ok41 : (codeOk Tryd.f41.ntmps A41 (Tryd.f41.body.getD .skip) 0 && Nat.ble (#[] : Array Value).size Tryd.f41.ntmps) = true := by kernel_rfl
set_option maxRecDepth 100000 in
theorem tie41 (w : World) (R : Ending → World → Prop) : (S41 w R) = cw Tryd.prog A41 (Tryd.f41.body.getD .skip) 0 (bodyQ Tryd.prog Tryd.f41 R) (frOf #[]) w := by kernel_rfl
theorem body41 : Tryd.f41.body = some (Tryd.f41.body.getD .skip) := by kernel_rfl
/-- A call, the lifted text's tie given as an equation. -/
theorem calls_of_eq {P : Program} {f : FuncId} {fn : Func} {c : Code} {args : Array Value} {w : World} {R : Ending → World → Prop} {S : Prop} (A : Ann) (hf : P.funcs[f]? = some fn) (hb : fn.body = some c) (hmix : P.follows .mixedOrders = true) (hok : (codeOk fn.ntmps A c 0 && Nat.ble args.size fn.ntmps) = true)
    (e : S = cw P A c 0 (bodyQ P fn R) (frOf args) w) (h : S) : Calls P f args w R := calls_of_cw A hmix hf hb hok (e ▸ h)
set_option maxRecDepth 100000 in
theorem lift41 {w : World} {R : Ending → World → Prop} (h : S41 w R) : Calls Tryd.prog 41 #[] w R :=
  calls_of_eq A41 Tryd.func41 body41 mixes ok41 (tie41 w R) h
theorem fok41 : fnOk Tryd.prog 41 = true := by kernel_rfl

end Go.Proofs.YtkdcldbedbagjaaDoor
