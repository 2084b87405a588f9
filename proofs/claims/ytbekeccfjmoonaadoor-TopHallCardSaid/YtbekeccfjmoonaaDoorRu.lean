/- Rules for what is not asked. -/
import Derived.Test.YtbekeccfjmoonaaDoorBase
set_option linter.all false
namespace Go.Proofs.YtbekeccfjmoonaaDoor
open Go.Lf Go.RowKit

theorem r_gqU {want : Bool} {run : (Value → Prop) → Prop} {K : Value → Prop} : gdQ undef want run K = K undef := rfl
theorem r_gdU {want : Bool} {run : (Value → World → Prop) → Prop} {w : World} {K : Value → World → Prop} : gd undef want run w K = K undef w := rfl

end Go.Proofs.YtbekeccfjmoonaaDoor
