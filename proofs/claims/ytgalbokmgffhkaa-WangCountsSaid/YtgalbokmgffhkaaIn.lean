/- No lists. -/
import Derived.Test.YtgalbokmgffhkaaB6
set_option linter.all false
namespace Go.Proofs.Ytgalbokmgffhkaa
open Go.Lf Go.RowKit Go.Wg

theorem IRows.nil {base : Nat} {w : World} : IRows base w nilS [] := ⟨[], RecAt.nil, rfl, by simp⟩

end Go.Proofs.Ytgalbokmgffhkaa
