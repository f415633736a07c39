/- Texts of the proofs of StampMerges, merged (StLv). -/
import Derived.Test.YtnhdjaegkccmaaaWWords
import Derived.Test.YtnhdjaegkccmaaaWLast
import Derived.Test.YtnhdjaegkccmaaaWTab
import Derived.Test.YtnhdjaegkccmaaaWQPut
import Derived.Test.YtnhdjaegkccmaaaWApart
import Derived.Test.YtnhdjaegkccmaaaWArr
import Derived.Test.YtnhdjaegkccmaaaWZeros
import Derived.Test.YtnhdjaegkccmaaaWFoot
import Derived.Test.YtnhdjaegkccmaaaWKept
import Derived.Test.YtnhdjaegkccmaaaWShare
import Derived.Test.YtnhdjaegkccmaaaWN
import Derived.Test.YtnhdjaegkccmaaaWEqStruct
import Derived.Test.YtnhdjaegkccmaaaWRepsOne
import Derived.Test.YtnhdjaegkccmaaaWGuard
import Derived.Test.YtnhdjaegkccmaaaWNEv
import Derived.Test.YtnhdjaegkccmaaaWMore
import Derived.Test.YtnhdjaegkccmaaaGf8a1be9d
import Derived.Test.YtnhdjaegkccmaaaG6fd917f9
import Derived.Test.YtnhdjaegkccmaaaGd76a5295
import Derived.Test.YtnhdjaegkccmaaaG70b67bd7
import Derived.Test.YtnhdjaegkccmaaaGe8422621
import Derived.Test.YtnhdjaegkccmaaaG3359b79f
namespace Go.Proofs.Ytnhdjaegkccmaaa.P
open Go.RowKit
set_option linter.unusedVariables false
def folkmootlaw01_live.f : Option Bool := some true
theorem folkmootlaw01_live.calls (r : Bool) (w : World) (h : folkmootlaw01_live.f = some r) : Calls Try.prog 18 #[] w fun e w' => e = .returned (.bool r) ∧ Below w.heap.size w w' := by
  obtain rfl := Option.some.inj h
  exact (live_any w).mono fun e w' ⟨he, hx⟩ => ⟨he, Ext.below hx⟩
end Go.Proofs.Ytnhdjaegkccmaaa.P
