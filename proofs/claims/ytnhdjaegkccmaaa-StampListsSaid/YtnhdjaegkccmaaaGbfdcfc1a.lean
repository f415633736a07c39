/- Texts of the proofs of StampLists, StampParts, StampSorts, merged (StLv). -/
import Derived.Test.YtnhdjaegkccmaaaGef605f76
import Derived.Test.YtnhdjaegkccmaaaG612e19dd
/- The law's 'live', in the print's form. -/
namespace Go.Proofs.Ytnhdjaegkccmaaa.P
open Go.RowKit
set_option linter.unusedVariables false
def folkmootlaw01_live.f : Option Bool := some true
theorem folkmootlaw01_live.calls (r : Bool) (w : World) (h : folkmootlaw01_live.f = some r) : Calls Try.prog 18 #[] w fun e w' => e = .returned (.bool r) ∧ Below w.heap.size w w' := by
  obtain rfl := Option.some.inj h
  exact (live_any w).mono fun e w' ⟨he, hx⟩ => ⟨he, Ext.below hx⟩
end Go.Proofs.Ytnhdjaegkccmaaa.P
