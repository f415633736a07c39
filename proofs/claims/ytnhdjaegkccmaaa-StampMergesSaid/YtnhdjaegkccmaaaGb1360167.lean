/- Texts of the proofs of StampMerges, merged (Ev). -/
import Derived.Test.YtnhdjaegkccmaaaWWords
namespace Go.Proofs.Ytnhdjaegkccmaaa.P
open Go.RowKit Go.Proofs.YtnhdjaegkccmaaaW.PrintWords
set_option linter.unusedVariables false
theorem Ev.val {α : Type} (r : α) : Ev (fun _ => some r) r := Ev.now r
theorem wrap_in {x : Int} (h1 : -9223372036854775808 ≤ x) (h2 : x ≤ 9223372036854775807) : wrap64 x = x := by
  unfold wrap64
  omega
end Go.Proofs.Ytnhdjaegkccmaaa.P
