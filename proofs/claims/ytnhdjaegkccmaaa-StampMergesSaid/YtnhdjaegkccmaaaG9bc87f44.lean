/- Texts of the proofs of StampMerges, merged (OpenSt). -/
import Derived.ProofKit
import Derived.OpenShut
import Derived.Lib.SmallJoins
import Derived.Deep.Slices
import Derived.Deep.Fields
import Derived.ChangeSame
import Derived.Test.YtnhdjaegkccmaaaGf8a1be9d
import Derived.Test.YtnhdjaegkccmaaaG6fd917f9
import Derived.Test.YtnhdjaegkccmaaaG70b67bd7
import Derived.Test.YtnhdjaegkccmaaaGe8422621
namespace Go.Proofs.Ytnhdjaegkccmaaa
open Go.RowKit Go.ChangeShapes Go.WideShapes Go.Deep Go.Joins
section
variable {H : Type} {enc : TypeId × Value → H} {P : Program} {w : World} {base : Nat} {spare : Nat → Bool} {held : Bool}
end
theorem cells_st : Try.prog.cellsOf 23 = 2 := by kernel_rfl
/-- a stamp of its kinds -/
def StIn (s : St) : Prop := (-9223372036854775808 ≤ s.t ∧ s.t ≤ 9223372036854775807) ∧ (-9223372036854775808 ≤ s.n ∧ s.n ≤ 9223372036854775807)
theorem i64_of {a : Int} (h : (Lit.int .i64 a).wf = true) : -9223372036854775808 ≤ a ∧ a ≤ 9223372036854775807 := by
  simp [Lit.wf, IntKind.min, IntKind.max, IntKind.signed, IntKind.bits] at h
  omega
section
variable {H : Type} {enc : TypeId × Value → H} {w : World} {base : Nat}
theorem open_st {r : Reach} {b0 : Nat} {v : Value} {d : DataW H} {p : List MemPlace} (hv : Value.okWide Try.prog w r b0 23 v) (h : DataW.Trod enc Try.prog w base (fun _ => true) true 23 v d p) :
    ∃ s : St, v = .agg #[.int .i64 (s).t, .int .i64 (s).n] ∧ StIn s := by
  obtain ⟨c0, c1, y0, y1, m, rfl, rfl, rfl, hy0, hy1⟩ := open_agg2 Try.underlying23 (by kernel_rfl) cells_st hv h
  obtain ⟨a, e0, _, wa⟩ := DataW.trod_int Try.underlying2 hy0
  obtain ⟨b, e1, _, wb⟩ := DataW.trod_int Try.underlying3 hy1
  simp at e0 e1
  subst e0 e1
  exact ⟨⟨a, b⟩, rfl, i64_of wa, i64_of wb⟩
end
end Go.Proofs.Ytnhdjaegkccmaaa
