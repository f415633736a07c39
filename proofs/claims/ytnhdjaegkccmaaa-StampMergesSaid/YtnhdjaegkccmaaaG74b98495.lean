/- Texts of the proofs of StampMerges, merged (OpenStm). -/
import Derived.Test.YtnhdjaegkccmaaaWWords
import Derived.Test.YtnhdjaegkccmaaaWLast
import Derived.Test.YtnhdjaegkccmaaaWTab
import Derived.Test.YtnhdjaegkccmaaaWQPut
import Derived.Test.YtnhdjaegkccmaaaWApart
import Derived.Test.YtnhdjaegkccmaaaWArr
import Derived.Test.YtnhdjaegkccmaaaWZeros
import Derived.Test.YtnhdjaegkccmaaaWFoot
import Derived.Test.YtnhdjaegkccmaaaWKept
import Derived.Test.YtnhdjaegkccmaaaWShare
import Derived.Test.YtnhdjaegkccmaaaWN
import Derived.Test.YtnhdjaegkccmaaaWEqStruct
import Derived.Test.YtnhdjaegkccmaaaWRepsOne
import Derived.Test.YtnhdjaegkccmaaaWGuard
import Derived.Test.YtnhdjaegkccmaaaWNEv
import Derived.Test.YtnhdjaegkccmaaaWMore
import Derived.Test.YtnhdjaegkccmaaaGf8a1be9d
import Derived.Test.YtnhdjaegkccmaaaG6fd917f9
import Derived.Test.YtnhdjaegkccmaaaG5069bfb7
import Derived.Test.YtnhdjaegkccmaaaGc4c9ef5b
import Derived.Test.YtnhdjaegkccmaaaGd76a5295
import Derived.Test.YtnhdjaegkccmaaaG8b7e1370
import Derived.Test.YtnhdjaegkccmaaaG70b67bd7
import Derived.Test.YtnhdjaegkccmaaaGe8422621
import Derived.Test.YtnhdjaegkccmaaaG9bc87f44
namespace Go.Proofs.Ytnhdjaegkccmaaa.P
open Go.RowKit Go.ChangeShapes Go.WideShapes Go.Deep Go.Joins
open Go.Proofs.YtnhdjaegkccmaaaW.PrintWords (Kd)
set_option linter.unusedVariables false
section
variable {H : Type} {enc : TypeId × Value → H} {w : World} {base : Nat} {r : Reach} {b0 : Nat} {v : Value} {d : DataW H} {p : List MemPlace}
theorem open_kstamp (hv : Value.okWide Try.prog w r b0 31 v) (h : DataW.Trod enc Try.prog w base (fun _ => true) true 31 v d p) (hz : Sz Try.prog 31 d) :
    ∃ (A : Option Addr) (n c : Nat) (l : List S23), v = .slice A n c ∧ KIn k23 w A n c l := by
  obtain ⟨A, n, c, l, rfl, hin⟩ := open_row' (T := Int × Int) (f := fun x => [.int .i64 x.1, .int .i64 x.2]) (size := 2) (good := fun _ => True) ((0 : Int), (0 : Int)) Try.underlying31 (by kernel_rfl) (by omega) (by rw [show Try.prog.bytesOf 23 = 16 by kernel_rfl]; omega) (fun n cs y ht hze => by
    obtain ⟨_, y0, h0, _⟩ := trod_field Try.underlying23 ht hze 0 2 0 1 rfl (by kernel_rfl)
    obtain ⟨_, y1, h1, _⟩ := trod_field Try.underlying23 ht hze 1 3 1 1 rfl (by kernel_rfl)
    have hl : cs.length = 2 := (trod_len Try.underlying23 ht).trans (by kernel_rfl)
    obtain ⟨a, e0, _, _⟩ := DataW.trod_int Try.underlying2 h0
    obtain ⟨b, e1, _, _⟩ := DataW.trod_int Try.underlying3 h1
    match cs, hl with
    | [u0, u1], _ =>
      simp at e0 e1
      subst e0 e1
      exact ⟨(a, b), rfl, trivial⟩) hz hv h
  exact ⟨A, n, c, _, rfl, kIn_of (k := k23) (fun x => S23.mk x.1 x.2) hin rfl (fun _ => rfl) (fun x _ => k23_mk _ _)⟩
end
end Go.Proofs.Ytnhdjaegkccmaaa.P
