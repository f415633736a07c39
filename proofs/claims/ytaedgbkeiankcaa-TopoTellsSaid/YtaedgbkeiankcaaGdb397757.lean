/- Texts of the proofs of TopoTells, merged (OpenSh, OpenSp). -/
import Derived.Test.YtaedgbkeiankcaaWWords
import Derived.Test.YtaedgbkeiankcaaWLast
import Derived.Test.YtaedgbkeiankcaaWTab
import Derived.Test.YtaedgbkeiankcaaWQPut
import Derived.Test.YtaedgbkeiankcaaWApart
import Derived.Test.YtaedgbkeiankcaaWArr
import Derived.Test.YtaedgbkeiankcaaWZeros
import Derived.Test.YtaedgbkeiankcaaWFoot
import Derived.Test.YtaedgbkeiankcaaWKept
import Derived.Test.YtaedgbkeiankcaaWShare
import Derived.Test.YtaedgbkeiankcaaWN
import Derived.Test.YtaedgbkeiankcaaWEqStruct
import Derived.Test.YtaedgbkeiankcaaWRepsOne
import Derived.Test.YtaedgbkeiankcaaWGuard
import Derived.Test.YtaedgbkeiankcaaWNEv
import Derived.Test.YtaedgbkeiankcaaWMore
import Derived.Test.YtaedgbkeiankcaaG64eb9ef8
import Derived.Test.YtaedgbkeiankcaaGca2bd920
import Derived.Test.YtaedgbkeiankcaaGe5ba3929
import Derived.Test.YtaedgbkeiankcaaGff33e446
import Derived.Test.YtaedgbkeiankcaaG1345e055
import Derived.Test.YtaedgbkeiankcaaG5fc94eef
import Derived.Test.YtaedgbkeiankcaaG4bcd870f
import Derived.Test.YtaedgbkeiankcaaG65f7974d
import Derived.Test.YtaedgbkeiankcaaGbd7ae8bd
namespace Go.Proofs.Ytaedgbkeiankcaa.P
open Go.RowKit Go.ChangeShapes Go.WideShapes Go.Deep Go.Joins
open Go.Proofs.YtaedgbkeiankcaaW.PrintWords (Kd)
set_option linter.unusedVariables false
section
variable {H : Type} {enc : TypeId × Value → H} {w : World} {base : Nat} {r : Reach} {b0 : Nat} {v : Value} {d : DataW H} {p : List MemPlace}
theorem open_kint (hv : Value.okWide Try.prog w r b0 32 v) (h : DataW.Trod enc Try.prog w base (fun _ => true) true 32 v d p) (hz : Sz Try.prog 32 d) :
    ∃ (A : Option Addr) (n c : Nat) (l : List Int), v = .slice A n c ∧ KIn (Kd.int .i64) w A n c l := by
  obtain ⟨A, n, c, l, rfl, hin⟩ := open_row' (T := Int) (f := fInt) (size := 1) (good := fun _ => True) (0 : Int) Try.underlying32 (by kernel_rfl) (by omega) (by rw [show Try.prog.bytesOf 3 = 8 by kernel_rfl]; omega) (fun n cs y ht hze => by
    obtain ⟨a, e0, _, _⟩ := DataW.trod_int Try.underlying3 ht
    exact ⟨a, e0, trivial⟩) hz hv h
  have hk := kIn_of (k := Kd.int .i64) (fun x => x) hin rfl (fun _ => rfl) (fun x _ => rfl)
  rw [List.map_id'] at hk
  exact ⟨A, n, c, _, rfl, hk⟩
end
end Go.Proofs.Ytaedgbkeiankcaa.P
namespace Go.Proofs.Ytaedgbkeiankcaa.P
open Go.RowKit Go.ChangeShapes Go.WideShapes Go.Deep Go.Joins
open Go.Proofs.YtaedgbkeiankcaaW.PrintWords (Kd)
set_option linter.unusedVariables false
section
variable {H : Type} {enc : TypeId × Value → H} {w : World} {base : Nat} {r : Reach} {b0 : Nat} {v : Value} {d : DataW H} {p : List MemPlace}
theorem open_kspan (hv : Value.okWide Try.prog w r b0 30 v) (h : DataW.Trod enc Try.prog w base (fun _ => true) true 30 v d p) (hz : Sz Try.prog 30 d) :
    ∃ (A : Option Addr) (n c : Nat) (l : List S35), v = .slice A n c ∧ KIn k35 w A n c l := by
  obtain ⟨A, n, c, l, rfl, hin⟩ := open_row' (T := ByteArray × ByteArray) (f := fun x => [.string x.1, .string x.2]) (size := 2) (good := fun _ => True) (ByteArray.empty, ByteArray.empty) Try.underlying30 (by kernel_rfl) (by omega) (by rw [show Try.prog.bytesOf 35 = 32 by kernel_rfl]; omega) (fun n cs y ht hze => by
    obtain ⟨_, y0, h0, z0⟩ := trod_field Try.underlying35 ht hze 0 9 0 1 rfl (by kernel_rfl)
    obtain ⟨_, y1, h1, z1⟩ := trod_field Try.underlying35 ht hze 1 9 1 1 rfl (by kernel_rfl)
    have hl : cs.length = 2 := (trod_len Try.underlying35 ht).trans (by kernel_rfl)
    match cs, hl with
    | [u0, u1], _ =>
      simp only [List.drop_zero, List.drop_succ_cons, List.take_succ_cons, List.take_zero] at h0 h1
      obtain ⟨s, e0, ey, _⟩ := DataW.trod_string Try.underlying9 h0
      obtain ⟨t, e1, ey1, _⟩ := DataW.trod_string Try.underlying9 h1
      simp only [List.cons.injEq, and_true] at e0 e1
      subst e0 e1
      exact ⟨(s, t), rfl, trivial⟩) hz hv h
  exact ⟨A, n, c, _, rfl, kIn_of (k := k35) (fun x => S35.mk x.1 x.2) hin rfl (fun _ => rfl) (fun x _ => k35_mk _ _)⟩
end
end Go.Proofs.Ytaedgbkeiankcaa.P
