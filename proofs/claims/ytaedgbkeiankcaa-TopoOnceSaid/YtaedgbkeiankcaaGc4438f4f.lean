/- The law TopoOnce answers true at each of its inputs. -/
import Derived.Test.YtaedgbkeiankcaaRows
import Derived.WalkKit
import Derived.ProofKit
import Derived.OpenShut
import Derived.ShutString
import Derived.ChangeOld
import Derived.Below
import Derived.SizedLaws
import Derived.Test.YtaedgbkeiankcaaWWords
import Derived.Test.YtaedgbkeiankcaaWLast
import Derived.Test.YtaedgbkeiankcaaWTab
import Derived.Test.YtaedgbkeiankcaaWQPut
import Derived.Test.YtaedgbkeiankcaaWApart
import Derived.Test.YtaedgbkeiankcaaWArr
import Derived.Test.YtaedgbkeiankcaaWZeros
import Derived.Test.YtaedgbkeiankcaaWFoot
import Derived.Test.YtaedgbkeiankcaaWKept
import Derived.Test.YtaedgbkeiankcaaWShare
import Derived.Test.YtaedgbkeiankcaaWN
import Derived.Test.YtaedgbkeiankcaaWEqStruct
import Derived.Test.YtaedgbkeiankcaaWRepsOne
import Derived.Test.YtaedgbkeiankcaaWGuard
import Derived.Test.YtaedgbkeiankcaaWNEv
import Derived.Test.YtaedgbkeiankcaaWMore
import Derived.Test.YtaedgbkeiankcaaG64eb9ef8
import Derived.Test.YtaedgbkeiankcaaGca2bd920
import Derived.Test.YtaedgbkeiankcaaGff33e446
import Derived.Test.YtaedgbkeiankcaaG1345e055
import Derived.Test.YtaedgbkeiankcaaG5fc94eef
import Derived.Test.YtaedgbkeiankcaaG4bcd870f
import Derived.Test.YtaedgbkeiankcaaGbd7ae8bd
import Derived.Test.YtaedgbkeiankcaaG41c11834
import Derived.Test.YtaedgbkeiankcaaG132b0fe3
import Derived.Test.YtaedgbkeiankcaaG0dc59620
import Derived.Test.YtaedgbkeiankcaaGc773388e
import Derived.Test.YtaedgbkeiankcaaG8ef4219a
import Derived.Test.YtaedgbkeiankcaaGae6c6a1e
import Derived.Test.YtaedgbkeiankcaaG59233577
import Derived.Test.YtaedgbkeiankcaaG9f496484
import Derived.Test.YtaedgbkeiankcaaG432ab4c7
import Derived.Test.YtaedgbkeiankcaaG9919190a
import Derived.Test.YtaedgbkeiankcaaG9a577d31
import Derived.Test.YtaedgbkeiankcaaG59149f34
import Derived.Test.YtaedgbkeiankcaaG76e5816a
import Derived.Test.YtaedgbkeiankcaaG5769bad6
namespace Go.Proofs.Ytaedgbkeiankcaa.topoOnce
open Go.Proofs.Ytaedgbkeiankcaa.P
open Go.ChangeShapes Go.WideShapes Go.ChangeAt Go.RowKit
open Go.ChangeMaps (open_string shut_string)
set_option linter.unusedVariables false
theorem own : ownKnob Try.prog.godebug = none := by kernel_rfl
theorem laidOut : laidOutB Try.prog = true := by kernel_rfl
theorem walk (A0 : Option Addr) (c0 : Nat) (l0 : List S37) (a1 : ByteArray) (w : World) (w0 : KIn k37 w A0 l0.length c0 l0) (w1 : a1.size ≤ reachBytes) :
    Calls Try.prog 7 #[.slice A0 l0.length c0, .string a1] w fun e w' => e = .returned (.bool true) ∧ Below w.heap.size w w' := by
  obtain ⟨k, h⟩ := P.topoOnce_pure l0 a1 w0.max_ w1
  exact (P.folkmootlaw04_TopoOnce.calls k A0 c0 l0 a1 true w w0.reads w0.cap  h).mono fun e w' ⟨he, hb⟩ => ⟨he, hb⟩
set_option maxRecDepth 100000 in
theorem lifted (os : Os) (started : os.Started) (H : Type) (enc : TypeId × Value → H) :
    ReturnsInHanded {} Try.checked os 7 .any (Rows.topoOnceSpec.pre6 enc Try.prog Try.f7 Rows.topoOnceRow.domain false) (Rows.topoOnceSpec.post enc Try.prog Try.f7 false true false false) := by
  refine returnsInHanded_of_change_sized (C := Try.checked) own started (by kernel_rfl) Try.func7
    (ChangeSpec.witness6 (enc := enc) (C := Try.checked) false ⟨#[], #[.slice none 0 0, .string ByteArray.empty], []⟩ 8 (by kernel_rfl) (by kernel_rfl) (by kernel_rfl) (by kernel_rfl)) ?_
  intro W base args ds gs before hval0 hW hcnd hsz0 _
  have hval : ∀ (j : Nat) t v, Try.f7.params[j]? = some t → args[j]? = some v → Value.okWide Try.prog W .any base t v := hval0
  have hW' := hW
  obtain ⟨p, q, hA0, hV, rfl, hfz, hnd⟩ := hW
  have hA : DataW.TrodAll enc Try.prog W 0 (fun _ => true) true Try.f7.params.toList args.toList ds p := hA0
  have hsz : (DataW.weightsEach Try.prog (Try.f7.params.toList ++ Rows.topoOnceSpec.plain.varTypes Try.prog) (ds ++ gs)).all (fun x => decide (x ≤ reachBytes)) = true := hsz0
  rw [Try.params7] at hA hval hsz
  obtain ⟨v0, vs0, d0, ds0, p0, q0, hargs, rfl, rfl, h0, r0⟩ := trodAll_cons hA
  obtain ⟨v1, vs1, d1, ds1, p1, q1, rfl, rfl, rfl, h1, r1⟩ := trodAll_cons r0
  obtain ⟨rfl, rfl, rfl⟩ := trodAll_nil r1
  obtain rfl : args = #[v0, v1] := by cases args; simp_all
  obtain ⟨rfl, rfl⟩ := trodVars_none hV
  have k0 := h0
  have lt0 : ∀ x ∈ p0, x.block < W.heap.size := by obtain ⟨m, hm⟩ := k0; exact DataW.trod_lt m _ _ _ hm
  have z0 : Sz Try.prog 22 d0 := sz_each hsz (j := 0) rfl rfl
  obtain ⟨A0, n0, c0, l0, rfl, w0⟩ := open_kshard (hval 0 22 v0 rfl rfl) h0 z0
  obtain rfl := w0.len
  have k1 := h1
  have lt1 : ∀ x ∈ p1, x.block < W.heap.size := by obtain ⟨m, hm⟩ := k1; exact DataW.trod_lt m _ _ _ hm
  have z1 : Sz Try.prog 9 d1 := sz_each hsz (j := 1) rfl rfl
  obtain ⟨a1, rfl, rfl, rfl, _⟩ := open_string Try.underlying9 (hval 1 9 v1 rfl rfl) h1
  have w1 : a1.size ≤ reachBytes := by have := sz_string z1; rwa [Array.length_toList] at this
  clear hA0 hval0
  refine (walk A0 c0 l0 a1 W w0 w1).mono fun e W' ⟨he, bel⟩ => ?_
  subst he
  exact ⟨_, rfl, _, _, _, [], _, [], hW', trodAll_mk1 (shut_bool Try.underlying4 _), (trodAll_cons_mk (Below.trod laidOut (by kernel_rfl) (of_decide_eq_true (by kernel_rfl)) k0 bel lt0) (trodAll_cons_mk (Below.trod laidOut (by kernel_rfl) (of_decide_eq_true (by kernel_rfl)) k1 bel lt1) trodAll_mk0)), rfl, bel.frame _, fun h => by cases h⟩
theorem over : Rows.topoOnceRow.holds Try.pinned (OpenSpec.ofChange Rows.topoOnceSpec) :=
  OpenClaim.holds_of_wide 7 Try.f7 rfl rfl rfl rfl rfl rfl rfl ⟨rfl, rfl, rfl, rfl, rfl⟩ rfl rfl rfl rfl rfl (by kernel_rfl) Try.func7 (by kernel_rfl)
    (of_decide_eq_true (by kernel_rfl)) (by unfold Func.isWrapper; first | (rw [if_pos (by decide +kernel)]; kernel_rfl) | (rw [if_neg (by decide +kernel)]; exact ⟨rfl, rfl⟩))
    (fun os started H enc _ => lifted os started H enc)
theorem proved : Rows.TopoOnceSaid := over
#print axioms proved
end Go.Proofs.Ytaedgbkeiankcaa.topoOnce
