/- The law StampMerges answers true at each of its inputs. -/
import Derived.Test.YtnhdjaegkccmaaaRows
import Derived.WalkKit
import Derived.ProofKit
import Derived.OpenShut
import Derived.ShutString
import Derived.ChangeOld
import Derived.Below
import Derived.SizedLaws
import Derived.Test.YtnhdjaegkccmaaaWWords
import Derived.Test.YtnhdjaegkccmaaaWLast
import Derived.Test.YtnhdjaegkccmaaaWTab
import Derived.Test.YtnhdjaegkccmaaaWQPut
import Derived.Test.YtnhdjaegkccmaaaWApart
import Derived.Test.YtnhdjaegkccmaaaWArr
import Derived.Test.YtnhdjaegkccmaaaWZeros
import Derived.Test.YtnhdjaegkccmaaaWFoot
import Derived.Test.YtnhdjaegkccmaaaWKept
import Derived.Test.YtnhdjaegkccmaaaWShare
import Derived.Test.YtnhdjaegkccmaaaWN
import Derived.Test.YtnhdjaegkccmaaaWEqStruct
import Derived.Test.YtnhdjaegkccmaaaWRepsOne
import Derived.Test.YtnhdjaegkccmaaaWGuard
import Derived.Test.YtnhdjaegkccmaaaWNEv
import Derived.Test.YtnhdjaegkccmaaaWMore
import Derived.Test.YtnhdjaegkccmaaaGf8a1be9d
import Derived.Test.YtnhdjaegkccmaaaG6fd917f9
import Derived.Test.YtnhdjaegkccmaaaG5069bfb7
import Derived.Test.YtnhdjaegkccmaaaGc4c9ef5b
import Derived.Test.YtnhdjaegkccmaaaGd76a5295
import Derived.Test.YtnhdjaegkccmaaaG8b7e1370
import Derived.Test.YtnhdjaegkccmaaaG70b67bd7
import Derived.Test.YtnhdjaegkccmaaaGe8422621
import Derived.Test.YtnhdjaegkccmaaaG9bc87f44
import Derived.Test.YtnhdjaegkccmaaaG74b98495
import Derived.Test.YtnhdjaegkccmaaaGb1360167
import Derived.Test.YtnhdjaegkccmaaaG3359b79f
import Derived.Test.YtnhdjaegkccmaaaG0a207337
import Derived.Test.YtnhdjaegkccmaaaG156e9106
import Derived.Test.YtnhdjaegkccmaaaG67187c64
import Derived.Test.YtnhdjaegkccmaaaG83aa1947
import Derived.Test.YtnhdjaegkccmaaaG7a1f7523
import Derived.Test.YtnhdjaegkccmaaaG86c3fbc1
import Derived.Test.YtnhdjaegkccmaaaG080cdc10
import Derived.Test.YtnhdjaegkccmaaaG0409e222
import Derived.Test.YtnhdjaegkccmaaaGcb6f8846
namespace Go.Proofs.Ytnhdjaegkccmaaa.stampMerges
open Go.Proofs.Ytnhdjaegkccmaaa.P
open Go.ChangeShapes Go.WideShapes Go.ChangeAt Go.RowKit
open Go.ChangeMaps (open_string shut_string)
set_option linter.unusedVariables false
theorem own : ownKnob Try.prog.godebug = none := by kernel_rfl
theorem laidOut : laidOutB Try.prog = true := by kernel_rfl
theorem walk (A0 : Option Addr) (c0 : Nat) (l0 : List S23) (A1 : Option Addr) (c1 : Nat) (l1 : List S23) (A2 : Option Addr) (c2 : Nat) (l2 : List S23) (a3 : St) (w : World) (w0 : KIn k23 w A0 l0.length c0 l0) (w1 : KIn k23 w A1 l1.length c1 l1) (w2 : KIn k23 w A2 l2.length c2 l2) (w3 : StIn a3) :
    Calls Try.prog 11 #[.slice A0 l0.length c0, .slice A1 l1.length c1, .slice A2 l2.length c2, .agg #[.int .i64 a3.t, .int .i64 a3.n]] w fun e w' => e = .returned (.bool true) ∧ Below w.heap.size w w' := by
  obtain ⟨k, h⟩ := P.stampMerges_pure l0 l1 l2 a3.t a3.n w0.max_ w1.max_ w2.max_ 
  exact (P.folkmootlaw01_StampMerges.calls k A0 c0 l0 A1 c1 l1 A2 c2 l2 a3.t a3.n true w w0.reads w0.cap w1.reads w1.cap w2.reads w2.cap  h).mono fun e w' ⟨he, hb⟩ => ⟨he, hb⟩
set_option maxRecDepth 100000 in
theorem lifted (os : Os) (started : os.Started) (H : Type) (enc : TypeId × Value → H) :
    ReturnsInHanded {} Try.checked os 11 .any (Rows.stampMergesSpec.pre6 enc Try.prog Try.f11 Rows.stampMergesRow.domain false) (Rows.stampMergesSpec.post enc Try.prog Try.f11 false true false false) := by
  refine returnsInHanded_of_change_sized (C := Try.checked) own started (by kernel_rfl) Try.func11
    (ChangeSpec.witness6 (enc := enc) (C := Try.checked) false ⟨#[], #[.slice none 0 0, .slice none 0 0, .slice none 0 0, .agg #[.int .i64 0, .int .i64 0]], []⟩ 8 (by kernel_rfl) (by kernel_rfl) (by kernel_rfl) (by kernel_rfl)) ?_
  intro W base args ds gs before hval0 hW hcnd hsz0 _
  have hval : ∀ (j : Nat) t v, Try.f11.params[j]? = some t → args[j]? = some v → Value.okWide Try.prog W .any base t v := hval0
  have hW' := hW
  obtain ⟨p, q, hA0, hV, rfl, hfz, hnd⟩ := hW
  have hA : DataW.TrodAll enc Try.prog W 0 (fun _ => true) true Try.f11.params.toList args.toList ds p := hA0
  have hsz : (DataW.weightsEach Try.prog (Try.f11.params.toList ++ Rows.stampMergesSpec.plain.varTypes Try.prog) (ds ++ gs)).all (fun x => decide (x ≤ reachBytes)) = true := hsz0
  rw [Try.params11] at hA hval hsz
  obtain ⟨v0, vs0, d0, ds0, p0, q0, hargs, rfl, rfl, h0, r0⟩ := trodAll_cons hA
  obtain ⟨v1, vs1, d1, ds1, p1, q1, rfl, rfl, rfl, h1, r1⟩ := trodAll_cons r0
  obtain ⟨v2, vs2, d2, ds2, p2, q2, rfl, rfl, rfl, h2, r2⟩ := trodAll_cons r1
  obtain ⟨v3, vs3, d3, ds3, p3, q3, rfl, rfl, rfl, h3, r3⟩ := trodAll_cons r2
  obtain ⟨rfl, rfl, rfl⟩ := trodAll_nil r3
  obtain rfl : args = #[v0, v1, v2, v3] := by cases args; simp_all
  obtain ⟨rfl, rfl⟩ := trodVars_none hV
  have k0 := h0
  have lt0 : ∀ x ∈ p0, x.block < W.heap.size := by obtain ⟨m, hm⟩ := k0; exact DataW.trod_lt m _ _ _ hm
  have z0 : Sz Try.prog 31 d0 := sz_each hsz (j := 0) rfl rfl
  obtain ⟨A0, n0, c0, l0, rfl, w0⟩ := open_kstamp (hval 0 31 v0 rfl rfl) h0 z0
  obtain rfl := w0.len
  have k1 := h1
  have lt1 : ∀ x ∈ p1, x.block < W.heap.size := by obtain ⟨m, hm⟩ := k1; exact DataW.trod_lt m _ _ _ hm
  have z1 : Sz Try.prog 31 d1 := sz_each hsz (j := 1) rfl rfl
  obtain ⟨A1, n1, c1, l1, rfl, w1⟩ := open_kstamp (hval 1 31 v1 rfl rfl) h1 z1
  obtain rfl := w1.len
  have k2 := h2
  have lt2 : ∀ x ∈ p2, x.block < W.heap.size := by obtain ⟨m, hm⟩ := k2; exact DataW.trod_lt m _ _ _ hm
  have z2 : Sz Try.prog 31 d2 := sz_each hsz (j := 2) rfl rfl
  obtain ⟨A2, n2, c2, l2, rfl, w2⟩ := open_kstamp (hval 2 31 v2 rfl rfl) h2 z2
  obtain rfl := w2.len
  have k3 := h3
  have lt3 : ∀ x ∈ p3, x.block < W.heap.size := by obtain ⟨m, hm⟩ := k3; exact DataW.trod_lt m _ _ _ hm
  have z3 : Sz Try.prog 23 d3 := sz_each hsz (j := 3) rfl rfl
  obtain ⟨a3, rfl, w3⟩ := open_st (hval 3 23 v3 rfl rfl) h3
  clear hA0 hval0
  refine (walk A0 c0 l0 A1 c1 l1 A2 c2 l2 a3 W w0 w1 w2 w3).mono fun e W' ⟨he, bel⟩ => ?_
  subst he
  exact ⟨_, rfl, _, _, _, [], _, [], hW', trodAll_mk1 (shut_bool Try.underlying4 _), (trodAll_cons_mk (Below.trod laidOut (by kernel_rfl) (of_decide_eq_true (by kernel_rfl)) k0 bel lt0) (trodAll_cons_mk (Below.trod laidOut (by kernel_rfl) (of_decide_eq_true (by kernel_rfl)) k1 bel lt1) (trodAll_cons_mk (Below.trod laidOut (by kernel_rfl) (of_decide_eq_true (by kernel_rfl)) k2 bel lt2) (trodAll_cons_mk (Below.trod laidOut (by kernel_rfl) (of_decide_eq_true (by kernel_rfl)) k3 bel lt3) trodAll_mk0)))), rfl, bel.frame _, fun h => by cases h⟩
theorem over : Rows.stampMergesRow.holds Try.pinned (OpenSpec.ofChange Rows.stampMergesSpec) :=
  OpenClaim.holds_of_wide 11 Try.f11 rfl rfl rfl rfl rfl rfl rfl ⟨rfl, rfl, rfl, rfl, rfl⟩ rfl rfl rfl rfl rfl (by kernel_rfl) Try.func11 (by kernel_rfl)
    (of_decide_eq_true (by kernel_rfl)) (by unfold Func.isWrapper; first | (rw [if_pos (by decide +kernel)]; kernel_rfl) | (rw [if_neg (by decide +kernel)]; exact ⟨rfl, rfl⟩))
    (fun os started H enc _ => lifted os started H enc)
theorem proved : Rows.StampMergesSaid := over
#print axioms proved
end Go.Proofs.Ytnhdjaegkccmaaa.stampMerges
