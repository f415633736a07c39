/- The law CmdBallots answers true at each of its inputs: behind a promise no lesser ballot does anything; the same one, and greater ones, do. -/
import Derived.Test.YtbljhngekhgbbaaGreatRows
import Derived.WalkKit
import Derived.ProofKit
import Derived.OpenShut
import Derived.ShutString
import Derived.ChangeOld
import Derived.Below
import Derived.SizedLaws
import Derived.Test.YtbljhngekhgbbaaGreatG93fbb13c
import Derived.Test.YtbljhngekhgbbaaGreatGd9f16d60
import Derived.Test.YtbljhngekhgbbaaGreatG2aba7a8f
import Derived.Test.YtbljhngekhgbbaaGreatGcca89fc4
import Derived.Test.YtbljhngekhgbbaaGreatG0e77b8c7
import Derived.Test.YtbljhngekhgbbaaGreatGfe63cf20
import Derived.Test.YtbljhngekhgbbaaGreatGe5e7c00b
import Derived.Test.YtbljhngekhgbbaaGreatG65feb202
import Derived.Test.YtbljhngekhgbbaaGreatGe8965146
import Derived.Test.YtbljhngekhgbbaaGreatG875ad2ad
import Derived.Test.YtbljhngekhgbbaaGreatG1b8203c5
import Derived.Test.YtbljhngekhgbbaaGreatG70196fb6
import Derived.Test.YtbljhngekhgbbaaGreatG3bef995a
import Derived.Test.YtbljhngekhgbbaaGreatG0d87452b
import Derived.Test.YtbljhngekhgbbaaGreatGc613df85
namespace Go.Proofs.YtbljhngekhgbbaaGreat.cmdBallots
open Go.ChangeShapes Go.WideShapes Go.ChangeAt Go.RowKit
set_option linter.unusedVariables false
theorem own : ownKnob Tryz.prog.godebug = none := by kernel_rfl
theorem laidOut : laidOutB Tryz.prog = true := by kernel_rfl
theorem walk (x0 : MStamp) (x1 : MStamp) (x2 : MStamp) (x3 : MVal) (x4 : MStamp) (g0 : g_stamp x0) (g1 : g_stamp x1) (g2 : g_stamp x2) (g3 : g_val x3) (g4 : g_stamp x4) (w : World) (args : List Value) (ha : RepTs w allG noIds [.agg (encEl .stamp x0), .agg (encEl .stamp x1), .agg (encEl .stamp x2), .agg (encVal x3), .agg (encEl .stamp x4)] args) :
    Calls Tryz.prog 3 args.toArray w fun e w' => e = .returned (.bool true) ∧ Below w.heap.size w w' :=
  law_call (law09_CmdBallots_to x0 x1 x2 x3 x4 true (CmdBallots_pure x0 x1 x2 x3 x4 g0 g1 g2 g3 g4)) ha
set_option maxRecDepth 100000 in
theorem lifted (os : Os) (started : os.Started) (H : Type) (enc : TypeId × Value → H) :
    ReturnsInHanded {} Tryz.checked os 3 .any (Rows.cmdBallotsSpec.pre6 enc Tryz.prog Tryz.f3 Rows.cmdBallotsRow.domain false) (Rows.cmdBallotsSpec.post enc Tryz.prog Tryz.f3 false true false false) := by
  refine returnsInHanded_of_change_sized (C := Tryz.checked) own started (by kernel_rfl) Tryz.func3
    (ChangeSpec.witness6 (enc := enc) (C := Tryz.checked) false ⟨#[], #[.agg #[.int .i64 0, .int .i64 0], .agg #[.int .i64 0, .int .i64 0], .agg #[.int .i64 0, .int .i64 0], .agg #[.bool false, .int .i64 0, .int .i64 0, .slice none 0 0], .agg #[.int .i64 0, .int .i64 0]], []⟩ 8 (by kernel_rfl) (by kernel_rfl) (by kernel_rfl) (by kernel_rfl)) ?_
  intro W base args ds gs before hval0 hW hcnd hsz0 _
  have hval : ∀ (j : Nat) t v, Tryz.f3.params[j]? = some t → args[j]? = some v → Value.okWide Tryz.prog W .any base t v := hval0
  have hW' := hW
  obtain ⟨p, q, hA0, hV, rfl, hfz, hnd⟩ := hW
  have hA : DataW.TrodAll enc Tryz.prog W 0 (fun _ => true) true Tryz.f3.params.toList args.toList ds p := hA0
  have hsz : (DataW.weightsEach Tryz.prog (Tryz.f3.params.toList ++ Rows.cmdBallotsSpec.plain.varTypes Tryz.prog) (ds ++ gs)).all (fun x => decide (x ≤ reachBytes)) = true := hsz0
  rw [Tryz.params3] at hA hval hsz
  obtain ⟨v0, vs0, d0, ds0, p0, q0, hargs, rfl, rfl, h0, r0⟩ := trodAll_cons hA
  obtain ⟨v1, vs1, d1, ds1, p1, q1, rfl, rfl, rfl, h1, r1⟩ := trodAll_cons r0
  obtain ⟨v2, vs2, d2, ds2, p2, q2, rfl, rfl, rfl, h2, r2⟩ := trodAll_cons r1
  obtain ⟨v3, vs3, d3, ds3, p3, q3, rfl, rfl, rfl, h3, r3⟩ := trodAll_cons r2
  obtain ⟨v4, vs4, d4, ds4, p4, q4, rfl, rfl, rfl, h4, r4⟩ := trodAll_cons r3
  obtain ⟨rfl, rfl, rfl⟩ := trodAll_nil r4
  obtain rfl : args = #[v0, v1, v2, v3, v4] := by cases args; simp_all
  obtain ⟨rfl, rfl⟩ := trodVars_none hV
  have k0 := h0
  have lt0 : ∀ x ∈ p0, x.block < W.heap.size := by obtain ⟨m, hm⟩ := k0; exact DataW.trod_lt m _ _ _ hm
  have z0 : Sz Tryz.prog 23 d0 := sz_each hsz (j := 0) rfl rfl
  obtain ⟨x0, r0, g0⟩ := arg_struct op_stamp Tryz.underlying23 (hval 0 23 v0 rfl rfl) h0 z0
  have k1 := h1
  have lt1 : ∀ x ∈ p1, x.block < W.heap.size := by obtain ⟨m, hm⟩ := k1; exact DataW.trod_lt m _ _ _ hm
  have z1 : Sz Tryz.prog 23 d1 := sz_each hsz (j := 1) rfl rfl
  obtain ⟨x1, r1, g1⟩ := arg_struct op_stamp Tryz.underlying23 (hval 1 23 v1 rfl rfl) h1 z1
  have k2 := h2
  have lt2 : ∀ x ∈ p2, x.block < W.heap.size := by obtain ⟨m, hm⟩ := k2; exact DataW.trod_lt m _ _ _ hm
  have z2 : Sz Tryz.prog 23 d2 := sz_each hsz (j := 2) rfl rfl
  obtain ⟨x2, r2, g2⟩ := arg_struct op_stamp Tryz.underlying23 (hval 2 23 v2 rfl rfl) h2 z2
  have k3 := h3
  have lt3 : ∀ x ∈ p3, x.block < W.heap.size := by obtain ⟨m, hm⟩ := k3; exact DataW.trod_lt m _ _ _ hm
  have z3 : Sz Tryz.prog 26 d3 := sz_each hsz (j := 3) rfl rfl
  obtain ⟨x3, r3, g3⟩ := arg_struct op_val Tryz.underlying26 (hval 3 26 v3 rfl rfl) h3 z3
  have k4 := h4
  have lt4 : ∀ x ∈ p4, x.block < W.heap.size := by obtain ⟨m, hm⟩ := k4; exact DataW.trod_lt m _ _ _ hm
  have z4 : Sz Tryz.prog 23 d4 := sz_each hsz (j := 4) rfl rfl
  obtain ⟨x4, r4, g4⟩ := arg_struct op_stamp Tryz.underlying23 (hval 4 23 v4 rfl rfl) h4 z4
  clear hA0 hval0
  refine (walk x0 x1 x2 x3 x4 g0 g1 g2 g3 g4 W [v0, v1, v2, v3, v4] (RepTs.cons_ r0 (RepTs.cons_ r1 (RepTs.cons_ r2 (RepTs.cons_ r3 (RepTs.cons_ r4 RepTs.nil_)))))).mono fun e W' ⟨he, bel⟩ => ?_
  subst he
  exact ⟨_, rfl, _, _, _, [], _, [], hW', trodAll_mk1 (shut_bool Tryz.underlying4 _), (trodAll_cons_mk (Below.trod laidOut (by kernel_rfl) (of_decide_eq_true (by kernel_rfl)) k0 bel lt0) (trodAll_cons_mk (Below.trod laidOut (by kernel_rfl) (of_decide_eq_true (by kernel_rfl)) k1 bel lt1) (trodAll_cons_mk (Below.trod laidOut (by kernel_rfl) (of_decide_eq_true (by kernel_rfl)) k2 bel lt2) (trodAll_cons_mk (Below.trod laidOut (by kernel_rfl) (of_decide_eq_true (by kernel_rfl)) k3 bel lt3) (trodAll_cons_mk (Below.trod laidOut (by kernel_rfl) (of_decide_eq_true (by kernel_rfl)) k4 bel lt4) trodAll_mk0))))), rfl, bel.frame _, fun h => by cases h⟩
theorem over : Rows.cmdBallotsRow.holds Tryz.pinned (OpenSpec.ofChange Rows.cmdBallotsSpec) :=
  OpenClaim.holds_of_wide 3 Tryz.f3 rfl rfl rfl rfl rfl rfl rfl ⟨rfl, rfl, rfl, rfl, rfl⟩ rfl rfl rfl rfl rfl (by kernel_rfl) Tryz.func3 (by kernel_rfl)
    (of_decide_eq_true (by kernel_rfl)) (by unfold Func.isWrapper; first | (rw [if_pos (by decide +kernel)]; kernel_rfl) | (rw [if_neg (by decide +kernel)]; exact ⟨rfl, rfl⟩))
    (fun os started H enc _ => lifted os started H enc)
theorem proved : Rows.CmdBallotsSaid := over
#print axioms proved
end Go.Proofs.YtbljhngekhgbbaaGreat.cmdBallots
