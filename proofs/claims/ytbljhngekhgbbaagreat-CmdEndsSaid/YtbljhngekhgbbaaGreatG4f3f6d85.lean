/- The law CmdEnds answers true at each of its inputs: a command comes to its end by Decide, Load and Done, in this order alone; one that is gone by Decide; then nothing changes it. -/
import Derived.Test.YtbljhngekhgbbaaGreatRows
import Derived.WalkKit
import Derived.ProofKit
import Derived.OpenShut
import Derived.ShutString
import Derived.ChangeOld
import Derived.Below
import Derived.SizedLaws
import Derived.Test.YtbljhngekhgbbaaGreatGb3b707fa
import Derived.Test.YtbljhngekhgbbaaGreatGb43ee308
import Derived.Test.YtbljhngekhgbbaaGreatG9c20b58a
import Derived.Test.YtbljhngekhgbbaaGreatG6e0496cb
import Derived.Test.YtbljhngekhgbbaaGreatG20caf6cc
import Derived.Test.YtbljhngekhgbbaaGreatGf0b3007f
import Derived.Test.YtbljhngekhgbbaaGreatG0f2df3e7
import Derived.Test.YtbljhngekhgbbaaGreatG7be370e0
import Derived.Test.YtbljhngekhgbbaaGreatG15131814
import Derived.Test.YtbljhngekhgbbaaGreatG8a797d8d
import Derived.Test.YtbljhngekhgbbaaGreatG01690cca
import Derived.Test.YtbljhngekhgbbaaGreatG08b825e4
import Derived.Test.YtbljhngekhgbbaaGreatG0abb3d8d
import Derived.Test.YtbljhngekhgbbaaGreatGbd7af720
import Derived.Test.YtbljhngekhgbbaaGreatGe5440ce6
import Derived.Test.YtbljhngekhgbbaaGreatG06d599ac
import Derived.Test.YtbljhngekhgbbaaGreatG443b2139
import Derived.Test.YtbljhngekhgbbaaGreatGce5f1358
import Derived.Test.YtbljhngekhgbbaaGreatGae8351a8
import Derived.Test.YtbljhngekhgbbaaGreatG416aaa5c
import Derived.Test.YtbljhngekhgbbaaGreatG77bfc8c1
import Derived.Test.YtbljhngekhgbbaaGreatGe0c45372
import Derived.Test.YtbljhngekhgbbaaGreatGfb7cc156
import Derived.Test.YtbljhngekhgbbaaGreatG132e2e47
import Derived.Test.YtbljhngekhgbbaaGreatG31ac927f
import Derived.Test.YtbljhngekhgbbaaGreatG68d54092
import Derived.Test.YtbljhngekhgbbaaGreatGb3f77d99
import Derived.Test.YtbljhngekhgbbaaGreatG93612b59
import Derived.Test.YtbljhngekhgbbaaGreatG339d55ae
import Derived.Test.YtbljhngekhgbbaaGreatGb89376ef
import Derived.Test.YtbljhngekhgbbaaGreatG2fc397cf
import Derived.Test.YtbljhngekhgbbaaGreatG353104c5
import Derived.Test.YtbljhngekhgbbaaGreatG2cac6ac3
set_option linter.unusedSimpArgs false
set_option linter.unusedVariables false
namespace Go.Proofs.YtbljhngekhgbbaaGreat.cmdEnds
open Go.ChangeShapes Go.WideShapes Go.ChangeAt Go.RowKit
set_option linter.unusedVariables false
theorem own : ownKnob Tryz.prog.godebug = none := by kernel_rfl
theorem laidOut : laidOutB Tryz.prog = true := by kernel_rfl
theorem walk (x0 : MStamp) (x1 : List MOp) (x2 : MVal) (x3 : List MWrite) (x4 : List MPair) (x5 : MStamp) (g0 : g_stamp x0) (g1 : x1.length ≤ reachBytes ∧ ∀ y ∈ x1, g_op y) (g2 : g_val x2) (g3 : x3.length ≤ reachBytes ∧ ∀ y ∈ x3, g_write y) (g4 : x4.length ≤ reachBytes ∧ ∀ y ∈ x4, g_pair y) (g5 : g_stamp x5) (w : World) (args : List Value) (ha : RepTs w allG noIds [.agg (encEl .stamp x0), .one (.dat .op x1), .agg (encVal x2), .one (.dat .write x3), .one (.dat .pair x4), .agg (encEl .stamp x5)] args) :
    Calls Tryz.prog 7 args.toArray w fun e w' => e = .returned (.bool true) ∧ Below w.heap.size w w' :=
  law_call (law09_CmdEnds_to x0 x1 x2 x3 x4 x5 true (CmdEnds_pure x0 x1 x2 x3 x4 x5 g0 g1 g2 g3 g4 g5)) ha
set_option maxRecDepth 100000 in
theorem lifted (os : Os) (started : os.Started) (H : Type) (enc : TypeId × Value → H) :
    ReturnsInHanded {} Tryz.checked os 7 .any (Rows.cmdEndsSpec.pre6 enc Tryz.prog Tryz.f7 Rows.cmdEndsRow.domain false) (Rows.cmdEndsSpec.post enc Tryz.prog Tryz.f7 false true false false) := by
  refine returnsInHanded_of_change_sized (C := Tryz.checked) own started (by kernel_rfl) Tryz.func7
    (ChangeSpec.witness6 (enc := enc) (C := Tryz.checked) false ⟨#[], #[.agg #[.int .i64 0, .int .i64 0], .slice none 0 0, .agg #[.bool false, .int .i64 0, .int .i64 0, .slice none 0 0], .slice none 0 0, .slice none 0 0, .agg #[.int .i64 0, .int .i64 0]], []⟩ 8 (by kernel_rfl) (by kernel_rfl) (by kernel_rfl) (by kernel_rfl)) ?_
  intro W base args ds gs before hval0 hW hcnd hsz0 _
  have hval : ∀ (j : Nat) t v, Tryz.f7.params[j]? = some t → args[j]? = some v → Value.okWide Tryz.prog W .any base t v := hval0
  have hW' := hW
  obtain ⟨p, q, hA0, hV, rfl, hfz, hnd⟩ := hW
  have hA : DataW.TrodAll enc Tryz.prog W 0 (fun _ => true) true Tryz.f7.params.toList args.toList ds p := hA0
  have hsz : (DataW.weightsEach Tryz.prog (Tryz.f7.params.toList ++ Rows.cmdEndsSpec.plain.varTypes Tryz.prog) (ds ++ gs)).all (fun x => decide (x ≤ reachBytes)) = true := hsz0
  rw [Tryz.params7] at hA hval hsz
  obtain ⟨v0, vs0, d0, ds0, p0, q0, hargs, rfl, rfl, h0, r0⟩ := trodAll_cons hA
  obtain ⟨v1, vs1, d1, ds1, p1, q1, rfl, rfl, rfl, h1, r1⟩ := trodAll_cons r0
  obtain ⟨v2, vs2, d2, ds2, p2, q2, rfl, rfl, rfl, h2, r2⟩ := trodAll_cons r1
  obtain ⟨v3, vs3, d3, ds3, p3, q3, rfl, rfl, rfl, h3, r3⟩ := trodAll_cons r2
  obtain ⟨v4, vs4, d4, ds4, p4, q4, rfl, rfl, rfl, h4, r4⟩ := trodAll_cons r3
  obtain ⟨v5, vs5, d5, ds5, p5, q5, rfl, rfl, rfl, h5, r5⟩ := trodAll_cons r4
  obtain ⟨rfl, rfl, rfl⟩ := trodAll_nil r5
  obtain rfl : args = #[v0, v1, v2, v3, v4, v5] := by cases args; simp_all
  obtain ⟨rfl, rfl⟩ := trodVars_none hV
  have k0 := h0
  have lt0 : ∀ x ∈ p0, x.block < W.heap.size := by obtain ⟨m, hm⟩ := k0; exact DataW.trod_lt m _ _ _ hm
  have z0 : Sz Tryz.prog 23 d0 := sz_each hsz (j := 0) rfl rfl
  obtain ⟨x0, r0, g0⟩ := arg_struct op_stamp Tryz.underlying23 (hval 0 23 v0 rfl rfl) h0 z0
  have k1 := h1
  have lt1 : ∀ x ∈ p1, x.block < W.heap.size := by obtain ⟨m, hm⟩ := k1; exact DataW.trod_lt m _ _ _ hm
  have z1 : Sz Tryz.prog 33 d1 := sz_each hsz (j := 1) rfl rfl
  obtain ⟨x1, r1, g1⟩ := arg_one op_ops (by obtain ⟨_, _, _, rfl⟩ := okWide_slice Tryz.underlying33 (hval 1 33 v1 rfl rfl); rfl) h1 z1
  have k2 := h2
  have lt2 : ∀ x ∈ p2, x.block < W.heap.size := by obtain ⟨m, hm⟩ := k2; exact DataW.trod_lt m _ _ _ hm
  have z2 : Sz Tryz.prog 26 d2 := sz_each hsz (j := 2) rfl rfl
  obtain ⟨x2, r2, g2⟩ := arg_struct op_val Tryz.underlying26 (hval 2 26 v2 rfl rfl) h2 z2
  have k3 := h3
  have lt3 : ∀ x ∈ p3, x.block < W.heap.size := by obtain ⟨m, hm⟩ := k3; exact DataW.trod_lt m _ _ _ hm
  have z3 : Sz Tryz.prog 34 d3 := sz_each hsz (j := 3) rfl rfl
  obtain ⟨x3, r3, g3⟩ := arg_one op_writes (by obtain ⟨_, _, _, rfl⟩ := okWide_slice Tryz.underlying34 (hval 3 34 v3 rfl rfl); rfl) h3 z3
  have k4 := h4
  have lt4 : ∀ x ∈ p4, x.block < W.heap.size := by obtain ⟨m, hm⟩ := k4; exact DataW.trod_lt m _ _ _ hm
  have z4 : Sz Tryz.prog 35 d4 := sz_each hsz (j := 4) rfl rfl
  obtain ⟨x4, r4, g4⟩ := arg_one op_pairs (by obtain ⟨_, _, _, rfl⟩ := okWide_slice Tryz.underlying35 (hval 4 35 v4 rfl rfl); rfl) h4 z4
  have k5 := h5
  have lt5 : ∀ x ∈ p5, x.block < W.heap.size := by obtain ⟨m, hm⟩ := k5; exact DataW.trod_lt m _ _ _ hm
  have z5 : Sz Tryz.prog 23 d5 := sz_each hsz (j := 5) rfl rfl
  obtain ⟨x5, r5, g5⟩ := arg_struct op_stamp Tryz.underlying23 (hval 5 23 v5 rfl rfl) h5 z5
  clear hA0 hval0
  refine (walk x0 x1 x2 x3 x4 x5 g0 g1 g2 g3 g4 g5 W [v0, v1, v2, v3, v4, v5] (RepTs.cons_ r0 (RepTs.cons_ r1 (RepTs.cons_ r2 (RepTs.cons_ r3 (RepTs.cons_ r4 (RepTs.cons_ r5 RepTs.nil_))))))).mono fun e W' ⟨he, bel⟩ => ?_
  subst he
  exact ⟨_, rfl, _, _, _, [], _, [], hW', trodAll_mk1 (shut_bool Tryz.underlying4 _), (trodAll_cons_mk (Below.trod laidOut (by kernel_rfl) (of_decide_eq_true (by kernel_rfl)) k0 bel lt0) (trodAll_cons_mk (Below.trod laidOut (by kernel_rfl) (of_decide_eq_true (by kernel_rfl)) k1 bel lt1) (trodAll_cons_mk (Below.trod laidOut (by kernel_rfl) (of_decide_eq_true (by kernel_rfl)) k2 bel lt2) (trodAll_cons_mk (Below.trod laidOut (by kernel_rfl) (of_decide_eq_true (by kernel_rfl)) k3 bel lt3) (trodAll_cons_mk (Below.trod laidOut (by kernel_rfl) (of_decide_eq_true (by kernel_rfl)) k4 bel lt4) (trodAll_cons_mk (Below.trod laidOut (by kernel_rfl) (of_decide_eq_true (by kernel_rfl)) k5 bel lt5) trodAll_mk0)))))), rfl, bel.frame _, fun h => by cases h⟩
theorem over : Rows.cmdEndsRow.holds Tryz.pinned (OpenSpec.ofChange Rows.cmdEndsSpec) :=
  OpenClaim.holds_of_wide 7 Tryz.f7 rfl rfl rfl rfl rfl rfl rfl ⟨rfl, rfl, rfl, rfl, rfl⟩ rfl rfl rfl rfl rfl (by kernel_rfl) Tryz.func7 (by kernel_rfl)
    (of_decide_eq_true (by kernel_rfl)) (by unfold Func.isWrapper; first | (rw [if_pos (by decide +kernel)]; kernel_rfl) | (rw [if_neg (by decide +kernel)]; exact ⟨rfl, rfl⟩))
    (fun os started H enc _ => lifted os started H enc)
theorem proved : Rows.CmdEndsSaid := over
#print axioms proved
end Go.Proofs.YtbljhngekhgbbaaGreat.cmdEnds
