/- Texts of the proofs of CmdEnds, merged (PEnds). -/
import Derived.Test.YtbljhngekhgbbaaGreatGb3b707fa
import Derived.Test.YtbljhngekhgbbaaGreatGb43ee308
import Derived.Test.YtbljhngekhgbbaaGreatG9c20b58a
import Derived.Test.YtbljhngekhgbbaaGreatG6e0496cb
import Derived.Test.YtbljhngekhgbbaaGreatG20caf6cc
import Derived.Test.YtbljhngekhgbbaaGreatGf0b3007f
import Derived.Test.YtbljhngekhgbbaaGreatG0f2df3e7
import Derived.Test.YtbljhngekhgbbaaGreatG7be370e0
import Derived.Test.YtbljhngekhgbbaaGreatG15131814
import Derived.Test.YtbljhngekhgbbaaGreatG8a797d8d
import Derived.Test.YtbljhngekhgbbaaGreatG01690cca
import Derived.Test.YtbljhngekhgbbaaGreatG08b825e4
import Derived.Test.YtbljhngekhgbbaaGreatG0abb3d8d
import Derived.Test.YtbljhngekhgbbaaGreatGbd7af720
import Derived.Test.YtbljhngekhgbbaaGreatGe5440ce6
import Derived.Test.YtbljhngekhgbbaaGreatG06d599ac
import Derived.Test.YtbljhngekhgbbaaGreatG443b2139
import Derived.Test.YtbljhngekhgbbaaGreatGce5f1358
import Derived.Test.YtbljhngekhgbbaaGreatGae8351a8
import Derived.Test.YtbljhngekhgbbaaGreatG416aaa5c
import Derived.Test.YtbljhngekhgbbaaGreatG77bfc8c1
import Derived.Test.YtbljhngekhgbbaaGreatGe0c45372
import Derived.Test.YtbljhngekhgbbaaGreatGfb7cc156
import Derived.Test.YtbljhngekhgbbaaGreatG132e2e47
import Derived.Test.YtbljhngekhgbbaaGreatG31ac927f
import Derived.Test.YtbljhngekhgbbaaGreatG68d54092
import Derived.Test.YtbljhngekhgbbaaGreatGb3f77d99
import Derived.Test.YtbljhngekhgbbaaGreatG93612b59
import Derived.Test.YtbljhngekhgbbaaGreatG339d55ae
import Derived.Test.YtbljhngekhgbbaaGreatGb89376ef
import Derived.Test.YtbljhngekhgbbaaGreatG2fc397cf
import Derived.Test.YtbljhngekhgbbaaGreatG353104c5
set_option linter.unusedSimpArgs false
set_option linter.unusedVariables false
namespace Go.Proofs.YtbljhngekhgbbaaGreat
open Go.RowKit
set_option linter.unusedVariables false
set_option linter.unusedSimpArgs false
theorem load_no {c : MCmd} (h : c.phase ≠ 2) (l : List MWrite) : cmd_Load c l = c := by
  unfold cmd_Load
  have : (c.3 == 2) = false := by simpa using h
  rw [this]; rfl
theorem done_no {c : MCmd} (h : c.phase ≠ 2) (l : List MPair) : cmd_Done c l = c := by
  unfold cmd_Done
  have : (c.3 == 2) = false := by simpa using h
  rw [this]; rfl
theorem CmdEnds_pure (a : MStamp) (b : List MOp) (v : MVal) (d : List MWrite) (e : List MPair) (g : MStamp) (_ : g_stamp a) (hb : b.length ≤ reachBytes ∧ ∀ y ∈ b, g_op y) (hv : g_val v) (hd : d.length ≤ reachBytes ∧ ∀ y ∈ d, g_write y) (he : e.length ≤ reachBytes ∧ ∀ y ∈ e, g_pair y) (_ : g_stamp g) :
    law09_CmdEnds_o a b v d e g = some true := by
  have gb := gOps_of hb
  have gv : gD v.deps := gD_of hv.2.2.1
  have gd := gWr_of hd
  have ge := gPr_of he
  unfold law09_CmdEnds_o
  simp only [ref08_Check_eq gb.1, ref09_Value_eq gv, valB_eq, ref09_Writes_eq gd.1, ref08_Data_eq ge.1, Option.isSome_some, Option.getD_some, cond_true]
  cases h1 : ref01_Is a with
  | false => rfl
  | true =>
  cases h2 : (opsC b != 0) with
  | true => rfl
  | false =>
  cases h3 : vB v with
  | false => rfl
  | true =>
  cases h4 : writesB d with
  | false => rfl
  | true =>
  cases h5 : pairsB e with
  | false => rfl
  | true =>
  cases h6 : ref09_Ballot g with
  | false => rfl
  | true =>
  have ob : opsC b = 0 := by simpa using h2
  obtain ⟨s1, s2⟩ := value_small gv (by rw [valB_eq]; exact h3)
  obtain ⟨l, hl, _⟩ := ref06_All_some (d := v.deps) (by omega) (by omega)
  have hl' : ref06_All_o v.3 = some l := hl
  simp only [hl', Option.isSome_some, Option.getD_some, cond_true, cond_false]
  generalize IntKind.i64.wrap (IntKind.i64.wrap ((l.length : Int) + (d.length : Int)) + (e.length : Int)) = n
  by_cases h8 : (120 : Int) < n
  · simp only [h8, decide_true, cond_true]
  simp only [h8, decide_false, cond_false]
  have hN : GC (cmd_New a) := ⟨⟨Nat.zero_le _, fun o ho => by simp [new_eq] at ho⟩, gD_nil, gD_nil, gWr_nil, gPr_nil⟩
  have q1 : cmd_Load (cmd_New a) d = cmd_New a := load_no (by show (0 : Int) ≠ 2; decide) d
  have q2 : cmd_Done (cmd_New a) e = cmd_New a := done_no (by show (0 : Int) ≠ 2; decide) e
  have q3 : cmd_Final (cmd_New a) = false := rfl
  simp only [q1, q2, q3, ref09_Same_eq _ hN.cmd, eqB_self, Option.isSome_some, Option.getD_some, cond_true, cond_false]
  have hdec : ∀ w : MVal, cmd_Decide (cmd_New a) b w = bif w.1 then { cmd_New a with phase := 2, has := true, value := w } else { cmd_New a with ops := b, phase := 2, has := true, value := w } := fun w => by
    unfold cmd_Decide
    rw [decided_eq, decide_eq_false (by show ¬ (2 : Int) ≤ 0; decide)]
    rfl
  cases hg : v.1 with
  | true =>
    simp only [cond_true, hdec, hg]
    have hD : GC { cmd_New a with phase := 2, has := true, value := v } := ⟨⟨Nat.zero_le _, fun o ho => by simp [new_eq] at ho⟩, gD_nil, gv, gWr_nil, gPr_nil⟩
    have r1 : cmd_Final { cmd_New a with phase := 2, has := true, value := v } = true := by
      unfold cmd_Final
      show (bif ((2 : Int) == 3) then true else bif ((2 : Int) == 2) then bif v.1 then true else false else false) = true
      rw [hg]; rfl
    have r2 : cmd_Load { cmd_New a with phase := 2, has := true, value := v } d = { cmd_New a with phase := 2, has := true, value := v } := by
      unfold cmd_Load
      show (bif ((2 : Int) == 2) then bif v.1 then _ else _ else _) = _
      rw [hg]; rfl
    have r3 : cmd_Done { cmd_New a with phase := 2, has := true, value := v } e = { cmd_New a with phase := 2, has := true, value := v } := rfl
    simp only [r1, r2, r3, ref09_Same_eq _ hD.cmd, eqB_self, Option.isSome_some, Option.getD_some, cond_true]
    rfl
  | false =>
    simp only [cond_false, hdec, hg]
    have hD : GC { cmd_New a with ops := b, phase := 2, has := true, value := v } := ⟨gb, gD_nil, gv, gWr_nil, gPr_nil⟩
    have r1 : cmd_Final { cmd_New a with ops := b, phase := 2, has := true, value := v } = false := by
      unfold cmd_Final
      show (bif ((2 : Int) == 3) then true else bif ((2 : Int) == 2) then bif v.1 then true else false else false) = false
      rw [hg]; rfl
    have r3 : cmd_Done { cmd_New a with ops := b, phase := 2, has := true, value := v } e = { cmd_New a with ops := b, phase := 2, has := true, value := v } := rfl
    have r2 : cmd_Load { cmd_New a with ops := b, phase := 2, has := true, value := v } d = { cmd_New a with ops := b, phase := 2, has := true, value := v, ready := true, writes := d } := by
      unfold cmd_Load
      show (bif ((2 : Int) == 2) then bif v.1 then _ else _ else _) = _
      rw [hg]; rfl
    have r4 : cmd_Done { cmd_New a with ops := b, phase := 2, has := true, value := v, ready := true, writes := d } e = { cmd_New a with ops := b, phase := 3, has := true, value := v, ready := true, writes := d, pairs := e } := rfl
    have hE : GC { cmd_New a with ops := b, phase := 3, has := true, value := v, ready := true, writes := d, pairs := e } := ⟨gb, gD_nil, gv, gd, ge⟩
    have r5 : cmd_Final { cmd_New a with ops := b, phase := 3, has := true, value := v, ready := true, writes := d, pairs := e } = true := rfl
    have r6 := accept_done (c := { cmd_New a with ops := b, phase := 3, has := true, value := v, ready := true, writes := d, pairs := e }) (by show (2 : Int) ≤ 3; decide) g v
    have r7 := witness_no (c := { cmd_New a with ops := b, phase := 3, has := true, value := v, ready := true, writes := d, pairs := e }) (opsC_ne ob) b a true []
    have r8 : ref08_Ops_o b b = some true := by rw [ref08_Ops_eq _ hE.cmd.ops, eqB_self]
    have r9 : ref08_Pairs_o e e = some true := by rw [ref08_Pairs_eq _ hE.cmd.pairs, eqB_self]
    have hlen : decide (b.length = 0) = false := by have := opsC_ne ob; simpa using this
    have hvg : v.gone = false := hg
    have hB : cmdB { cmd_New a with ops := b, phase := 3, has := true, value := v, ready := true, writes := d, pairs := e } = true := by
      unfold cmdB seenB valueB phaseB
      simp [new_eq, h1, h3, h4, h5, ob, hlen, hvg, eqB_self, ballot_z, depsC_nil]
      exact opsC_ne ob
    simp only [r1, r2, r3, r4, r5, r6, r7, r8, r9, ref09_Same_eq _ hD.cmd, ref09_Same_eq _ hE.cmd, eqB_self, cmd_Check_eq hE, hB, Option.isSome_some, Option.getD_some, cond_true, cond_false]
    rfl
end Go.Proofs.YtbljhngekhgbbaaGreat
