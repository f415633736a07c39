/- Texts of the proofs of CmdFirst, merged (PFirst). -/
import Derived.Test.YtbljhngekhgbbaaGreatGb3b707fa
import Derived.Test.YtbljhngekhgbbaaGreatGb43ee308
import Derived.Test.YtbljhngekhgbbaaGreatG9c20b58a
import Derived.Test.YtbljhngekhgbbaaGreatG6e0496cb
import Derived.Test.YtbljhngekhgbbaaGreatG20caf6cc
import Derived.Test.YtbljhngekhgbbaaGreatGf0b3007f
import Derived.Test.YtbljhngekhgbbaaGreatG0f2df3e7
import Derived.Test.YtbljhngekhgbbaaGreatG7be370e0
import Derived.Test.YtbljhngekhgbbaaGreatG15131814
import Derived.Test.YtbljhngekhgbbaaGreatG8a797d8d
import Derived.Test.YtbljhngekhgbbaaGreatG01690cca
import Derived.Test.YtbljhngekhgbbaaGreatG08b825e4
import Derived.Test.YtbljhngekhgbbaaGreatGbd7af720
import Derived.Test.YtbljhngekhgbbaaGreatGd1ea08b8
import Derived.Test.YtbljhngekhgbbaaGreatGe5440ce6
import Derived.Test.YtbljhngekhgbbaaGreatG06d599ac
import Derived.Test.YtbljhngekhgbbaaGreatG2eb54c3b
import Derived.Test.YtbljhngekhgbbaaGreatG443b2139
import Derived.Test.YtbljhngekhgbbaaGreatGb2f63382
import Derived.Test.YtbljhngekhgbbaaGreatGae8351a8
import Derived.Test.YtbljhngekhgbbaaGreatG416aaa5c
import Derived.Test.YtbljhngekhgbbaaGreatG77bfc8c1
import Derived.Test.YtbljhngekhgbbaaGreatGb3c056c4
import Derived.Test.YtbljhngekhgbbaaGreatGad551571
import Derived.Test.YtbljhngekhgbbaaGreatG00952383
import Derived.Test.YtbljhngekhgbbaaGreatG125bbcf6
import Derived.Test.YtbljhngekhgbbaaGreatG68d54092
import Derived.Test.YtbljhngekhgbbaaGreatG93612b59
import Derived.Test.YtbljhngekhgbbaaGreatGb89376ef
import Derived.Test.YtbljhngekhgbbaaGreatG852ba3f0
import Derived.Test.YtbljhngekhgbbaaGreatG2fc397cf
set_option linter.unusedSimpArgs false
set_option linter.unusedVariables false
namespace Go.Proofs.YtbljhngekhgbbaaGreat
open Go.RowKit
set_option linter.unusedVariables false
set_option linter.unusedSimpArgs false
theorem CmdFirst_pure (a : MStamp) (b c : List MOp) (d e : MStamp) (g : List MDep) (_ : g_stamp a) (hb : b.length ≤ reachBytes ∧ ∀ y ∈ b, g_op y) (hc : c.length ≤ reachBytes ∧ ∀ y ∈ c, g_op y) (_ : g_stamp d) (_ : g_stamp e) (hg : g.length ≤ reachBytes ∧ ∀ y ∈ g, g_dep y) :
    law09_CmdFirst_o a b c d e g = some true := by
  have gb := gOps_of hb
  have gc := gOps_of hc
  have gg := gD_of hg
  unfold law09_CmdFirst_o
  simp only [ref08_Check_eq gb.1, ref08_Check_eq gc.1, ref06_Check_eq gg, Option.isSome_some, Option.getD_some, cond_true]
  cases h1 : ref01_Is a with
  | false => rfl
  | true =>
  cases h2 : (opsC b != 0) with
  | true => rfl
  | false =>
  cases h3 : (opsC c != 0) with
  | true => rfl
  | false =>
  cases h4 : ref01_Is d with
  | false => rfl
  | true =>
  cases h5 : ref01_Less d a with
  | true => rfl
  | false =>
  cases h6 : ref01_Is e with
  | false => rfl
  | true =>
  cases h7 : (depsC g != 0) with
  | true => rfl
  | false =>
  have ob : opsC b = 0 := by simpa using h2
  have og : depsC g = 0 := by simpa using h7
  obtain ⟨s1, s2, _⟩ := depsC_zero og
  obtain ⟨l, hl, _⟩ := ref06_All_some (d := g) (by omega) (by omega)
  simp only [hl, Option.isSome_some, Option.getD_some, cond_true, cond_false]
  by_cases h8 : (40 : Int) < (l.length : Int)
  · simp only [h8, decide_true, cond_true]
  simp only [h8, decide_false, cond_false]
  have w1 := witness_eq (c := cmd_New a) rfl (by show (0 : Int) < 2; omega) b d true g
  rw [w1]
  have w2 : cmd_Witness { cmd_New a with ops := b, phase := 1, vote := d, fast := true, seen := g } c e false [] = { cmd_New a with ops := b, phase := 1, vote := d, fast := true, seen := g } := witness_no (opsC_ne ob) c e false []
  rw [w2]
  have hG : GC { cmd_New a with ops := b, phase := 1, vote := d, fast := true, seen := g } := ⟨gb, gg, gD_nil, gWr_nil, gPr_nil⟩
  have hlen : decide (b.length = 0) = false := by have := opsC_ne ob; simpa using this
  have hB : cmdB { cmd_New a with ops := b, phase := 1, vote := d, fast := true, seen := g } = true := by
    unfold cmdB seenB valueB phaseB
    show (ref01_Is a && ((!decide (b.length = 0) || (eqB d z0 && (!true && decide (g.length = 0)))) && ((eqB d z0 || (ref01_Is d && !ref01_Less d a)) && decide (depsC g = 0)) && (_ && (_ && (ref09_Ballot z0 && (ref09_Ballot z0 && (ref09_Ballot z0 && ((decide (b.length = 0) || decide (opsC b = 0)) && (writesB [] && pairsB []))))))))) = true
    rw [h1, hlen, h4, h5, og, ob, ballot_z]
    simp only [is_ne_z h4]
    simp [new_eq, eqB_self, writesB_nil, pairsB_nil]
  rw [ref09_Same_eq _ hG.cmd, eqB_self, cmd_Check_eq hG, hB, cmd_Top_eq]
  have e1 : ref06_Same_o g g = some true := by rw [ref06_Same_eq _ gg.deps, eqB_self]
  have e2 : topC { cmd_New a with ops := b, phase := 1, vote := d, fast := true, seen := g } = d := by
    unfold topC
    show maxS (maxS (maxS a d) z0) z0 = d
    rw [maxS_ge h5, maxS_le ((less_false d z0).2 (is_ge d h4).1), maxS_le ((less_false d z0).2 (is_ge d h4).1)]
  have e3 : (d.1 == d.1 && (d.2 == d.2 && true)) = true := by simp
  simp only [e1, e2, e3, Option.isSome_some, Option.getD_some, cond_true]
  rfl
end Go.Proofs.YtbljhngekhgbbaaGreat
