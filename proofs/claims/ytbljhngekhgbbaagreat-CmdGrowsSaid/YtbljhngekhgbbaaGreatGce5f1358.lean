/- Texts of the proofs of CmdEnds, CmdGrows, CmdPlays, merged (P9c, P9d). -/
import Derived.Test.YtbljhngekhgbbaaGreatGb3b707fa
import Derived.Test.YtbljhngekhgbbaaGreatGb43ee308
import Derived.Test.YtbljhngekhgbbaaGreatG9c20b58a
import Derived.Test.YtbljhngekhgbbaaGreatG6e0496cb
import Derived.Test.YtbljhngekhgbbaaGreatG20caf6cc
import Derived.Test.YtbljhngekhgbbaaGreatGf0b3007f
import Derived.Test.YtbljhngekhgbbaaGreatG0f2df3e7
import Derived.Test.YtbljhngekhgbbaaGreatG7be370e0
import Derived.Test.YtbljhngekhgbbaaGreatG15131814
import Derived.Test.YtbljhngekhgbbaaGreatG01690cca
import Derived.Test.YtbljhngekhgbbaaGreatG0abb3d8d
import Derived.Test.YtbljhngekhgbbaaGreatGe5440ce6
import Derived.Test.YtbljhngekhgbbaaGreatG06d599ac
set_option linter.unusedSimpArgs false
set_option linter.unusedVariables false
namespace Go.Proofs.YtbljhngekhgbbaaGreat
open Go.RowKit
set_option linter.unusedVariables false
set_option linter.unusedSimpArgs false
theorem ref09_Value_eq {v : MVal} (h : gD v.deps) : ref09_Value_o v = some (bif v.gone then eqB v.tm z0 && decide (v.deps = []) else ref01_Is v.tm && decide (depsC v.deps = 0)) := by
  unfold ref09_Value_o
  have e : ref06_Check_o v.3 = some (depsC v.deps) := ref06_Check_eq h
  simp only [e, Option.isSome_some, Option.getD_some, cond_true, zero_eq]
  show (bif v.gone then _ else _) = _
  cases v.gone with
  | true =>
    simp only [cond_true]
    have e2 : ((v.3.length : Int) == 0) = decide (v.deps = []) := bool_ext (by
      rw [beq_iff_eq, decide_eq_true_eq]
      show ((v.deps.length : Int) = 0) ↔ _
      rw [← List.length_eq_zero_iff]
      omega)
    rw [e2]
    show (bif eqB v.tm z0 then _ else _) = _
    cases eqB v.tm z0 <;> cases decide (v.deps = []) <;> rfl
  | false =>
    simp only [cond_false]
    have e2 : (depsC v.deps == 0) = decide (depsC v.deps = 0) := bool_ext (by simp)
    rw [e2]
    show (bif ref01_Is v.tm then _ else _) = _
    cases ref01_Is v.tm <;> cases decide (depsC v.deps = 0) <;> rfl
end Go.Proofs.YtbljhngekhgbbaaGreat
namespace Go.Proofs.YtbljhngekhgbbaaGreat
open Go.RowKit
set_option linter.unusedVariables false
set_option linter.unusedSimpArgs false
theorem promise_done {c : MCmd} (h : 2 ≤ c.phase) (b : MStamp) : cmd_Promise c b = (c, false) := by
  unfold cmd_Promise
  rw [decided_eq, decide_eq_true h]
  rfl
theorem bind_done {c : MCmd} (h : 2 ≤ c.phase) (b t : MStamp) : cmd_Bind c b t = (c, false) := by
  unfold cmd_Bind
  rw [promise_done h]
  rfl
theorem accept_done {c : MCmd} (h : 2 ≤ c.phase) (b : MStamp) (v : MVal) : cmd_Accept c b v = (c, false) := by
  unfold cmd_Accept
  rw [bind_done h]
  rfl
end Go.Proofs.YtbljhngekhgbbaaGreat
