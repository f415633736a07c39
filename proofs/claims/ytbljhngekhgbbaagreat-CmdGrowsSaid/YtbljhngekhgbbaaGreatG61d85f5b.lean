/- Texts of the proofs of CmdGrows, CmdPlays, merged (P9d). -/
import Derived.Test.YtbljhngekhgbbaaGreatGb3b707fa
import Derived.Test.YtbljhngekhgbbaaGreatGb43ee308
import Derived.Test.YtbljhngekhgbbaaGreatG9c20b58a
import Derived.Test.YtbljhngekhgbbaaGreatG6e0496cb
import Derived.Test.YtbljhngekhgbbaaGreatG20caf6cc
import Derived.Test.YtbljhngekhgbbaaGreatGf0b3007f
import Derived.Test.YtbljhngekhgbbaaGreatG0f2df3e7
import Derived.Test.YtbljhngekhgbbaaGreatG7be370e0
import Derived.Test.YtbljhngekhgbbaaGreatG15131814
import Derived.Test.YtbljhngekhgbbaaGreatG01690cca
import Derived.Test.YtbljhngekhgbbaaGreatG0abb3d8d
import Derived.Test.YtbljhngekhgbbaaGreatGe5440ce6
import Derived.Test.YtbljhngekhgbbaaGreatG06d599ac
import Derived.Test.YtbljhngekhgbbaaGreatG2eb54c3b
import Derived.Test.YtbljhngekhgbbaaGreatG7905db0f
import Derived.Test.YtbljhngekhgbbaaGreatGce5f1358
set_option linter.unusedSimpArgs false
set_option linter.unusedVariables false
namespace Go.Proofs.YtbljhngekhgbbaaGreat
open Go.RowKit
set_option linter.unusedVariables false
set_option linter.unusedSimpArgs false
theorem promise_eq {c : MCmd} (h : c.phase < 2) (b : MStamp) : cmd_Promise c b = bif ref01_Less b c.promise then (c, false) else ({ c with promise := b }, true) := by
  unfold cmd_Promise
  have : ¬ 2 ≤ c.phase := by omega
  have e : decide (stamp_Compare b c.4 < 0) = ref01_Less b c.promise := cmp_less b c.promise
  rw [decided_eq, decide_eq_false this, e]
  rfl
theorem bind_eq {c : MCmd} (h : c.phase < 2) (b t : MStamp) : cmd_Bind c b t = bif ref01_Less b c.promise then (c, false) else ({ c with promise := b, bound := maxS c.bound t }, true) := by
  unfold cmd_Bind
  rw [promise_eq h]
  cases ref01_Less b c.promise with
  | true => rfl
  | false =>
    have e : decide (0 < stamp_Compare t c.8) = ref01_Less c.bound t := cmp_more t c.bound
    simp only [cond_false, cond_true, e, maxS]
    cases ref01_Less c.bound t <;> rfl
theorem accept_eq {c : MCmd} (h : c.phase < 2) (b : MStamp) (v : MVal) : cmd_Accept c b v = bif ref01_Less b c.promise then (c, false) else ({ c with promise := b, bound := maxS c.bound v.tm, has := true, ballot := b, value := v }, true) := by
  unfold cmd_Accept
  have e : cmd_Bind c b v.2 = cmd_Bind c b v.tm := rfl
  rw [e, bind_eq h]
  cases ref01_Less b c.promise <;> rfl
end Go.Proofs.YtbljhngekhgbbaaGreat
