/- Texts of the proofs of CmdFirst, CmdGrows, CmdPlays, merged (PFirst). -/
import Derived.Test.YtbljhngekhgbbaaGreatGb3b707fa
import Derived.Test.YtbljhngekhgbbaaGreatGb43ee308
import Derived.Test.YtbljhngekhgbbaaGreatG9c20b58a
import Derived.Test.YtbljhngekhgbbaaGreatG6e0496cb
import Derived.Test.YtbljhngekhgbbaaGreatG20caf6cc
import Derived.Test.YtbljhngekhgbbaaGreatGf0b3007f
import Derived.Test.YtbljhngekhgbbaaGreatG0f2df3e7
import Derived.Test.YtbljhngekhgbbaaGreatG7be370e0
import Derived.Test.YtbljhngekhgbbaaGreatG15131814
import Derived.Test.YtbljhngekhgbbaaGreatG01690cca
import Derived.Test.YtbljhngekhgbbaaGreatGe5440ce6
import Derived.Test.YtbljhngekhgbbaaGreatG06d599ac
import Derived.Test.YtbljhngekhgbbaaGreatG2eb54c3b
import Derived.Test.YtbljhngekhgbbaaGreatG416aaa5c
import Derived.Test.YtbljhngekhgbbaaGreatGad551571
import Derived.Test.YtbljhngekhgbbaaGreatG68d54092
import Derived.Test.YtbljhngekhgbbaaGreatG93612b59
import Derived.Test.YtbljhngekhgbbaaGreatGb89376ef
import Derived.Test.YtbljhngekhgbbaaGreatG2fc397cf
set_option linter.unusedSimpArgs false
set_option linter.unusedVariables false
namespace Go.Proofs.YtbljhngekhgbbaaGreat
open Go.RowKit
set_option linter.unusedVariables false
set_option linter.unusedSimpArgs false
theorem witness_eq {c : MCmd} (h0 : c.ops = []) (h : c.phase < 2) (b : List MOp) (v : MStamp) (f : Bool) (d : List MDep) : cmd_Witness c b v f d = { c with ops := b, phase := 1, vote := v, fast := f, seen := d } := by
  unfold cmd_Witness
  have e : ((c.2.length : Int) == 0) = true := by have : c.2 = [] := h0; rw [this]; rfl
  rw [e, decided_eq, decide_eq_false (by omega)]
  cases f <;> rfl
end Go.Proofs.YtbljhngekhgbbaaGreat
