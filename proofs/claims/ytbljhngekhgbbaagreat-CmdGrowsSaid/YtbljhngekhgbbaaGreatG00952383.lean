/- Texts of the proofs of CmdFirst, CmdGrows, merged (P9g). -/
import Derived.Test.YtbljhngekhgbbaaGreatGb3b707fa
import Derived.Test.YtbljhngekhgbbaaGreatGb43ee308
import Derived.Test.YtbljhngekhgbbaaGreatG9c20b58a
import Derived.Test.YtbljhngekhgbbaaGreatG6e0496cb
import Derived.Test.YtbljhngekhgbbaaGreatG20caf6cc
import Derived.Test.YtbljhngekhgbbaaGreatGf0b3007f
import Derived.Test.YtbljhngekhgbbaaGreatG0f2df3e7
import Derived.Test.YtbljhngekhgbbaaGreatG7be370e0
import Derived.Test.YtbljhngekhgbbaaGreatG15131814
import Derived.Test.YtbljhngekhgbbaaGreatG8a797d8d
import Derived.Test.YtbljhngekhgbbaaGreatG01690cca
import Derived.Test.YtbljhngekhgbbaaGreatG08b825e4
import Derived.Test.YtbljhngekhgbbaaGreatGd1ea08b8
import Derived.Test.YtbljhngekhgbbaaGreatGe5440ce6
import Derived.Test.YtbljhngekhgbbaaGreatG06d599ac
import Derived.Test.YtbljhngekhgbbaaGreatG2eb54c3b
import Derived.Test.YtbljhngekhgbbaaGreatGae8351a8
import Derived.Test.YtbljhngekhgbbaaGreatG416aaa5c
import Derived.Test.YtbljhngekhgbbaaGreatG77bfc8c1
import Derived.Test.YtbljhngekhgbbaaGreatGad551571
set_option linter.unusedSimpArgs false
set_option linter.unusedVariables false
namespace Go.Proofs.YtbljhngekhgbbaaGreat
open Go.RowKit
set_option linter.unusedVariables false
set_option linter.unusedSimpArgs false
theorem cmd_Top_eq (c : MCmd) : cmd_Top c = topC c := by
  unfold cmd_Top topC maxS
  simp only [cmp_more]
  show _ = bif ref01_Less (bif ref01_Less (bif ref01_Less c.1 c.5 then c.5 else c.1) c.8 then c.8 else (bif ref01_Less c.1 c.5 then c.5 else c.1)) c.11.2 then c.11.2 else (bif ref01_Less (bif ref01_Less c.1 c.5 then c.5 else c.1) c.8 then c.8 else (bif ref01_Less c.1 c.5 then c.5 else c.1))
  cases h1 : ref01_Less c.1 c.5 <;> simp only [cond_true, cond_false]
  · cases h2 : ref01_Less c.1 c.8 <;> simp only [cond_true, cond_false] <;> rfl
  · cases h2 : ref01_Less c.5 c.8 <;> simp only [cond_true, cond_false] <;> rfl
end Go.Proofs.YtbljhngekhgbbaaGreat
