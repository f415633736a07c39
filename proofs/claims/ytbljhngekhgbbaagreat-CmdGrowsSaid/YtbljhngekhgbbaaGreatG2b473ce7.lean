/- Texts of the proofs of CmdGrows, CmdPlays, merged (P9g). -/
import Derived.Test.YtbljhngekhgbbaaGreatGb3b707fa
import Derived.Test.YtbljhngekhgbbaaGreatGb43ee308
import Derived.Test.YtbljhngekhgbbaaGreatG9c20b58a
import Derived.Test.YtbljhngekhgbbaaGreatG6e0496cb
import Derived.Test.YtbljhngekhgbbaaGreatG20caf6cc
import Derived.Test.YtbljhngekhgbbaaGreatGf0b3007f
import Derived.Test.YtbljhngekhgbbaaGreatG0f2df3e7
import Derived.Test.YtbljhngekhgbbaaGreatG7be370e0
import Derived.Test.YtbljhngekhgbbaaGreatG15131814
import Derived.Test.YtbljhngekhgbbaaGreatG01690cca
import Derived.Test.YtbljhngekhgbbaaGreatG0abb3d8d
import Derived.Test.YtbljhngekhgbbaaGreatGe5440ce6
import Derived.Test.YtbljhngekhgbbaaGreatG06d599ac
import Derived.Test.YtbljhngekhgbbaaGreatG2eb54c3b
import Derived.Test.YtbljhngekhgbbaaGreatG7905db0f
import Derived.Test.YtbljhngekhgbbaaGreatGce5f1358
import Derived.Test.YtbljhngekhgbbaaGreatG416aaa5c
import Derived.Test.YtbljhngekhgbbaaGreatG61d85f5b
import Derived.Test.YtbljhngekhgbbaaGreatG402eeab4
import Derived.Test.YtbljhngekhgbbaaGreatG31ac927f
import Derived.Test.YtbljhngekhgbbaaGreatGad551571
set_option linter.unusedSimpArgs false
set_option linter.unusedVariables false
namespace Go.Proofs.YtbljhngekhgbbaaGreat
open Go.RowKit
set_option linter.unusedVariables false
set_option linter.unusedSimpArgs false
theorem ballot_is {a : MStamp} (h : ref01_Is a = true) : ref09_Ballot a = true := (ballot_iff a).2 (.inr ((is_iff a).1 h))
end Go.Proofs.YtbljhngekhgbbaaGreat
