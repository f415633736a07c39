/- Texts of the proofs of CmdFirst, CmdGrows, CmdPlays, merged (P9b, P9d). -/
import Derived.Test.YtbljhngekhgbbaaGreatGb3b707fa
import Derived.Test.YtbljhngekhgbbaaGreatGb43ee308
import Derived.Test.YtbljhngekhgbbaaGreatG9c20b58a
import Derived.Test.YtbljhngekhgbbaaGreatG6e0496cb
import Derived.Test.YtbljhngekhgbbaaGreatG20caf6cc
import Derived.Test.YtbljhngekhgbbaaGreatGf0b3007f
import Derived.Test.YtbljhngekhgbbaaGreatG0f2df3e7
import Derived.Test.YtbljhngekhgbbaaGreatG7be370e0
import Derived.Test.YtbljhngekhgbbaaGreatG15131814
import Derived.Test.YtbljhngekhgbbaaGreatG01690cca
import Derived.Test.YtbljhngekhgbbaaGreatGe5440ce6
import Derived.Test.YtbljhngekhgbbaaGreatG06d599ac
set_option linter.unusedSimpArgs false
set_option linter.unusedVariables false
namespace Go.Proofs.YtbljhngekhgbbaaGreat
open Go.RowKit
set_option linter.unusedVariables false
set_option linter.unusedSimpArgs false
theorem less_false (a b : MStamp) : ref01_Less a b = false ↔ ¬ LtS a b := by
  rw [← less_iff, Bool.not_eq_true]
theorem cmp_more (a b : MStamp) : decide (0 < stamp_Compare a b) = ref01_Less b a := bool_ext (by rw [decide_eq_true_eq, less_iff]; exact (cmpS a b).2.1)
end Go.Proofs.YtbljhngekhgbbaaGreat
namespace Go.Proofs.YtbljhngekhgbbaaGreat
open Go.RowKit
set_option linter.unusedVariables false
set_option linter.unusedSimpArgs false
noncomputable def maxS (a b : MStamp) : MStamp := bif ref01_Less a b then b else a
end Go.Proofs.YtbljhngekhgbbaaGreat
