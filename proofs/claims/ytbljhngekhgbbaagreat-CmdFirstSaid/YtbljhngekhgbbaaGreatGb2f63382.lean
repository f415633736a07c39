/- Texts of the proofs of CmdFirst, merged (P9b). -/
import Derived.Test.YtbljhngekhgbbaaGreatGb3b707fa
import Derived.Test.YtbljhngekhgbbaaGreatGb43ee308
import Derived.Test.YtbljhngekhgbbaaGreatG9c20b58a
import Derived.Test.YtbljhngekhgbbaaGreatG6e0496cb
import Derived.Test.YtbljhngekhgbbaaGreatG20caf6cc
import Derived.Test.YtbljhngekhgbbaaGreatGf0b3007f
import Derived.Test.YtbljhngekhgbbaaGreatG0f2df3e7
import Derived.Test.YtbljhngekhgbbaaGreatG7be370e0
import Derived.Test.YtbljhngekhgbbaaGreatG15131814
import Derived.Test.YtbljhngekhgbbaaGreatG8a797d8d
import Derived.Test.YtbljhngekhgbbaaGreatG01690cca
import Derived.Test.YtbljhngekhgbbaaGreatG08b825e4
import Derived.Test.YtbljhngekhgbbaaGreatGbd7af720
import Derived.Test.YtbljhngekhgbbaaGreatGd1ea08b8
import Derived.Test.YtbljhngekhgbbaaGreatGe5440ce6
import Derived.Test.YtbljhngekhgbbaaGreatG06d599ac
import Derived.Test.YtbljhngekhgbbaaGreatG2eb54c3b
import Derived.Test.YtbljhngekhgbbaaGreatG443b2139
set_option linter.unusedSimpArgs false
set_option linter.unusedVariables false
namespace Go.Proofs.YtbljhngekhgbbaaGreat
open Go.RowKit
set_option linter.unusedVariables false
set_option linter.unusedSimpArgs false
theorem is_ge (a : MStamp) (h : ref01_Is a = true) : ¬ LtS a z0 ∧ LtS z0 a := by
  obtain ⟨⟨h1, _⟩, h2, _⟩ := (is_iff a).1 h
  unfold LtS z0
  simp only
  omega
end Go.Proofs.YtbljhngekhgbbaaGreat
