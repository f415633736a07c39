/- Texts of the proofs of CmdFirst, merged (P9g). -/
import Derived.Test.YtbljhngekhgbbaaGreatGb3b707fa
import Derived.Test.YtbljhngekhgbbaaGreatGb43ee308
import Derived.Test.YtbljhngekhgbbaaGreatG9c20b58a
import Derived.Test.YtbljhngekhgbbaaGreatG6e0496cb
import Derived.Test.YtbljhngekhgbbaaGreatG20caf6cc
import Derived.Test.YtbljhngekhgbbaaGreatGf0b3007f
import Derived.Test.YtbljhngekhgbbaaGreatG0f2df3e7
import Derived.Test.YtbljhngekhgbbaaGreatG7be370e0
import Derived.Test.YtbljhngekhgbbaaGreatG15131814
import Derived.Test.YtbljhngekhgbbaaGreatG8a797d8d
import Derived.Test.YtbljhngekhgbbaaGreatG01690cca
import Derived.Test.YtbljhngekhgbbaaGreatG08b825e4
import Derived.Test.YtbljhngekhgbbaaGreatGbd7af720
import Derived.Test.YtbljhngekhgbbaaGreatGd1ea08b8
import Derived.Test.YtbljhngekhgbbaaGreatGe5440ce6
import Derived.Test.YtbljhngekhgbbaaGreatG06d599ac
import Derived.Test.YtbljhngekhgbbaaGreatG2eb54c3b
import Derived.Test.YtbljhngekhgbbaaGreatG443b2139
import Derived.Test.YtbljhngekhgbbaaGreatGb2f63382
import Derived.Test.YtbljhngekhgbbaaGreatGae8351a8
import Derived.Test.YtbljhngekhgbbaaGreatG416aaa5c
import Derived.Test.YtbljhngekhgbbaaGreatG77bfc8c1
import Derived.Test.YtbljhngekhgbbaaGreatGb3c056c4
import Derived.Test.YtbljhngekhgbbaaGreatGad551571
import Derived.Test.YtbljhngekhgbbaaGreatG00952383
set_option linter.unusedSimpArgs false
set_option linter.unusedVariables false
namespace Go.Proofs.YtbljhngekhgbbaaGreat
open Go.RowKit
set_option linter.unusedVariables false
set_option linter.unusedSimpArgs false
theorem maxS_ge {a b : MStamp} (h : ref01_Less b a = false) : maxS a b = b := by
  unfold maxS
  cases h1 : ref01_Less a b with
  | true => rfl
  | false =>
    show a = b
    rw [less_false] at h h1
    unfold LtS at h h1
    obtain ⟨t, n⟩ := a
    obtain ⟨t', n'⟩ := b
    simp only at h h1
    have e1 : t = t' := by omega
    have e2 : n = n' := by omega
    rw [e1, e2]
theorem maxS_le {a b : MStamp} (h : ref01_Less a b = false) : maxS a b = a := by unfold maxS; rw [h]; rfl
theorem is_ne_z {a : MStamp} (h : ref01_Is a = true) : eqB a z0 = false := eqB_ne (fun e => by rw [e] at h; exact absurd ((is_iff z0).1 h).1.1 (by decide))
end Go.Proofs.YtbljhngekhgbbaaGreat
