/- Texts of the proofs of CmdEnds, CmdFirst, CmdGrows, CmdPlays, merged (PFirst). -/
import Derived.Test.YtbljhngekhgbbaaGreatGb3b707fa
import Derived.Test.YtbljhngekhgbbaaGreatGb43ee308
import Derived.Test.YtbljhngekhgbbaaGreatG9c20b58a
import Derived.Test.YtbljhngekhgbbaaGreatG6e0496cb
import Derived.Test.YtbljhngekhgbbaaGreatG20caf6cc
import Derived.Test.YtbljhngekhgbbaaGreatGf0b3007f
import Derived.Test.YtbljhngekhgbbaaGreatG0f2df3e7
import Derived.Test.YtbljhngekhgbbaaGreatG7be370e0
import Derived.Test.YtbljhngekhgbbaaGreatG15131814
import Derived.Test.YtbljhngekhgbbaaGreatG01690cca
import Derived.Test.YtbljhngekhgbbaaGreatGe5440ce6
import Derived.Test.YtbljhngekhgbbaaGreatG06d599ac
import Derived.Test.YtbljhngekhgbbaaGreatG416aaa5c
import Derived.Test.YtbljhngekhgbbaaGreatG68d54092
import Derived.Test.YtbljhngekhgbbaaGreatG93612b59
import Derived.Test.YtbljhngekhgbbaaGreatGb89376ef
set_option linter.unusedSimpArgs false
set_option linter.unusedVariables false
namespace Go.Proofs.YtbljhngekhgbbaaGreat
open Go.RowKit
set_option linter.unusedVariables false
set_option linter.unusedSimpArgs false
theorem in64_of {a : Int} (h : (Lit.int .u64 a).wf = true) : In64 a := by
  simp [Lit.wf, IntKind.min, IntKind.max, IntKind.signed, IntKind.bits] at h
  unfold In64
  omega
theorem gOps_of {l : List MOp} (h : l.length ≤ reachBytes ∧ ∀ y ∈ l, g_op y) : l.length ≤ 140737488355328 ∧ ∀ o ∈ l, gOp o := ⟨by have := h.1; unfold reachBytes at this; omega, fun o ho => in64_of (h.2 o ho).2.2.2.1⟩
theorem witness_no {c : MCmd} (h0 : c.ops ≠ []) (b : List MOp) (v : MStamp) (f : Bool) (d : List MDep) : cmd_Witness c b v f d = c := by
  unfold cmd_Witness
  have e : ((c.2.length : Int) == 0) = false := by
    rw [len0]
    have : c.2 ≠ [] := h0
    simpa using this
  rw [e]
  rfl
theorem opsC_ne {l : List MOp} (h : opsC l = 0) : l ≠ [] := fun e => nil_ops (by rw [e] at h; exact h)
end Go.Proofs.YtbljhngekhgbbaaGreat
