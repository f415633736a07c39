/- Texts of the proofs of CmdEnds, merged (P9d). -/
import Derived.Test.YtbljhngekhgbbaaGreatGb3b707fa
import Derived.Test.YtbljhngekhgbbaaGreatGb43ee308
import Derived.Test.YtbljhngekhgbbaaGreatG9c20b58a
import Derived.Test.YtbljhngekhgbbaaGreatG6e0496cb
import Derived.Test.YtbljhngekhgbbaaGreatG20caf6cc
import Derived.Test.YtbljhngekhgbbaaGreatGf0b3007f
import Derived.Test.YtbljhngekhgbbaaGreatG0f2df3e7
import Derived.Test.YtbljhngekhgbbaaGreatG7be370e0
import Derived.Test.YtbljhngekhgbbaaGreatG15131814
import Derived.Test.YtbljhngekhgbbaaGreatG8a797d8d
import Derived.Test.YtbljhngekhgbbaaGreatG01690cca
import Derived.Test.YtbljhngekhgbbaaGreatG08b825e4
import Derived.Test.YtbljhngekhgbbaaGreatG0abb3d8d
import Derived.Test.YtbljhngekhgbbaaGreatGbd7af720
import Derived.Test.YtbljhngekhgbbaaGreatGe5440ce6
import Derived.Test.YtbljhngekhgbbaaGreatG06d599ac
import Derived.Test.YtbljhngekhgbbaaGreatG443b2139
import Derived.Test.YtbljhngekhgbbaaGreatGce5f1358
set_option linter.unusedSimpArgs false
set_option linter.unusedVariables false
namespace Go.Proofs.YtbljhngekhgbbaaGreat
open Go.RowKit
set_option linter.unusedVariables false
set_option linter.unusedSimpArgs false
/-- a value that may be hangs on few -/
theorem value_small {v : MVal} (h : gD v.deps) (hv : (bif v.gone then eqB v.tm z0 && decide (v.deps = []) else ref01_Is v.tm && decide (depsC v.deps = 0)) = true) : v.deps.length ≤ 8 ∧ nsum v.deps v.deps.length ≤ 512 := by
  cases hg : v.gone with
  | true =>
    rw [hg] at hv
    simp only [cond_true, Bool.and_eq_true, decide_eq_true_eq] at hv
    rw [hv.2]
    exact ⟨by simp, by simp [nsum]⟩
  | false =>
    rw [hg] at hv
    simp only [cond_false, Bool.and_eq_true, decide_eq_true_eq] at hv
    have := depsC_zero hv.2
    exact ⟨this.1, this.2.1⟩
end Go.Proofs.YtbljhngekhgbbaaGreat
