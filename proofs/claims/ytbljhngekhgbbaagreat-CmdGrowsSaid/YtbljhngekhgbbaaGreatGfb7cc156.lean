/- Texts of the proofs of CmdEnds, CmdGrows, merged (L9a). -/
import Derived.Test.YtbljhngekhgbbaaGreatProg
import Derived.KernelRfl
import Derived.Test.YtbljhngekhgbbaaGreatGb3b707fa
import Derived.Test.YtbljhngekhgbbaaGreatGb43ee308
import Derived.Test.YtbljhngekhgbbaaGreatG9c20b58a
import Derived.Test.YtbljhngekhgbbaaGreatG6e0496cb
import Derived.Test.YtbljhngekhgbbaaGreatG20caf6cc
import Derived.Test.YtbljhngekhgbbaaGreatGf0b3007f
import Derived.Test.YtbljhngekhgbbaaGreatG0f2df3e7
import Derived.Test.YtbljhngekhgbbaaGreatG7be370e0
import Derived.Test.YtbljhngekhgbbaaGreatG15131814
import Derived.Test.YtbljhngekhgbbaaGreatG8a797d8d
import Derived.Test.YtbljhngekhgbbaaGreatG01690cca
import Derived.Test.YtbljhngekhgbbaaGreatG08b825e4
import Derived.Test.YtbljhngekhgbbaaGreatG0abb3d8d
set_option linter.unusedSimpArgs false
set_option linter.unusedVariables false
namespace Go.Proofs.YtbljhngekhgbbaaGreat
open Go.RowKit
set_option linter.unusedVariables false
set_option maxRecDepth 100000
noncomputable def cmd_Final_L : List (Ora Tryz.prog) := []
noncomputable def cmd_Final_o (a : MCmd) : Option (Bool) := (bif a.3 == 3 then some (true) else (bif a.3 == 2 then (bif a.11.1 then some (true) else some (false)) else some (false)))
theorem cmd_Final_tot (a : MCmd) : cmd_Final_o a = some (cmd_Final a) := by first | rfl | simp only [cmd_Final_o, cmd_Final, cond_some]
theorem cmd_Final_to (a : MCmd) : CallsTo Tryz.prog 31 [(kE .cmd).enc a] (kB.enc (cmd_Final a)) :=
  to_of_lps (Z := kB) (L := cmd_Final_L) (ps := []) (n := 100) (k := 30) mixed Tryz.func31 rfl .nil (by unfold lpsC; kernel_rfl) rfl ((by kernel_rfl : evGK Tryz.prog (oraR cmd_Final_L) (lpB 0 []) 100 30 31 [(kE .cmd).enc a] [] 0 (fun r σ _ => finK kB.dec r σ) = cmd_Final_o a).trans (cmd_Final_tot a))
end Go.Proofs.YtbljhngekhgbbaaGreat
