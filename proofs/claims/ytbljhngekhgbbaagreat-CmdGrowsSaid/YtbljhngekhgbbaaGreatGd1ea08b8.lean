/- Texts of the proofs of CmdFirst, CmdGrows, merged (G9). -/
import Derived.Test.YtbljhngekhgbbaaGreatProg
import Derived.KernelRfl
import Derived.Test.YtbljhngekhgbbaaGreatGb3b707fa
import Derived.Test.YtbljhngekhgbbaaGreatGb43ee308
import Derived.Test.YtbljhngekhgbbaaGreatG9c20b58a
import Derived.Test.YtbljhngekhgbbaaGreatG6e0496cb
import Derived.Test.YtbljhngekhgbbaaGreatG20caf6cc
import Derived.Test.YtbljhngekhgbbaaGreatGf0b3007f
import Derived.Test.YtbljhngekhgbbaaGreatG0f2df3e7
import Derived.Test.YtbljhngekhgbbaaGreatG7be370e0
import Derived.Test.YtbljhngekhgbbaaGreatG15131814
import Derived.Test.YtbljhngekhgbbaaGreatG8a797d8d
import Derived.Test.YtbljhngekhgbbaaGreatG01690cca
import Derived.Test.YtbljhngekhgbbaaGreatG08b825e4
set_option linter.unusedSimpArgs false
set_option linter.unusedVariables false
namespace Go.Proofs.YtbljhngekhgbbaaGreat
open Go.RowKit
set_option linter.unusedVariables false
set_option maxRecDepth 100000
noncomputable def cmd_Top_L : List (Ora Tryz.prog) := [.of2 stamp_Compare_to]
noncomputable def cmd_Top_o (a : MCmd) : Option (MStamp) := (bif decide (0 < stamp_Compare a.5 a.1) then (bif decide (0 < stamp_Compare a.8 a.5) then (bif decide (0 < stamp_Compare a.11.2 a.8) then some (a.11.2) else some (a.8)) else (bif decide (0 < stamp_Compare a.11.2 a.5) then some (a.11.2) else some (a.5))) else (bif decide (0 < stamp_Compare a.8 a.1) then (bif decide (0 < stamp_Compare a.11.2 a.8) then some (a.11.2) else some (a.8)) else (bif decide (0 < stamp_Compare a.11.2 a.1) then some (a.11.2) else some (a.1))))
noncomputable def cmd_Top (a : MCmd) : MStamp := (bif decide (0 < stamp_Compare a.5 a.1) then (bif decide (0 < stamp_Compare a.8 a.5) then (bif decide (0 < stamp_Compare a.11.2 a.8) then (a.11.2) else (a.8)) else (bif decide (0 < stamp_Compare a.11.2 a.5) then (a.11.2) else (a.5))) else (bif decide (0 < stamp_Compare a.8 a.1) then (bif decide (0 < stamp_Compare a.11.2 a.8) then (a.11.2) else (a.8)) else (bif decide (0 < stamp_Compare a.11.2 a.1) then (a.11.2) else (a.1))))
theorem cmd_Top_tot (a : MCmd) : cmd_Top_o a = some (cmd_Top a) := by first | rfl | simp only [cmd_Top_o, cmd_Top, cond_some]
theorem cmd_Top_to (a : MCmd) : CallsTo Tryz.prog 29 [(kE .cmd).enc a] ((kE .stamp).enc (cmd_Top a)) :=
  to_of_lps (Z := (kE .stamp)) (L := cmd_Top_L) (ps := []) (n := 100) (k := 30) mixed Tryz.func29 rfl .nil (by unfold lpsC; kernel_rfl) rfl ((by kernel_rfl : evGK Tryz.prog (oraR cmd_Top_L) (lpB 0 []) 100 30 29 [(kE .cmd).enc a] [] 0 (fun r σ _ => finK (kE .stamp).dec r σ) = cmd_Top_o a).trans (cmd_Top_tot a))
end Go.Proofs.YtbljhngekhgbbaaGreat
