/- Texts of the proofs of CmdFirst, merged (L9a). -/
import Derived.Test.YtbljhngekhgbbaaGreatProg
import Derived.KernelRfl
import Derived.Test.YtbljhngekhgbbaaGreatGb3b707fa
import Derived.Test.YtbljhngekhgbbaaGreatGb43ee308
import Derived.Test.YtbljhngekhgbbaaGreatG9c20b58a
import Derived.Test.YtbljhngekhgbbaaGreatG6e0496cb
import Derived.Test.YtbljhngekhgbbaaGreatG20caf6cc
import Derived.Test.YtbljhngekhgbbaaGreatGf0b3007f
import Derived.Test.YtbljhngekhgbbaaGreatG0f2df3e7
import Derived.Test.YtbljhngekhgbbaaGreatG7be370e0
import Derived.Test.YtbljhngekhgbbaaGreatG15131814
import Derived.Test.YtbljhngekhgbbaaGreatG8a797d8d
import Derived.Test.YtbljhngekhgbbaaGreatG01690cca
import Derived.Test.YtbljhngekhgbbaaGreatG08b825e4
import Derived.Test.YtbljhngekhgbbaaGreatGbd7af720
import Derived.Test.YtbljhngekhgbbaaGreatGd1ea08b8
set_option linter.unusedSimpArgs false
set_option linter.unusedVariables false
namespace Go.Proofs.YtbljhngekhgbbaaGreat
open Go.RowKit
set_option linter.unusedVariables false
set_option maxRecDepth 100000
noncomputable def law09_CmdFirst_L : List (Ora Tryz.prog) := [.of1 ref01_Is_to, .p1 ref08_Check_to, .of2 ref01_Less_to, .p1 ref06_Check_to, .p1 ref06_All_to, .of0 (Z := kB) (s := true) live_to, .of1 cmd_New_to, .of5 cmd_Witness_to, .p2 ref09_Same_to, .p2 ref06_Same_to, .p1 cmd_Check_to, .of1 law09_num_to, .of1 cmd_Top_to]
noncomputable def law09_CmdFirst_o (a : MStamp) (b : List MOp) (c : List MOp) (d : MStamp) (e : MStamp) (g : List MDep) : Option (Bool) := (bif ref01_Is a then (bif (ref08_Check_o b).isSome then (bif (ref08_Check_o b).getD 0 != 0 then some (true) else (bif (ref08_Check_o c).isSome then (bif (ref08_Check_o c).getD 0 != 0 then some (true) else (bif ref01_Is d then (bif ref01_Less d a then some (true) else (bif ref01_Is e then (bif (ref06_Check_o g).isSome then (bif (ref06_Check_o g).getD 0 != 0 then some (true) else (bif (ref06_All_o g).isSome then (bif decide (40 < (↑((ref06_All_o g).getD []).length : Int)) then some (true) else (bif (ref09_Same_o (cmd_Witness (cmd_New a) b d true g) (cmd_Witness (cmd_Witness (cmd_New a) b d true g) c e false [])).isSome then (bif (ref09_Same_o (cmd_Witness (cmd_New a) b d true g) (cmd_Witness (cmd_Witness (cmd_New a) b d true g) c e false [])).getD false then (bif (cmd_Witness (cmd_New a) b d true g).3 == 1 then (bif (cmd_Witness (cmd_New a) b d true g).5.1 == d.1 && ((cmd_Witness (cmd_New a) b d true g).5.2 == d.2 && true) then (bif (cmd_Witness (cmd_New a) b d true g).6 then (bif (ref06_Same_o (cmd_Witness (cmd_New a) b d true g).7 g).isSome then (bif (ref06_Same_o (cmd_Witness (cmd_New a) b d true g).7 g).getD false then (bif (cmd_Check_o (cmd_Witness (cmd_New a) b d true g)).isSome then (bif law09_num ((cmd_Check_o (cmd_Witness (cmd_New a) b d true g)).getD 0) == 0 then (bif (cmd_Top (cmd_Witness (cmd_New a) b d true g)).1 == d.1 && ((cmd_Top (cmd_Witness (cmd_New a) b d true g)).2 == d.2 && true) then some (true) else some (false)) else some (false)) else none) else some (false)) else none) else some (false)) else some (false)) else some (false)) else some (false)) else none)) else none)) else none) else some (true))) else some (true))) else none)) else none) else some (true))
theorem law09_CmdFirst_to (a : MStamp) (b : List MOp) (c : List MOp) (d : MStamp) (e : MStamp) (g : List MDep) (r : Bool) (h : law09_CmdFirst_o a b c d e g = some r) : CallsTo Tryz.prog 5 [(kE .stamp).enc a, (kL .op).enc b, (kL .op).enc c, (kE .stamp).enc d, (kE .stamp).enc e, (kL .dep).enc g] (kB.enc r) :=
  to_of_lps (Z := kB) (L := law09_CmdFirst_L) (ps := []) (n := 100) (k := 30) mixed Tryz.func5 rfl .nil (by unfold lpsC; kernel_rfl) rfl ((by kernel_rfl : evGK Tryz.prog (oraR law09_CmdFirst_L) (lpB 0 []) 100 30 5 [(kE .stamp).enc a, (kL .op).enc b, (kL .op).enc c, (kE .stamp).enc d, (kE .stamp).enc e, (kL .dep).enc g] [] 0 (fun r σ _ => finK kB.dec r σ) = law09_CmdFirst_o a b c d e g).trans h)
end Go.Proofs.YtbljhngekhgbbaaGreat
