/- Texts of the proofs of CmdEnds, CmdGrows, CmdPlays, merged (G9, L9a). -/
import Derived.Test.YtbljhngekhgbbaaGreatProg
import Derived.KernelRfl
import Derived.Test.YtbljhngekhgbbaaGreatGb3b707fa
import Derived.Test.YtbljhngekhgbbaaGreatGb43ee308
import Derived.Test.YtbljhngekhgbbaaGreatG9c20b58a
import Derived.Test.YtbljhngekhgbbaaGreatG6e0496cb
import Derived.Test.YtbljhngekhgbbaaGreatG20caf6cc
import Derived.Test.YtbljhngekhgbbaaGreatGf0b3007f
import Derived.Test.YtbljhngekhgbbaaGreatG0f2df3e7
import Derived.Test.YtbljhngekhgbbaaGreatG7be370e0
import Derived.Test.YtbljhngekhgbbaaGreatG15131814
import Derived.Test.YtbljhngekhgbbaaGreatG01690cca
set_option linter.unusedSimpArgs false
set_option linter.unusedVariables false
namespace Go.Proofs.YtbljhngekhgbbaaGreat
open Go.RowKit
set_option linter.unusedVariables false
set_option maxRecDepth 100000
noncomputable def ref09_zero_L : List (Ora Tryz.prog) := []
noncomputable def ref09_zero_o (a : MStamp) : Option (Bool) := (bif a.1 == 0 && (a.2 == 0 && true) then some (true) else some (false))
theorem ref09_zero_tot (a : MStamp) : ref09_zero_o a = some (ref09_zero a) := by first | rfl | simp only [ref09_zero_o, ref09_zero, cond_some]
theorem ref09_zero_to (a : MStamp) : CallsTo Tryz.prog 47 [(kE .stamp).enc a] (kB.enc (ref09_zero a)) :=
  to_of_lps (Z := kB) (L := ref09_zero_L) (ps := []) (n := 100) (k := 30) mixed Tryz.func47 rfl .nil (by unfold lpsC; kernel_rfl) rfl ((by kernel_rfl : evGK Tryz.prog (oraR ref09_zero_L) (lpB 0 []) 100 30 47 [(kE .stamp).enc a] [] 0 (fun r σ _ => finK kB.dec r σ) = ref09_zero_o a).trans (ref09_zero_tot a))
noncomputable def ref09_Ballot_L : List (Ora Tryz.prog) := [.of1 ref09_zero_to, .of1 ref01_Is_to]
noncomputable def ref09_Ballot_o (a : MStamp) : Option (Bool) := (bif ref09_zero a then some (true) else (bif ref01_Is a then some (true) else some (false)))
theorem ref09_Ballot_tot (a : MStamp) : ref09_Ballot_o a = some (ref09_Ballot a) := by first | rfl | simp only [ref09_Ballot_o, ref09_Ballot, cond_some]
theorem ref09_Ballot_to (a : MStamp) : CallsTo Tryz.prog 10 [(kE .stamp).enc a] (kB.enc (ref09_Ballot a)) :=
  to_of_lps (Z := kB) (L := ref09_Ballot_L) (ps := []) (n := 100) (k := 30) mixed Tryz.func10 rfl .nil (by unfold lpsC; kernel_rfl) rfl ((by kernel_rfl : evGK Tryz.prog (oraR ref09_Ballot_L) (lpB 0 []) 100 30 10 [(kE .stamp).enc a] [] 0 (fun r σ _ => finK kB.dec r σ) = ref09_Ballot_o a).trans (ref09_Ballot_tot a))
noncomputable def ref09_Value_L : List (Ora Tryz.prog) := [.of1 ref09_zero_to, .of1 ref01_Is_to, .p1 ref06_Check_to]
noncomputable def ref09_Value_o (a : MVal) : Option (Bool) := (bif a.1 then (bif ref09_zero a.2 then (bif (↑a.3.length : Int) == 0 then some (true) else some (false)) else some (false)) else (bif ref01_Is a.2 then (bif (ref06_Check_o a.3).isSome then (bif (ref06_Check_o a.3).getD 0 == 0 then some (true) else some (false)) else none) else some (false)))
theorem ref09_Value_to (a : MVal) (r : Bool) (h : ref09_Value_o a = some r) : CallsTo Tryz.prog 11 [kVal.enc a] (kB.enc r) :=
  to_of_lps (Z := kB) (L := ref09_Value_L) (ps := []) (n := 100) (k := 30) mixed Tryz.func11 rfl .nil (by unfold lpsC; kernel_rfl) rfl ((by kernel_rfl : evGK Tryz.prog (oraR ref09_Value_L) (lpB 0 []) 100 30 11 [kVal.enc a] [] 0 (fun r σ _ => finK kB.dec r σ) = ref09_Value_o a).trans h)
noncomputable def cmd_Promise_L : List (Ora Tryz.prog) := [.of1 cmd_decided_to, .of2 stamp_Compare_to]
noncomputable def cmd_Promise_o (a : MCmd) (b : MStamp) : Option ((MCmd) × (Bool)) := (bif cmd_decided a then some ((a, false)) else (bif decide (stamp_Compare b a.4 < 0) then some ((a, false)) else some (({ id := a.1, ops := a.2, phase := a.3, promise := b, vote := a.5, fast := a.6, seen := a.7, bound := a.8, has := a.9, ballot := a.10, value := a.11, ready := a.12, writes := a.13, pairs := a.14 }, true))))
noncomputable def cmd_Promise (a : MCmd) (b : MStamp) : (MCmd) × (Bool) := (bif cmd_decided a then ((a, false)) else (bif decide (stamp_Compare b a.4 < 0) then ((a, false)) else (({ id := a.1, ops := a.2, phase := a.3, promise := b, vote := a.5, fast := a.6, seen := a.7, bound := a.8, has := a.9, ballot := a.10, value := a.11, ready := a.12, writes := a.13, pairs := a.14 }, true))))
theorem cmd_Promise_tot (a : MCmd) (b : MStamp) : cmd_Promise_o a b = some (cmd_Promise a b) := by first | rfl | simp only [cmd_Promise_o, cmd_Promise, cond_some]
theorem cmd_Promise_to (a : MCmd) (b : MStamp) : CallsTo Tryz.prog 15 [(kE .cmd).enc a, (kE .stamp).enc b] (((kE .cmd).two kB).enc (cmd_Promise a b)) :=
  to_of_lps (Z := ((kE .cmd).two kB)) (L := cmd_Promise_L) (ps := []) (n := 100) (k := 30) mixed Tryz.func15 rfl .nil (by unfold lpsC; kernel_rfl) rfl ((by kernel_rfl : evGK Tryz.prog (oraR cmd_Promise_L) (lpB 0 []) 100 30 15 [(kE .cmd).enc a, (kE .stamp).enc b] [] 0 (fun r σ _ => finK ((kE .cmd).two kB).dec r σ) = cmd_Promise_o a b).trans (cmd_Promise_tot a b))
noncomputable def cmd_Bind_L : List (Ora Tryz.prog) := [.of2 cmd_Promise_to, .of2 stamp_Compare_to]
noncomputable def cmd_Bind_o (a : MCmd) (b : MStamp) (c : MStamp) : Option ((MCmd) × (Bool)) := (bif (cmd_Promise a b).2 then (bif decide (0 < stamp_Compare c (cmd_Promise a b).1.8) then some (({ id := (cmd_Promise a b).1.1, ops := (cmd_Promise a b).1.2, phase := (cmd_Promise a b).1.3, promise := (cmd_Promise a b).1.4, vote := (cmd_Promise a b).1.5, fast := (cmd_Promise a b).1.6, seen := (cmd_Promise a b).1.7, bound := c, has := (cmd_Promise a b).1.9, ballot := (cmd_Promise a b).1.10, value := (cmd_Promise a b).1.11, ready := (cmd_Promise a b).1.12, writes := (cmd_Promise a b).1.13, pairs := (cmd_Promise a b).1.14 }, true)) else some (((cmd_Promise a b).1, true))) else some (((cmd_Promise a b).1, false)))
noncomputable def cmd_Bind (a : MCmd) (b : MStamp) (c : MStamp) : (MCmd) × (Bool) := (bif (cmd_Promise a b).2 then (bif decide (0 < stamp_Compare c (cmd_Promise a b).1.8) then (({ id := (cmd_Promise a b).1.1, ops := (cmd_Promise a b).1.2, phase := (cmd_Promise a b).1.3, promise := (cmd_Promise a b).1.4, vote := (cmd_Promise a b).1.5, fast := (cmd_Promise a b).1.6, seen := (cmd_Promise a b).1.7, bound := c, has := (cmd_Promise a b).1.9, ballot := (cmd_Promise a b).1.10, value := (cmd_Promise a b).1.11, ready := (cmd_Promise a b).1.12, writes := (cmd_Promise a b).1.13, pairs := (cmd_Promise a b).1.14 }, true)) else (((cmd_Promise a b).1, true))) else (((cmd_Promise a b).1, false)))
theorem cmd_Bind_tot (a : MCmd) (b : MStamp) (c : MStamp) : cmd_Bind_o a b c = some (cmd_Bind a b c) := by first | rfl | simp only [cmd_Bind_o, cmd_Bind, cond_some]
theorem cmd_Bind_to (a : MCmd) (b : MStamp) (c : MStamp) : CallsTo Tryz.prog 17 [(kE .cmd).enc a, (kE .stamp).enc b, (kE .stamp).enc c] (((kE .cmd).two kB).enc (cmd_Bind a b c)) :=
  to_of_lps (Z := ((kE .cmd).two kB)) (L := cmd_Bind_L) (ps := []) (n := 100) (k := 30) mixed Tryz.func17 rfl .nil (by unfold lpsC; kernel_rfl) rfl ((by kernel_rfl : evGK Tryz.prog (oraR cmd_Bind_L) (lpB 0 []) 100 30 17 [(kE .cmd).enc a, (kE .stamp).enc b, (kE .stamp).enc c] [] 0 (fun r σ _ => finK ((kE .cmd).two kB).dec r σ) = cmd_Bind_o a b c).trans (cmd_Bind_tot a b c))
noncomputable def cmd_Accept_L : List (Ora Tryz.prog) := [.of3 cmd_Bind_to]
noncomputable def cmd_Accept_o (a : MCmd) (b : MStamp) (c : MVal) : Option ((MCmd) × (Bool)) := (bif (cmd_Bind a b c.2).2 then some (({ id := (cmd_Bind a b c.2).1.1, ops := (cmd_Bind a b c.2).1.2, phase := (cmd_Bind a b c.2).1.3, promise := (cmd_Bind a b c.2).1.4, vote := (cmd_Bind a b c.2).1.5, fast := (cmd_Bind a b c.2).1.6, seen := (cmd_Bind a b c.2).1.7, bound := (cmd_Bind a b c.2).1.8, has := true, ballot := b, value := c, ready := (cmd_Bind a b c.2).1.12, writes := (cmd_Bind a b c.2).1.13, pairs := (cmd_Bind a b c.2).1.14 }, true)) else some (((cmd_Bind a b c.2).1, false)))
noncomputable def cmd_Accept (a : MCmd) (b : MStamp) (c : MVal) : (MCmd) × (Bool) := (bif (cmd_Bind a b c.2).2 then (({ id := (cmd_Bind a b c.2).1.1, ops := (cmd_Bind a b c.2).1.2, phase := (cmd_Bind a b c.2).1.3, promise := (cmd_Bind a b c.2).1.4, vote := (cmd_Bind a b c.2).1.5, fast := (cmd_Bind a b c.2).1.6, seen := (cmd_Bind a b c.2).1.7, bound := (cmd_Bind a b c.2).1.8, has := true, ballot := b, value := c, ready := (cmd_Bind a b c.2).1.12, writes := (cmd_Bind a b c.2).1.13, pairs := (cmd_Bind a b c.2).1.14 }, true)) else (((cmd_Bind a b c.2).1, false)))
theorem cmd_Accept_tot (a : MCmd) (b : MStamp) (c : MVal) : cmd_Accept_o a b c = some (cmd_Accept a b c) := by first | rfl | simp only [cmd_Accept_o, cmd_Accept, cond_some]
theorem cmd_Accept_to (a : MCmd) (b : MStamp) (c : MVal) : CallsTo Tryz.prog 18 [(kE .cmd).enc a, (kE .stamp).enc b, kVal.enc c] (((kE .cmd).two kB).enc (cmd_Accept a b c)) :=
  to_of_lps (Z := ((kE .cmd).two kB)) (L := cmd_Accept_L) (ps := []) (n := 100) (k := 30) mixed Tryz.func18 rfl .nil (by unfold lpsC; kernel_rfl) rfl ((by kernel_rfl : evGK Tryz.prog (oraR cmd_Accept_L) (lpB 0 []) 100 30 18 [(kE .cmd).enc a, (kE .stamp).enc b, kVal.enc c] [] 0 (fun r σ _ => finK ((kE .cmd).two kB).dec r σ) = cmd_Accept_o a b c).trans (cmd_Accept_tot a b c))
end Go.Proofs.YtbljhngekhgbbaaGreat
namespace Go.Proofs.YtbljhngekhgbbaaGreat
open Go.RowKit
set_option linter.unusedVariables false
set_option maxRecDepth 100000
noncomputable def ref09_Writes_L : List (Ora Tryz.prog) := [.of1 ref03_Key_to, .of1 ref07_Is_to]
abbrev ref09_Writes_D0 : Type := (List MWrite) × (Int) × Unit
abbrev ref09_Writes_R0 : Type := (Bool) × Unit
abbrev ref09_Writes_E0 : Type := Unit
noncomputable def ref09_Writes_s0 : ref09_Writes_D0 → Option (Out ref09_Writes_D0 ref09_Writes_R0 ref09_Writes_E0)
  | (x0, x3, ()) => (bif decide (x3 < (↑x0.length : Int)) then (bif decide (0 ≤ x3) && x3.toNat.blt x0.length then (bif ref03_Key (x0.getD x3.toNat default).1 then (bif decide (0 ≤ x3) && x3.toNat.blt x0.length then (bif ref07_Is (x0.getD x3.toNat default).2 then (bif decide (0 ≤ x3) && x3.toNat.blt x0.length then (bif (x0.getD x3.toNat default).3 then (bif decide (0 ≤ x3) && x3.toNat.blt x0.length then (bif (x0.getD x3.toNat default).2 != 0 then some (Out.ret (false, ())) else (bif decide (0 < x3) then (bif decide (0 ≤ x3) && x3.toNat.blt x0.length then (bif decide (0 ≤ IntKind.i64.wrap (x3 - 1)) && (IntKind.i64.wrap (x3 - 1)).toNat.blt x0.length then (bif Op.bytesLess (x0.getD x3.toNat default).1.toList (x0.getD (IntKind.i64.wrap (x3 - 1)).toNat default).1.toList || (x0.getD x3.toNat default).1.toList == (x0.getD (IntKind.i64.wrap (x3 - 1)).toNat default).1.toList then some (Out.ret (false, ())) else some (Out.nxt (x0, IntKind.i64.wrap (x3 + 1), ()))) else none) else none) else some (Out.nxt (x0, IntKind.i64.wrap (x3 + 1), ())))) else none) else (bif decide (0 < x3) then (bif decide (0 ≤ x3) && x3.toNat.blt x0.length then (bif decide (0 ≤ IntKind.i64.wrap (x3 - 1)) && (IntKind.i64.wrap (x3 - 1)).toNat.blt x0.length then (bif Op.bytesLess (x0.getD x3.toNat default).1.toList (x0.getD (IntKind.i64.wrap (x3 - 1)).toNat default).1.toList || (x0.getD x3.toNat default).1.toList == (x0.getD (IntKind.i64.wrap (x3 - 1)).toNat default).1.toList then some (Out.ret (false, ())) else some (Out.nxt (x0, IntKind.i64.wrap (x3 + 1), ()))) else none) else none) else some (Out.nxt (x0, IntKind.i64.wrap (x3 + 1), ())))) else none) else some (Out.ret (false, ()))) else none) else some (Out.ret (false, ()))) else none) else some (Out.brk ()))
noncomputable def ref09_Writes_l0 : Lp := ⟨0, [sL 0 .write, sI 3], [sB 2], [], ref09_Writes_s0⟩
noncomputable def ref09_Writes_ok0 (d : ref09_Writes_D0) : Bool := (lim ref09_Writes_s0 d).isSome
noncomputable def ref09_Writes_rb0 (d : ref09_Writes_D0) : Bool := isR (lim ref09_Writes_s0 d)
noncomputable def ref09_Writes_r0 (d : ref09_Writes_D0) : ref09_Writes_R0 := getR (dfD [sB 2]) (lim ref09_Writes_s0 d)
theorem ref09_Writes_l0_o : ref09_Writes_l0.Ok Tryz.prog 59 0 (loopOf Tryz.f40 0) :=
  Lp.ok_of (R := (oraR ref09_Writes_L)) (B := (lpB 0 [])) (F := evFK Tryz.prog (oraR ref09_Writes_L) 100 30) (n := 100) (oraR_ok _) (evFK_ok (oraR_ok _) mixed 30) mixed (LpsOk.lok (fn := Tryz.f40) .nil (by unfold lpsC; kernel_rfl)) (fun d => match d with
    | (x0, x3, ()) => (by kernel_rfl : evCK Tryz.prog (oraR ref09_Writes_L) (lpB 0 []) (evFK Tryz.prog (oraR ref09_Writes_L) 100 30) 59 100 (loopOf Tryz.f40 0) (hd [sL 0 .write, sI 3] (x0, x3, ())) (rdOut 0 0 [sL 0 .write, sI 3] [sB 2] []) = ref09_Writes_s0 (x0, x3, ())))
noncomputable def ref09_Writes_o (a : List MWrite) : Option (Bool) := (bif ref09_Writes_ok0 (a, 0, ()) then (bif ref09_Writes_rb0 (a, 0, ()) then some ((ref09_Writes_r0 (a, 0, ())).1) else some (true)) else none)
theorem ref09_Writes_to (a : List MWrite) (r : Bool) (h : ref09_Writes_o a = some r) : CallsTo Tryz.prog 40 [(kL .write).enc a] (kB.enc r) :=
  to_of_lps (Z := kB) (L := ref09_Writes_L) (ps := [ref09_Writes_l0]) (n := 100) (k := 30) mixed Tryz.func40 rfl (.cons ref09_Writes_l0_o .nil) (by unfold lpsC; kernel_rfl) rfl ((by kernel_rfl : evGK Tryz.prog (oraR ref09_Writes_L) (lpB 0 [ref09_Writes_l0]) 100 30 40 [(kL .write).enc a] [] 0 (fun r σ _ => finK kB.dec r σ) = ref09_Writes_o a).trans h)
noncomputable def ref08_Data_L : List (Ora Tryz.prog) := [.of1 ref03_Key_to, .of1 ref07_Is_to]
abbrev ref08_Data_D0 : Type := (List MPair) × (Int) × Unit
abbrev ref08_Data_R0 : Type := (Bool) × Unit
abbrev ref08_Data_E0 : Type := Unit
noncomputable def ref08_Data_s0 : ref08_Data_D0 → Option (Out ref08_Data_D0 ref08_Data_R0 ref08_Data_E0)
  | (x0, x3, ()) => (bif decide (x3 < (↑x0.length : Int)) then (bif decide (0 ≤ x3) && x3.toNat.blt x0.length then (bif ref03_Key (x0.getD x3.toNat default).1 then (bif decide (0 ≤ x3) && x3.toNat.blt x0.length then (bif ref07_Is (x0.getD x3.toNat default).2 then (bif decide (0 < x3) then (bif decide (0 ≤ x3) && x3.toNat.blt x0.length then (bif decide (0 ≤ IntKind.i64.wrap (x3 - 1)) && (IntKind.i64.wrap (x3 - 1)).toNat.blt x0.length then (bif Op.bytesLess (x0.getD x3.toNat default).1.toList (x0.getD (IntKind.i64.wrap (x3 - 1)).toNat default).1.toList || (x0.getD x3.toNat default).1.toList == (x0.getD (IntKind.i64.wrap (x3 - 1)).toNat default).1.toList then some (Out.ret (false, ())) else some (Out.nxt (x0, IntKind.i64.wrap (x3 + 1), ()))) else none) else none) else some (Out.nxt (x0, IntKind.i64.wrap (x3 + 1), ()))) else some (Out.ret (false, ()))) else none) else some (Out.ret (false, ()))) else none) else some (Out.brk ()))
noncomputable def ref08_Data_l0 : Lp := ⟨0, [sL 0 .pair, sI 3], [sB 2], [], ref08_Data_s0⟩
noncomputable def ref08_Data_ok0 (d : ref08_Data_D0) : Bool := (lim ref08_Data_s0 d).isSome
noncomputable def ref08_Data_rb0 (d : ref08_Data_D0) : Bool := isR (lim ref08_Data_s0 d)
noncomputable def ref08_Data_r0 (d : ref08_Data_D0) : ref08_Data_R0 := getR (dfD [sB 2]) (lim ref08_Data_s0 d)
theorem ref08_Data_l0_o : ref08_Data_l0.Ok Tryz.prog 44 0 (loopOf Tryz.f41 0) :=
  Lp.ok_of (R := (oraR ref08_Data_L)) (B := (lpB 0 [])) (F := evFK Tryz.prog (oraR ref08_Data_L) 100 30) (n := 100) (oraR_ok _) (evFK_ok (oraR_ok _) mixed 30) mixed (LpsOk.lok (fn := Tryz.f41) .nil (by unfold lpsC; kernel_rfl)) (fun d => match d with
    | (x0, x3, ()) => (by kernel_rfl : evCK Tryz.prog (oraR ref08_Data_L) (lpB 0 []) (evFK Tryz.prog (oraR ref08_Data_L) 100 30) 44 100 (loopOf Tryz.f41 0) (hd [sL 0 .pair, sI 3] (x0, x3, ())) (rdOut 0 0 [sL 0 .pair, sI 3] [sB 2] []) = ref08_Data_s0 (x0, x3, ())))
noncomputable def ref08_Data_o (a : List MPair) : Option (Bool) := (bif ref08_Data_ok0 (a, 0, ()) then (bif ref08_Data_rb0 (a, 0, ()) then some ((ref08_Data_r0 (a, 0, ())).1) else some (true)) else none)
theorem ref08_Data_to (a : List MPair) (r : Bool) (h : ref08_Data_o a = some r) : CallsTo Tryz.prog 41 [(kL .pair).enc a] (kB.enc r) :=
  to_of_lps (Z := kB) (L := ref08_Data_L) (ps := [ref08_Data_l0]) (n := 100) (k := 30) mixed Tryz.func41 rfl (.cons ref08_Data_l0_o .nil) (by unfold lpsC; kernel_rfl) rfl ((by kernel_rfl : evGK Tryz.prog (oraR ref08_Data_L) (lpB 0 [ref08_Data_l0]) 100 30 41 [(kL .pair).enc a] [] 0 (fun r σ _ => finK kB.dec r σ) = ref08_Data_o a).trans h)
noncomputable def cmd_Load_L : List (Ora Tryz.prog) := []
noncomputable def cmd_Load_o (a : MCmd) (b : List MWrite) : Option (MCmd) := (bif a.3 == 2 then (bif a.11.1 then some (a) else (bif a.12 then some (a) else some ({ id := a.1, ops := a.2, phase := a.3, promise := a.4, vote := a.5, fast := a.6, seen := a.7, bound := a.8, has := a.9, ballot := a.10, value := a.11, ready := true, writes := b, pairs := a.14 }))) else some (a))
noncomputable def cmd_Load (a : MCmd) (b : List MWrite) : MCmd := (bif a.3 == 2 then (bif a.11.1 then (a) else (bif a.12 then (a) else ({ id := a.1, ops := a.2, phase := a.3, promise := a.4, vote := a.5, fast := a.6, seen := a.7, bound := a.8, has := a.9, ballot := a.10, value := a.11, ready := true, writes := b, pairs := a.14 }))) else (a))
theorem cmd_Load_tot (a : MCmd) (b : List MWrite) : cmd_Load_o a b = some (cmd_Load a b) := by first | rfl | simp only [cmd_Load_o, cmd_Load, cond_some]
theorem cmd_Load_to (a : MCmd) (b : List MWrite) : CallsTo Tryz.prog 42 [(kE .cmd).enc a, (kL .write).enc b] ((kE .cmd).enc (cmd_Load a b)) :=
  to_of_lps (Z := (kE .cmd)) (L := cmd_Load_L) (ps := []) (n := 100) (k := 30) mixed Tryz.func42 rfl .nil (by unfold lpsC; kernel_rfl) rfl ((by kernel_rfl : evGK Tryz.prog (oraR cmd_Load_L) (lpB 0 []) 100 30 42 [(kE .cmd).enc a, (kL .write).enc b] [] 0 (fun r σ _ => finK (kE .cmd).dec r σ) = cmd_Load_o a b).trans (cmd_Load_tot a b))
noncomputable def cmd_Done_L : List (Ora Tryz.prog) := []
noncomputable def cmd_Done_o (a : MCmd) (b : List MPair) : Option (MCmd) := (bif a.3 == 2 then (bif a.12 then some ({ id := a.1, ops := a.2, phase := 3, promise := a.4, vote := a.5, fast := a.6, seen := a.7, bound := a.8, has := a.9, ballot := a.10, value := a.11, ready := a.12, writes := a.13, pairs := b }) else some (a)) else some (a))
noncomputable def cmd_Done (a : MCmd) (b : List MPair) : MCmd := (bif a.3 == 2 then (bif a.12 then ({ id := a.1, ops := a.2, phase := 3, promise := a.4, vote := a.5, fast := a.6, seen := a.7, bound := a.8, has := a.9, ballot := a.10, value := a.11, ready := a.12, writes := a.13, pairs := b }) else (a)) else (a))
theorem cmd_Done_tot (a : MCmd) (b : List MPair) : cmd_Done_o a b = some (cmd_Done a b) := by first | rfl | simp only [cmd_Done_o, cmd_Done, cond_some]
theorem cmd_Done_to (a : MCmd) (b : List MPair) : CallsTo Tryz.prog 43 [(kE .cmd).enc a, (kL .pair).enc b] ((kE .cmd).enc (cmd_Done a b)) :=
  to_of_lps (Z := (kE .cmd)) (L := cmd_Done_L) (ps := []) (n := 100) (k := 30) mixed Tryz.func43 rfl .nil (by unfold lpsC; kernel_rfl) rfl ((by kernel_rfl : evGK Tryz.prog (oraR cmd_Done_L) (lpB 0 []) 100 30 43 [(kE .cmd).enc a, (kL .pair).enc b] [] 0 (fun r σ _ => finK (kE .cmd).dec r σ) = cmd_Done_o a b).trans (cmd_Done_tot a b))
noncomputable def cmd_Final (a : MCmd) : Bool := (bif a.3 == 3 then (true) else (bif a.3 == 2 then (bif a.11.1 then (true) else (false)) else (false)))
noncomputable def cmd_Decide_L : List (Ora Tryz.prog) := [.of1 cmd_decided_to]
noncomputable def cmd_Decide_o (a : MCmd) (b : List MOp) (c : MVal) : Option (MCmd) := (bif cmd_decided a then some (a) else (bif (↑a.2.length : Int) == 0 then (bif c.1 then some ({ id := a.1, ops := a.2, phase := 2, promise := a.4, vote := a.5, fast := a.6, seen := a.7, bound := a.8, has := true, ballot := a.10, value := c, ready := a.12, writes := a.13, pairs := a.14 }) else some ({ id := a.1, ops := b, phase := 2, promise := a.4, vote := a.5, fast := a.6, seen := a.7, bound := a.8, has := true, ballot := a.10, value := c, ready := a.12, writes := a.13, pairs := a.14 })) else some ({ id := a.1, ops := a.2, phase := 2, promise := a.4, vote := a.5, fast := a.6, seen := a.7, bound := a.8, has := true, ballot := a.10, value := c, ready := a.12, writes := a.13, pairs := a.14 })))
noncomputable def cmd_Decide (a : MCmd) (b : List MOp) (c : MVal) : MCmd := (bif cmd_decided a then (a) else (bif (↑a.2.length : Int) == 0 then (bif c.1 then ({ id := a.1, ops := a.2, phase := 2, promise := a.4, vote := a.5, fast := a.6, seen := a.7, bound := a.8, has := true, ballot := a.10, value := c, ready := a.12, writes := a.13, pairs := a.14 }) else ({ id := a.1, ops := b, phase := 2, promise := a.4, vote := a.5, fast := a.6, seen := a.7, bound := a.8, has := true, ballot := a.10, value := c, ready := a.12, writes := a.13, pairs := a.14 })) else ({ id := a.1, ops := a.2, phase := 2, promise := a.4, vote := a.5, fast := a.6, seen := a.7, bound := a.8, has := true, ballot := a.10, value := c, ready := a.12, writes := a.13, pairs := a.14 })))
theorem cmd_Decide_tot (a : MCmd) (b : List MOp) (c : MVal) : cmd_Decide_o a b c = some (cmd_Decide a b c) := by first | rfl | simp only [cmd_Decide_o, cmd_Decide, cond_some]
theorem cmd_Decide_to (a : MCmd) (b : List MOp) (c : MVal) : CallsTo Tryz.prog 44 [(kE .cmd).enc a, (kL .op).enc b, kVal.enc c] ((kE .cmd).enc (cmd_Decide a b c)) :=
  to_of_lps (Z := (kE .cmd)) (L := cmd_Decide_L) (ps := []) (n := 100) (k := 30) mixed Tryz.func44 rfl .nil (by unfold lpsC; kernel_rfl) rfl ((by kernel_rfl : evGK Tryz.prog (oraR cmd_Decide_L) (lpB 0 []) 100 30 44 [(kE .cmd).enc a, (kL .op).enc b, kVal.enc c] [] 0 (fun r σ _ => finK (kE .cmd).dec r σ) = cmd_Decide_o a b c).trans (cmd_Decide_tot a b c))
end Go.Proofs.YtbljhngekhgbbaaGreat
