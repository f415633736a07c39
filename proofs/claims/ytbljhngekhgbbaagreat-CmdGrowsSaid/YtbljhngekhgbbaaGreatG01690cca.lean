/- Texts of the proofs of CmdEnds, CmdFirst, CmdGrows, CmdPlays, merged (Fn, G9, Lv09). -/
import Derived.Test.YtbljhngekhgbbaaGreatProg
import Derived.KernelRfl
import Derived.Test.YtbljhngekhgbbaaGreatGb3b707fa
import Derived.Test.YtbljhngekhgbbaaGreatGb43ee308
import Derived.Test.YtbljhngekhgbbaaGreatG9c20b58a
import Derived.Test.YtbljhngekhgbbaaGreatG6e0496cb
import Derived.Test.YtbljhngekhgbbaaGreatG20caf6cc
import Derived.Test.YtbljhngekhgbbaaGreatGf0b3007f
import Derived.Test.YtbljhngekhgbbaaGreatG0f2df3e7
import Derived.Test.YtbljhngekhgbbaaGreatG7be370e0
import Derived.Test.YtbljhngekhgbbaaGreatG15131814
set_option linter.unusedSimpArgs false
set_option linter.unusedVariables false
namespace Go.Proofs.YtbljhngekhgbbaaGreat
open Go.RowKit
theorem mixed : Tryz.prog.follows .mixedOrders = true := by kernel_rfl
theorem cond_some {α : Type} (b : Bool) (x y : α) : cond b (some x) (some y) = some (cond b x y) := by cases b <;> rfl
end Go.Proofs.YtbljhngekhgbbaaGreat
namespace Go.Proofs.YtbljhngekhgbbaaGreat
open Go.RowKit
set_option linter.unusedVariables false
set_option maxRecDepth 100000
noncomputable def ref01_Is_L : List (Ora Tryz.prog) := []
noncomputable def ref01_Is_o (a : MStamp) : Option (Bool) := (bif decide (1 ≤ a.1) then (bif decide (a.1 ≤ 1099511627776) then (bif decide (1 ≤ a.2) then (bif decide (a.2 ≤ 7) then some (true) else some (false)) else some (false)) else some (false)) else some (false))
noncomputable def ref01_Is (a : MStamp) : Bool := (bif decide (1 ≤ a.1) then (bif decide (a.1 ≤ 1099511627776) then (bif decide (1 ≤ a.2) then (bif decide (a.2 ≤ 7) then (true) else (false)) else (false)) else (false)) else (false))
theorem ref01_Is_tot (a : MStamp) : ref01_Is_o a = some (ref01_Is a) := by first | rfl | simp only [ref01_Is_o, ref01_Is, cond_some]
theorem ref01_Is_to (a : MStamp) : CallsTo Tryz.prog 9 [(kE .stamp).enc a] (kB.enc (ref01_Is a)) :=
  to_of_lps (Z := kB) (L := ref01_Is_L) (ps := []) (n := 100) (k := 30) mixed Tryz.func9 rfl .nil (by unfold lpsC; kernel_rfl) rfl ((by kernel_rfl : evGK Tryz.prog (oraR ref01_Is_L) (lpB 0 []) 100 30 9 [(kE .stamp).enc a] [] 0 (fun r σ _ => finK kB.dec r σ) = ref01_Is_o a).trans (ref01_Is_tot a))
noncomputable def ref09_zero (a : MStamp) : Bool := (bif a.1 == 0 && (a.2 == 0 && true) then (true) else (false))
noncomputable def ref09_Ballot (a : MStamp) : Bool := (bif ref09_zero a then (true) else (bif ref01_Is a then (true) else (false)))
noncomputable def ref01_Less_L : List (Ora Tryz.prog) := []
noncomputable def ref01_Less_o (a : MStamp) (b : MStamp) : Option (Bool) := (bif decide (a.1 < b.1) then some (true) else (bif a.1 == b.1 then (bif decide (a.2 < b.2) then some (true) else some (false)) else some (false)))
noncomputable def ref01_Less (a : MStamp) (b : MStamp) : Bool := (bif decide (a.1 < b.1) then (true) else (bif a.1 == b.1 then (bif decide (a.2 < b.2) then (true) else (false)) else (false)))
theorem ref01_Less_tot (a : MStamp) (b : MStamp) : ref01_Less_o a b = some (ref01_Less a b) := by first | rfl | simp only [ref01_Less_o, ref01_Less, cond_some]
theorem ref01_Less_to (a : MStamp) (b : MStamp) : CallsTo Tryz.prog 12 [(kE .stamp).enc a, (kE .stamp).enc b] (kB.enc (ref01_Less a b)) :=
  to_of_lps (Z := kB) (L := ref01_Less_L) (ps := []) (n := 100) (k := 30) mixed Tryz.func12 rfl .nil (by unfold lpsC; kernel_rfl) rfl ((by kernel_rfl : evGK Tryz.prog (oraR ref01_Less_L) (lpB 0 []) 100 30 12 [(kE .stamp).enc a, (kE .stamp).enc b] [] 0 (fun r σ _ => finK kB.dec r σ) = ref01_Less_o a b).trans (ref01_Less_tot a b))
noncomputable def ref01_List_L : List (Ora Tryz.prog) := [.of2 ref01_Less_to]
abbrev ref01_List_D0 : Type := (List MStamp) × (Int) × Unit
abbrev ref01_List_R0 : Type := (Bool) × Unit
abbrev ref01_List_E0 : Type := Unit
noncomputable def ref01_List_s0 : ref01_List_D0 → Option (Out ref01_List_D0 ref01_List_R0 ref01_List_E0)
  | (x0, x3, ()) => (bif decide (x3 < (↑x0.length : Int)) then (bif decide (0 ≤ IntKind.i64.wrap (x3 - 1)) && (IntKind.i64.wrap (x3 - 1)).toNat.blt x0.length then (bif decide (0 ≤ x3) && x3.toNat.blt x0.length then (bif ref01_Less (x0.getD (IntKind.i64.wrap (x3 - 1)).toNat default) (x0.getD x3.toNat default) then some (Out.nxt (x0, IntKind.i64.wrap (x3 + 1), ())) else some (Out.ret (false, ()))) else none) else none) else some (Out.brk ()))
noncomputable def ref01_List_l0 : Lp := ⟨0, [sL 0 .stamp, sI 3], [sB 2], [], ref01_List_s0⟩
noncomputable def ref01_List_ok0 (d : ref01_List_D0) : Bool := (lim ref01_List_s0 d).isSome
noncomputable def ref01_List_rb0 (d : ref01_List_D0) : Bool := isR (lim ref01_List_s0 d)
noncomputable def ref01_List_r0 (d : ref01_List_D0) : ref01_List_R0 := getR (dfD [sB 2]) (lim ref01_List_s0 d)
theorem ref01_List_l0_o : ref01_List_l0.Ok Tryz.prog 21 0 (loopOf Tryz.f88 0) :=
  Lp.ok_of (R := (oraR ref01_List_L)) (B := (lpB 0 [])) (F := evFK Tryz.prog (oraR ref01_List_L) 100 30) (n := 100) (oraR_ok _) (evFK_ok (oraR_ok _) mixed 30) mixed (LpsOk.lok (fn := Tryz.f88) .nil (by unfold lpsC; kernel_rfl)) (fun d => match d with
    | (x0, x3, ()) => (by kernel_rfl : evCK Tryz.prog (oraR ref01_List_L) (lpB 0 []) (evFK Tryz.prog (oraR ref01_List_L) 100 30) 21 100 (loopOf Tryz.f88 0) (hd [sL 0 .stamp, sI 3] (x0, x3, ())) (rdOut 0 0 [sL 0 .stamp, sI 3] [sB 2] []) = ref01_List_s0 (x0, x3, ())))
noncomputable def ref01_List_o (a : List MStamp) : Option (Bool) := (bif ref01_List_ok0 (a, 1, ()) then (bif ref01_List_rb0 (a, 1, ()) then some ((ref01_List_r0 (a, 1, ())).1) else some (true)) else none)
theorem ref01_List_to (a : List MStamp) (r : Bool) (h : ref01_List_o a = some r) : CallsTo Tryz.prog 88 [(kL .stamp).enc a] (kB.enc r) :=
  to_of_lps (Z := kB) (L := ref01_List_L) (ps := [ref01_List_l0]) (n := 100) (k := 30) mixed Tryz.func88 rfl (.cons ref01_List_l0_o .nil) (by unfold lpsC; kernel_rfl) rfl ((by kernel_rfl : evGK Tryz.prog (oraR ref01_List_L) (lpB 0 [ref01_List_l0]) 100 30 88 [(kL .stamp).enc a] [] 0 (fun r σ _ => finK kB.dec r σ) = ref01_List_o a).trans h)
noncomputable def ref06_Check_L : List (Ora Tryz.prog) := [.p1 ref01_List_to, .of1 ref01_Is_to]
abbrev ref06_Check_D0 : Type := (List MDep) × (Int) × (Int) × Unit
abbrev ref06_Check_R0 : Type := Unit
abbrev ref06_Check_E0 : Type := (List MDep) × (Int) × Unit
noncomputable def ref06_Check_s0 : ref06_Check_D0 → Option (Out ref06_Check_D0 ref06_Check_R0 ref06_Check_E0)
  | (x0, x3, x4, ()) => (bif decide (x4 < (↑x0.length : Int)) then (bif decide (0 ≤ x4) && x4.toNat.blt x0.length then some (Out.nxt (x0, IntKind.i64.wrap (x3 + (↑(x0.getD x4.toNat default).2.length : Int)), IntKind.i64.wrap (x4 + 1), ())) else none) else some (Out.brk (x0, x3, ())))
noncomputable def ref06_Check_l0 : Lp := ⟨0, [sL 0 .dep, sI 3, sI 4], [], [sL 0 .dep, sI 3], ref06_Check_s0⟩
noncomputable def ref06_Check_ok0 (d : ref06_Check_D0) : Bool := (lim ref06_Check_s0 d).isSome
noncomputable def ref06_Check_rb0 (d : ref06_Check_D0) : Bool := isR (lim ref06_Check_s0 d)
noncomputable def ref06_Check_e0 (d : ref06_Check_D0) : ref06_Check_E0 := getE (dfD [sL 0 .dep, sI 3]) (lim ref06_Check_s0 d)
theorem ref06_Check_l0_o : ref06_Check_l0.Ok Tryz.prog 95 0 (loopOf Tryz.f34 0) :=
  Lp.ok_of (R := (oraR ref06_Check_L)) (B := (lpB 0 [])) (F := evFK Tryz.prog (oraR ref06_Check_L) 100 30) (n := 100) (oraR_ok _) (evFK_ok (oraR_ok _) mixed 30) mixed (LpsOk.lok (fn := Tryz.f34) .nil (by unfold lpsC; kernel_rfl)) (fun d => match d with
    | (x0, x3, x4, ()) => (by kernel_rfl : evCK Tryz.prog (oraR ref06_Check_L) (lpB 0 []) (evFK Tryz.prog (oraR ref06_Check_L) 100 30) 95 100 (loopOf Tryz.f34 0) (hd [sL 0 .dep, sI 3, sI 4] (x0, x3, x4, ())) (rdOut 0 0 [sL 0 .dep, sI 3, sI 4] [] [sL 0 .dep, sI 3]) = ref06_Check_s0 (x0, x3, x4, ())))
abbrev ref06_Check_D1 : Type := (List MDep) × (Int) × (Int) × Unit
abbrev ref06_Check_R1 : Type := (Int) × Unit
abbrev ref06_Check_E1 : Type := (List MDep) × (Int) × Unit
noncomputable def ref06_Check_s1 : ref06_Check_D1 → Option (Out ref06_Check_D1 ref06_Check_R1 ref06_Check_E1)
  | (x0, x5, x6, ()) => (bif decide (0 ≤ x5) && x5.toNat.blt x0.length then (bif decide (x6 < (↑(x0.getD x5.toNat default).2.length : Int)) then (bif decide (0 ≤ x5) && x5.toNat.blt x0.length then (bif decide (0 ≤ x6) && x6.toNat.blt (x0.getD x5.toNat default).2.length then (bif ref01_Is ((x0.getD x5.toNat default).2.getD x6.toNat default) then some (Out.nxt (x0, x5, IntKind.i64.wrap (x6 + 1), ())) else some (Out.ret (60, ()))) else none) else none) else some (Out.brk (x0, x5, ()))) else none)
noncomputable def ref06_Check_l1 : Lp := ⟨4, [sL 0 .dep, sI 5, sI 6], [sI 2], [sL 0 .dep, sI 5], ref06_Check_s1⟩
noncomputable def ref06_Check_ok1 (d : ref06_Check_D1) : Bool := (lim ref06_Check_s1 d).isSome
noncomputable def ref06_Check_rb1 (d : ref06_Check_D1) : Bool := isR (lim ref06_Check_s1 d)
noncomputable def ref06_Check_r1 (d : ref06_Check_D1) : ref06_Check_R1 := getR (dfD [sI 2]) (lim ref06_Check_s1 d)
noncomputable def ref06_Check_e1 (d : ref06_Check_D1) : ref06_Check_E1 := getE (dfD [sL 0 .dep, sI 5]) (lim ref06_Check_s1 d)
theorem ref06_Check_l1_o : ref06_Check_l1.Ok Tryz.prog 95 0 (loopOf Tryz.f34 4) :=
  Lp.ok_of (R := (oraR ref06_Check_L)) (B := (lpB 0 [ref06_Check_l0])) (F := evFK Tryz.prog (oraR ref06_Check_L) 100 30) (n := 100) (oraR_ok _) (evFK_ok (oraR_ok _) mixed 30) mixed (LpsOk.lok (fn := Tryz.f34) (.cons ref06_Check_l0_o .nil) (by unfold lpsC; kernel_rfl)) (fun d => match d with
    | (x0, x5, x6, ()) => (by kernel_rfl : evCK Tryz.prog (oraR ref06_Check_L) (lpB 0 [ref06_Check_l0]) (evFK Tryz.prog (oraR ref06_Check_L) 100 30) 95 100 (loopOf Tryz.f34 4) (hd [sL 0 .dep, sI 5, sI 6] (x0, x5, x6, ())) (rdOut 0 4 [sL 0 .dep, sI 5, sI 6] [sI 2] [sL 0 .dep, sI 5]) = ref06_Check_s1 (x0, x5, x6, ())))
abbrev ref06_Check_D2 : Type := (List MDep) × (Int) × Unit
abbrev ref06_Check_R2 : Type := (Int) × Unit
abbrev ref06_Check_E2 : Type := Unit
noncomputable def ref06_Check_s2 : ref06_Check_D2 → Option (Out ref06_Check_D2 ref06_Check_R2 ref06_Check_E2)
  | (x0, x5, ()) => (bif decide (x5 < (↑x0.length : Int)) then (bif decide (0 ≤ x5) && x5.toNat.blt x0.length then (bif decide ((x0.getD x5.toNat default).1 < 0) then some (Out.ret (60, ())) else (bif decide (0 ≤ x5) && x5.toNat.blt x0.length then (bif decide (8 ≤ (x0.getD x5.toNat default).1) then some (Out.ret (60, ())) else (bif decide (0 < x5) then (bif decide (0 ≤ x5) && x5.toNat.blt x0.length then (bif decide (0 ≤ IntKind.i64.wrap (x5 - 1)) && (IntKind.i64.wrap (x5 - 1)).toNat.blt x0.length then (bif decide ((x0.getD x5.toNat default).1 ≤ (x0.getD (IntKind.i64.wrap (x5 - 1)).toNat default).1) then some (Out.ret (60, ())) else (bif decide (0 ≤ x5) && x5.toNat.blt x0.length then (bif (ref01_List_o (x0.getD x5.toNat default).2).isSome then (bif (ref01_List_o (x0.getD x5.toNat default).2).getD false then (bif ref06_Check_ok1 (x0, x5, 0, ()) then (bif ref06_Check_rb1 (x0, x5, 0, ()) then some (Out.ret (ref06_Check_r1 (x0, x5, 0, ()))) else some (Out.nxt ((ref06_Check_e1 (x0, x5, 0, ())).1, IntKind.i64.wrap ((ref06_Check_e1 (x0, x5, 0, ())).2.1 + 1), ()))) else none) else some (Out.ret (60, ()))) else none) else none)) else none) else none) else (bif decide (0 ≤ x5) && x5.toNat.blt x0.length then (bif (ref01_List_o (x0.getD x5.toNat default).2).isSome then (bif (ref01_List_o (x0.getD x5.toNat default).2).getD false then (bif ref06_Check_ok1 (x0, x5, 0, ()) then (bif ref06_Check_rb1 (x0, x5, 0, ()) then some (Out.ret (ref06_Check_r1 (x0, x5, 0, ()))) else some (Out.nxt ((ref06_Check_e1 (x0, x5, 0, ())).1, IntKind.i64.wrap ((ref06_Check_e1 (x0, x5, 0, ())).2.1 + 1), ()))) else none) else some (Out.ret (60, ()))) else none) else none))) else none)) else none) else some (Out.brk ()))
noncomputable def ref06_Check_l2 : Lp := ⟨2, [sL 0 .dep, sI 5], [sI 2], [], ref06_Check_s2⟩
noncomputable def ref06_Check_ok2 (d : ref06_Check_D2) : Bool := (lim ref06_Check_s2 d).isSome
noncomputable def ref06_Check_rb2 (d : ref06_Check_D2) : Bool := isR (lim ref06_Check_s2 d)
noncomputable def ref06_Check_r2 (d : ref06_Check_D2) : ref06_Check_R2 := getR (dfD [sI 2]) (lim ref06_Check_s2 d)
theorem ref06_Check_l2_o : ref06_Check_l2.Ok Tryz.prog 95 0 (loopOf Tryz.f34 2) :=
  Lp.ok_of (R := (oraR ref06_Check_L)) (B := (lpB 0 [ref06_Check_l1, ref06_Check_l0])) (F := evFK Tryz.prog (oraR ref06_Check_L) 100 30) (n := 100) (oraR_ok _) (evFK_ok (oraR_ok _) mixed 30) mixed (LpsOk.lok (fn := Tryz.f34) (.cons ref06_Check_l1_o (.cons ref06_Check_l0_o .nil)) (by unfold lpsC; kernel_rfl)) (fun d => match d with
    | (x0, x5, ()) => (by kernel_rfl : evCK Tryz.prog (oraR ref06_Check_L) (lpB 0 [ref06_Check_l1, ref06_Check_l0]) (evFK Tryz.prog (oraR ref06_Check_L) 100 30) 95 100 (loopOf Tryz.f34 2) (hd [sL 0 .dep, sI 5] (x0, x5, ())) (rdOut 0 2 [sL 0 .dep, sI 5] [sI 2] []) = ref06_Check_s2 (x0, x5, ())))
noncomputable def ref06_Check_o (a : List MDep) : Option (Int) := (bif ref06_Check_ok0 (a, 0, 0, ()) then (bif ref06_Check_rb0 (a, 0, 0, ()) then none else (bif decide (8 < (↑(ref06_Check_e0 (a, 0, 0, ())).1.length : Int)) then some (6) else (bif decide (512 < (ref06_Check_e0 (a, 0, 0, ())).2.1) then some (6) else (bif ref06_Check_ok2 ((ref06_Check_e0 (a, 0, 0, ())).1, 0, ()) then (bif ref06_Check_rb2 ((ref06_Check_e0 (a, 0, 0, ())).1, 0, ()) then some ((ref06_Check_r2 ((ref06_Check_e0 (a, 0, 0, ())).1, 0, ())).1) else some (0)) else none)))) else none)
theorem ref06_Check_to (a : List MDep) (r : Int) (h : ref06_Check_o a = some r) : CallsTo Tryz.prog 34 [(kL .dep).enc a] (kI.enc r) :=
  to_of_lps (Z := kI) (L := ref06_Check_L) (ps := [ref06_Check_l2, ref06_Check_l1, ref06_Check_l0]) (n := 100) (k := 30) mixed Tryz.func34 rfl (.cons ref06_Check_l2_o (.cons ref06_Check_l1_o (.cons ref06_Check_l0_o .nil))) (by unfold lpsC; kernel_rfl) rfl ((by kernel_rfl : evGK Tryz.prog (oraR ref06_Check_L) (lpB 0 [ref06_Check_l2, ref06_Check_l1, ref06_Check_l0]) 100 30 34 [(kL .dep).enc a] [] 0 (fun r σ _ => finK kI.dec r σ) = ref06_Check_o a).trans h)
noncomputable def cmd_New_L : List (Ora Tryz.prog) := []
noncomputable def cmd_New_o (a : MStamp) : Option (MCmd) := some ({ id := a, ops := [], phase := 0, promise := { time := 0, node := 0 }, vote := { time := 0, node := 0 }, fast := false, seen := [], bound := { time := 0, node := 0 }, has := false, ballot := { time := 0, node := 0 }, value := { gone := false, tm := { time := 0, node := 0 }, deps := [] }, ready := false, writes := [], pairs := [] })
noncomputable def cmd_New (a : MStamp) : MCmd := ({ id := a, ops := [], phase := 0, promise := { time := 0, node := 0 }, vote := { time := 0, node := 0 }, fast := false, seen := [], bound := { time := 0, node := 0 }, has := false, ballot := { time := 0, node := 0 }, value := { gone := false, tm := { time := 0, node := 0 }, deps := [] }, ready := false, writes := [], pairs := [] })
theorem cmd_New_tot (a : MStamp) : cmd_New_o a = some (cmd_New a) := by first | rfl | simp only [cmd_New_o, cmd_New, cond_some]
theorem cmd_New_to (a : MStamp) : CallsTo Tryz.prog 16 [(kE .stamp).enc a] ((kE .cmd).enc (cmd_New a)) :=
  to_of_lps (Z := (kE .cmd)) (L := cmd_New_L) (ps := []) (n := 100) (k := 30) mixed Tryz.func16 rfl .nil (by unfold lpsC; kernel_rfl) rfl ((by kernel_rfl : evGK Tryz.prog (oraR cmd_New_L) (lpB 0 []) 100 30 16 [(kE .stamp).enc a] [] 0 (fun r σ _ => finK (kE .cmd).dec r σ) = cmd_New_o a).trans (cmd_New_tot a))
noncomputable def cmd_decided_L : List (Ora Tryz.prog) := []
noncomputable def cmd_decided_o (a : MCmd) : Option (Bool) := (bif decide (2 ≤ a.3) then some (true) else some (false))
noncomputable def cmd_decided (a : MCmd) : Bool := (bif decide (2 ≤ a.3) then (true) else (false))
theorem cmd_decided_tot (a : MCmd) : cmd_decided_o a = some (cmd_decided a) := by first | rfl | simp only [cmd_decided_o, cmd_decided, cond_some]
theorem cmd_decided_to (a : MCmd) : CallsTo Tryz.prog 49 [(kE .cmd).enc a] (kB.enc (cmd_decided a)) :=
  to_of_lps (Z := kB) (L := cmd_decided_L) (ps := []) (n := 100) (k := 30) mixed Tryz.func49 rfl .nil (by unfold lpsC; kernel_rfl) rfl ((by kernel_rfl : evGK Tryz.prog (oraR cmd_decided_L) (lpB 0 []) 100 30 49 [(kE .cmd).enc a] [] 0 (fun r σ _ => finK kB.dec r σ) = cmd_decided_o a).trans (cmd_decided_tot a))
noncomputable def cmp_isNaN_int64_L : List (Ora Tryz.prog) := []
noncomputable def cmp_isNaN_int64_o (a : Int) : Option (Bool) := (bif a != a then some (true) else some (false))
noncomputable def cmp_isNaN_int64 (a : Int) : Bool := (bif a != a then (true) else (false))
theorem cmp_isNaN_int64_tot (a : Int) : cmp_isNaN_int64_o a = some (cmp_isNaN_int64 a) := by first | rfl | simp only [cmp_isNaN_int64_o, cmp_isNaN_int64, cond_some]
theorem cmp_isNaN_int64_to (a : Int) : CallsTo Tryz.prog 141 [kI.enc a] (kB.enc (cmp_isNaN_int64 a)) :=
  to_of_lps (Z := kB) (L := cmp_isNaN_int64_L) (ps := []) (n := 100) (k := 30) mixed Tryz.func141 rfl .nil (by unfold lpsC; kernel_rfl) rfl ((by kernel_rfl : evGK Tryz.prog (oraR cmp_isNaN_int64_L) (lpB 0 []) 100 30 141 [kI.enc a] [] 0 (fun r σ _ => finK kB.dec r σ) = cmp_isNaN_int64_o a).trans (cmp_isNaN_int64_tot a))
noncomputable def cmp_Compare_int64_L : List (Ora Tryz.prog) := [.of1 cmp_isNaN_int64_to]
noncomputable def cmp_Compare_int64_o (a : Int) (b : Int) : Option (Int) := (bif cmp_isNaN_int64 a then (bif cmp_isNaN_int64 b then some (0) else some (-1)) else (bif cmp_isNaN_int64 b then some (1) else (bif decide (a < b) then some (-1) else (bif decide (b < a) then some (1) else some (0)))))
noncomputable def cmp_Compare_int64 (a : Int) (b : Int) : Int := (bif cmp_isNaN_int64 a then (bif cmp_isNaN_int64 b then (0) else (-1)) else (bif cmp_isNaN_int64 b then (1) else (bif decide (a < b) then (-1) else (bif decide (b < a) then (1) else (0)))))
theorem cmp_Compare_int64_tot (a : Int) (b : Int) : cmp_Compare_int64_o a b = some (cmp_Compare_int64 a b) := by first | rfl | simp only [cmp_Compare_int64_o, cmp_Compare_int64, cond_some]
theorem cmp_Compare_int64_to (a : Int) (b : Int) : CallsTo Tryz.prog 98 [kI.enc a, kI.enc b] (kI.enc (cmp_Compare_int64 a b)) :=
  to_of_lps (Z := kI) (L := cmp_Compare_int64_L) (ps := []) (n := 100) (k := 30) mixed Tryz.func98 rfl .nil (by unfold lpsC; kernel_rfl) rfl ((by kernel_rfl : evGK Tryz.prog (oraR cmp_Compare_int64_L) (lpB 0 []) 100 30 98 [kI.enc a, kI.enc b] [] 0 (fun r σ _ => finK kI.dec r σ) = cmp_Compare_int64_o a b).trans (cmp_Compare_int64_tot a b))
noncomputable def cmp_isNaN_int_L : List (Ora Tryz.prog) := []
noncomputable def cmp_isNaN_int_o (a : Int) : Option (Bool) := (bif a != a then some (true) else some (false))
noncomputable def cmp_isNaN_int (a : Int) : Bool := (bif a != a then (true) else (false))
theorem cmp_isNaN_int_tot (a : Int) : cmp_isNaN_int_o a = some (cmp_isNaN_int a) := by first | rfl | simp only [cmp_isNaN_int_o, cmp_isNaN_int, cond_some]
theorem cmp_isNaN_int_to (a : Int) : CallsTo Tryz.prog 142 [kI.enc a] (kB.enc (cmp_isNaN_int a)) :=
  to_of_lps (Z := kB) (L := cmp_isNaN_int_L) (ps := []) (n := 100) (k := 30) mixed Tryz.func142 rfl .nil (by unfold lpsC; kernel_rfl) rfl ((by kernel_rfl : evGK Tryz.prog (oraR cmp_isNaN_int_L) (lpB 0 []) 100 30 142 [kI.enc a] [] 0 (fun r σ _ => finK kB.dec r σ) = cmp_isNaN_int_o a).trans (cmp_isNaN_int_tot a))
noncomputable def cmp_Compare_int_L : List (Ora Tryz.prog) := [.of1 cmp_isNaN_int_to]
noncomputable def cmp_Compare_int_o (a : Int) (b : Int) : Option (Int) := (bif cmp_isNaN_int a then (bif cmp_isNaN_int b then some (0) else some (-1)) else (bif cmp_isNaN_int b then some (1) else (bif decide (a < b) then some (-1) else (bif decide (b < a) then some (1) else some (0)))))
noncomputable def cmp_Compare_int (a : Int) (b : Int) : Int := (bif cmp_isNaN_int a then (bif cmp_isNaN_int b then (0) else (-1)) else (bif cmp_isNaN_int b then (1) else (bif decide (a < b) then (-1) else (bif decide (b < a) then (1) else (0)))))
theorem cmp_Compare_int_tot (a : Int) (b : Int) : cmp_Compare_int_o a b = some (cmp_Compare_int a b) := by first | rfl | simp only [cmp_Compare_int_o, cmp_Compare_int, cond_some]
theorem cmp_Compare_int_to (a : Int) (b : Int) : CallsTo Tryz.prog 99 [kI.enc a, kI.enc b] (kI.enc (cmp_Compare_int a b)) :=
  to_of_lps (Z := kI) (L := cmp_Compare_int_L) (ps := []) (n := 100) (k := 30) mixed Tryz.func99 rfl .nil (by unfold lpsC; kernel_rfl) rfl ((by kernel_rfl : evGK Tryz.prog (oraR cmp_Compare_int_L) (lpB 0 []) 100 30 99 [kI.enc a, kI.enc b] [] 0 (fun r σ _ => finK kI.dec r σ) = cmp_Compare_int_o a b).trans (cmp_Compare_int_tot a b))
noncomputable def cmp_Or_int_L : List (Ora Tryz.prog) := []
abbrev cmp_Or_int_D0 : Type := (Int) × (List Int) × (Int) × (Int) × Unit
abbrev cmp_Or_int_R0 : Type := (Int) × Unit
abbrev cmp_Or_int_E0 : Type := (Int) × Unit
noncomputable def cmp_Or_int_s0 : cmp_Or_int_D0 → Option (Out cmp_Or_int_D0 cmp_Or_int_R0 cmp_Or_int_E0)
  | (x3, x6, x7, x8, ()) => (bif decide (x8 < x7) then (bif decide (0 ≤ x8) && x8.toNat.blt x6.length then (bif x6.getD x8.toNat 0 != x3 then some (Out.ret (x6.getD x8.toNat 0, ())) else some (Out.nxt (x3, x6, x7, IntKind.i64.wrap (x8 + 1), ()))) else none) else some (Out.brk (x3, ())))
noncomputable def cmp_Or_int_l0 : Lp := ⟨0, [sI 3, sL 6 .int, sI 7, sI 8], [sI 2], [sI 3], cmp_Or_int_s0⟩
noncomputable def cmp_Or_int_ok0 (d : cmp_Or_int_D0) : Bool := (lim cmp_Or_int_s0 d).isSome
noncomputable def cmp_Or_int_rb0 (d : cmp_Or_int_D0) : Bool := isR (lim cmp_Or_int_s0 d)
noncomputable def cmp_Or_int_r0 (d : cmp_Or_int_D0) : cmp_Or_int_R0 := getR (dfD [sI 2]) (lim cmp_Or_int_s0 d)
noncomputable def cmp_Or_int_e0 (d : cmp_Or_int_D0) : cmp_Or_int_E0 := getE (dfD [sI 3]) (lim cmp_Or_int_s0 d)
theorem cmp_Or_int_l0_o : cmp_Or_int_l0.Ok Tryz.prog 18 0 (loopOf Tryz.f97 0) :=
  Lp.ok_of (R := (oraR cmp_Or_int_L)) (B := (lpB 0 [])) (F := evFK Tryz.prog (oraR cmp_Or_int_L) 100 30) (n := 100) (oraR_ok _) (evFK_ok (oraR_ok _) mixed 30) mixed (LpsOk.lok (fn := Tryz.f97) .nil (by unfold lpsC; kernel_rfl)) (fun d => match d with
    | (x3, x6, x7, x8, ()) => (by kernel_rfl : evCK Tryz.prog (oraR cmp_Or_int_L) (lpB 0 []) (evFK Tryz.prog (oraR cmp_Or_int_L) 100 30) 18 100 (loopOf Tryz.f97 0) (hd [sI 3, sL 6 .int, sI 7, sI 8] (x3, x6, x7, x8, ())) (rdOut 0 0 [sI 3, sL 6 .int, sI 7, sI 8] [sI 2] [sI 3]) = cmp_Or_int_s0 (x3, x6, x7, x8, ())))
noncomputable def cmp_Or_int_o (a : List Int) : Option (Int) := (bif cmp_Or_int_ok0 (0, a, (↑a.length : Int), 0, ()) then (bif cmp_Or_int_rb0 (0, a, (↑a.length : Int), 0, ()) then some ((cmp_Or_int_r0 (0, a, (↑a.length : Int), 0, ())).1) else some ((cmp_Or_int_e0 (0, a, (↑a.length : Int), 0, ())).1)) else none)
theorem cmp_Or_int_to (a : List Int) (r : Int) (h : cmp_Or_int_o a = some r) : CallsTo Tryz.prog 97 [(kL .int).enc a] (kI.enc r) :=
  to_of_lps (Z := kI) (L := cmp_Or_int_L) (ps := [cmp_Or_int_l0]) (n := 100) (k := 30) mixed Tryz.func97 rfl (.cons cmp_Or_int_l0_o .nil) (by unfold lpsC; kernel_rfl) rfl ((by kernel_rfl : evGK Tryz.prog (oraR cmp_Or_int_L) (lpB 0 [cmp_Or_int_l0]) 100 30 97 [(kL .int).enc a] [] 0 (fun r σ _ => finK kI.dec r σ) = cmp_Or_int_o a).trans h)
noncomputable def stamp_Compare_L : List (Ora Tryz.prog) := [.of2 cmp_Compare_int64_to, .of2 cmp_Compare_int_to, .p1 cmp_Or_int_to]
noncomputable def stamp_Compare_o (a : MStamp) (b : MStamp) : Option (Int) := (bif cmp_Compare_int64 a.1 b.1 != 0 then some (cmp_Compare_int64 a.1 b.1) else (bif cmp_Compare_int a.2 b.2 != 0 then some (cmp_Compare_int a.2 b.2) else some (0)))
noncomputable def stamp_Compare (a : MStamp) (b : MStamp) : Int := (bif cmp_Compare_int64 a.1 b.1 != 0 then (cmp_Compare_int64 a.1 b.1) else (bif cmp_Compare_int a.2 b.2 != 0 then (cmp_Compare_int a.2 b.2) else (0)))
theorem stamp_Compare_tot (a : MStamp) (b : MStamp) : stamp_Compare_o a b = some (stamp_Compare a b) := by first | rfl | simp only [stamp_Compare_o, stamp_Compare, cond_some]
theorem stamp_Compare_to (a : MStamp) (b : MStamp) : CallsTo Tryz.prog 50 [(kE .stamp).enc a, (kE .stamp).enc b] (kI.enc (stamp_Compare a b)) :=
  to_of_lps (Z := kI) (L := stamp_Compare_L) (ps := []) (n := 100) (k := 30) mixed Tryz.func50 rfl .nil (by unfold lpsC; kernel_rfl) rfl ((by kernel_rfl : evGK Tryz.prog (oraR stamp_Compare_L) (lpB 0 []) 100 30 50 [(kE .stamp).enc a, (kE .stamp).enc b] [] 0 (fun r σ _ => finK kI.dec r σ) = stamp_Compare_o a b).trans (stamp_Compare_tot a b))
noncomputable def ref08_Ops_L : List (Ora Tryz.prog) := []
abbrev ref08_Ops_D0 : Type := (List MOp) × (List MOp) × (Int) × Unit
abbrev ref08_Ops_R0 : Type := (Bool) × Unit
abbrev ref08_Ops_E0 : Type := Unit
noncomputable def ref08_Ops_s0 : ref08_Ops_D0 → Option (Out ref08_Ops_D0 ref08_Ops_R0 ref08_Ops_E0)
  | (x0, x1, x5, ()) => (bif decide (x5 < (↑x0.length : Int)) then (bif decide (0 ≤ x5) && x5.toNat.blt x0.length then (bif decide (0 ≤ x5) && x5.toNat.blt x1.length then (bif !((x0.getD x5.toNat default).1 == (x1.getD x5.toNat default).1 && ((x0.getD x5.toNat default).2.toList == (x1.getD x5.toNat default).2.toList && ((x0.getD x5.toNat default).3.toList == (x1.getD x5.toNat default).3.toList && ((x0.getD x5.toNat default).4 == (x1.getD x5.toNat default).4 && true)))) then some (Out.ret (false, ())) else some (Out.nxt (x0, x1, IntKind.i64.wrap (x5 + 1), ()))) else none) else none) else some (Out.brk ()))
noncomputable def ref08_Ops_l0 : Lp := ⟨0, [sL 0 .op, sL 1 .op, sI 5], [sB 4], [], ref08_Ops_s0⟩
noncomputable def ref08_Ops_ok0 (d : ref08_Ops_D0) : Bool := (lim ref08_Ops_s0 d).isSome
noncomputable def ref08_Ops_rb0 (d : ref08_Ops_D0) : Bool := isR (lim ref08_Ops_s0 d)
noncomputable def ref08_Ops_r0 (d : ref08_Ops_D0) : ref08_Ops_R0 := getR (dfD [sB 4]) (lim ref08_Ops_s0 d)
theorem ref08_Ops_l0_o : ref08_Ops_l0.Ok Tryz.prog 26 0 (loopOf Tryz.f45 0) :=
  Lp.ok_of (R := (oraR ref08_Ops_L)) (B := (lpB 0 [])) (F := evFK Tryz.prog (oraR ref08_Ops_L) 100 30) (n := 100) (oraR_ok _) (evFK_ok (oraR_ok _) mixed 30) mixed (LpsOk.lok (fn := Tryz.f45) .nil (by unfold lpsC; kernel_rfl)) (fun d => match d with
    | (x0, x1, x5, ()) => (by kernel_rfl : evCK Tryz.prog (oraR ref08_Ops_L) (lpB 0 []) (evFK Tryz.prog (oraR ref08_Ops_L) 100 30) 26 100 (loopOf Tryz.f45 0) (hd [sL 0 .op, sL 1 .op, sI 5] (x0, x1, x5, ())) (rdOut 0 0 [sL 0 .op, sL 1 .op, sI 5] [sB 4] []) = ref08_Ops_s0 (x0, x1, x5, ())))
noncomputable def ref08_Ops_o (a : List MOp) (b : List MOp) : Option (Bool) := (bif (↑a.length : Int) != (↑b.length : Int) then some (false) else (bif ref08_Ops_ok0 (a, b, 0, ()) then (bif ref08_Ops_rb0 (a, b, 0, ()) then some ((ref08_Ops_r0 (a, b, 0, ())).1) else some (true)) else none))
theorem ref08_Ops_to (a : List MOp) (b : List MOp) (r : Bool) (h : ref08_Ops_o a b = some r) : CallsTo Tryz.prog 45 [(kL .op).enc a, (kL .op).enc b] (kB.enc r) :=
  to_of_lps (Z := kB) (L := ref08_Ops_L) (ps := [ref08_Ops_l0]) (n := 100) (k := 30) mixed Tryz.func45 rfl (.cons ref08_Ops_l0_o .nil) (by unfold lpsC; kernel_rfl) rfl ((by kernel_rfl : evGK Tryz.prog (oraR ref08_Ops_L) (lpB 0 [ref08_Ops_l0]) 100 30 45 [(kL .op).enc a, (kL .op).enc b] [] 0 (fun r σ _ => finK kB.dec r σ) = ref08_Ops_o a b).trans h)
noncomputable def ref01_Same_L : List (Ora Tryz.prog) := []
abbrev ref01_Same_D0 : Type := (List MStamp) × (List MStamp) × (Int) × Unit
abbrev ref01_Same_R0 : Type := (Bool) × Unit
abbrev ref01_Same_E0 : Type := Unit
noncomputable def ref01_Same_s0 : ref01_Same_D0 → Option (Out ref01_Same_D0 ref01_Same_R0 ref01_Same_E0)
  | (x0, x1, x5, ()) => (bif decide (x5 < (↑x0.length : Int)) then (bif decide (0 ≤ x5) && x5.toNat.blt x0.length then (bif decide (0 ≤ x5) && x5.toNat.blt x1.length then (bif !((x0.getD x5.toNat default).1 == (x1.getD x5.toNat default).1 && ((x0.getD x5.toNat default).2 == (x1.getD x5.toNat default).2 && true)) then some (Out.ret (false, ())) else some (Out.nxt (x0, x1, IntKind.i64.wrap (x5 + 1), ()))) else none) else none) else some (Out.brk ()))
noncomputable def ref01_Same_l0 : Lp := ⟨0, [sL 0 .stamp, sL 1 .stamp, sI 5], [sB 4], [], ref01_Same_s0⟩
noncomputable def ref01_Same_ok0 (d : ref01_Same_D0) : Bool := (lim ref01_Same_s0 d).isSome
noncomputable def ref01_Same_rb0 (d : ref01_Same_D0) : Bool := isR (lim ref01_Same_s0 d)
noncomputable def ref01_Same_r0 (d : ref01_Same_D0) : ref01_Same_R0 := getR (dfD [sB 4]) (lim ref01_Same_s0 d)
theorem ref01_Same_l0_o : ref01_Same_l0.Ok Tryz.prog 26 0 (loopOf Tryz.f89 0) :=
  Lp.ok_of (R := (oraR ref01_Same_L)) (B := (lpB 0 [])) (F := evFK Tryz.prog (oraR ref01_Same_L) 100 30) (n := 100) (oraR_ok _) (evFK_ok (oraR_ok _) mixed 30) mixed (LpsOk.lok (fn := Tryz.f89) .nil (by unfold lpsC; kernel_rfl)) (fun d => match d with
    | (x0, x1, x5, ()) => (by kernel_rfl : evCK Tryz.prog (oraR ref01_Same_L) (lpB 0 []) (evFK Tryz.prog (oraR ref01_Same_L) 100 30) 26 100 (loopOf Tryz.f89 0) (hd [sL 0 .stamp, sL 1 .stamp, sI 5] (x0, x1, x5, ())) (rdOut 0 0 [sL 0 .stamp, sL 1 .stamp, sI 5] [sB 4] []) = ref01_Same_s0 (x0, x1, x5, ())))
noncomputable def ref01_Same_o (a : List MStamp) (b : List MStamp) : Option (Bool) := (bif (↑a.length : Int) != (↑b.length : Int) then some (false) else (bif ref01_Same_ok0 (a, b, 0, ()) then (bif ref01_Same_rb0 (a, b, 0, ()) then some ((ref01_Same_r0 (a, b, 0, ())).1) else some (true)) else none))
theorem ref01_Same_to (a : List MStamp) (b : List MStamp) (r : Bool) (h : ref01_Same_o a b = some r) : CallsTo Tryz.prog 89 [(kL .stamp).enc a, (kL .stamp).enc b] (kB.enc r) :=
  to_of_lps (Z := kB) (L := ref01_Same_L) (ps := [ref01_Same_l0]) (n := 100) (k := 30) mixed Tryz.func89 rfl (.cons ref01_Same_l0_o .nil) (by unfold lpsC; kernel_rfl) rfl ((by kernel_rfl : evGK Tryz.prog (oraR ref01_Same_L) (lpB 0 [ref01_Same_l0]) 100 30 89 [(kL .stamp).enc a, (kL .stamp).enc b] [] 0 (fun r σ _ => finK kB.dec r σ) = ref01_Same_o a b).trans h)
noncomputable def ref06_Same_L : List (Ora Tryz.prog) := [.p2 ref01_Same_to]
abbrev ref06_Same_D0 : Type := (List MDep) × (List MDep) × (Int) × Unit
abbrev ref06_Same_R0 : Type := (Bool) × Unit
abbrev ref06_Same_E0 : Type := Unit
noncomputable def ref06_Same_s0 : ref06_Same_D0 → Option (Out ref06_Same_D0 ref06_Same_R0 ref06_Same_E0)
  | (x0, x1, x5, ()) => (bif decide (x5 < (↑x0.length : Int)) then (bif decide (0 ≤ x5) && x5.toNat.blt x0.length then (bif decide (0 ≤ x5) && x5.toNat.blt x1.length then (bif (x0.getD x5.toNat default).1 != (x1.getD x5.toNat default).1 then some (Out.ret (false, ())) else (bif decide (0 ≤ x5) && x5.toNat.blt x0.length then (bif decide (0 ≤ x5) && x5.toNat.blt x1.length then (bif (ref01_Same_o (x0.getD x5.toNat default).2 (x1.getD x5.toNat default).2).isSome then (bif (ref01_Same_o (x0.getD x5.toNat default).2 (x1.getD x5.toNat default).2).getD false then some (Out.nxt (x0, x1, IntKind.i64.wrap (x5 + 1), ())) else some (Out.ret (false, ()))) else none) else none) else none)) else none) else none) else some (Out.brk ()))
noncomputable def ref06_Same_l0 : Lp := ⟨0, [sL 0 .dep, sL 1 .dep, sI 5], [sB 4], [], ref06_Same_s0⟩
noncomputable def ref06_Same_ok0 (d : ref06_Same_D0) : Bool := (lim ref06_Same_s0 d).isSome
noncomputable def ref06_Same_rb0 (d : ref06_Same_D0) : Bool := isR (lim ref06_Same_s0 d)
noncomputable def ref06_Same_r0 (d : ref06_Same_D0) : ref06_Same_R0 := getR (dfD [sB 4]) (lim ref06_Same_s0 d)
theorem ref06_Same_l0_o : ref06_Same_l0.Ok Tryz.prog 42 0 (loopOf Tryz.f36 0) :=
  Lp.ok_of (R := (oraR ref06_Same_L)) (B := (lpB 0 [])) (F := evFK Tryz.prog (oraR ref06_Same_L) 100 30) (n := 100) (oraR_ok _) (evFK_ok (oraR_ok _) mixed 30) mixed (LpsOk.lok (fn := Tryz.f36) .nil (by unfold lpsC; kernel_rfl)) (fun d => match d with
    | (x0, x1, x5, ()) => (by kernel_rfl : evCK Tryz.prog (oraR ref06_Same_L) (lpB 0 []) (evFK Tryz.prog (oraR ref06_Same_L) 100 30) 42 100 (loopOf Tryz.f36 0) (hd [sL 0 .dep, sL 1 .dep, sI 5] (x0, x1, x5, ())) (rdOut 0 0 [sL 0 .dep, sL 1 .dep, sI 5] [sB 4] []) = ref06_Same_s0 (x0, x1, x5, ())))
noncomputable def ref06_Same_o (a : List MDep) (b : List MDep) : Option (Bool) := (bif (↑a.length : Int) != (↑b.length : Int) then some (false) else (bif ref06_Same_ok0 (a, b, 0, ()) then (bif ref06_Same_rb0 (a, b, 0, ()) then some ((ref06_Same_r0 (a, b, 0, ())).1) else some (true)) else none))
theorem ref06_Same_to (a : List MDep) (b : List MDep) (r : Bool) (h : ref06_Same_o a b = some r) : CallsTo Tryz.prog 36 [(kL .dep).enc a, (kL .dep).enc b] (kB.enc r) :=
  to_of_lps (Z := kB) (L := ref06_Same_L) (ps := [ref06_Same_l0]) (n := 100) (k := 30) mixed Tryz.func36 rfl (.cons ref06_Same_l0_o .nil) (by unfold lpsC; kernel_rfl) rfl ((by kernel_rfl : evGK Tryz.prog (oraR ref06_Same_L) (lpB 0 [ref06_Same_l0]) 100 30 36 [(kL .dep).enc a, (kL .dep).enc b] [] 0 (fun r σ _ => finK kB.dec r σ) = ref06_Same_o a b).trans h)
noncomputable def ref09_SameValue_L : List (Ora Tryz.prog) := [.p2 ref06_Same_to]
noncomputable def ref09_SameValue_o (a : MVal) (b : MVal) : Option (Bool) := (bif a.1 then (bif b.1 then (bif a.2.1 == b.2.1 && (a.2.2 == b.2.2 && true) then (bif (ref06_Same_o a.3 b.3).isSome then (bif (ref06_Same_o a.3 b.3).getD false then some (true) else some (false)) else none) else some (false)) else some (false)) else (bif b.1 then some (false) else (bif a.2.1 == b.2.1 && (a.2.2 == b.2.2 && true) then (bif (ref06_Same_o a.3 b.3).isSome then (bif (ref06_Same_o a.3 b.3).getD false then some (true) else some (false)) else none) else some (false))))
theorem ref09_SameValue_to (a : MVal) (b : MVal) (r : Bool) (h : ref09_SameValue_o a b = some r) : CallsTo Tryz.prog 20 [kVal.enc a, kVal.enc b] (kB.enc r) :=
  to_of_lps (Z := kB) (L := ref09_SameValue_L) (ps := []) (n := 100) (k := 30) mixed Tryz.func20 rfl .nil (by unfold lpsC; kernel_rfl) rfl ((by kernel_rfl : evGK Tryz.prog (oraR ref09_SameValue_L) (lpB 0 []) 100 30 20 [kVal.enc a, kVal.enc b] [] 0 (fun r σ _ => finK kB.dec r σ) = ref09_SameValue_o a b).trans h)
noncomputable def ref08_WritesSame_L : List (Ora Tryz.prog) := []
abbrev ref08_WritesSame_D0 : Type := (List MWrite) × (List MWrite) × (Int) × Unit
abbrev ref08_WritesSame_R0 : Type := (Bool) × Unit
abbrev ref08_WritesSame_E0 : Type := Unit
noncomputable def ref08_WritesSame_s0 : ref08_WritesSame_D0 → Option (Out ref08_WritesSame_D0 ref08_WritesSame_R0 ref08_WritesSame_E0)
  | (x0, x1, x5, ()) => (bif decide (x5 < (↑x0.length : Int)) then (bif decide (0 ≤ x5) && x5.toNat.blt x0.length then (bif decide (0 ≤ x5) && x5.toNat.blt x1.length then (bif !((x0.getD x5.toNat default).1.toList == (x1.getD x5.toNat default).1.toList && ((x0.getD x5.toNat default).2 == (x1.getD x5.toNat default).2 && ((x0.getD x5.toNat default).3 == (x1.getD x5.toNat default).3 && true))) then some (Out.ret (false, ())) else some (Out.nxt (x0, x1, IntKind.i64.wrap (x5 + 1), ()))) else none) else none) else some (Out.brk ()))
noncomputable def ref08_WritesSame_l0 : Lp := ⟨0, [sL 0 .write, sL 1 .write, sI 5], [sB 4], [], ref08_WritesSame_s0⟩
noncomputable def ref08_WritesSame_ok0 (d : ref08_WritesSame_D0) : Bool := (lim ref08_WritesSame_s0 d).isSome
noncomputable def ref08_WritesSame_rb0 (d : ref08_WritesSame_D0) : Bool := isR (lim ref08_WritesSame_s0 d)
noncomputable def ref08_WritesSame_r0 (d : ref08_WritesSame_D0) : ref08_WritesSame_R0 := getR (dfD [sB 4]) (lim ref08_WritesSame_s0 d)
theorem ref08_WritesSame_l0_o : ref08_WritesSame_l0.Ok Tryz.prog 26 0 (loopOf Tryz.f52 0) :=
  Lp.ok_of (R := (oraR ref08_WritesSame_L)) (B := (lpB 0 [])) (F := evFK Tryz.prog (oraR ref08_WritesSame_L) 100 30) (n := 100) (oraR_ok _) (evFK_ok (oraR_ok _) mixed 30) mixed (LpsOk.lok (fn := Tryz.f52) .nil (by unfold lpsC; kernel_rfl)) (fun d => match d with
    | (x0, x1, x5, ()) => (by kernel_rfl : evCK Tryz.prog (oraR ref08_WritesSame_L) (lpB 0 []) (evFK Tryz.prog (oraR ref08_WritesSame_L) 100 30) 26 100 (loopOf Tryz.f52 0) (hd [sL 0 .write, sL 1 .write, sI 5] (x0, x1, x5, ())) (rdOut 0 0 [sL 0 .write, sL 1 .write, sI 5] [sB 4] []) = ref08_WritesSame_s0 (x0, x1, x5, ())))
noncomputable def ref08_WritesSame_o (a : List MWrite) (b : List MWrite) : Option (Bool) := (bif (↑a.length : Int) != (↑b.length : Int) then some (false) else (bif ref08_WritesSame_ok0 (a, b, 0, ()) then (bif ref08_WritesSame_rb0 (a, b, 0, ()) then some ((ref08_WritesSame_r0 (a, b, 0, ())).1) else some (true)) else none))
theorem ref08_WritesSame_to (a : List MWrite) (b : List MWrite) (r : Bool) (h : ref08_WritesSame_o a b = some r) : CallsTo Tryz.prog 52 [(kL .write).enc a, (kL .write).enc b] (kB.enc r) :=
  to_of_lps (Z := kB) (L := ref08_WritesSame_L) (ps := [ref08_WritesSame_l0]) (n := 100) (k := 30) mixed Tryz.func52 rfl (.cons ref08_WritesSame_l0_o .nil) (by unfold lpsC; kernel_rfl) rfl ((by kernel_rfl : evGK Tryz.prog (oraR ref08_WritesSame_L) (lpB 0 [ref08_WritesSame_l0]) 100 30 52 [(kL .write).enc a, (kL .write).enc b] [] 0 (fun r σ _ => finK kB.dec r σ) = ref08_WritesSame_o a b).trans h)
noncomputable def ref08_Pairs_L : List (Ora Tryz.prog) := []
abbrev ref08_Pairs_D0 : Type := (List MPair) × (List MPair) × (Int) × Unit
abbrev ref08_Pairs_R0 : Type := (Bool) × Unit
abbrev ref08_Pairs_E0 : Type := Unit
noncomputable def ref08_Pairs_s0 : ref08_Pairs_D0 → Option (Out ref08_Pairs_D0 ref08_Pairs_R0 ref08_Pairs_E0)
  | (x0, x1, x5, ()) => (bif decide (x5 < (↑x0.length : Int)) then (bif decide (0 ≤ x5) && x5.toNat.blt x0.length then (bif decide (0 ≤ x5) && x5.toNat.blt x1.length then (bif !((x0.getD x5.toNat default).1.toList == (x1.getD x5.toNat default).1.toList && ((x0.getD x5.toNat default).2 == (x1.getD x5.toNat default).2 && true)) then some (Out.ret (false, ())) else some (Out.nxt (x0, x1, IntKind.i64.wrap (x5 + 1), ()))) else none) else none) else some (Out.brk ()))
noncomputable def ref08_Pairs_l0 : Lp := ⟨0, [sL 0 .pair, sL 1 .pair, sI 5], [sB 4], [], ref08_Pairs_s0⟩
noncomputable def ref08_Pairs_ok0 (d : ref08_Pairs_D0) : Bool := (lim ref08_Pairs_s0 d).isSome
noncomputable def ref08_Pairs_rb0 (d : ref08_Pairs_D0) : Bool := isR (lim ref08_Pairs_s0 d)
noncomputable def ref08_Pairs_r0 (d : ref08_Pairs_D0) : ref08_Pairs_R0 := getR (dfD [sB 4]) (lim ref08_Pairs_s0 d)
theorem ref08_Pairs_l0_o : ref08_Pairs_l0.Ok Tryz.prog 26 0 (loopOf Tryz.f46 0) :=
  Lp.ok_of (R := (oraR ref08_Pairs_L)) (B := (lpB 0 [])) (F := evFK Tryz.prog (oraR ref08_Pairs_L) 100 30) (n := 100) (oraR_ok _) (evFK_ok (oraR_ok _) mixed 30) mixed (LpsOk.lok (fn := Tryz.f46) .nil (by unfold lpsC; kernel_rfl)) (fun d => match d with
    | (x0, x1, x5, ()) => (by kernel_rfl : evCK Tryz.prog (oraR ref08_Pairs_L) (lpB 0 []) (evFK Tryz.prog (oraR ref08_Pairs_L) 100 30) 26 100 (loopOf Tryz.f46 0) (hd [sL 0 .pair, sL 1 .pair, sI 5] (x0, x1, x5, ())) (rdOut 0 0 [sL 0 .pair, sL 1 .pair, sI 5] [sB 4] []) = ref08_Pairs_s0 (x0, x1, x5, ())))
noncomputable def ref08_Pairs_o (a : List MPair) (b : List MPair) : Option (Bool) := (bif (↑a.length : Int) != (↑b.length : Int) then some (false) else (bif ref08_Pairs_ok0 (a, b, 0, ()) then (bif ref08_Pairs_rb0 (a, b, 0, ()) then some ((ref08_Pairs_r0 (a, b, 0, ())).1) else some (true)) else none))
theorem ref08_Pairs_to (a : List MPair) (b : List MPair) (r : Bool) (h : ref08_Pairs_o a b = some r) : CallsTo Tryz.prog 46 [(kL .pair).enc a, (kL .pair).enc b] (kB.enc r) :=
  to_of_lps (Z := kB) (L := ref08_Pairs_L) (ps := [ref08_Pairs_l0]) (n := 100) (k := 30) mixed Tryz.func46 rfl (.cons ref08_Pairs_l0_o .nil) (by unfold lpsC; kernel_rfl) rfl ((by kernel_rfl : evGK Tryz.prog (oraR ref08_Pairs_L) (lpB 0 [ref08_Pairs_l0]) 100 30 46 [(kL .pair).enc a, (kL .pair).enc b] [] 0 (fun r σ _ => finK kB.dec r σ) = ref08_Pairs_o a b).trans h)
noncomputable def ref09_Same_L : List (Ora Tryz.prog) := [.p2 ref08_Ops_to, .p2 ref06_Same_to, .p2 ref09_SameValue_to, .p2 ref08_WritesSame_to, .p2 ref08_Pairs_to]
noncomputable def ref09_Same_o (a : MCmd) (b : MCmd) : Option (Bool) := (bif !(a.1.1 == b.1.1 && (a.1.2 == b.1.2 && true)) then some (false) else (bif (ref08_Ops_o a.2 b.2).isSome then (bif (ref08_Ops_o a.2 b.2).getD false then (bif a.3 != b.3 then some (false) else (bif !(a.4.1 == b.4.1 && (a.4.2 == b.4.2 && true)) then some (false) else (bif !(a.5.1 == b.5.1 && (a.5.2 == b.5.2 && true)) then some (false) else (bif a.6 then (bif b.6 then (bif (ref06_Same_o a.7 b.7).isSome then (bif (ref06_Same_o a.7 b.7).getD false then (bif a.8.1 == b.8.1 && (a.8.2 == b.8.2 && true) then (bif a.9 then (bif b.9 then (bif a.10.1 == b.10.1 && (a.10.2 == b.10.2 && true) then (bif (ref09_SameValue_o a.11 b.11).isSome then (bif (ref09_SameValue_o a.11 b.11).getD false then (bif a.12 then (bif b.12 then (bif (ref08_WritesSame_o a.13 b.13).isSome then (bif (ref08_WritesSame_o a.13 b.13).getD false then (bif (ref08_Pairs_o a.14 b.14).isSome then (bif (ref08_Pairs_o a.14 b.14).getD false then some (true) else some (false)) else none) else some (false)) else none) else some (false)) else (bif b.12 then some (false) else (bif (ref08_WritesSame_o a.13 b.13).isSome then (bif (ref08_WritesSame_o a.13 b.13).getD false then (bif (ref08_Pairs_o a.14 b.14).isSome then (bif (ref08_Pairs_o a.14 b.14).getD false then some (true) else some (false)) else none) else some (false)) else none))) else some (false)) else none) else some (false)) else some (false)) else (bif b.9 then some (false) else (bif a.10.1 == b.10.1 && (a.10.2 == b.10.2 && true) then (bif (ref09_SameValue_o a.11 b.11).isSome then (bif (ref09_SameValue_o a.11 b.11).getD false then (bif a.12 then (bif b.12 then (bif (ref08_WritesSame_o a.13 b.13).isSome then (bif (ref08_WritesSame_o a.13 b.13).getD false then (bif (ref08_Pairs_o a.14 b.14).isSome then (bif (ref08_Pairs_o a.14 b.14).getD false then some (true) else some (false)) else none) else some (false)) else none) else some (false)) else (bif b.12 then some (false) else (bif (ref08_WritesSame_o a.13 b.13).isSome then (bif (ref08_WritesSame_o a.13 b.13).getD false then (bif (ref08_Pairs_o a.14 b.14).isSome then (bif (ref08_Pairs_o a.14 b.14).getD false then some (true) else some (false)) else none) else some (false)) else none))) else some (false)) else none) else some (false)))) else some (false)) else some (false)) else none) else some (false)) else (bif b.6 then some (false) else (bif (ref06_Same_o a.7 b.7).isSome then (bif (ref06_Same_o a.7 b.7).getD false then (bif a.8.1 == b.8.1 && (a.8.2 == b.8.2 && true) then (bif a.9 then (bif b.9 then (bif a.10.1 == b.10.1 && (a.10.2 == b.10.2 && true) then (bif (ref09_SameValue_o a.11 b.11).isSome then (bif (ref09_SameValue_o a.11 b.11).getD false then (bif a.12 then (bif b.12 then (bif (ref08_WritesSame_o a.13 b.13).isSome then (bif (ref08_WritesSame_o a.13 b.13).getD false then (bif (ref08_Pairs_o a.14 b.14).isSome then (bif (ref08_Pairs_o a.14 b.14).getD false then some (true) else some (false)) else none) else some (false)) else none) else some (false)) else (bif b.12 then some (false) else (bif (ref08_WritesSame_o a.13 b.13).isSome then (bif (ref08_WritesSame_o a.13 b.13).getD false then (bif (ref08_Pairs_o a.14 b.14).isSome then (bif (ref08_Pairs_o a.14 b.14).getD false then some (true) else some (false)) else none) else some (false)) else none))) else some (false)) else none) else some (false)) else some (false)) else (bif b.9 then some (false) else (bif a.10.1 == b.10.1 && (a.10.2 == b.10.2 && true) then (bif (ref09_SameValue_o a.11 b.11).isSome then (bif (ref09_SameValue_o a.11 b.11).getD false then (bif a.12 then (bif b.12 then (bif (ref08_WritesSame_o a.13 b.13).isSome then (bif (ref08_WritesSame_o a.13 b.13).getD false then (bif (ref08_Pairs_o a.14 b.14).isSome then (bif (ref08_Pairs_o a.14 b.14).getD false then some (true) else some (false)) else none) else some (false)) else none) else some (false)) else (bif b.12 then some (false) else (bif (ref08_WritesSame_o a.13 b.13).isSome then (bif (ref08_WritesSame_o a.13 b.13).getD false then (bif (ref08_Pairs_o a.14 b.14).isSome then (bif (ref08_Pairs_o a.14 b.14).getD false then some (true) else some (false)) else none) else some (false)) else none))) else some (false)) else none) else some (false)))) else some (false)) else some (false)) else none)))))) else some (false)) else none))
theorem ref09_Same_to (a : MCmd) (b : MCmd) (r : Bool) (h : ref09_Same_o a b = some r) : CallsTo Tryz.prog 19 [(kE .cmd).enc a, (kE .cmd).enc b] (kB.enc r) :=
  to_of_lps (Z := kB) (L := ref09_Same_L) (ps := []) (n := 100) (k := 30) mixed Tryz.func19 rfl .nil (by unfold lpsC; kernel_rfl) rfl ((by kernel_rfl : evGK Tryz.prog (oraR ref09_Same_L) (lpB 0 []) 100 30 19 [(kE .cmd).enc a, (kE .cmd).enc b] [] 0 (fun r σ _ => finK kB.dec r σ) = ref09_Same_o a b).trans h)
noncomputable def ref03_Key_L : List (Ora Tryz.prog) := []
noncomputable def ref03_Key_o (a : ByteArray) : Option (Bool) := (bif decide (1 ≤ (↑a.size : Int)) then (bif decide ((↑a.size : Int) ≤ 16) then some (true) else some (false)) else some (false))
noncomputable def ref03_Key (a : ByteArray) : Bool := (bif decide (1 ≤ (↑a.size : Int)) then (bif decide ((↑a.size : Int) ≤ 16) then (true) else (false)) else (false))
theorem ref03_Key_tot (a : ByteArray) : ref03_Key_o a = some (ref03_Key a) := by first | rfl | simp only [ref03_Key_o, ref03_Key, cond_some]
theorem ref03_Key_to (a : ByteArray) : CallsTo Tryz.prog 86 [kT.enc a] (kB.enc (ref03_Key a)) :=
  to_of_lps (Z := kB) (L := ref03_Key_L) (ps := []) (n := 100) (k := 30) mixed Tryz.func86 rfl .nil (by unfold lpsC; kernel_rfl) rfl ((by kernel_rfl : evGK Tryz.prog (oraR ref03_Key_L) (lpB 0 []) 100 30 86 [kT.enc a] [] 0 (fun r σ _ => finK kB.dec r σ) = ref03_Key_o a).trans (ref03_Key_tot a))
noncomputable def ref07_nan_L : List (Ora Tryz.prog) := []
noncomputable def ref07_nan_o (a : Int) : Option (Bool) := (bif decide (9218868437227405312 < IntKind.u64.wrap (↑(BitVec.ofInt 64 a &&& ~~~BitVec.ofInt 64 9223372036854775808).toNat : Int)) then some (true) else some (false))
noncomputable def ref07_nan (a : Int) : Bool := (bif decide (9218868437227405312 < IntKind.u64.wrap (↑(BitVec.ofInt 64 a &&& ~~~BitVec.ofInt 64 9223372036854775808).toNat : Int)) then (true) else (false))
theorem ref07_nan_tot (a : Int) : ref07_nan_o a = some (ref07_nan a) := by first | rfl | simp only [ref07_nan_o, ref07_nan, cond_some]
theorem ref07_nan_to (a : Int) : CallsTo Tryz.prog 167 [kN.enc a] (kB.enc (ref07_nan a)) :=
  to_of_lps (Z := kB) (L := ref07_nan_L) (ps := []) (n := 100) (k := 30) mixed Tryz.func167 rfl .nil (by unfold lpsC; kernel_rfl) rfl ((by kernel_rfl : evGK Tryz.prog (oraR ref07_nan_L) (lpB 0 []) 100 30 167 [kN.enc a] [] 0 (fun r σ _ => finK kB.dec r σ) = ref07_nan_o a).trans (ref07_nan_tot a))
noncomputable def ref07_Right_L : List (Ora Tryz.prog) := [.of1 ref07_nan_to]
noncomputable def ref07_Right_o (a : Int) : Option (Int) := (bif ref07_nan a then some (9221120237041090561) else some (a))
noncomputable def ref07_Right (a : Int) : Int := (bif ref07_nan a then (9221120237041090561) else (a))
theorem ref07_Right_tot (a : Int) : ref07_Right_o a = some (ref07_Right a) := by first | rfl | simp only [ref07_Right_o, ref07_Right, cond_some]
theorem ref07_Right_to (a : Int) : CallsTo Tryz.prog 139 [kN.enc a] (kN.enc (ref07_Right a)) :=
  to_of_lps (Z := kN) (L := ref07_Right_L) (ps := []) (n := 100) (k := 30) mixed Tryz.func139 rfl .nil (by unfold lpsC; kernel_rfl) rfl ((by kernel_rfl : evGK Tryz.prog (oraR ref07_Right_L) (lpB 0 []) 100 30 139 [kN.enc a] [] 0 (fun r σ _ => finK kN.dec r σ) = ref07_Right_o a).trans (ref07_Right_tot a))
noncomputable def ref07_Is_L : List (Ora Tryz.prog) := [.of1 ref07_Right_to]
noncomputable def ref07_Is_o (a : Int) : Option (Bool) := (bif ref07_Right a == a then some (true) else some (false))
noncomputable def ref07_Is (a : Int) : Bool := (bif ref07_Right a == a then (true) else (false))
theorem ref07_Is_tot (a : Int) : ref07_Is_o a = some (ref07_Is a) := by first | rfl | simp only [ref07_Is_o, ref07_Is, cond_some]
theorem ref07_Is_to (a : Int) : CallsTo Tryz.prog 87 [kN.enc a] (kB.enc (ref07_Is a)) :=
  to_of_lps (Z := kB) (L := ref07_Is_L) (ps := []) (n := 100) (k := 30) mixed Tryz.func87 rfl .nil (by unfold lpsC; kernel_rfl) rfl ((by kernel_rfl : evGK Tryz.prog (oraR ref07_Is_L) (lpB 0 []) 100 30 87 [kN.enc a] [] 0 (fun r σ _ => finK kB.dec r σ) = ref07_Is_o a).trans (ref07_Is_tot a))
noncomputable def ref08_Check_L : List (Ora Tryz.prog) := [.of1 ref03_Key_to, .of1 ref07_Is_to]
abbrev ref08_Check_D0 : Type := (List MOp) × (Int) × Unit
abbrev ref08_Check_R0 : Type := (Int) × Unit
abbrev ref08_Check_E0 : Type := (List MOp) × Unit
noncomputable def ref08_Check_s0 : ref08_Check_D0 → Option (Out ref08_Check_D0 ref08_Check_R0 ref08_Check_E0)
  | (x0, x3, ()) => (bif decide (x3 < (↑x0.length : Int)) then (bif decide (0 ≤ x3) && x3.toNat.blt x0.length then (bif (x0.getD x3.toNat default).3.toList == [] then (bif (x0.getD x3.toNat default).4 == 0 then (bif (x0.getD x3.toNat default).1 == 2 then (bif ref03_Key (x0.getD x3.toNat default).2 then (bif ref07_Is (x0.getD x3.toNat default).4 then some (Out.nxt (x0, IntKind.i64.wrap (x3 + 1), ())) else some (Out.ret (80, ()))) else some (Out.ret (80, ()))) else (bif (x0.getD x3.toNat default).1 == 6 then (bif ref03_Key (x0.getD x3.toNat default).3 then (bif !(x0.getD x3.toNat default).3.toList == (x0.getD x3.toNat default).2.toList then (bif ref03_Key (x0.getD x3.toNat default).2 then (bif ref07_Is (x0.getD x3.toNat default).4 then some (Out.nxt (x0, IntKind.i64.wrap (x3 + 1), ())) else some (Out.ret (80, ()))) else some (Out.ret (80, ()))) else (bif ref03_Key (x0.getD x3.toNat default).2 then some (Out.ret (80, ())) else some (Out.ret (80, ())))) else (bif ref03_Key (x0.getD x3.toNat default).2 then some (Out.ret (80, ())) else some (Out.ret (80, ())))) else (bif (x0.getD x3.toNat default).1 == 3 then (bif ref03_Key (x0.getD x3.toNat default).2 then (bif ref07_Is (x0.getD x3.toNat default).4 then some (Out.nxt (x0, IntKind.i64.wrap (x3 + 1), ())) else some (Out.ret (80, ()))) else some (Out.ret (80, ()))) else (bif (x0.getD x3.toNat default).1 == 4 then (bif ref03_Key (x0.getD x3.toNat default).2 then (bif ref07_Is (x0.getD x3.toNat default).4 then some (Out.nxt (x0, IntKind.i64.wrap (x3 + 1), ())) else some (Out.ret (80, ()))) else some (Out.ret (80, ()))) else (bif (x0.getD x3.toNat default).1 == 1 then (bif ref03_Key (x0.getD x3.toNat default).2 then (bif ref07_Is (x0.getD x3.toNat default).4 then some (Out.nxt (x0, IntKind.i64.wrap (x3 + 1), ())) else some (Out.ret (80, ()))) else some (Out.ret (80, ()))) else (bif (x0.getD x3.toNat default).1 == 5 then (bif ref03_Key (x0.getD x3.toNat default).2 then (bif ref07_Is (x0.getD x3.toNat default).4 then some (Out.nxt (x0, IntKind.i64.wrap (x3 + 1), ())) else some (Out.ret (80, ()))) else some (Out.ret (80, ()))) else some (Out.ret (80, ())))))))) else (bif (x0.getD x3.toNat default).1 == 2 then (bif ref03_Key (x0.getD x3.toNat default).2 then some (Out.ret (80, ())) else some (Out.ret (80, ()))) else (bif (x0.getD x3.toNat default).1 == 6 then (bif ref03_Key (x0.getD x3.toNat default).3 then (bif !(x0.getD x3.toNat default).3.toList == (x0.getD x3.toNat default).2.toList then (bif ref03_Key (x0.getD x3.toNat default).2 then (bif ref07_Is (x0.getD x3.toNat default).4 then some (Out.nxt (x0, IntKind.i64.wrap (x3 + 1), ())) else some (Out.ret (80, ()))) else some (Out.ret (80, ()))) else (bif ref03_Key (x0.getD x3.toNat default).2 then some (Out.ret (80, ())) else some (Out.ret (80, ())))) else (bif ref03_Key (x0.getD x3.toNat default).2 then some (Out.ret (80, ())) else some (Out.ret (80, ())))) else (bif (x0.getD x3.toNat default).1 == 3 then (bif ref03_Key (x0.getD x3.toNat default).2 then (bif ref07_Is (x0.getD x3.toNat default).4 then some (Out.nxt (x0, IntKind.i64.wrap (x3 + 1), ())) else some (Out.ret (80, ()))) else some (Out.ret (80, ()))) else (bif (x0.getD x3.toNat default).1 == 4 then (bif ref03_Key (x0.getD x3.toNat default).2 then (bif ref07_Is (x0.getD x3.toNat default).4 then some (Out.nxt (x0, IntKind.i64.wrap (x3 + 1), ())) else some (Out.ret (80, ()))) else some (Out.ret (80, ()))) else (bif (x0.getD x3.toNat default).1 == 1 then (bif ref03_Key (x0.getD x3.toNat default).2 then some (Out.ret (80, ())) else some (Out.ret (80, ()))) else (bif (x0.getD x3.toNat default).1 == 5 then (bif ref03_Key (x0.getD x3.toNat default).2 then some (Out.ret (80, ())) else some (Out.ret (80, ()))) else some (Out.ret (80, ()))))))))) else (bif (x0.getD x3.toNat default).4 == 0 then (bif (x0.getD x3.toNat default).1 == 2 then (bif ref03_Key (x0.getD x3.toNat default).3 then (bif !(Op.bytesLess (x0.getD x3.toNat default).3.toList (x0.getD x3.toNat default).2.toList || (x0.getD x3.toNat default).3.toList == (x0.getD x3.toNat default).2.toList) then (bif ref03_Key (x0.getD x3.toNat default).2 then (bif ref07_Is (x0.getD x3.toNat default).4 then some (Out.nxt (x0, IntKind.i64.wrap (x3 + 1), ())) else some (Out.ret (80, ()))) else some (Out.ret (80, ()))) else (bif ref03_Key (x0.getD x3.toNat default).2 then some (Out.ret (80, ())) else some (Out.ret (80, ())))) else (bif ref03_Key (x0.getD x3.toNat default).2 then some (Out.ret (80, ())) else some (Out.ret (80, ())))) else (bif (x0.getD x3.toNat default).1 == 6 then (bif ref03_Key (x0.getD x3.toNat default).3 then (bif !(x0.getD x3.toNat default).3.toList == (x0.getD x3.toNat default).2.toList then (bif ref03_Key (x0.getD x3.toNat default).2 then (bif ref07_Is (x0.getD x3.toNat default).4 then some (Out.nxt (x0, IntKind.i64.wrap (x3 + 1), ())) else some (Out.ret (80, ()))) else some (Out.ret (80, ()))) else (bif ref03_Key (x0.getD x3.toNat default).2 then some (Out.ret (80, ())) else some (Out.ret (80, ())))) else (bif ref03_Key (x0.getD x3.toNat default).2 then some (Out.ret (80, ())) else some (Out.ret (80, ())))) else (bif (x0.getD x3.toNat default).1 == 3 then (bif ref03_Key (x0.getD x3.toNat default).2 then some (Out.ret (80, ())) else some (Out.ret (80, ()))) else (bif (x0.getD x3.toNat default).1 == 4 then (bif ref03_Key (x0.getD x3.toNat default).2 then some (Out.ret (80, ())) else some (Out.ret (80, ()))) else (bif (x0.getD x3.toNat default).1 == 1 then (bif ref03_Key (x0.getD x3.toNat default).2 then some (Out.ret (80, ())) else some (Out.ret (80, ()))) else (bif (x0.getD x3.toNat default).1 == 5 then (bif ref03_Key (x0.getD x3.toNat default).2 then some (Out.ret (80, ())) else some (Out.ret (80, ()))) else some (Out.ret (80, ())))))))) else (bif (x0.getD x3.toNat default).1 == 2 then (bif ref03_Key (x0.getD x3.toNat default).3 then (bif !(Op.bytesLess (x0.getD x3.toNat default).3.toList (x0.getD x3.toNat default).2.toList || (x0.getD x3.toNat default).3.toList == (x0.getD x3.toNat default).2.toList) then (bif ref03_Key (x0.getD x3.toNat default).2 then some (Out.ret (80, ())) else some (Out.ret (80, ()))) else (bif ref03_Key (x0.getD x3.toNat default).2 then some (Out.ret (80, ())) else some (Out.ret (80, ())))) else (bif ref03_Key (x0.getD x3.toNat default).2 then some (Out.ret (80, ())) else some (Out.ret (80, ())))) else (bif (x0.getD x3.toNat default).1 == 6 then (bif ref03_Key (x0.getD x3.toNat default).3 then (bif !(x0.getD x3.toNat default).3.toList == (x0.getD x3.toNat default).2.toList then (bif ref03_Key (x0.getD x3.toNat default).2 then (bif ref07_Is (x0.getD x3.toNat default).4 then some (Out.nxt (x0, IntKind.i64.wrap (x3 + 1), ())) else some (Out.ret (80, ()))) else some (Out.ret (80, ()))) else (bif ref03_Key (x0.getD x3.toNat default).2 then some (Out.ret (80, ())) else some (Out.ret (80, ())))) else (bif ref03_Key (x0.getD x3.toNat default).2 then some (Out.ret (80, ())) else some (Out.ret (80, ())))) else (bif (x0.getD x3.toNat default).1 == 3 then (bif ref03_Key (x0.getD x3.toNat default).2 then some (Out.ret (80, ())) else some (Out.ret (80, ()))) else (bif (x0.getD x3.toNat default).1 == 4 then (bif ref03_Key (x0.getD x3.toNat default).2 then some (Out.ret (80, ())) else some (Out.ret (80, ()))) else (bif (x0.getD x3.toNat default).1 == 1 then (bif ref03_Key (x0.getD x3.toNat default).2 then some (Out.ret (80, ())) else some (Out.ret (80, ()))) else (bif (x0.getD x3.toNat default).1 == 5 then (bif ref03_Key (x0.getD x3.toNat default).2 then some (Out.ret (80, ())) else some (Out.ret (80, ()))) else some (Out.ret (80, ())))))))))) else none) else some (Out.brk (x0, ())))
noncomputable def ref08_Check_l0 : Lp := ⟨0, [sL 0 .op, sI 3], [sI 2], [sL 0 .op], ref08_Check_s0⟩
noncomputable def ref08_Check_ok0 (d : ref08_Check_D0) : Bool := (lim ref08_Check_s0 d).isSome
noncomputable def ref08_Check_rb0 (d : ref08_Check_D0) : Bool := isR (lim ref08_Check_s0 d)
noncomputable def ref08_Check_r0 (d : ref08_Check_D0) : ref08_Check_R0 := getR (dfD [sI 2]) (lim ref08_Check_s0 d)
noncomputable def ref08_Check_e0 (d : ref08_Check_D0) : ref08_Check_E0 := getE (dfD [sL 0 .op]) (lim ref08_Check_s0 d)
theorem ref08_Check_l0_o : ref08_Check_l0.Ok Tryz.prog 82 0 (loopOf Tryz.f33 0) :=
  Lp.ok_of (R := (oraR ref08_Check_L)) (B := (lpB 0 [])) (F := evFK Tryz.prog (oraR ref08_Check_L) 100 30) (n := 100) (oraR_ok _) (evFK_ok (oraR_ok _) mixed 30) mixed (LpsOk.lok (fn := Tryz.f33) .nil (by unfold lpsC; kernel_rfl)) (fun d => match d with
    | (x0, x3, ()) => (by kernel_rfl : evCK Tryz.prog (oraR ref08_Check_L) (lpB 0 []) (evFK Tryz.prog (oraR ref08_Check_L) 100 30) 82 100 (loopOf Tryz.f33 0) (hd [sL 0 .op, sI 3] (x0, x3, ())) (rdOut 0 0 [sL 0 .op, sI 3] [sI 2] [sL 0 .op]) = ref08_Check_s0 (x0, x3, ())))
noncomputable def ref08_Check_o (a : List MOp) : Option (Int) := (bif decide (8 < (↑a.length : Int)) then some (6) else (bif ref08_Check_ok0 (a, 0, ()) then (bif ref08_Check_rb0 (a, 0, ()) then some ((ref08_Check_r0 (a, 0, ())).1) else (bif (↑(ref08_Check_e0 (a, 0, ())).1.length : Int) == 0 then some (80) else some (0))) else none))
theorem ref08_Check_to (a : List MOp) (r : Int) (h : ref08_Check_o a = some r) : CallsTo Tryz.prog 33 [(kL .op).enc a] (kI.enc r) :=
  to_of_lps (Z := kI) (L := ref08_Check_L) (ps := [ref08_Check_l0]) (n := 100) (k := 30) mixed Tryz.func33 rfl (.cons ref08_Check_l0_o .nil) (by unfold lpsC; kernel_rfl) rfl ((by kernel_rfl : evGK Tryz.prog (oraR ref08_Check_L) (lpB 0 [ref08_Check_l0]) 100 30 33 [(kL .op).enc a] [] 0 (fun r σ _ => finK kI.dec r σ) = ref08_Check_o a).trans h)
noncomputable def cmd_Witness_L : List (Ora Tryz.prog) := [.of1 cmd_decided_to]
noncomputable def cmd_Witness_o (a : MCmd) (b : List MOp) (c : MStamp) (d : Bool) (e : List MDep) : Option (MCmd) := (bif (↑a.2.length : Int) == 0 then (bif cmd_decided a then some (a) else (bif d then some ({ id := a.1, ops := b, phase := 1, promise := a.4, vote := c, fast := true, seen := e, bound := a.8, has := a.9, ballot := a.10, value := a.11, ready := a.12, writes := a.13, pairs := a.14 }) else some ({ id := a.1, ops := b, phase := 1, promise := a.4, vote := c, fast := false, seen := e, bound := a.8, has := a.9, ballot := a.10, value := a.11, ready := a.12, writes := a.13, pairs := a.14 }))) else some (a))
noncomputable def cmd_Witness (a : MCmd) (b : List MOp) (c : MStamp) (d : Bool) (e : List MDep) : MCmd := (bif (↑a.2.length : Int) == 0 then (bif cmd_decided a then (a) else (bif d then ({ id := a.1, ops := b, phase := 1, promise := a.4, vote := c, fast := true, seen := e, bound := a.8, has := a.9, ballot := a.10, value := a.11, ready := a.12, writes := a.13, pairs := a.14 }) else ({ id := a.1, ops := b, phase := 1, promise := a.4, vote := c, fast := false, seen := e, bound := a.8, has := a.9, ballot := a.10, value := a.11, ready := a.12, writes := a.13, pairs := a.14 }))) else (a))
theorem cmd_Witness_tot (a : MCmd) (b : List MOp) (c : MStamp) (d : Bool) (e : List MDep) : cmd_Witness_o a b c d e = some (cmd_Witness a b c d e) := by first | rfl | simp only [cmd_Witness_o, cmd_Witness, cond_some]
theorem cmd_Witness_to (a : MCmd) (b : List MOp) (c : MStamp) (d : Bool) (e : List MDep) : CallsTo Tryz.prog 35 [(kE .cmd).enc a, (kL .op).enc b, (kE .stamp).enc c, kB.enc d, (kL .dep).enc e] ((kE .cmd).enc (cmd_Witness a b c d e)) :=
  to_of_lps (Z := (kE .cmd)) (L := cmd_Witness_L) (ps := []) (n := 100) (k := 30) mixed Tryz.func35 rfl .nil (by unfold lpsC; kernel_rfl) rfl ((by kernel_rfl : evGK Tryz.prog (oraR cmd_Witness_L) (lpB 0 []) 100 30 35 [(kE .cmd).enc a, (kL .op).enc b, (kE .stamp).enc c, kB.enc d, (kL .dep).enc e] [] 0 (fun r σ _ => finK (kE .cmd).dec r σ) = cmd_Witness_o a b c d e).trans (cmd_Witness_tot a b c d e))
end Go.Proofs.YtbljhngekhgbbaaGreat
namespace Go.Proofs.YtbljhngekhgbbaaGreat
open Go.RowKit
theorem idle168 : IdleD Tryz.prog 168 3 := by
  intro args w hsz
  obtain ⟨a, b, c, rfl⟩ : ∃ a b c, args = #[a, b, c] := by
    obtain ⟨l⟩ := args
    match l, hsz with
    | [a, b, c], _ => exact ⟨a, b, c, rfl⟩
  refine callsD_of_wpS Tryz.func168 rfl fun c₀ cs hu => ?_
  apply wpS_seq
  apply wpS_region
  simp [wpOpsS, go_sem, recoverD, hu, Tryz.ntmps168, Exit.thenS]
  have ht : #[a, b, c] ++ ((Array.replicate 23 undef).setIfInBounds 4 Value.nilIface).setIfInBounds 0 Value.nilIface = #[a, b, c, Value.nilIface, undef, undef, undef, Value.nilIface, undef, undef, undef, undef, undef, undef, undef, undef, undef, undef, undef, undef, undef, undef, undef, undef, undef, undef] := by kernel_rfl
  rw [ht]; clear ht
  refine wpS_of_wp ?_
  go_wp2
  exact ⟨rfl, .returning, by rw [← hu], _, results_none rfl _ _ _, rfl, rfl, rfl⟩
theorem idle172 : IdleD Tryz.prog 172 3 := by
  intro args w hsz
  obtain ⟨a, b, c, rfl⟩ : ∃ a b c, args = #[a, b, c] := by
    obtain ⟨l⟩ := args
    match l, hsz with
    | [a, b, c], _ => exact ⟨a, b, c, rfl⟩
  refine callsD_of_wpS Tryz.func172 rfl fun c₀ cs hu => ?_
  apply wpS_seq
  apply wpS_region
  simp [wpOpsS, go_sem, recoverD, hu, Tryz.ntmps172, Exit.thenS]
  have ht : #[a, b, c] ++ ((Array.replicate 23 undef).setIfInBounds 4 Value.nilIface).setIfInBounds 0 Value.nilIface = #[a, b, c, Value.nilIface, undef, undef, undef, Value.nilIface, undef, undef, undef, undef, undef, undef, undef, undef, undef, undef, undef, undef, undef, undef, undef, undef, undef, undef] := by kernel_rfl
  rw [ht]; clear ht
  refine wpS_of_wp ?_
  go_wp2
  exact ⟨rfl, .returning, by rw [← hu], _, results_none rfl _ _ _, rfl, rfl, rfl⟩
theorem idle173 : IdleD Tryz.prog 173 3 := by
  intro args w hsz
  obtain ⟨a, b, c, rfl⟩ : ∃ a b c, args = #[a, b, c] := by
    obtain ⟨l⟩ := args
    match l, hsz with
    | [a, b, c], _ => exact ⟨a, b, c, rfl⟩
  refine callsD_of_wpS Tryz.func173 rfl fun c₀ cs hu => ?_
  apply wpS_seq
  apply wpS_region
  simp [wpOpsS, go_sem, recoverD, hu, Tryz.ntmps173, Exit.thenS]
  have ht : #[a, b, c] ++ ((Array.replicate 23 undef).setIfInBounds 4 Value.nilIface).setIfInBounds 0 Value.nilIface = #[a, b, c, Value.nilIface, undef, undef, undef, Value.nilIface, undef, undef, undef, undef, undef, undef, undef, undef, undef, undef, undef, undef, undef, undef, undef, undef, undef, undef] := by kernel_rfl
  rw [ht]; clear ht
  refine wpS_of_wp ?_
  go_wp2
  exact ⟨rfl, .returning, by rw [← hu], _, results_none rfl _ _ _, rfl, rfl, rfl⟩
theorem idle177 : IdleD Tryz.prog 177 3 := by
  intro args w hsz
  obtain ⟨a, b, c, rfl⟩ : ∃ a b c, args = #[a, b, c] := by
    obtain ⟨l⟩ := args
    match l, hsz with
    | [a, b, c], _ => exact ⟨a, b, c, rfl⟩
  refine callsD_of_wpS Tryz.func177 rfl fun c₀ cs hu => ?_
  apply wpS_seq
  apply wpS_region
  simp [wpOpsS, go_sem, recoverD, hu, Tryz.ntmps177, Exit.thenS]
  have ht : #[a, b, c] ++ ((Array.replicate 23 undef).setIfInBounds 4 Value.nilIface).setIfInBounds 0 Value.nilIface = #[a, b, c, Value.nilIface, undef, undef, undef, Value.nilIface, undef, undef, undef, undef, undef, undef, undef, undef, undef, undef, undef, undef, undef, undef, undef, undef, undef, undef] := by kernel_rfl
  rw [ht]; clear ht
  refine wpS_of_wp ?_
  go_wp2
  exact ⟨rfl, .returning, by rw [← hu], _, results_none rfl _ _ _, rfl, rfl, rfl⟩
theorem b1 : cloneB Tryz.prog 46 5 1 1 = true := by kernel_rfl
theorem c1 : CloneOK Tryz.prog (101, 5, 1, 1) := CloneOK.of (fn := Tryz.f101) (T := 46) (B := 4) Tryz.func101 rfl rfl rfl b1
def cl : List (FuncId × TypeId × Nat × Nat) := [(101, 5, 1, 1)]
theorem cl_ok : ∀ q ∈ cl, CloneOK Tryz.prog q := by
  intro q hq
  simp only [cl, List.mem_cons, List.mem_nil_iff, or_false] at hq
  rcases hq with rfl
  exact c1
def il : List (FuncId × Nat) := [(168, 3), (172, 3), (173, 3), (177, 3)]
theorem il_ok : ∀ q ∈ il, IdleD Tryz.prog q.1 q.2 := by
  intro q hq
  simp only [il, List.mem_cons, List.mem_nil_iff, or_false] at hq
  rcases hq with rfl | rfl | rfl | rfl
  · exact idle168
  · exact idle172
  · exact idle173
  · exact idle177
def isT : Option (TV × Store × Nat) → Bool
  | some (.one (.lit (.bool true)), _, _) => true
  | _ => false
set_option maxRecDepth 1000000
theorem live_ev : isT (evF Tryz.prog il (cloneR cl) 300 40 14 [] [] 0) = true := by kernel_rfl
theorem live_to : CallsTo Tryz.prog 14 [] (.one (.lit (.bool true))) := by
  have h := live_ev
  unfold isT at h
  split at h
  · rename_i σ n e
    exact callsTo_of_empty (evF_ok il_ok (cloneR_ok cl_ok) mixed 40 _ _ _ _ _ _ _ e) rfl rfl
  · cases h
end Go.Proofs.YtbljhngekhgbbaaGreat
