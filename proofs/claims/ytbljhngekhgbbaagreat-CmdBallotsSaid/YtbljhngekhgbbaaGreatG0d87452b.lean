/- Texts of the proofs of CmdBallots, merged (Op9). -/
import Derived.Test.YtbljhngekhgbbaaGreatProg
import Derived.KernelRfl
import Derived.Test.YtbljhngekhgbbaaGreatG93fbb13c
import Derived.Test.YtbljhngekhgbbaaGreatGd9f16d60
import Derived.Test.YtbljhngekhgbbaaGreatG2aba7a8f
import Derived.Test.YtbljhngekhgbbaaGreatGcca89fc4
import Derived.Test.YtbljhngekhgbbaaGreatG0e77b8c7
import Derived.Test.YtbljhngekhgbbaaGreatGfe63cf20
import Derived.Test.YtbljhngekhgbbaaGreatGe5e7c00b
import Derived.Test.YtbljhngekhgbbaaGreatG65feb202
import Derived.Test.YtbljhngekhgbbaaGreatGe8965146
import Derived.Test.YtbljhngekhgbbaaGreatG3bef995a
namespace Go.Proofs.YtbljhngekhgbbaaGreat
open Go.RowKit
set_option linter.unusedVariables false
set_option maxRecDepth 10000
theorem op_bool : Opens Tryz.prog 4 (fun a : Bool => [pB a]) (fun a => True) := opens_bool Tryz.underlying4 (by kernel_rfl)
theorem op_int64 : Opens Tryz.prog 2 (fun a : Int => [pI a]) (fun a => (Lit.int .i64 a).wf = true) := opens_int Tryz.underlying2 (by kernel_rfl)
theorem op_int : Opens Tryz.prog 3 (fun a : Int => [pI a]) (fun a => (Lit.int .i64 a).wf = true) := opens_int Tryz.underlying3 (by kernel_rfl)
def g_stamp (x : MStamp) : Prop := (Lit.int .i64 x.time).wf = true ∧ (Lit.int .i64 x.node).wf = true ∧ True
theorem op_stamp : Opens Tryz.prog 23 (encEl .stamp) g_stamp :=
  opens_struct (opensF_cons (k := 1) Tryz.underlying23 op_int64 (opensF_cons (k := 1) Tryz.underlying23 op_int (opensF_nil Tryz.underlying23 (by kernel_rfl)) rfl (by kernel_rfl)) rfl (by kernel_rfl)) (fun x => (⟨x.1, x.2.1⟩ : MStamp)) (fun _ => rfl) (fun y => (by kernel_rfl : 2 = Tryz.prog.cellsOf 23)) (fun x h => h)
theorem op_stamps : Opens Tryz.prog 30 (fun l : List (Ty.El .stamp) => [.dat .stamp l]) (fun l => l.length ≤ reachBytes ∧ ∀ x ∈ l, g_stamp x) :=
  opens_list (T := .stamp) (e := 23) op_stamp Tryz.underlying30 (by kernel_rfl) (by decide) (of_decide_eq_true (by kernel_rfl))
def g_dep (x : MDep) : Prop := (Lit.int .i64 x.shard).wf = true ∧ (x.ids.length ≤ reachBytes ∧ ∀ y ∈ x.ids, g_stamp y) ∧ True
theorem op_dep : Opens Tryz.prog 80 (encEl .dep) g_dep :=
  opens_struct (opensF_cons (k := 1) Tryz.underlying80 op_int (opensF_cons (k := 1) Tryz.underlying80 op_stamps (opensF_nil Tryz.underlying80 (by kernel_rfl)) rfl (by kernel_rfl)) rfl (by kernel_rfl)) (fun x => (⟨x.1, x.2.1⟩ : MDep)) (fun _ => rfl) (fun y => (by kernel_rfl : 2 = Tryz.prog.cellsOf 80)) (fun x h => h)
theorem op_deps : Opens Tryz.prog 24 (fun l : List (Ty.El .dep) => [.dat .dep l]) (fun l => l.length ≤ reachBytes ∧ ∀ x ∈ l, g_dep x) :=
  opens_list (T := .dep) (e := 80) op_dep Tryz.underlying24 (by kernel_rfl) (by decide) (of_decide_eq_true (by kernel_rfl))
def g_val (x : MVal) : Prop := True ∧ g_stamp x.tm ∧ (x.deps.length ≤ reachBytes ∧ ∀ y ∈ x.deps, g_dep y) ∧ True
theorem op_val : Opens Tryz.prog 26 (encVal) g_val :=
  opens_struct (opensF_cons (k := 1) Tryz.underlying26 op_bool (opensF_cons (k := 2) Tryz.underlying26 op_stamp (opensF_cons (k := 1) Tryz.underlying26 op_deps (opensF_nil Tryz.underlying26 (by kernel_rfl)) rfl (by kernel_rfl)) rfl (by kernel_rfl)) rfl (by kernel_rfl)) (fun x => (⟨x.1, x.2.1, x.2.2.1⟩ : MVal)) (fun _ => rfl) (fun y => (by kernel_rfl : 4 = Tryz.prog.cellsOf 26)) (fun x h => h)
end Go.Proofs.YtbljhngekhgbbaaGreat
