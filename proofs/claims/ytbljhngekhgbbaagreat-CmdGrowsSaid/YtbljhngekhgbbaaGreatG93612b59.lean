/- Texts of the proofs of CmdEnds, CmdFirst, CmdGrows, CmdPlays, merged (Op9). -/
import Derived.Test.YtbljhngekhgbbaaGreatProg
import Derived.KernelRfl
import Derived.Test.YtbljhngekhgbbaaGreatGb3b707fa
import Derived.Test.YtbljhngekhgbbaaGreatGb43ee308
import Derived.Test.YtbljhngekhgbbaaGreatG9c20b58a
import Derived.Test.YtbljhngekhgbbaaGreatG6e0496cb
import Derived.Test.YtbljhngekhgbbaaGreatG20caf6cc
import Derived.Test.YtbljhngekhgbbaaGreatGf0b3007f
import Derived.Test.YtbljhngekhgbbaaGreatG0f2df3e7
import Derived.Test.YtbljhngekhgbbaaGreatG7be370e0
import Derived.Test.YtbljhngekhgbbaaGreatG15131814
import Derived.Test.YtbljhngekhgbbaaGreatG68d54092
set_option linter.unusedSimpArgs false
set_option linter.unusedVariables false
namespace Go.Proofs.YtbljhngekhgbbaaGreat
open Go.RowKit
set_option linter.unusedVariables false
set_option maxRecDepth 10000
theorem op_int64 : Opens Tryz.prog 2 (fun a : Int => [pI a]) (fun a => (Lit.int .i64 a).wf = true) := opens_int Tryz.underlying2 (by kernel_rfl)
theorem op_int : Opens Tryz.prog 3 (fun a : Int => [pI a]) (fun a => (Lit.int .i64 a).wf = true) := opens_int Tryz.underlying3 (by kernel_rfl)
def g_stamp (x : MStamp) : Prop := (Lit.int .i64 x.time).wf = true ∧ (Lit.int .i64 x.node).wf = true ∧ True
theorem op_stamp : Opens Tryz.prog 23 (encEl .stamp) g_stamp :=
  opens_struct (opensF_cons (k := 1) Tryz.underlying23 op_int64 (opensF_cons (k := 1) Tryz.underlying23 op_int (opensF_nil Tryz.underlying23 (by kernel_rfl)) rfl (by kernel_rfl)) rfl (by kernel_rfl)) (fun x => (⟨x.1, x.2.1⟩ : MStamp)) (fun _ => rfl) (fun y => (by kernel_rfl : 2 = Tryz.prog.cellsOf 23)) (fun x h => h)
theorem op_stamps : Opens Tryz.prog 30 (fun l : List (Ty.El .stamp) => [.dat .stamp l]) (fun l => l.length ≤ reachBytes ∧ ∀ x ∈ l, g_stamp x) :=
  opens_list (T := .stamp) (e := 23) op_stamp Tryz.underlying30 (by kernel_rfl) (by decide) (of_decide_eq_true (by kernel_rfl))
def g_dep (x : MDep) : Prop := (Lit.int .i64 x.shard).wf = true ∧ (x.ids.length ≤ reachBytes ∧ ∀ y ∈ x.ids, g_stamp y) ∧ True
theorem op_dep : Opens Tryz.prog 80 (encEl .dep) g_dep :=
  opens_struct (opensF_cons (k := 1) Tryz.underlying80 op_int (opensF_cons (k := 1) Tryz.underlying80 op_stamps (opensF_nil Tryz.underlying80 (by kernel_rfl)) rfl (by kernel_rfl)) rfl (by kernel_rfl)) (fun x => (⟨x.1, x.2.1⟩ : MDep)) (fun _ => rfl) (fun y => (by kernel_rfl : 2 = Tryz.prog.cellsOf 80)) (fun x h => h)
theorem op_deps : Opens Tryz.prog 24 (fun l : List (Ty.El .dep) => [.dat .dep l]) (fun l => l.length ≤ reachBytes ∧ ∀ x ∈ l, g_dep x) :=
  opens_list (T := .dep) (e := 80) op_dep Tryz.underlying24 (by kernel_rfl) (by decide) (of_decide_eq_true (by kernel_rfl))
theorem op_string : Opens Tryz.prog 9 (fun a : ByteArray => [pT a]) (fun a => a.size ≤ reachBytes) := opens_text Tryz.underlying9 (by kernel_rfl)
theorem op_num : Opens Tryz.prog 83 (fun a : Int => [pN a]) (fun a => (Lit.int .u64 a).wf = true) := opens_num Tryz.underlying83 (by kernel_rfl)
def g_op (x : MOp) : Prop := (Lit.int .i64 x.kind).wf = true ∧ x.key.size ≤ reachBytes ∧ x.to.size ≤ reachBytes ∧ (Lit.int .u64 x.num).wf = true ∧ True
theorem op_op : Opens Tryz.prog 85 (encEl .op) g_op :=
  opens_struct (opensF_cons (k := 1) Tryz.underlying85 op_int (opensF_cons (k := 1) Tryz.underlying85 op_string (opensF_cons (k := 1) Tryz.underlying85 op_string (opensF_cons (k := 1) Tryz.underlying85 op_num (opensF_nil Tryz.underlying85 (by kernel_rfl)) rfl (by kernel_rfl)) rfl (by kernel_rfl)) rfl (by kernel_rfl)) rfl (by kernel_rfl)) (fun x => (⟨x.1, x.2.1, x.2.2.1, x.2.2.2.1⟩ : MOp)) (fun _ => rfl) (fun y => (by kernel_rfl : 4 = Tryz.prog.cellsOf 85)) (fun x h => h)
theorem op_ops : Opens Tryz.prog 33 (fun l : List (Ty.El .op) => [.dat .op l]) (fun l => l.length ≤ reachBytes ∧ ∀ x ∈ l, g_op x) :=
  opens_list (T := .op) (e := 85) op_op Tryz.underlying33 (by kernel_rfl) (by decide) (of_decide_eq_true (by kernel_rfl))
end Go.Proofs.YtbljhngekhgbbaaGreat
