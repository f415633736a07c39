/- Texts of the proofs of CmdEnds, CmdGrows, CmdPlays, merged (Op9). -/
import Derived.Test.YtbljhngekhgbbaaGreatProg
import Derived.KernelRfl
import Derived.Test.YtbljhngekhgbbaaGreatGb3b707fa
import Derived.Test.YtbljhngekhgbbaaGreatGb43ee308
import Derived.Test.YtbljhngekhgbbaaGreatG9c20b58a
import Derived.Test.YtbljhngekhgbbaaGreatG6e0496cb
import Derived.Test.YtbljhngekhgbbaaGreatG20caf6cc
import Derived.Test.YtbljhngekhgbbaaGreatGf0b3007f
import Derived.Test.YtbljhngekhgbbaaGreatG0f2df3e7
import Derived.Test.YtbljhngekhgbbaaGreatG7be370e0
import Derived.Test.YtbljhngekhgbbaaGreatG15131814
import Derived.Test.YtbljhngekhgbbaaGreatGb3f77d99
import Derived.Test.YtbljhngekhgbbaaGreatG68d54092
import Derived.Test.YtbljhngekhgbbaaGreatG93612b59
set_option linter.unusedSimpArgs false
set_option linter.unusedVariables false
namespace Go.Proofs.YtbljhngekhgbbaaGreat
open Go.RowKit
set_option linter.unusedVariables false
set_option maxRecDepth 10000
theorem op_bool : Opens Tryz.prog 4 (fun a : Bool => [pB a]) (fun a => True) := opens_bool Tryz.underlying4 (by kernel_rfl)
def g_val (x : MVal) : Prop := True ∧ g_stamp x.tm ∧ (x.deps.length ≤ reachBytes ∧ ∀ y ∈ x.deps, g_dep y) ∧ True
theorem op_val : Opens Tryz.prog 26 (encVal) g_val :=
  opens_struct (opensF_cons (k := 1) Tryz.underlying26 op_bool (opensF_cons (k := 2) Tryz.underlying26 op_stamp (opensF_cons (k := 1) Tryz.underlying26 op_deps (opensF_nil Tryz.underlying26 (by kernel_rfl)) rfl (by kernel_rfl)) rfl (by kernel_rfl)) rfl (by kernel_rfl)) (fun x => (⟨x.1, x.2.1, x.2.2.1⟩ : MVal)) (fun _ => rfl) (fun y => (by kernel_rfl : 4 = Tryz.prog.cellsOf 26)) (fun x h => h)
def g_write (x : MWrite) : Prop := x.key.size ≤ reachBytes ∧ (Lit.int .u64 x.num).wf = true ∧ True ∧ True
theorem op_write : Opens Tryz.prog 90 (encEl .write) g_write :=
  opens_struct (opensF_cons (k := 1) Tryz.underlying90 op_string (opensF_cons (k := 1) Tryz.underlying90 op_num (opensF_cons (k := 1) Tryz.underlying90 op_bool (opensF_nil Tryz.underlying90 (by kernel_rfl)) rfl (by kernel_rfl)) rfl (by kernel_rfl)) rfl (by kernel_rfl)) (fun x => (⟨x.1, x.2.1, x.2.2.1⟩ : MWrite)) (fun _ => rfl) (fun y => (by kernel_rfl : 3 = Tryz.prog.cellsOf 90)) (fun x h => h)
theorem op_writes : Opens Tryz.prog 34 (fun l : List (Ty.El .write) => [.dat .write l]) (fun l => l.length ≤ reachBytes ∧ ∀ x ∈ l, g_write x) :=
  opens_list (T := .write) (e := 90) op_write Tryz.underlying34 (by kernel_rfl) (by decide) (of_decide_eq_true (by kernel_rfl))
def g_pair (x : MPair) : Prop := x.key.size ≤ reachBytes ∧ (Lit.int .u64 x.num).wf = true ∧ True
theorem op_pair : Opens Tryz.prog 92 (encEl .pair) g_pair :=
  opens_struct (opensF_cons (k := 1) Tryz.underlying92 op_string (opensF_cons (k := 1) Tryz.underlying92 op_num (opensF_nil Tryz.underlying92 (by kernel_rfl)) rfl (by kernel_rfl)) rfl (by kernel_rfl)) (fun x => (⟨x.1, x.2.1⟩ : MPair)) (fun _ => rfl) (fun y => (by kernel_rfl : 2 = Tryz.prog.cellsOf 92)) (fun x h => h)
theorem op_pairs : Opens Tryz.prog 35 (fun l : List (Ty.El .pair) => [.dat .pair l]) (fun l => l.length ≤ reachBytes ∧ ∀ x ∈ l, g_pair x) :=
  opens_list (T := .pair) (e := 92) op_pair Tryz.underlying35 (by kernel_rfl) (by decide) (of_decide_eq_true (by kernel_rfl))
end Go.Proofs.YtbljhngekhgbbaaGreat
