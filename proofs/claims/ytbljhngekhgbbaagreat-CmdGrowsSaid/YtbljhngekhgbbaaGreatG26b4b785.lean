/- Texts of the proofs of CmdGrows, CmdPlays, merged (Op9). -/
import Derived.Test.YtbljhngekhgbbaaGreatProg
import Derived.KernelRfl
import Derived.Test.YtbljhngekhgbbaaGreatGb3b707fa
import Derived.Test.YtbljhngekhgbbaaGreatGb43ee308
import Derived.Test.YtbljhngekhgbbaaGreatG9c20b58a
import Derived.Test.YtbljhngekhgbbaaGreatG6e0496cb
import Derived.Test.YtbljhngekhgbbaaGreatG20caf6cc
import Derived.Test.YtbljhngekhgbbaaGreatGf0b3007f
import Derived.Test.YtbljhngekhgbbaaGreatG0f2df3e7
import Derived.Test.YtbljhngekhgbbaaGreatG7be370e0
import Derived.Test.YtbljhngekhgbbaaGreatG15131814
import Derived.Test.YtbljhngekhgbbaaGreatGb3f77d99
import Derived.Test.YtbljhngekhgbbaaGreatG68d54092
import Derived.Test.YtbljhngekhgbbaaGreatG93612b59
import Derived.Test.YtbljhngekhgbbaaGreatG339d55ae
set_option linter.unusedSimpArgs false
set_option linter.unusedVariables false
namespace Go.Proofs.YtbljhngekhgbbaaGreat
open Go.RowKit
set_option linter.unusedVariables false
set_option maxRecDepth 10000
def g_act09 (x : MAct) : Prop := (Lit.int .i64 x.kind).wf = true ∧ (x.ops.length ≤ reachBytes ∧ ∀ y ∈ x.ops, g_op y) ∧ g_stamp x.a ∧ g_stamp x.b ∧ True ∧ (x.deps.length ≤ reachBytes ∧ ∀ y ∈ x.deps, g_dep y) ∧ g_val x.value ∧ (x.writes.length ≤ reachBytes ∧ ∀ y ∈ x.writes, g_write y) ∧ (x.pairs.length ≤ reachBytes ∧ ∀ y ∈ x.pairs, g_pair y) ∧ True
theorem op_act09 : Opens Tryz.prog 68 (encEl .act) g_act09 :=
  opens_struct (opensF_cons (k := 1) Tryz.underlying68 op_int (opensF_cons (k := 1) Tryz.underlying68 op_ops (opensF_cons (k := 2) Tryz.underlying68 op_stamp (opensF_cons (k := 2) Tryz.underlying68 op_stamp (opensF_cons (k := 1) Tryz.underlying68 op_bool (opensF_cons (k := 1) Tryz.underlying68 op_deps (opensF_cons (k := 4) Tryz.underlying68 op_val (opensF_cons (k := 1) Tryz.underlying68 op_writes (opensF_cons (k := 1) Tryz.underlying68 op_pairs (opensF_nil Tryz.underlying68 (by kernel_rfl)) rfl (by kernel_rfl)) rfl (by kernel_rfl)) rfl (by kernel_rfl)) rfl (by kernel_rfl)) rfl (by kernel_rfl)) rfl (by kernel_rfl)) rfl (by kernel_rfl)) rfl (by kernel_rfl)) rfl (by kernel_rfl)) (fun x => (⟨x.1, x.2.1, x.2.2.1, x.2.2.2.1, x.2.2.2.2.1, x.2.2.2.2.2.1, x.2.2.2.2.2.2.1, x.2.2.2.2.2.2.2.1, x.2.2.2.2.2.2.2.2.1⟩ : MAct)) (fun _ => rfl) (fun y => (by kernel_rfl : 14 = Tryz.prog.cellsOf 68)) (fun x h => h)
theorem op_act09s : Opens Tryz.prog 65 (fun l : List (Ty.El .act) => [.dat .act l]) (fun l => l.length ≤ reachBytes ∧ ∀ x ∈ l, g_act09 x) :=
  opens_list (T := .act) (e := 68) op_act09 Tryz.underlying65 (by kernel_rfl) (by decide) (of_decide_eq_true (by kernel_rfl))
end Go.Proofs.YtbljhngekhgbbaaGreat
