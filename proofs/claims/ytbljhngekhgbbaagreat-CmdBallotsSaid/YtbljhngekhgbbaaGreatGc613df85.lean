/- Texts of the proofs of CmdBallots, merged (PBallots). -/
import Derived.Test.YtbljhngekhgbbaaGreatG93fbb13c
import Derived.Test.YtbljhngekhgbbaaGreatGd9f16d60
import Derived.Test.YtbljhngekhgbbaaGreatG2aba7a8f
import Derived.Test.YtbljhngekhgbbaaGreatGcca89fc4
import Derived.Test.YtbljhngekhgbbaaGreatG0e77b8c7
import Derived.Test.YtbljhngekhgbbaaGreatGfe63cf20
import Derived.Test.YtbljhngekhgbbaaGreatGe5e7c00b
import Derived.Test.YtbljhngekhgbbaaGreatG65feb202
import Derived.Test.YtbljhngekhgbbaaGreatGe8965146
import Derived.Test.YtbljhngekhgbbaaGreatG875ad2ad
import Derived.Test.YtbljhngekhgbbaaGreatG1b8203c5
import Derived.Test.YtbljhngekhgbbaaGreatG70196fb6
import Derived.Test.YtbljhngekhgbbaaGreatG3bef995a
import Derived.Test.YtbljhngekhgbbaaGreatG0d87452b
namespace Go.Proofs.YtbljhngekhgbbaaGreat
open Go.RowKit
set_option linter.unusedVariables false
set_option linter.unusedSimpArgs false
theorem gD_of {d : List MDep} (h : d.length ≤ reachBytes ∧ ∀ x ∈ d, g_dep x) : gD d := ⟨by have := h.1; unfold reachBytes at this; omega, fun x hx => by have := (h.2 x hx).2.1.1; unfold reachBytes at this; omega⟩
theorem CmdBallots_pure (a b c : MStamp) (v : MVal) (e : MStamp) (_ : g_stamp a) (_ : g_stamp b) (_ : g_stamp c) (hv : g_val v) (_ : g_stamp e) : law09_CmdBallots_o a b c v e = some true := by
  have hd : gD v.deps := gD_of hv.2.2.1
  unfold law09_CmdBallots_o
  cases h1 : ref01_Is a with
  | false => rfl
  | true =>
  cases h2 : ref09_Ballot b with
  | false => rfl
  | true =>
  cases h3 : ref09_Ballot c with
  | false => rfl
  | true =>
  simp only [cond_true, ref09_Value_eq hd, Option.isSome_some, Option.getD_some]
  cases h4 : (bif v.gone then eqB v.tm z0 && decide (v.deps = []) else ref01_Is v.tm && decide (depsC v.deps = 0)) with
  | false => rfl
  | true =>
  cases h5 : ref01_Is e with
  | false => rfl
  | true =>
  cases h6 : ref01_Less e a with
  | true => rfl
  | false =>
  obtain ⟨s1, s2⟩ := value_small hd h4
  obtain ⟨l, hl, _⟩ := ref06_All_some (d := v.deps) (by omega) (by omega)
  have hl' : ref06_All_o v.3 = some l := hl
  simp only [hl', Option.isSome_some, Option.getD_some, cond_true, cond_false]
  by_cases h7 : (40 : Int) < (l.length : Int)
  · simp only [h7, decide_true, cond_true]
  simp only [h7, decide_false, cond_false]
  have p1 : cmd_Promise (cmd_New a) b = ({ cmd_New a with promise := b }, true) := by
    rw [promise_eq (by show (0 : Int) < 2; omega)]
    have : ref01_Less b (cmd_New a).promise = false := ballot_less h2
    rw [this]
    rfl
  have hph : ({ cmd_New a with promise := b } : MCmd).phase < 2 := by show (0 : Int) < 2; omega
  have p2 := promise_eq hph c
  have p3 := bind_eq hph c e
  have p4 := accept_eq hph c v
  have hpr : ({ cmd_New a with promise := b } : MCmd).promise = b := rfl
  rw [hpr] at p2 p3 p4
  have hG : GCmd ({ cmd_New a with promise := b } : MCmd) := ⟨Nat.zero_le _, gDeps_nil, gDeps_nil, Nat.zero_le _, Nat.zero_le _⟩
  simp only [p1, p2, p3, p4, cond_true]
  have e0 : (b.1 == b.1 && (b.2 == b.2 && true)) = true := by simp
  simp only [e0, Bool.not_true, cond_false]
  cases h8 : ref01_Less c b with
  | true =>
    simp only [cond_true, cond_false, ref09_Same_eq _ hG, eqB_self, Option.isSome_some, Option.getD_some]
  | false =>
    have hb : (maxS z0 e).1 = e.1 ∧ (maxS z0 e).2 = e.2 := by rw [maxS_z h5]; exact ⟨rfl, rfl⟩
    have e1 : (c.1 == c.1 && (c.2 == c.2 && true)) = true := by simp
    have e2 : ((maxS z0 e).1 == e.1 && ((maxS z0 e).2 == e.2 && true)) = true := by rw [hb.1, hb.2]; simp
    have e3 : ref09_SameValue_o v v = some true := by rw [ref09_SameValue_eq _ hd.deps, eqB_self]
    have e4 : ((cmd_New a).bound) = z0 := rfl
    simp only [cond_true, cond_false, e1, e3, Option.isSome_some, Option.getD_some, e4]
    exact congrArg (fun x => bif x then some true else some false) e2 |> fun h => (by simpa using h)
end Go.Proofs.YtbljhngekhgbbaaGreat
