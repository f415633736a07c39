/- Texts of the proofs of CmdPlays, merged (P9h, P9i, PPlays). -/
import Derived.Test.YtbljhngekhgbbaaGreatGb3b707fa
import Derived.Test.YtbljhngekhgbbaaGreatGb43ee308
import Derived.Test.YtbljhngekhgbbaaGreatG9c20b58a
import Derived.Test.YtbljhngekhgbbaaGreatG6e0496cb
import Derived.Test.YtbljhngekhgbbaaGreatG20caf6cc
import Derived.Test.YtbljhngekhgbbaaGreatGf0b3007f
import Derived.Test.YtbljhngekhgbbaaGreatG0f2df3e7
import Derived.Test.YtbljhngekhgbbaaGreatG7be370e0
import Derived.Test.YtbljhngekhgbbaaGreatG15131814
import Derived.Test.YtbljhngekhgbbaaGreatG01690cca
import Derived.Test.YtbljhngekhgbbaaGreatG0abb3d8d
import Derived.Test.YtbljhngekhgbbaaGreatGe5440ce6
import Derived.Test.YtbljhngekhgbbaaGreatG06d599ac
import Derived.Test.YtbljhngekhgbbaaGreatG2eb54c3b
import Derived.Test.YtbljhngekhgbbaaGreatG7905db0f
import Derived.Test.YtbljhngekhgbbaaGreatGce5f1358
import Derived.Test.YtbljhngekhgbbaaGreatG416aaa5c
import Derived.Test.YtbljhngekhgbbaaGreatG61d85f5b
import Derived.Test.YtbljhngekhgbbaaGreatG402eeab4
import Derived.Test.YtbljhngekhgbbaaGreatG5f3b0fd8
import Derived.Test.YtbljhngekhgbbaaGreatG31ac927f
import Derived.Test.YtbljhngekhgbbaaGreatGad551571
import Derived.Test.YtbljhngekhgbbaaGreatG2b473ce7
import Derived.Test.YtbljhngekhgbbaaGreatG68d54092
import Derived.Test.YtbljhngekhgbbaaGreatGb3f77d99
import Derived.Test.YtbljhngekhgbbaaGreatG93612b59
import Derived.Test.YtbljhngekhgbbaaGreatG339d55ae
import Derived.Test.YtbljhngekhgbbaaGreatG26b4b785
import Derived.Test.YtbljhngekhgbbaaGreatGb89376ef
import Derived.Test.YtbljhngekhgbbaaGreatG852ba3f0
import Derived.Test.YtbljhngekhgbbaaGreatG2fc397cf
import Derived.Test.YtbljhngekhgbbaaGreatG353104c5
import Derived.Test.YtbljhngekhgbbaaGreatG051f91c5
set_option linter.unusedSimpArgs false
set_option linter.unusedVariables false
namespace Go.Proofs.YtbljhngekhgbbaaGreat
open Go.RowKit
set_option linter.unusedVariables false
set_option linter.unusedSimpArgs false
def okPhase (c : MCmd) : Prop := c.phase = 0 ∨ c.phase = 1 ∨ c.phase = 2 ∨ c.phase = 3
theorem decided_same {c : MCmd} (h : okPhase c) : cmd_decided c = ref09_Decided c := by
  rw [decided_eq]
  unfold ref09_Decided
  show decide (2 ≤ c.phase) = (bif c.phase == 2 then true else bif c.phase == 3 then true else false)
  rcases h with h | h | h | h <;> rw [h] <;> rfl
theorem witness_same {c : MCmd} (h : okPhase c) (b : List MOp) (v : MStamp) (f : Bool) (d : List MDep) : cmd_Witness c b v f d = ref09_Witness c b v f d := by
  unfold cmd_Witness ref09_Witness
  rw [decided_same h, len0, len1]
  cases decide (c.2.length = 0) <;> rfl
theorem promise_same {c : MCmd} (h : okPhase c) (b : MStamp) : cmd_Promise c b = ref09_Promise c b := by
  unfold cmd_Promise ref09_Promise
  rw [decided_same h, cmp_less]
theorem bind_same {c : MCmd} (h : okPhase c) (b t : MStamp) : cmd_Bind c b t = ref09_Bind c b t := by
  unfold cmd_Bind ref09_Bind
  rw [promise_same h, cmp_more]
theorem accept_same {c : MCmd} (h : okPhase c) (b : MStamp) (v : MVal) : cmd_Accept c b v = ref09_Accept c b v := by
  unfold cmd_Accept ref09_Accept
  rw [bind_same h]
theorem decide_same {c : MCmd} (h : okPhase c) (b : List MOp) (v : MVal) : cmd_Decide c b v = ref09_Decide c b v := by
  unfold cmd_Decide ref09_Decide
  rw [decided_same h]
theorem does_same {c : MCmd} (h : okPhase c) (a : MAct) : law09_does c a = law09_model c a := by
  unfold law09_does law09_model
  simp only [witness_same h, promise_same h, bind_same h, accept_same h, decide_same h]
  rfl
end Go.Proofs.YtbljhngekhgbbaaGreat
namespace Go.Proofs.YtbljhngekhgbbaaGreat
open Go.RowKit
set_option linter.unusedVariables false
set_option linter.unusedSimpArgs false
theorem CmdP.ok {c : MCmd} (h : CmdP c) : okPhase c := by
  rcases h.ph with ⟨e, _⟩ | ⟨e, _⟩ | ⟨e, _⟩ | ⟨e, _⟩
  · exact .inl e
  · exact .inr (.inl e)
  · exact .inr (.inr (.inl e))
  · exact .inr (.inr (.inr e))
end Go.Proofs.YtbljhngekhgbbaaGreat
namespace Go.Proofs.YtbljhngekhgbbaaGreat
open Go.RowKit
set_option linter.unusedVariables false
set_option linter.unusedSimpArgs false
theorem plays_step {b : List MAct} {a : MStamp} {c : MCmd} {i : Nat} (hb : ∀ y ∈ b, g_act09 y) (hl : b.length ≤ 40) (hc : GC c) (hp : CmdP c) (hid : c.id = a) :
    (∃ c', GC c' ∧ CmdP c' ∧ c'.id = a ∧ i < b.length ∧ law09_CmdPlays_s0 (b, a, c, c, (i : Int), ()) = some (.nxt (b, a, c', c', ((i + 1 : Nat) : Int), ()))) ∨ law09_CmdPlays_s0 (b, a, c, c, (i : Int), ()) = some (.ret (true, ())) ∨ law09_CmdPlays_s0 (b, a, c, c, (i : Int), ()) = some (.brk ()) := by
  by_cases hlt : i < b.length
  · obtain ⟨r, h1, h2⟩ := right_some (gAt hb hlt) a
    simp only [law09_CmdPlays_s0, lt_cast, ix', Int.toNat_natCast, hlt, decide_true, cond_true, h1, Option.isSome_some, Option.getD_some]
    cases r with
    | false => exact .inr (.inl rfl)
    | true =>
      have hg := grows hc hp (gAt hb hlt) (by rw [hid]; exact h2 rfl)
      have hs := ref09_Same_eq (law09_does c (b.getD i default)).1 hg.gc.cmd
      rw [eqB_self] at hs
      refine .inl ⟨_, hg.gc, hg.may, hg.id.trans hid, trivial, ?_⟩
      rw [← does_same hp.ok, hs, wrap_succ (by omega)]
      cases (law09_does c (b.getD i default)).2 <;> rfl
  · refine .inr (.inr ?_)
    simp only [law09_CmdPlays_s0, lt_cast, hlt, decide_false, cond_false]
theorem CmdPlays_pure (a : MStamp) (b : List MAct) (_ : g_stamp a) (hb : b.length ≤ reachBytes ∧ ∀ y ∈ b, g_act09 y) : law09_CmdPlays_o a b = some true := by
  unfold law09_CmdPlays_o
  by_cases hl : (40 : Int) < (b.length : Int)
  · simp only [hl, decide_true, cond_true]
  simp only [hl, decide_false, cond_false]
  cases hi : ref01_Is a with
  | false => rfl
  | true =>
  obtain ⟨n1, n2⟩ := new_may hi
  obtain ⟨x, e1, e2⟩ := lim_inv (step := law09_CmdPlays_s0) (fun n d => ∃ (i : Nat) (c : MCmd), i ≤ b.length ∧ n = b.length - i ∧ d = (b, a, c, c, (i : Int), ()) ∧ GC c ∧ CmdP c ∧ c.id = a) (fun x => x = .inl (true, ()) ∨ x = .inr ()) (by
    rintro n d ⟨i, c, hi, rfl, rfl, hc, hp, hid⟩
    rcases plays_step (i := i) hb.2 (by omega) hc hp hid with ⟨c', k1, k2, k3, k4, k5⟩ | k | k
    · exact .inl ⟨_, b.length - (i + 1), k5, by omega, i + 1, c', by omega, rfl, rfl, k1, k2, k3⟩
    · exact .inr (.inl ⟨_, k, .inl rfl⟩)
    · exact .inr (.inr ⟨_, k, .inr rfl⟩)) _ (b, a, cmd_New a, cmd_New a, (0 : Int), ()) ⟨0, cmd_New a, Nat.zero_le _, rfl, rfl, n1, n2, rfl⟩
  simp only [cond_true]
  show (bif law09_CmdPlays_ok0 (b, a, cmd_New a, cmd_New a, (0 : Int), ()) then (bif law09_CmdPlays_rb0 (b, a, cmd_New a, cmd_New a, (0 : Int), ()) then some ((law09_CmdPlays_r0 (b, a, cmd_New a, cmd_New a, (0 : Int), ())).1) else some (true)) else none) = some true
  unfold law09_CmdPlays_ok0 law09_CmdPlays_rb0 law09_CmdPlays_r0
  rw [e1]
  rcases e2 with rfl | rfl <;> rfl
end Go.Proofs.YtbljhngekhgbbaaGreat
