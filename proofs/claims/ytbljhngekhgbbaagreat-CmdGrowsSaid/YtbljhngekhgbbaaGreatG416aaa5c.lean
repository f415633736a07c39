/- Texts of the proofs of CmdEnds, CmdFirst, CmdGrows, CmdPlays, merged (PNum, P9e, P9f, P9g). -/
import Derived.Laws.BitsAllLaws
import Derived.Test.YtbljhngekhgbbaaGreatGb3b707fa
import Derived.Test.YtbljhngekhgbbaaGreatGb43ee308
import Derived.Test.YtbljhngekhgbbaaGreatG9c20b58a
import Derived.Test.YtbljhngekhgbbaaGreatG6e0496cb
import Derived.Test.YtbljhngekhgbbaaGreatG20caf6cc
import Derived.Test.YtbljhngekhgbbaaGreatGf0b3007f
import Derived.Test.YtbljhngekhgbbaaGreatG0f2df3e7
import Derived.Test.YtbljhngekhgbbaaGreatG7be370e0
import Derived.Test.YtbljhngekhgbbaaGreatG15131814
import Derived.Test.YtbljhngekhgbbaaGreatG01690cca
import Derived.Test.YtbljhngekhgbbaaGreatGe5440ce6
import Derived.Test.YtbljhngekhgbbaaGreatG06d599ac
set_option linter.unusedSimpArgs false
set_option linter.unusedVariables false
namespace Go.Proofs.YtbljhngekhgbbaaGreat
open Go.RowKit Ieee
set_option linter.unusedVariables false
def In64 (a : Int) : Prop := 0 ≤ a ∧ a < 18446744073709551616
end Go.Proofs.YtbljhngekhgbbaaGreat
namespace Go.Proofs.YtbljhngekhgbbaaGreat
open Go.RowKit
set_option linter.unusedVariables false
set_option linter.unusedSimpArgs false
def gOp (o : MOp) : Prop := In64 o.num
/-- may an op be? -/
noncomputable def opOk (o : MOp) : Bool := ref03_Key o.2 && (ref07_Is o.4 && (
  bif o.1 == 1 || o.1 == 5 then o.3.toList == [] && o.4 == 0 else
  bif o.1 == 3 || o.1 == 4 then o.3.toList == [] else
  bif o.1 == 2 then o.4 == 0 && (o.3.toList == [] || (ref03_Key o.3 && !(Op.bytesLess o.3.toList o.2.toList || o.3.toList == o.2.toList))) else
  bif o.1 == 6 then ref03_Key o.3 && !(o.3.toList == o.2.toList) else false))
theorem kind_cases (k : Int) : k = 1 ∨ k = 2 ∨ k = 3 ∨ k = 4 ∨ k = 5 ∨ k = 6 ∨ ((k == 1) = false ∧ (k == 2) = false ∧ (k == 3) = false ∧ (k == 4) = false ∧ (k == 5) = false ∧ (k == 6) = false) := by
  simp only [beq_eq_false_iff_ne]
  omega
theorem check_step {l : List MOp} {i : Nat} (hi : i < l.length) (hl : l.length ≤ 140737488355328) : ref08_Check_s0 (l, (i : Int), ()) = some (bif opOk (l.getD i default) then .nxt (l, ((i + 1 : Nat) : Int), ()) else .ret (80, ())) := by
  simp only [ref08_Check_s0, lt_cast, ix', Int.toNat_natCast, hi, decide_true, cond_true, wrap_succ (show i < 9223372036854775807 by omega)]
  unfold opOk
  generalize l.getD i default = o
  generalize ht : (o.3.toList == []) = t
  generalize hz : (o.4 == 0) = z
  generalize hk : ref03_Key o.2 = k2
  generalize hk3 : ref03_Key o.3 = k3
  generalize hn : ref07_Is o.4 = n
  generalize hle : (Op.bytesLess o.3.toList o.2.toList || o.3.toList == o.2.toList) = le
  generalize heq : (o.3.toList == o.2.toList) = eq
  revert ht hz hk hk3 hn hle heq
  generalize o.1 = k
  intro _ _ _ _ _ _ _
  rcases kind_cases k with h | h | h | h | h | h | ⟨c1, c2, c3, c4, c5, c6⟩
  · subst h; cases t <;> cases z <;> cases k2 <;> cases n <;> rfl
  · subst h; cases t <;> cases z <;> cases k2 <;> cases n <;> cases k3 <;> cases le <;> rfl
  · subst h; cases t <;> cases z <;> cases k2 <;> cases n <;> rfl
  · subst h; cases t <;> cases z <;> cases k2 <;> cases n <;> rfl
  · subst h; cases t <;> cases z <;> cases k2 <;> cases n <;> rfl
  · subst h; cases t <;> cases z <;> cases k2 <;> cases n <;> cases k3 <;> cases eq <;> rfl
  · rw [c1, c2, c3, c4, c5, c6]; cases t <;> cases z <;> cases k2 <;> cases n <;> rfl
/-- what is known of ops, as a number -/
noncomputable def opsC (l : List MOp) : Int := bif decide (8 < l.length) then 6 else bif (List.range l.length).any (fun i => !opOk (l.getD i default)) then 80 else bif decide (l = []) then 80 else 0
theorem ref08_Check_eq {l : List MOp} (hl : l.length ≤ 140737488355328) : ref08_Check_o l = some (opsC l) := by
  have h := lim_search (step := ref08_Check_s0) (fun i => (l, (i : Int), ())) l.length (fun i => !opOk (l.getD i default)) (80, ()) (l, ())
    (fun i hi hb => by rw [check_step hi hl]; rw [Bool.not_eq_false'] at hb; rw [hb]; rfl) (fun i hi hb => by rw [check_step hi hl]; rw [Bool.not_eq_true'] at hb; rw [hb]; rfl) (by simp [ref08_Check_s0])
  have h' : lim ref08_Check_s0 (l, 0, ()) = _ := h
  unfold ref08_Check_o opsC
  have e : ((l.length : Int) == 0) = decide (l = []) := bool_ext (by rw [beq_iff_eq, decide_eq_true_eq, ← List.length_eq_zero_iff]; omega)
  by_cases h8 : 8 < l.length
  · simp only [h8, (show (8 : Int) < (l.length : Int) by omega), decide_true, cond_true]
  · simp only [h8, (show ¬ (8 : Int) < (l.length : Int) by omega), decide_false, cond_false, ref08_Check_ok0, ref08_Check_rb0, ref08_Check_r0, ref08_Check_e0, h']
    cases (List.range l.length).any (fun i => !opOk (l.getD i default)) with
    | true => rfl
    | false =>
      simp only [cond_false, Option.isSome_some, isR, getE, e, cond_true]
      cases decide (l = []) <;> rfl
end Go.Proofs.YtbljhngekhgbbaaGreat
namespace Go.Proofs.YtbljhngekhgbbaaGreat
open Go.RowKit
set_option linter.unusedVariables false
set_option linter.unusedSimpArgs false
noncomputable def leT (a b : ByteArray) : Bool := Op.bytesLess a.toList b.toList || a.toList == b.toList
noncomputable def wrOk (l : List MWrite) (i : Nat) : Bool := ref03_Key (l.getD i default).1 && (ref07_Is (l.getD i default).2 && (!((l.getD i default).3 && (l.getD i default).2 != 0) && (decide (i = 0) || !leT (l.getD i default).1 (l.getD (i - 1) default).1)))
noncomputable def prOk (l : List MPair) (i : Nat) : Bool := ref03_Key (l.getD i default).1 && (ref07_Is (l.getD i default).2 && (decide (i = 0) || !leT (l.getD i default).1 (l.getD (i - 1) default).1))
noncomputable def writesB (l : List MWrite) : Bool := !(List.range l.length).any fun i => !wrOk l i
noncomputable def pairsB (l : List MPair) : Bool := !(List.range l.length).any fun i => !prOk l i
def gPr (l : List MPair) : Prop := l.length ≤ 140737488355328 ∧ ∀ x ∈ l, In64 x.num
def gWr (l : List MWrite) : Prop := l.length ≤ 140737488355328 ∧ ∀ x ∈ l, In64 x.num
end Go.Proofs.YtbljhngekhgbbaaGreat
namespace Go.Proofs.YtbljhngekhgbbaaGreat
open Go.RowKit
set_option linter.unusedVariables false
set_option linter.unusedSimpArgs false
/-- sizes and kinds of all that stands in a command -/
structure GC (c : MCmd) : Prop where
  ops : c.ops.length ≤ 140737488355328 ∧ ∀ o ∈ c.ops, gOp o
  seen : gD c.seen
  deps : gD c.value.deps
  writes : gWr c.writes
  pairs : gPr c.pairs
theorem GC.cmd {c : MCmd} (h : GC c) : GCmd c := ⟨by have := h.ops.1; rw [maxLen_eq]; omega, h.seen.deps, h.deps.deps, by have := h.writes.1; rw [maxLen_eq]; omega, by have := h.pairs.1; rw [maxLen_eq]; omega⟩
theorem len0 {α : Type} (l : List α) : ((l.length : Int) == 0) = decide (l.length = 0) := bool_ext (by rw [beq_iff_eq, decide_eq_true_eq]; omega)
theorem len1 {α : Type} (l : List α) : decide ((0 : Int) < (l.length : Int)) = !decide (l.length = 0) := by
  by_cases h : l.length = 0
  · simp [h]
  · simp [h]; omega
noncomputable def vB (v : MVal) : Bool := bif v.gone then eqB v.tm z0 && decide (v.deps.length = 0) else ref01_Is v.tm && decide (depsC v.deps = 0)
noncomputable def valueB (c : MCmd) : Bool := bif c.has then vB c.value else eqB c.ballot z0 && (!c.value.gone && (eqB c.value.tm z0 && decide (c.value.deps.length = 0)))
theorem nil_ops : opsC [] ≠ 0 := by unfold opsC; simp
theorem ballot_z : ref09_Ballot z0 = true := (ballot_iff z0).2 (.inl rfl)
theorem gD_nil : gD [] := ⟨Nat.zero_le _, fun x h => by simp at h⟩
theorem gWr_nil : gWr [] := ⟨Nat.zero_le _, fun x h => by simp at h⟩
theorem gPr_nil : gPr [] := ⟨Nat.zero_le _, fun x h => by simp at h⟩
end Go.Proofs.YtbljhngekhgbbaaGreat
