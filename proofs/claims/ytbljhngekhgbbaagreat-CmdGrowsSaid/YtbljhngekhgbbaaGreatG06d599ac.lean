/- Texts of the proofs of CmdEnds, CmdFirst, CmdGrows, CmdPlays, merged (P9a, P9b, P9c, P9d). -/
import Derived.Test.YtbljhngekhgbbaaGreatGb3b707fa
import Derived.Test.YtbljhngekhgbbaaGreatGb43ee308
import Derived.Test.YtbljhngekhgbbaaGreatG9c20b58a
import Derived.Test.YtbljhngekhgbbaaGreatG6e0496cb
import Derived.Test.YtbljhngekhgbbaaGreatG20caf6cc
import Derived.Test.YtbljhngekhgbbaaGreatGf0b3007f
import Derived.Test.YtbljhngekhgbbaaGreatG0f2df3e7
import Derived.Test.YtbljhngekhgbbaaGreatG7be370e0
import Derived.Test.YtbljhngekhgbbaaGreatG15131814
import Derived.Test.YtbljhngekhgbbaaGreatG01690cca
import Derived.Test.YtbljhngekhgbbaaGreatGe5440ce6
set_option linter.unusedSimpArgs false
set_option linter.unusedVariables false
namespace Go.Proofs.YtbljhngekhgbbaaGreat
open Go.RowKit
set_option linter.unusedVariables false
set_option linter.unusedSimpArgs false
def gDeps (l : List MDep) : Prop := l.length ≤ maxLen ∧ ∀ x ∈ l, x.ids.length ≤ maxLen
structure GCmd (c : MCmd) : Prop where
  ops : c.ops.length ≤ maxLen
  seen : gDeps c.seen
  deps : gDeps c.value.deps
  writes : c.writes.length ≤ maxLen
  pairs : c.pairs.length ≤ maxLen
theorem maxLen_eq : maxLen = 9223372036854775807 := rfl
theorem getD_mem {α : Type} [Inhabited α] {l : List α} {i : Nat} (h : i < l.length) : l.getD i default ∈ l := by
  rw [List.getD_eq_getElem?_getD, List.getElem?_eq_getElem h]
  exact List.getElem_mem h
theorem ref01_Same_eq {a : List MStamp} (b : List MStamp) (ha : a.length ≤ maxLen) : ref01_Same_o a b = some (eqB a b) := by
  unfold ref01_Same_o
  by_cases hl : a.length = b.length
  · have h := lim_same (step := ref01_Same_s0) hl (fun i hi => by
      have hb : i < b.length := by omega
      rw [maxLen_eq] at ha
      simp only [ref01_Same_s0, lt_cast, ix', Int.toNat_natCast, hi, hb, decide_true, cond_true, st_eq, wrap_succ (show i < 9223372036854775807 by omega)]
      cases eqB (a.getD i default) (b.getD i default) <;> rfl) (by simp [ref01_Same_s0])
    have e : ((a.length : Int) != (b.length : Int)) = false := by simp [hl]
    simp only [ref01_Same_ok0, ref01_Same_rb0, ref01_Same_r0, h, e, cond_false]
    cases eqB a b <;> rfl
  · have e : ((a.length : Int) != (b.length : Int)) = true := by simp; omega
    rw [e, eqB_ne (fun h => hl (by rw [h]))]
    rfl
theorem ref08_Ops_eq {a : List MOp} (b : List MOp) (ha : a.length ≤ maxLen) : ref08_Ops_o a b = some (eqB a b) := by
  unfold ref08_Ops_o
  by_cases hl : a.length = b.length
  · have h := lim_same (step := ref08_Ops_s0) hl (fun i hi => by
      have hb : i < b.length := by omega
      rw [maxLen_eq] at ha
      simp only [ref08_Ops_s0, lt_cast, ix', Int.toNat_natCast, hi, hb, decide_true, cond_true, op_eq, wrap_succ (show i < 9223372036854775807 by omega)]
      cases eqB (a.getD i default) (b.getD i default) <;> rfl) (by simp [ref08_Ops_s0])
    have e : ((a.length : Int) != (b.length : Int)) = false := by simp [hl]
    simp only [ref08_Ops_ok0, ref08_Ops_rb0, ref08_Ops_r0, h, e, cond_false]
    cases eqB a b <;> rfl
  · have e : ((a.length : Int) != (b.length : Int)) = true := by simp; omega
    rw [e, eqB_ne (fun h => hl (by rw [h]))]
    rfl
theorem ref08_WritesSame_eq {a : List MWrite} (b : List MWrite) (ha : a.length ≤ maxLen) : ref08_WritesSame_o a b = some (eqB a b) := by
  unfold ref08_WritesSame_o
  by_cases hl : a.length = b.length
  · have h := lim_same (step := ref08_WritesSame_s0) hl (fun i hi => by
      have hb : i < b.length := by omega
      rw [maxLen_eq] at ha
      simp only [ref08_WritesSame_s0, lt_cast, ix', Int.toNat_natCast, hi, hb, decide_true, cond_true, wr_eq, wrap_succ (show i < 9223372036854775807 by omega)]
      cases eqB (a.getD i default) (b.getD i default) <;> rfl) (by simp [ref08_WritesSame_s0])
    have e : ((a.length : Int) != (b.length : Int)) = false := by simp [hl]
    simp only [ref08_WritesSame_ok0, ref08_WritesSame_rb0, ref08_WritesSame_r0, h, e, cond_false]
    cases eqB a b <;> rfl
  · have e : ((a.length : Int) != (b.length : Int)) = true := by simp; omega
    rw [e, eqB_ne (fun h => hl (by rw [h]))]
    rfl
theorem ref08_Pairs_eq {a : List MPair} (b : List MPair) (ha : a.length ≤ maxLen) : ref08_Pairs_o a b = some (eqB a b) := by
  unfold ref08_Pairs_o
  by_cases hl : a.length = b.length
  · have h := lim_same (step := ref08_Pairs_s0) hl (fun i hi => by
      have hb : i < b.length := by omega
      rw [maxLen_eq] at ha
      simp only [ref08_Pairs_s0, lt_cast, ix', Int.toNat_natCast, hi, hb, decide_true, cond_true, pr_eq, wrap_succ (show i < 9223372036854775807 by omega)]
      cases eqB (a.getD i default) (b.getD i default) <;> rfl) (by simp [ref08_Pairs_s0])
    have e : ((a.length : Int) != (b.length : Int)) = false := by simp [hl]
    simp only [ref08_Pairs_ok0, ref08_Pairs_rb0, ref08_Pairs_r0, h, e, cond_false]
    cases eqB a b <;> rfl
  · have e : ((a.length : Int) != (b.length : Int)) = true := by simp; omega
    rw [e, eqB_ne (fun h => hl (by rw [h]))]
    rfl
theorem dep_eq (a b : MDep) : eqB a b = (a.1 == b.1 && eqB a.2 b.2) := bool_ext (by
  cases a; cases b
  simp [eqB_iff])
theorem ref06_Same_eq {a : List MDep} (b : List MDep) (ha : gDeps a) : ref06_Same_o a b = some (eqB a b) := by
  unfold ref06_Same_o
  by_cases hl : a.length = b.length
  · have h := lim_same (step := ref06_Same_s0) hl (fun i hi => by
      have hb : i < b.length := by omega
      have h1 := ha.1
      rw [maxLen_eq] at h1
      simp only [ref06_Same_s0, lt_cast, ix', Int.toNat_natCast, hi, hb, decide_true, cond_true, ref01_Same_eq _ (ha.2 _ (getD_mem hi)), wrap_succ (show i < 9223372036854775807 by omega), dep_eq, Option.isSome_some, Option.getD_some, bne]
      cases (a.getD i default).1 == (b.getD i default).1 <;> cases eqB (a.getD i default).2 (b.getD i default).2 <;> rfl) (by simp [ref06_Same_s0])
    have e : ((a.length : Int) != (b.length : Int)) = false := by simp [hl]
    simp only [ref06_Same_ok0, ref06_Same_rb0, ref06_Same_r0, h, e, cond_false]
    cases eqB a b <;> rfl
  · have e : ((a.length : Int) != (b.length : Int)) = true := by simp; omega
    rw [e, eqB_ne (fun h => hl (by rw [h]))]
    rfl
theorem val_eq (a b : MVal) : eqB a b = (a.1 == b.1 && (eqB a.2 b.2 && eqB a.3 b.3)) := bool_ext (by
  cases a; cases b
  simp [eqB_iff])
theorem ref09_SameValue_eq {a : MVal} (b : MVal) (ha : gDeps a.deps) : ref09_SameValue_o a b = some (eqB a b) := by
  unfold ref09_SameValue_o
  simp only [ref06_Same_eq _ ha, st_eq, Option.isSome_some, Option.getD_some, cond_true, val_eq]
  cases a.1 <;> cases b.1 <;> cases eqB a.2 b.2 <;> cases eqB a.3 b.3 <;> rfl
theorem cmd_eq (a b : MCmd) : eqB a b = (eqB a.1 b.1 && (eqB a.2 b.2 && (a.3 == b.3 && (eqB a.4 b.4 && (eqB a.5 b.5 && (a.6 == b.6 && (eqB a.7 b.7 && (eqB a.8 b.8 && (a.9 == b.9 && (eqB a.10 b.10 && (eqB a.11 b.11 && (a.12 == b.12 && (eqB a.13 b.13 && eqB a.14 b.14))))))))))))) := bool_ext (by
  cases a; cases b
  simp [eqB_iff])
theorem ref09_Same_eq {a : MCmd} (b : MCmd) (ha : GCmd a) : ref09_Same_o a b = some (eqB a b) := by
  unfold ref09_Same_o
  simp only [ref08_Ops_eq _ ha.ops, ref06_Same_eq _ ha.seen, ref09_SameValue_eq _ ha.deps, ref08_WritesSame_eq _ ha.writes, ref08_Pairs_eq _ ha.pairs, st_eq, Option.isSome_some, Option.getD_some, cond_true, cmd_eq, bne]
  cases eqB a.1 b.1 <;> simp only [Bool.not_false, Bool.not_true, cond_true, cond_false, Bool.false_and, Bool.true_and]
  cases eqB a.2 b.2 <;> simp only [Bool.not_false, Bool.not_true, cond_true, cond_false, Bool.false_and, Bool.true_and]
  cases a.3 == b.3 <;> simp only [Bool.not_false, Bool.not_true, cond_true, cond_false, Bool.false_and, Bool.true_and]
  cases eqB a.4 b.4 <;> simp only [Bool.not_false, Bool.not_true, cond_true, cond_false, Bool.false_and, Bool.true_and]
  cases eqB a.5 b.5 <;> simp only [Bool.not_false, Bool.not_true, cond_true, cond_false, Bool.false_and, Bool.true_and]
  cases a.6 <;> cases b.6 <;> cases eqB a.7 b.7 <;> simp only [Bool.not_false, Bool.not_true, cond_true, cond_false, Bool.false_and, Bool.true_and, beq_self_eq_true, Bool.and_false] <;> try rfl
  all_goals cases eqB a.8 b.8 <;> simp only [Bool.not_false, Bool.not_true, cond_true, cond_false, Bool.false_and, Bool.true_and]
  all_goals cases a.9 <;> cases b.9 <;> cases eqB a.10 b.10 <;> simp only [Bool.not_false, Bool.not_true, cond_true, cond_false, Bool.false_and, Bool.true_and, beq_self_eq_true, Bool.and_false] <;> try rfl
  all_goals cases eqB a.11 b.11 <;> simp only [Bool.not_false, Bool.not_true, cond_true, cond_false, Bool.false_and, Bool.true_and]
  all_goals cases a.12 <;> cases b.12 <;> cases eqB a.13 b.13 <;> cases eqB a.14 b.14 <;> rfl
end Go.Proofs.YtbljhngekhgbbaaGreat
namespace Go.Proofs.YtbljhngekhgbbaaGreat
open Go.RowKit
set_option linter.unusedVariables false
set_option linter.unusedSimpArgs false
def IsS (a : MStamp) : Prop := (1 ≤ a.time ∧ a.time ≤ 1099511627776) ∧ 1 ≤ a.node ∧ a.node ≤ 7
def LtS (a b : MStamp) : Prop := a.time < b.time ∨ (a.time = b.time ∧ a.node < b.node)
def z0 : MStamp := ⟨0, 0⟩
theorem is_iff (a : MStamp) : ref01_Is a = true ↔ IsS a := by
  unfold ref01_Is IsS
  by_cases h1 : 1 ≤ a.time <;> by_cases h2 : a.time ≤ 1099511627776 <;> by_cases h3 : 1 ≤ a.node <;> by_cases h4 : a.node ≤ 7 <;> simp [h1, h2, h3, h4]
theorem less_iff (a b : MStamp) : ref01_Less a b = true ↔ LtS a b := by
  unfold ref01_Less LtS
  by_cases h1 : a.time < b.time
  · simp [h1]
  · by_cases h2 : a.time = b.time <;> by_cases h3 : a.node < b.node <;> simp [h1, h2, h3]
theorem nan64 (a : Int) : cmp_isNaN_int64 a = false := by simp [cmp_isNaN_int64]
theorem nan (a : Int) : cmp_isNaN_int a = false := by simp [cmp_isNaN_int]
theorem cmp64 (a b : Int) : cmp_Compare_int64 a b = if a < b then -1 else if b < a then 1 else 0 := by
  unfold cmp_Compare_int64
  simp only [nan64, cond_false]
  by_cases h : a < b <;> by_cases h2 : b < a <;> simp [h, h2]
theorem cmpi (a b : Int) : cmp_Compare_int a b = if a < b then -1 else if b < a then 1 else 0 := by
  unfold cmp_Compare_int
  simp only [nan, cond_false]
  by_cases h : a < b <;> by_cases h2 : b < a <;> simp [h, h2]
theorem cmpS (a b : MStamp) : (stamp_Compare a b < 0 ↔ LtS a b) ∧ (0 < stamp_Compare a b ↔ LtS b a) ∧ (stamp_Compare a b = 0 ↔ a = b) := by
  obtain ⟨t, n⟩ := a
  obtain ⟨t', n'⟩ := b
  unfold stamp_Compare LtS
  simp only [cmp64, cmpi]
  by_cases h1 : t < t'
  · simp [h1]; omega
  · by_cases h2 : t' < t
    · simp [h1, h2]; omega
    · have : t = t' := by omega
      subst this
      by_cases h3 : n < n'
      · simp [h3]; omega
      · by_cases h4 : n' < n
        · simp [h3, h4]; omega
        · have : n = n' := by omega
          subst this
          simp
theorem cmp_less (a b : MStamp) : decide (stamp_Compare a b < 0) = ref01_Less a b := bool_ext (by rw [decide_eq_true_eq, less_iff]; exact (cmpS a b).1)
theorem zero_eq (a : MStamp) : ref09_zero a = eqB a z0 := by
  unfold ref09_zero
  rw [st_eq a z0 |> fun h => (by exact h : (a.1 == 0 && (a.2 == 0 && true)) = eqB a z0)]
  cases eqB a z0 <;> rfl
theorem ballot_iff (a : MStamp) : ref09_Ballot a = true ↔ a = z0 ∨ IsS a := by
  unfold ref09_Ballot
  rw [zero_eq]
  cases h : eqB a z0 with
  | true => simp [eqB_iff.1 h]
  | false =>
    have := eqB_false.1 h
    rw [← is_iff]
    cases ref01_Is a <;> simp [this]
end Go.Proofs.YtbljhngekhgbbaaGreat
namespace Go.Proofs.YtbljhngekhgbbaaGreat
open Go.RowKit
set_option linter.unusedVariables false
set_option linter.unusedSimpArgs false
/-- lengths of what stands in a list of dependencies -/
def gD (d : List MDep) : Prop := d.length ≤ 140737488355328 ∧ ∀ x ∈ d, x.ids.length ≤ 140737488355328
theorem gD.deps {d : List MDep} (h : gD d) : gDeps d := ⟨by have := h.1; rw [maxLen_eq]; omega, fun x hx => by have := h.2 x hx; rw [maxLen_eq]; omega⟩
theorem gD.at {d : List MDep} (h : gD d) {i : Nat} (hi : i < d.length) : (d.getD i default).ids.length ≤ 140737488355328 := h.2 _ (getD_mem hi)
def wsum (d : List MDep) : Nat → Int
  | 0 => 0
  | i + 1 => IntKind.i64.wrap (wsum d i + (((d.getD i default).2.length : Nat) : Int))
def nsum (d : List MDep) : Nat → Nat
  | 0 => 0
  | i + 1 => nsum d i + (d.getD i default).2.length
theorem nsum_le {d : List MDep} (h : gD d) : ∀ i, i ≤ d.length → nsum d i ≤ i * 140737488355328
  | 0, _ => Nat.zero_le _
  | i + 1, hi => by
    have h1 := nsum_le h i (by omega)
    have h2 := h.at (i := i) (by omega)
    show nsum d i + (d.getD i default).2.length ≤ _
    have : (d.getD i default).2 = (d.getD i default).ids := rfl
    rw [this]
    omega
theorem wsum_eq {d : List MDep} (h : gD d) (h8 : d.length ≤ 8) : ∀ i, i ≤ d.length → wsum d i = (nsum d i : Int)
  | 0, _ => rfl
  | i + 1, hi => by
    have h1 := nsum_le h (i + 1) hi
    have h0 : nsum d (i + 1) = nsum d i + (d.getD i default).2.length := rfl
    show IntKind.i64.wrap _ = _
    rw [wsum_eq h h8 i (by omega), wrap_add (by omega)]
    rfl
theorem check_sum {d : List MDep} (h : gD d) : lim ref06_Check_s0 (d, 0, 0, ()) = some (.inr (d, wsum d d.length, ())) := by
  have hl := h.1
  have := lim_go (step := ref06_Check_s0) (fun i => (d, wsum d i, (i : Int), ())) d.length fun i hi => by
    simp only [ref06_Check_s0, lt_cast, ix', Int.toNat_natCast, hi, decide_true, cond_true, wrap_succ (show i < 9223372036854775807 by omega)]
    rfl
  refine this.trans (lim_brk ?_)
  simp [ref06_Check_s0]
/-- each is a stamp -/
noncomputable def allIs (l : List MStamp) : Bool := !(List.range l.length).any fun j => !ref01_Is (l.getD j default)
theorem check_is {d : List MDep} (h : gD d) {i : Nat} (hi : i < d.length) : lim ref06_Check_s1 (d, (i : Int), 0, ()) = some (bif allIs (d.getD i default).2 then .inr (d, (i : Int), ()) else .inl (60, ())) := by
  have hn : (d.getD i default).2.length ≤ 140737488355328 := h.at hi
  have := lim_search (step := ref06_Check_s1) (fun j => (d, (i : Int), (j : Int), ())) (d.getD i default).2.length (fun j => !ref01_Is ((d.getD i default).2.getD j default)) (60, ()) (d, (i : Int), ())
    (fun j hj hb => by
      rw [Bool.not_eq_false'] at hb
      simp only [ref06_Check_s1, lt_cast, ix', Int.toNat_natCast, hi, hj, hb, decide_true, cond_true, wrap_succ (show j < 9223372036854775807 by omega)])
    (fun j hj hb => by
      rw [Bool.not_eq_true'] at hb
      simp only [ref06_Check_s1, lt_cast, ix', Int.toNat_natCast, hi, hj, hb, decide_true, cond_true, cond_false])
    (by simp only [ref06_Check_s1, lt_cast, ix', Int.toNat_natCast, hi, decide_true, cond_true, Nat.lt_irrefl, decide_false, cond_false])
  refine this.trans ?_
  unfold allIs
  cases (List.range (d.getD i default).2.length).any fun j => !ref01_Is ((d.getD i default).2.getD j default) <;> rfl
/-- does a list of stamps rise? -/
noncomputable def rises (l : List MStamp) : Bool := !(List.range (l.length - 1)).any fun j => !ref01_Less (l.getD j default) (l.getD (j + 1) default)
theorem ref01_List_eq {l : List MStamp} (h : l.length ≤ 140737488355328) : ref01_List_o l = some (rises l) := by
  unfold ref01_List_o
  have hs := lim_search (step := ref01_List_s0) (fun j => (l, ((j + 1 : Nat) : Int), ())) (l.length - 1) (fun j => !ref01_Less (l.getD j default) (l.getD (j + 1) default)) (false, ()) ()
    (fun j hj hb => by
      rw [Bool.not_eq_false'] at hb
      simp only [ref01_List_s0, lt_cast, wrap_pred j (by omega), ix', Int.toNat_natCast, (show j + 1 < l.length by omega), (show j < l.length by omega), hb, decide_true, cond_true, wrap_succ (show j + 1 < 9223372036854775807 by omega)])
    (fun j hj hb => by
      rw [Bool.not_eq_true'] at hb
      simp only [ref01_List_s0, lt_cast, wrap_pred j (by omega), ix', Int.toNat_natCast, (show j + 1 < l.length by omega), (show j < l.length by omega), hb, decide_true, cond_true, cond_false])
    (by simp only [ref01_List_s0, lt_cast, (show ¬ (l.length - 1 + 1 < l.length) by omega), decide_false, cond_false])
  have e : ((0 + 1 : Nat) : Int) = 1 := rfl
  simp only [e] at hs
  unfold rises
  simp only [ref01_List_ok0, ref01_List_rb0, ref01_List_r0, hs]
  cases (List.range (l.length - 1)).any fun j => !ref01_Less (l.getD j default) (l.getD (j + 1) default) <;> rfl
/-- may what stands at i be? -/
noncomputable def depOk (d : List MDep) (i : Nat) : Bool := decide (0 ≤ (d.getD i default).1) && (decide ((d.getD i default).1 < 8) && ((decide (i = 0) || decide ((d.getD (i - 1) default).1 < (d.getD i default).1)) && (rises (d.getD i default).2 && allIs (d.getD i default).2)))
theorem check_all {d : List MDep} (h : gD d) : lim ref06_Check_s2 (d, 0, ()) = some (bif (List.range d.length).any (fun i => !depOk d i) then .inl (60, ()) else .inr ()) := by
  have hl := h.1
  have key : ∀ i, i < d.length → ref06_Check_s2 (d, (i : Int), ()) = some (bif depOk d i then .nxt (d, ((i + 1 : Nat) : Int), ()) else .ret (60, ())) := fun i hi => by
    have hn : (d.getD i default).2.length ≤ 140737488355328 := h.at hi
    simp only [ref06_Check_s2, lt_cast, ix', Int.toNat_natCast, hi, decide_true, cond_true, ref01_List_eq hn, Option.isSome_some, Option.getD_some, ref06_Check_ok1, ref06_Check_rb1, ref06_Check_r1, ref06_Check_e1, check_is h hi]
    unfold depOk
    by_cases c1 : (d.getD i default).1 < 0
    · simp only [c1, decide_true, cond_true, (show ¬ 0 ≤ (d.getD i default).1 by omega), decide_false, Bool.false_and, cond_false]
    simp only [c1, decide_false, cond_false, (show 0 ≤ (d.getD i default).1 by omega), decide_true, Bool.true_and]
    by_cases c2 : 8 ≤ (d.getD i default).1
    · simp only [c2, decide_true, cond_true, (show ¬ (d.getD i default).1 < 8 by omega), decide_false, Bool.false_and, cond_false]
    simp only [c2, decide_false, cond_false, (show (d.getD i default).1 < 8 by omega), decide_true, Bool.true_and]
    by_cases c3 : i = 0
    · subst c3
      simp only [(show ¬ (0 : Int) < ((0 : Nat) : Int) by omega), decide_false, cond_false, decide_true, Bool.true_or, Bool.true_and]
      cases rises (d.getD 0 default).2 <;> cases allIs (d.getD 0 default).2 <;> simp only [Bool.true_and, Bool.false_and, Bool.and_true, Bool.and_false, cond_true, cond_false, Option.isSome_some, isR, getR, getE, wrap_succ (show 0 < 9223372036854775807 by omega)]
    · obtain ⟨k, rfl⟩ : ∃ k, i = k + 1 := ⟨i - 1, by omega⟩
      have hk : k < d.length := by omega
      simp only [(show (0 : Int) < ((k + 1 : Nat) : Int) by omega), decide_true, cond_true, wrap_pred k (by omega), ix', Int.toNat_natCast, hk, Nat.add_sub_cancel, (show ¬ k + 1 = 0 by omega), decide_false, Bool.false_or]
      by_cases c4 : (d.getD (k + 1) default).1 ≤ (d.getD k default).1
      · simp only [c4, decide_true, cond_true, (show ¬ (d.getD k default).1 < (d.getD (k + 1) default).1 by omega), decide_false, Bool.false_and, cond_false]
      · simp only [c4, decide_false, cond_false, (show (d.getD k default).1 < (d.getD (k + 1) default).1 by omega), decide_true, Bool.true_and]
        cases rises (d.getD (k + 1) default).2 <;> cases allIs (d.getD (k + 1) default).2 <;> simp only [Bool.true_and, Bool.false_and, Bool.and_true, Bool.and_false, cond_true, cond_false, Option.isSome_some, isR, getR, getE, wrap_succ (show k + 1 < 9223372036854775807 by omega)]
  exact lim_search (step := ref06_Check_s2) (fun i => (d, (i : Int), ())) d.length (fun i => !depOk d i) (60, ()) ()
    (fun i hi hb => by rw [key i hi]; rw [Bool.not_eq_false'] at hb; rw [hb]; rfl) (fun i hi hb => by rw [key i hi]; rw [Bool.not_eq_true'] at hb; rw [hb]; rfl) (by simp [ref06_Check_s2])
/-- what is known of dependencies, as a number -/
noncomputable def depsC (d : List MDep) : Int := bif decide (8 < d.length) then 6 else bif decide (512 < nsum d d.length) then 6 else bif (List.range d.length).any (fun i => !depOk d i) then 60 else 0
theorem ref06_Check_eq {d : List MDep} (h : gD d) : ref06_Check_o d = some (depsC d) := by
  unfold ref06_Check_o depsC
  simp only [ref06_Check_ok0, ref06_Check_rb0, ref06_Check_e0, check_sum h, Option.isSome_some, isR, getE, cond_true, cond_false, ref06_Check_ok2, ref06_Check_rb2, ref06_Check_r2, check_all h]
  by_cases h8 : 8 < d.length
  · simp only [h8, (show (8 : Int) < (d.length : Int) by omega), decide_true, cond_true]
  · simp only [h8, (show ¬ (8 : Int) < (d.length : Int) by omega), decide_false, cond_false, wsum_eq h (by omega) d.length (Nat.le_refl _)]
    by_cases h5 : 512 < nsum d d.length
    · simp only [h5, (show (512 : Int) < (nsum d d.length : Int) by omega), decide_true, cond_true]
    · simp only [h5, (show ¬ (512 : Int) < (nsum d d.length : Int) by omega), decide_false, cond_false]
      cases (List.range d.length).any (fun i => !depOk d i) <;> rfl
end Go.Proofs.YtbljhngekhgbbaaGreat
namespace Go.Proofs.YtbljhngekhgbbaaGreat
open Go.RowKit
set_option linter.unusedVariables false
set_option linter.unusedSimpArgs false
theorem decided_eq (c : MCmd) : cmd_decided c = decide (2 ≤ c.phase) := by
  unfold cmd_decided
  show (bif decide (2 ≤ c.phase) then _ else _) = _
  cases decide (2 ≤ c.phase) <;> rfl
theorem new_eq (a : MStamp) : cmd_New a = ⟨a, [], 0, z0, z0, false, [], z0, false, z0, ⟨false, z0, []⟩, false, [], []⟩ := rfl
end Go.Proofs.YtbljhngekhgbbaaGreat
