/- Texts of the proofs of CmdEnds, CmdGrows, CmdPlays, merged (P9f, P9g). -/
import Derived.Test.YtbljhngekhgbbaaGreatGb3b707fa
import Derived.Test.YtbljhngekhgbbaaGreatGb43ee308
import Derived.Test.YtbljhngekhgbbaaGreatG9c20b58a
import Derived.Test.YtbljhngekhgbbaaGreatG6e0496cb
import Derived.Test.YtbljhngekhgbbaaGreatG20caf6cc
import Derived.Test.YtbljhngekhgbbaaGreatGf0b3007f
import Derived.Test.YtbljhngekhgbbaaGreatG0f2df3e7
import Derived.Test.YtbljhngekhgbbaaGreatG7be370e0
import Derived.Test.YtbljhngekhgbbaaGreatG15131814
import Derived.Test.YtbljhngekhgbbaaGreatG01690cca
import Derived.Test.YtbljhngekhgbbaaGreatG0abb3d8d
import Derived.Test.YtbljhngekhgbbaaGreatGe5440ce6
import Derived.Test.YtbljhngekhgbbaaGreatG06d599ac
import Derived.Test.YtbljhngekhgbbaaGreatGce5f1358
import Derived.Test.YtbljhngekhgbbaaGreatG416aaa5c
set_option linter.unusedSimpArgs false
set_option linter.unusedVariables false
namespace Go.Proofs.YtbljhngekhgbbaaGreat
open Go.RowKit
set_option linter.unusedVariables false
set_option linter.unusedSimpArgs false
theorem ref08_Data_eq {l : List MPair} (hl : l.length ≤ 140737488355328) : ref08_Data_o l = some (pairsB l) := by
  have key : ∀ i, i < l.length → ref08_Data_s0 (l, (i : Int), ()) = some (bif prOk l i then .nxt (l, ((i + 1 : Nat) : Int), ()) else .ret (false, ())) := fun i hi => by
    simp only [ref08_Data_s0, lt_cast, ix', Int.toNat_natCast, hi, decide_true, cond_true]
    unfold prOk leT
    by_cases h0 : i = 0
    · subst h0
      simp only [(show ¬ (0 : Int) < ((0 : Nat) : Int) by omega), decide_false, cond_false, decide_true, Bool.true_or, Bool.and_true, wrap_succ (show 0 < 9223372036854775807 by omega)]
      cases ref03_Key (l.getD 0 default).1 <;> cases ref07_Is (l.getD 0 default).2 <;> rfl
    · obtain ⟨k, rfl⟩ : ∃ k, i = k + 1 := ⟨i - 1, by omega⟩
      have hk : k < l.length := by omega
      simp only [(show (0 : Int) < ((k + 1 : Nat) : Int) by omega), decide_true, cond_true, wrap_pred k (by omega), ix', Int.toNat_natCast, hk, Nat.add_sub_cancel, (show ¬ k + 1 = 0 by omega), decide_false, Bool.false_or, wrap_succ (show k + 1 < 9223372036854775807 by omega)]
      cases ref03_Key (l.getD (k + 1) default).1 <;> cases ref07_Is (l.getD (k + 1) default).2 <;> cases (Op.bytesLess (l.getD (k + 1) default).1.toList (l.getD k default).1.toList || (l.getD (k + 1) default).1.toList == (l.getD k default).1.toList) <;> rfl
  have hs := lim_search (step := ref08_Data_s0) (fun i => (l, (i : Int), ())) l.length (fun i => !prOk l i) (false, ()) ()
    (fun i hi hb => by rw [key i hi]; rw [Bool.not_eq_false'] at hb; rw [hb]; rfl) (fun i hi hb => by rw [key i hi]; rw [Bool.not_eq_true'] at hb; rw [hb]; rfl) (by simp [ref08_Data_s0])
  have hs' : lim ref08_Data_s0 (l, 0, ()) = _ := hs
  unfold ref08_Data_o pairsB
  simp only [ref08_Data_ok0, ref08_Data_rb0, ref08_Data_r0, hs']
  cases (List.range l.length).any (fun i => !prOk l i) <;> rfl
theorem ref09_Writes_eq {l : List MWrite} (hl : l.length ≤ 140737488355328) : ref09_Writes_o l = some (writesB l) := by
  have key : ∀ i, i < l.length → ref09_Writes_s0 (l, (i : Int), ()) = some (bif wrOk l i then .nxt (l, ((i + 1 : Nat) : Int), ()) else .ret (false, ())) := fun i hi => by
    simp only [ref09_Writes_s0, lt_cast, ix', Int.toNat_natCast, hi, decide_true, cond_true]
    unfold wrOk leT
    by_cases h0 : i = 0
    · subst h0
      simp only [(show ¬ (0 : Int) < ((0 : Nat) : Int) by omega), decide_false, cond_false, decide_true, Bool.true_or, Bool.and_true, wrap_succ (show 0 < 9223372036854775807 by omega)]
      cases ref03_Key (l.getD 0 default).1 <;> cases ref07_Is (l.getD 0 default).2 <;> cases (l.getD 0 default).3 <;> cases ((l.getD 0 default).2 != 0) <;> rfl
    · obtain ⟨k, rfl⟩ : ∃ k, i = k + 1 := ⟨i - 1, by omega⟩
      have hk : k < l.length := by omega
      simp only [(show (0 : Int) < ((k + 1 : Nat) : Int) by omega), decide_true, cond_true, wrap_pred k (by omega), ix', Int.toNat_natCast, hk, Nat.add_sub_cancel, (show ¬ k + 1 = 0 by omega), decide_false, Bool.false_or, wrap_succ (show k + 1 < 9223372036854775807 by omega)]
      cases ref03_Key (l.getD (k + 1) default).1 <;> cases ref07_Is (l.getD (k + 1) default).2 <;> cases (l.getD (k + 1) default).3 <;> cases ((l.getD (k + 1) default).2 != 0) <;> cases (Op.bytesLess (l.getD (k + 1) default).1.toList (l.getD k default).1.toList || (l.getD (k + 1) default).1.toList == (l.getD k default).1.toList) <;> rfl
  have hs := lim_search (step := ref09_Writes_s0) (fun i => (l, (i : Int), ())) l.length (fun i => !wrOk l i) (false, ()) ()
    (fun i hi hb => by rw [key i hi]; rw [Bool.not_eq_false'] at hb; rw [hb]; rfl) (fun i hi hb => by rw [key i hi]; rw [Bool.not_eq_true'] at hb; rw [hb]; rfl) (by simp [ref09_Writes_s0])
  have hs' : lim ref09_Writes_s0 (l, 0, ()) = _ := hs
  unfold ref09_Writes_o writesB
  simp only [ref09_Writes_ok0, ref09_Writes_rb0, ref09_Writes_r0, hs']
  cases (List.range l.length).any (fun i => !wrOk l i) <;> rfl
end Go.Proofs.YtbljhngekhgbbaaGreat
namespace Go.Proofs.YtbljhngekhgbbaaGreat
open Go.RowKit
set_option linter.unusedVariables false
set_option linter.unusedSimpArgs false
theorem valB_eq (v : MVal) : (bif v.gone then eqB v.tm z0 && decide (v.deps = []) else ref01_Is v.tm && decide (depsC v.deps = 0)) = vB v := by
  unfold vB
  have : decide (v.deps = []) = decide (v.deps.length = 0) := bool_ext (by rw [decide_eq_true_eq, decide_eq_true_eq, List.length_eq_zero_iff])
  rw [this]
theorem depsC_nil : depsC [] = 0 := rfl
end Go.Proofs.YtbljhngekhgbbaaGreat
