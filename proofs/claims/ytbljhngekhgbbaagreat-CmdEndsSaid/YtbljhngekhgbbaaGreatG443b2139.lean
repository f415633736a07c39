/- Texts of the proofs of CmdEnds, CmdFirst, merged (P9b, P9c). -/
import Derived.Test.YtbljhngekhgbbaaGreatGb3b707fa
import Derived.Test.YtbljhngekhgbbaaGreatGb43ee308
import Derived.Test.YtbljhngekhgbbaaGreatG9c20b58a
import Derived.Test.YtbljhngekhgbbaaGreatG6e0496cb
import Derived.Test.YtbljhngekhgbbaaGreatG20caf6cc
import Derived.Test.YtbljhngekhgbbaaGreatGf0b3007f
import Derived.Test.YtbljhngekhgbbaaGreatG0f2df3e7
import Derived.Test.YtbljhngekhgbbaaGreatG7be370e0
import Derived.Test.YtbljhngekhgbbaaGreatG15131814
import Derived.Test.YtbljhngekhgbbaaGreatG8a797d8d
import Derived.Test.YtbljhngekhgbbaaGreatG01690cca
import Derived.Test.YtbljhngekhgbbaaGreatG08b825e4
import Derived.Test.YtbljhngekhgbbaaGreatGbd7af720
import Derived.Test.YtbljhngekhgbbaaGreatGe5440ce6
import Derived.Test.YtbljhngekhgbbaaGreatG06d599ac
set_option linter.unusedSimpArgs false
set_option linter.unusedVariables false
namespace Go.Proofs.YtbljhngekhgbbaaGreat
open Go.RowKit
set_option linter.unusedVariables false
set_option linter.unusedSimpArgs false
noncomputable def posS (l : List MStamp) (s : MStamp) : Nat := (l.takeWhile fun x => ref01_Less x s).length
theorem posS_le (l : List MStamp) (s : MStamp) : posS l s ≤ l.length := by
  unfold posS
  exact (List.takeWhile_sublist _).length_le
theorem posS_cons (x : MStamp) (l : List MStamp) (s : MStamp) : posS (x :: l) s = if ref01_Less x s = true then posS l s + 1 else 0 := by
  unfold posS
  rw [List.takeWhile_cons]
  split <;> rfl
theorem posS_lt {s : MStamp} : ∀ {l : List MStamp} {i : Nat}, i < posS l s → ref01_Less (l.getD i default) s = true
  | [], i, h => by simp [posS] at h
  | x :: l, i, h => by
    rw [posS_cons] at h
    split at h
    · rename_i hx
      cases i with
      | zero => exact hx
      | succ i => exact posS_lt (l := l) (i := i) (by omega)
    · omega
theorem posS_at {s : MStamp} : ∀ {l : List MStamp}, posS l s < l.length → ref01_Less (l.getD (posS l s) default) s = false
  | [], h => by simp at h
  | x :: l, h => by
    rw [posS_cons] at h ⊢
    split
    · rename_i hx
      rw [if_pos hx] at h
      exact posS_at (l := l) (by simpa using h)
    · rename_i hx
      simpa using hx
noncomputable def addS (l : List MStamp) (s : MStamp) : List MStamp := bif decide (posS l s < l.length) && eqB (l.getD (posS l s) default) s then l else l.take (posS l s) ++ [s] ++ l.drop (posS l s)
theorem add_loop (l : List MStamp) (s : MStamp) (hm : l.length ≤ 1000000000000) : lim ref01_Add_s0 (l, s, 0, ()) = some (.inr (l, s, (posS l s : Int), ())) := by
  have hp := posS_le l s
  have h1 := lim_go (step := ref01_Add_s0) (fun i => (l, s, (i : Int), ())) (posS l s) fun i hi => by
    have hl : i < l.length := by omega
    simp only [ref01_Add_s0, lt_cast, ix', Int.toNat_natCast, hl, decide_true, cond_true, posS_lt hi, wrap_succ (show i < 9223372036854775807 by omega)]
  refine h1.trans (lim_brk ?_)
  by_cases h : posS l s < l.length
  · simp only [ref01_Add_s0, lt_cast, ix', Int.toNat_natCast, h, decide_true, cond_true, posS_at h, cond_false]
  · simp only [ref01_Add_s0, lt_cast, ix', Int.toNat_natCast, h, decide_false, cond_false]
theorem ix'' (i n : Nat) : (decide ((0 : Int) ≤ (i : Int)) && i.ble n) = decide (i ≤ n) := by
  have : decide ((0 : Int) ≤ (i : Int)) = true := by simp
  rw [this, Bool.true_and]
  exact bool_ext (by simp)
theorem ble_true {a b : Nat} (h : a ≤ b) : a.ble b = true := Nat.ble_eq_true_of_le h
theorem beq_true (a : Nat) : a.beq a = true := by simp
theorem ref01_Add_eq (l : List MStamp) (s : MStamp) (hm : l.length ≤ 1000000000000) : ref01_Add_o l s = some (addS l s) := by
  unfold ref01_Add_o
  have hp := posS_le l s
  have e2 : (l.take (posS l s)).length ≤ 1000000000000 := by rw [List.length_take]; omega
  have e4 : (l.drop (posS l s)).length ≤ 1000000000000 := by rw [List.length_drop]; omega
  simp only [ref01_Add_ok0, ref01_Add_rb0, ref01_Add_e0, add_loop l s hm, Option.isSome_some, isR, getE, cond_true, cond_false, lt_cast, ix', Int.toNat_natCast, st_eq]
  have hT : ∀ (X : Option (List MStamp)), X = some (l.take (posS l s) ++ [s] ++ l.drop (posS l s)) → (bif decide (posS l s < l.length) then (bif decide (posS l s < l.length) then (bif eqB (l.getD (posS l s) default) s then some l else X) else none) else X) = some (addS l s) := by
    rintro X rfl
    unfold addS
    by_cases h : posS l s < l.length
    · simp only [h, decide_true, cond_true, Bool.true_and]
      cases eqB (l.getD (posS l s) default) s <;> rfl
    · simp only [h, decide_false, cond_false, Bool.false_and]
  refine hT _ ?_
  simp only [ix'', hp, decide_true, cond_true, List.take_length, beq_true, Bool.true_and, ble_true (Nat.le_refl l.length), Bool.and_true, List.length_append, List.length_singleton,
    ble_true (show (0 + (l.take (posS l s)).length) * 16 ≤ 140737488355328 by omega), ble_true (show 0 + (l.take (posS l s)).length ≤ 9223372036854775807 by omega), ble_true (show ((l.take (posS l s)).length + 1) * 16 ≤ 140737488355328 by omega),
    ble_true (show (l.take (posS l s)).length + 1 ≤ 9223372036854775807 by omega), ble_true (show ((l.take (posS l s)).length + 1 + (l.drop (posS l s)).length) * 16 ≤ 140737488355328 by omega), ble_true (show (l.take (posS l s)).length + 1 + (l.drop (posS l s)).length ≤ 9223372036854775807 by omega)]
theorem addS_len (l : List MStamp) (s : MStamp) : (addS l s).length ≤ l.length + 1 := by
  unfold addS
  cases decide (posS l s < l.length) && eqB (l.getD (posS l s) default) s with
  | true => simp
  | false => simp [List.length_take, List.length_drop]; omega
end Go.Proofs.YtbljhngekhgbbaaGreat
namespace Go.Proofs.YtbljhngekhgbbaaGreat
open Go.RowKit
set_option linter.unusedVariables false
set_option linter.unusedSimpArgs false
theorem depsC_zero {d : List MDep} (h : depsC d = 0) : d.length ≤ 8 ∧ nsum d d.length ≤ 512 ∧ ∀ i, i < d.length → depOk d i = true := by
  unfold depsC at h
  by_cases h8 : 8 < d.length
  · simp [h8] at h
  · by_cases h5 : 512 < nsum d d.length
    · simp [h8, h5] at h
    · simp only [h8, h5, decide_false, cond_false] at h
      refine ⟨by omega, by omega, fun i hi => ?_⟩
      cases hb : depOk d i with
      | true => rfl
      | false =>
        have : (List.range d.length).any (fun i => !depOk d i) = true := List.any_eq_true.2 ⟨i, List.mem_range.2 hi, by rw [hb]; rfl⟩
        rw [this] at h
        simp at h
theorem all_inner {d : List MDep} {i : Nat} (hi : i < d.length) (hn : (d.getD i default).2.length ≤ 1000000) : ∀ (m j : Nat) (out : List MStamp), j + m = (d.getD i default).2.length → out.length + m ≤ 1000000 →
    ∃ out' : List MStamp, lim ref06_All_s0 (d, out, (i : Int), (j : Int), ()) = some (.inr (d, out', (i : Int), ())) ∧ out'.length ≤ out.length + m
  | 0, j, out, hj, ho => ⟨out, lim_brk (by simp only [ref06_All_s0, lt_cast, ix', Int.toNat_natCast, hi, (show ¬ j < (d.getD i default).2.length by omega), decide_true, decide_false, cond_true, cond_false]), Nat.le_refl _⟩
  | m + 1, j, out, hj, ho => by
    have hjl : j < (d.getD i default).2.length := by omega
    have hlen := addS_len out ((d.getD i default).2.getD j default)
    obtain ⟨out', h1, h2⟩ := all_inner hi hn m (j + 1) (addS out ((d.getD i default).2.getD j default)) (by omega) (by omega)
    refine ⟨out', ?_, by omega⟩
    rw [← h1]
    refine lim_nxt ?_
    simp only [ref06_All_s0, lt_cast, ix', Int.toNat_natCast, hi, hjl, decide_true, cond_true, ref01_Add_eq out _ (show out.length ≤ 1000000000000 by omega), Option.isSome_some, Option.getD_some, wrap_succ (show j < 9223372036854775807 by omega)]
theorem nsum_mono (d : List MDep) : ∀ i j, i ≤ j → nsum d i ≤ nsum d j := by
  intro i j h
  induction h with
  | refl => exact Nat.le_refl _
  | step h ih => exact Nat.le_trans ih (Nat.le_add_right _ _)
theorem all_outer {d : List MDep} (hl : d.length ≤ 1000000) (ht : nsum d d.length ≤ 1000000) : ∀ (m i : Nat) (k : Int) (out : List MStamp), i + m = d.length → out.length ≤ nsum d i → ∃ out', lim ref06_All_s1 (d, out, (i : Int), ()) = some (.inr (out', ())) ∧ out'.length ≤ nsum d d.length
  | 0, i, k, out, hi, ho => ⟨out, lim_brk (by simp only [ref06_All_s1, lt_cast, (show ¬ i < d.length by omega), decide_false, cond_false]), by rw [(show i = d.length by omega)] at ho; exact ho⟩
  | m + 1, i, k, out, hi, ho => by
    have hil : i < d.length := by omega
    have h1 := nsum_mono d (i + 1) d.length (by omega)
    have h0 : nsum d (i + 1) = nsum d i + (d.getD i default).2.length := rfl
    obtain ⟨out1, e1, e2⟩ := all_inner hil (by omega) (d.getD i default).2.length 0 out (by omega) (by omega)
    obtain ⟨out', e3, e4⟩ := all_outer hl ht m (i + 1) k out1 (by omega) (by omega)
    refine ⟨out', ?_, e4⟩
    rw [← e3]
    refine lim_nxt ?_
    have e1' : lim ref06_All_s0 (d, out, (i : Int), 0, ()) = some (.inr (d, out1, (i : Int), ())) := e1
    simp only [ref06_All_s1, lt_cast, hil, decide_true, cond_true, ref06_All_ok0, ref06_All_rb0, ref06_All_e0, e1', Option.isSome_some, isR, getE, cond_false, wrap_succ (show i < 9223372036854775807 by omega)]
theorem ref06_All_some {d : List MDep} (hl : d.length ≤ 1000000) (ht : nsum d d.length ≤ 1000000) : ∃ l, ref06_All_o d = some l ∧ l.length ≤ nsum d d.length := by
  obtain ⟨out, e1, e2⟩ := all_outer hl ht d.length 0 0 [] (by omega) (Nat.zero_le _)
  have e1' : lim ref06_All_s1 (d, [], 0, ()) = some (.inr (out, ())) := e1
  refine ⟨out, ?_, e2⟩
  unfold ref06_All_o
  simp only [ref06_All_ok1, ref06_All_rb1, ref06_All_e1, e1', Option.isSome_some, isR, getE, cond_true, cond_false]
end Go.Proofs.YtbljhngekhgbbaaGreat
