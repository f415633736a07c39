/- Texts of the proofs of CmdEnds, CmdFirst, CmdGrows, merged (PNum, P9e, P9f, P9g). -/
import Derived.Laws.BitsAllLaws
import Derived.Test.YtbljhngekhgbbaaGreatGb3b707fa
import Derived.Test.YtbljhngekhgbbaaGreatGb43ee308
import Derived.Test.YtbljhngekhgbbaaGreatG9c20b58a
import Derived.Test.YtbljhngekhgbbaaGreatG6e0496cb
import Derived.Test.YtbljhngekhgbbaaGreatG20caf6cc
import Derived.Test.YtbljhngekhgbbaaGreatGf0b3007f
import Derived.Test.YtbljhngekhgbbaaGreatG0f2df3e7
import Derived.Test.YtbljhngekhgbbaaGreatG7be370e0
import Derived.Test.YtbljhngekhgbbaaGreatG15131814
import Derived.Test.YtbljhngekhgbbaaGreatG8a797d8d
import Derived.Test.YtbljhngekhgbbaaGreatG01690cca
import Derived.Test.YtbljhngekhgbbaaGreatG08b825e4
import Derived.Test.YtbljhngekhgbbaaGreatGe5440ce6
import Derived.Test.YtbljhngekhgbbaaGreatG06d599ac
import Derived.Test.YtbljhngekhgbbaaGreatGae8351a8
import Derived.Test.YtbljhngekhgbbaaGreatG416aaa5c
set_option linter.unusedSimpArgs false
set_option linter.unusedVariables false
namespace Go.Proofs.YtbljhngekhgbbaaGreat
open Go.RowKit Ieee
open Go.Proofs.YtbljhngekhgbbaaGreat.Nm (rung order_nan_left order_num compare_eq)
set_option linter.unusedVariables false
theorem andNot_sign {a : Int} (h : In64 a) : bits .andNot .u64 a 9223372036854775808 = a % 9223372036854775808 := by
  obtain ⟨h1, h2⟩ := h
  rw [u64_andNot a _ h1 h2 (by decide) (by decide)]
  have e : 18446744073709551615 - (9223372036854775808 : Int).toNat = 2 ^ 63 - 1 := by decide
  rw [e, Nat.and_two_pow_sub_one_eq_mod]
  have e2 : (2 : Nat) ^ 63 = 9223372036854775808 := by decide
  rw [e2]; omega
def rg (a : Int) : Int := a % 9223372036854775808
theorem rung_eq {a : Int} (h : In64 a) : (rung a.toNat : Int) = rg a := by
  obtain ⟨h1, h2⟩ := h
  unfold rung rg; omega
theorem nanP_eq (n : Nat) : ((FloatKind.f64.format.read n).order (FloatKind.f64.format.read n) != some Ordering.eq) = decide (9218868437227405312 < rung n) := by
  show (double.order n n != some .eq) = _
  by_cases h : 9218868437227405312 < rung n
  · rw [order_nan_left n n h]; simp [h]
  · rw [order_num n n (by omega) (by omega), compare_eq rfl]; simp [h]
theorem num_same {a : Int} (h : In64 a) : num_Right a = ref07_Right a := by
  unfold num_Right ref07_Right
  have e : ((FloatKind.f64.format.read a.toNat).order (FloatKind.f64.format.read a.toNat) != some Ordering.eq) = ref07_nan a := by
    rw [nanP_eq]
    have e1 : ref07_nan a = (bif decide (9218868437227405312 < bits .andNot .u64 a 9223372036854775808) then true else false) := rfl
    rw [e1, andNot_sign h]
    have := rung_eq h
    unfold rg at this
    by_cases c : 9218868437227405312 < rung a.toNat
    · have : 9218868437227405312 < a % 9223372036854775808 := by omega
      simp [c, this]
    · have : ¬ 9218868437227405312 < a % 9223372036854775808 := by omega
      simp [c, this]
  rw [e]
theorem num_ok {a : Int} (h : In64 a) : (num_Check a != 0) = !ref07_Is a := by
  unfold num_Check ref07_Is
  rw [num_same h]
  simp only [bne]
  cases ref07_Right a == a <;> rfl
end Go.Proofs.YtbljhngekhgbbaaGreat
namespace Go.Proofs.YtbljhngekhgbbaaGreat
open Go.RowKit
set_option linter.unusedVariables false
set_option linter.unusedSimpArgs false
theorem key_ok (s : ByteArray) : (span_Key s != 0) = !ref03_Key s := by
  unfold span_Key ref03_Key
  have e : (s.toList == []) = decide (s.size = 0) := bool_ext (by
    rw [beq_iff_eq, decide_eq_true_eq, ByteArray.toList_eq]
    constructor
    · intro h; have := congrArg List.length h; rw [Array.length_toList] at this; exact this
    · intro h; exact List.eq_nil_of_length_eq_zero (by rw [Array.length_toList]; exact h))
  rw [e]
  by_cases h0 : s.size = 0
  · simp [h0]
  · by_cases h1 : 16 < s.size
    · simp [h0, (show (16 : Int) < (s.size : Int) by omega), (show ¬ (s.size : Int) ≤ 16 by omega), (show (1 : Int) ≤ (s.size : Int) by omega)]
    · simp [h0, (show ¬ (16 : Int) < (s.size : Int) by omega), (show (s.size : Int) ≤ 16 by omega), (show (1 : Int) ≤ (s.size : Int) by omega)]
theorem key_ok' (s : ByteArray) : (span_Key s == 0) = ref03_Key s := by
  have := key_ok s
  rw [bne] at this
  cases h : span_Key s == 0 <;> cases h2 : ref03_Key s <;> simp_all
theorem txn_is_eq {o : MOp} (h : gOp o) : txn_is o = opOk o := by
  unfold txn_is opOk
  have e : (num_Check o.4 != 0) = !ref07_Is o.4 := num_ok h
  simp only [key_ok, key_ok', e]
  generalize ht : (o.3.toList == []) = t
  generalize hz : (o.4 == 0) = z
  generalize hk : ref03_Key o.2 = k2
  generalize hk3 : ref03_Key o.3 = k3
  generalize hn : ref07_Is o.4 = n
  generalize hle : (Op.bytesLess o.3.toList o.2.toList || o.3.toList == o.2.toList) = le
  generalize heq : (o.3.toList == o.2.toList) = eq
  revert ht hz hk hk3 hn hle heq
  generalize o.1 = k
  intro _ _ _ _ _ _ _
  rcases kind_cases k with h | h | h | h | h | h | ⟨c1, c2, c3, c4, c5, c6⟩
  · subst h; cases t <;> cases z <;> cases k2 <;> cases n <;> rfl
  · subst h; cases t <;> cases z <;> cases k2 <;> cases n <;> cases k3 <;> cases le <;> rfl
  · subst h; cases t <;> cases z <;> cases k2 <;> cases n <;> rfl
  · subst h; cases t <;> cases z <;> cases k2 <;> cases n <;> rfl
  · subst h; cases t <;> cases z <;> cases k2 <;> cases n <;> rfl
  · subst h; cases t <;> cases z <;> cases k2 <;> cases n <;> cases k3 <;> cases eq <;> rfl
  · rw [c1, c2, c3, c4, c5, c6]; cases t <;> cases z <;> cases k2 <;> cases n <;> rfl
theorem txn_Check_eq {l : List MOp} (hl : l.length ≤ 140737488355328) (hg : ∀ o ∈ l, gOp o) : txn_Check_o l = some (opsC l) := by
  have key : ∀ i, i < l.length → slices_IndexFunc_api_Op_api_Op_txn_Check_1_s0 (l, (), (l.length : Int), (i : Int), ()) = some (bif opOk (l.getD i default) then .nxt (l, (), (l.length : Int), ((i + 1 : Nat) : Int), ()) else .ret ((i : Int), ())) := fun i hi => by
    simp only [slices_IndexFunc_api_Op_api_Op_txn_Check_1_s0, lt_cast, ix', Int.toNat_natCast, hi, decide_true, cond_true, txn_Check_1, txn_is_eq (hg _ (getD_mem hi)), wrap_succ (show i < 9223372036854775807 by omega)]
    cases opOk (l.getD i default) <;> rfl
  have h : ∃ x, lim slices_IndexFunc_api_Op_api_Op_txn_Check_1_s0 (l, (), (l.length : Int), 0, ()) = some x ∧ (match x with
      | .inl r => 0 ≤ r.1 ∧ (List.range l.length).any (fun i => !opOk (l.getD i default)) = true
      | .inr _ => (List.range l.length).any (fun i => !opOk (l.getD i default)) = false) := by
    refine lim_inv (fun n d => ∃ i, i ≤ l.length ∧ n = l.length - i ∧ d = (l, (), (l.length : Int), (i : Int), ()) ∧ ∀ j, j < i → opOk (l.getD j default) = true) _ ?_ l.length _ ⟨0, Nat.zero_le _, rfl, rfl, fun j hj => by omega⟩
    rintro n d ⟨i, hi, rfl, rfl, hj⟩
    by_cases hlt : i < l.length
    · cases ho : opOk (l.getD i default) with
      | true =>
        refine .inl ⟨_, l.length - (i + 1), by rw [key i hlt, ho]; rfl, by omega, i + 1, by omega, rfl, rfl, fun j hj' => ?_⟩
        by_cases e : j = i
        · rw [e]; exact ho
        · exact hj j (by omega)
      | false => exact .inr (.inl ⟨_, by rw [key i hlt, ho]; rfl, by simp, List.any_eq_true.2 ⟨i, List.mem_range.2 hlt, by rw [ho]; rfl⟩⟩)
    · have e : i = l.length := by omega
      subst e
      refine .inr (.inr ⟨(), by simp [slices_IndexFunc_api_Op_api_Op_txn_Check_1_s0], ?_⟩)
      rw [Bool.eq_false_iff]
      intro h
      obtain ⟨j, hj', hb⟩ := List.any_eq_true.1 h
      rw [hj j (List.mem_range.1 hj')] at hb
      cases hb
  have hE : slices_ContainsFunc_api_Op_api_Op_txn_Check_1_o l () = some ((List.range l.length).any (fun i => !opOk (l.getD i default))) := by
    obtain ⟨x, h1, h2⟩ := h
    unfold slices_ContainsFunc_api_Op_api_Op_txn_Check_1_o slices_IndexFunc_api_Op_api_Op_txn_Check_1_o
    simp only [slices_IndexFunc_api_Op_api_Op_txn_Check_1_ok0, slices_IndexFunc_api_Op_api_Op_txn_Check_1_rb0, slices_IndexFunc_api_Op_api_Op_txn_Check_1_r0, h1, Option.isSome_some, cond_true]
    cases x with
    | inl r =>
      simp only [isR, getR, cond_true, Option.isSome_some, Option.getD_some, h2.1, h2.2, decide_true]
    | inr r =>
      have h2' : (List.range l.length).any (fun i => !opOk (l.getD i default)) = false := h2
      simp only [isR, cond_false, Option.isSome_some, cond_true, Option.getD_some, h2']
      rfl
  unfold txn_Check_o opsC
  have e : ((l.length : Int) == 0) = decide (l = []) := bool_ext (by rw [beq_iff_eq, decide_eq_true_eq, ← List.length_eq_zero_iff]; omega)
  by_cases h8 : 8 < l.length
  · simp only [h8, (show (8 : Int) < (l.length : Int) by omega), decide_true, cond_true]
  · simp only [h8, (show ¬ (8 : Int) < (l.length : Int) by omega), decide_false, cond_false, e, hE, Option.isSome_some, Option.getD_some, cond_true]
    by_cases hn : l = []
    · subst hn; rfl
    · simp only [hn, decide_false, cond_false]
      cases (List.range l.length).any (fun i => !opOk (l.getD i default)) <;> rfl
end Go.Proofs.YtbljhngekhgbbaaGreat
namespace Go.Proofs.YtbljhngekhgbbaaGreat
open Go.RowKit
set_option linter.unusedVariables false
set_option linter.unusedSimpArgs false
theorem lt_not (a b : Int) : decide (a < b) = !decide (b ≤ a) := by
  by_cases h : a < b
  · simp [h]
  · simp [h]; omega
theorem bool_or {x y z : Bool} (h : x = true ↔ y = true ∨ z = true) : x = !(!y && !z) := by
  cases x <;> cases y <;> cases z <;> simp_all
theorem and_more {k n c o : Bool} (h : (k && (n && o)) = false) : (k && (n && (c && o))) = false := by
  cases k <;> cases n <;> cases c <;> cases o <;> simp_all
theorem none_eq (a : MStamp) : lay_None a = eqB a z0 := by
  unfold lay_None
  have e : (a.1 == 0 && (a.2 == 0 && true)) = eqB a z0 := st_eq a z0
  rw [e]
  cases eqB a z0 <;> rfl
theorem stamp_zero (a : MStamp) : (stamp_Check a == 0) = ref01_Is a := by
  have e1 : decide (a.1 < 1) = !decide (1 ≤ a.1) := lt_not _ _
  have e2 : decide (1099511627776 < a.1) = !decide (a.1 ≤ 1099511627776) := lt_not _ _
  unfold stamp_Check stamp_isNode ref01_Is
  rw [e1, e2]
  cases decide (1 ≤ a.1) <;> cases decide (a.1 ≤ 1099511627776) <;> cases decide (1 ≤ a.2) <;> cases decide (a.2 ≤ 7) <;> rfl
theorem stamp_bad (a : MStamp) : (stamp_Check a != 0) = !ref01_Is a := by rw [bne, stamp_zero]
theorem isBallot_eq (a : MStamp) : lay_IsBallot a = ref09_Ballot a := by
  unfold lay_IsBallot ref09_Ballot
  rw [none_eq, stamp_zero, zero_eq]
theorem cmp_ge (a b : MStamp) : decide (0 ≤ stamp_Compare a b) = !ref01_Less a b := by
  rw [← cmp_less]
  by_cases h : 0 ≤ stamp_Compare a b
  · simp [h]
  · simp [h]; omega
noncomputable def idBad (l : List MStamp) (j : Nat) : Bool := !(ref01_Is (l.getD j default) && (decide (j = 0) || ref01_Less (l.getD (j - 1) default) (l.getD j default)))
theorem idBad_any (l : List MStamp) : (List.range l.length).any (idBad l) = !(rises l && allIs l) := by
  unfold rises allIs
  have key : (List.range l.length).any (idBad l) = true ↔ ((List.range (l.length - 1)).any fun j => !ref01_Less (l.getD j default) (l.getD (j + 1) default)) = true ∨ ((List.range l.length).any fun j => !ref01_Is (l.getD j default)) = true := by
    simp only [List.any_eq_true, List.mem_range]
    constructor
    · rintro ⟨j, hj, hb⟩
      unfold idBad at hb
      cases h1 : ref01_Is (l.getD j default) with
      | false => exact .inr ⟨j, hj, by rw [h1]; rfl⟩
      | true =>
        rw [h1, Bool.true_and] at hb
        by_cases h0 : j = 0
        · simp [h0] at hb
        · refine .inl ⟨j - 1, by omega, ?_⟩
          rw [show j - 1 + 1 = j by omega]
          simpa [h0] using hb
    · rintro (⟨j, hj, hb⟩ | ⟨j, hj, hb⟩)
      · refine ⟨j + 1, by omega, ?_⟩
        unfold idBad
        rw [Bool.not_eq_true'] at hb
        rw [Nat.add_sub_cancel, hb]
        simp
      · refine ⟨j, hj, ?_⟩
        unfold idBad
        rw [Bool.not_eq_true'] at hb
        rw [hb]; rfl
  exact bool_or key
theorem deps_sum {d : List MDep} (h : gD d) : lim deps_Check_s0 (d, 0, d, (d.length : Int), 0, ()) = some (.inr (d, wsum d d.length, ())) := by
  have hl := h.1
  have := lim_go (step := deps_Check_s0) (fun i => (d, wsum d i, d, (d.length : Int), (i : Int), ())) d.length fun i hi => by
    simp only [deps_Check_s0, lt_cast, ix', Int.toNat_natCast, hi, decide_true, cond_true, wrap_succ (show i < 9223372036854775807 by omega)]
    rfl
  refine this.trans (lim_brk ?_)
  simp [deps_Check_s0]
theorem deps_ids {l : List MStamp} (hl : l.length ≤ 140737488355328) (a : Int) (x : MDep) (hx : x.2 = l) (d : List MDep) (n i : Int) : lim deps_Check_s1 (a, x, d, n, i, l, (l.length : Int), 0, ()) = some (bif rises l && allIs l then .inr (a, d, n, i, ()) else .inl (60, ())) := by
  have key : ∀ j, j < l.length → deps_Check_s1 (a, x, d, n, i, l, (l.length : Int), (j : Int), ()) = some (bif idBad l j then .ret (60, ()) else .nxt (a, x, d, n, i, l, (l.length : Int), ((j + 1 : Nat) : Int), ())) := fun j hj => by
    simp only [deps_Check_s1, lt_cast, ix', Int.toNat_natCast, hj, decide_true, cond_true, stamp_bad, hx]
    unfold idBad
    cases ref01_Is (l.getD j default) with
    | false => rfl
    | true =>
      simp only [Bool.not_true, cond_false, Bool.true_and]
      by_cases h0 : j = 0
      · subst h0
        simp only [(show ¬ (0 : Int) < ((0 : Nat) : Int) by omega), decide_false, cond_false, decide_true, Bool.true_or, Bool.not_true, wrap_succ (show 0 < 9223372036854775807 by omega)]
      · obtain ⟨k, rfl⟩ : ∃ k, j = k + 1 := ⟨j - 1, by omega⟩
        have hk : k < l.length := by omega
        simp only [(show (0 : Int) < ((k + 1 : Nat) : Int) by omega), decide_true, cond_true, wrap_pred k (by omega), ix', Int.toNat_natCast, hk, Nat.add_sub_cancel, (show ¬ k + 1 = 0 by omega), decide_false, Bool.false_or, cmp_ge, wrap_succ (show k + 1 < 9223372036854775807 by omega)]
        cases ref01_Less (l.getD k default) (l.getD (k + 1) default) <;> rfl
  have := lim_search (step := deps_Check_s1) (fun j => (a, x, d, n, i, l, (l.length : Int), (j : Int), ())) l.length (idBad l) (60, ()) (a, d, n, i, ())
    (fun j hj hb => by rw [key j hj, hb]; rfl) (fun j hj hb => by rw [key j hj, hb]; rfl) (by simp [deps_Check_s1])
  refine this.trans ?_
  rw [idBad_any]
  cases rises l && allIs l <;> rfl
noncomputable def lastS (d : List MDep) (i : Nat) : Int := if i = 0 then -1 else (d.getD (i - 1) default).1
noncomputable def depOk' (d : List MDep) (i : Nat) : Bool := !decide ((d.getD i default).1 ≤ lastS d i) && (decide ((d.getD i default).1 < 8) && (rises (d.getD i default).2 && allIs (d.getD i default).2))
theorem depOk_any (d : List MDep) : (List.range d.length).any (fun i => !depOk' d i) = (List.range d.length).any (fun i => !depOk d i) := bool_ext (by
  have neg : ∀ i, i < d.length → (d.getD i default).1 < 0 → ∃ j, j < d.length ∧ depOk' d j = false := by
    intro i
    induction i with
    | zero =>
      intro hi hneg
      refine ⟨0, hi, ?_⟩
      unfold depOk' lastS
      have : decide ((d.getD 0 default).1 ≤ if 0 = 0 then -1 else (d.getD (0 - 1) default).1) = true := by rw [if_pos rfl]; exact decide_eq_true (by omega)
      rw [this]; rfl
    | succ i ih =>
      intro hi hneg
      by_cases h : (d.getD (i + 1) default).1 ≤ (d.getD i default).1
      · refine ⟨i + 1, hi, ?_⟩
        unfold depOk' lastS
        have : decide ((d.getD (i + 1) default).1 ≤ if i + 1 = 0 then -1 else (d.getD (i + 1 - 1) default).1) = true := by simpa using h
        rw [this]; rfl
      · exact ih (by omega) (by omega)
  simp only [List.any_eq_true, List.mem_range, Bool.not_eq_true']
  constructor
  · rintro ⟨i, hi, hb⟩
    refine ⟨i, hi, ?_⟩
    rw [Bool.eq_false_iff] at hb ⊢
    intro hc
    apply hb
    unfold depOk at hc
    unfold depOk' lastS
    simp only [Bool.and_eq_true, Bool.or_eq_true, decide_eq_true_eq, Bool.not_eq_true', decide_eq_false_iff_not] at hc ⊢
    obtain ⟨c1, c2, c3, c4, c5⟩ := hc
    refine ⟨?_, c2, c4, c5⟩
    split
    · omega
    · rcases c3 with c3 | c3
      · contradiction
      · omega
  · rintro ⟨i, hi, hb⟩
    by_cases hneg : (d.getD i default).1 < 0
    · exact neg i hi hneg
    · refine ⟨i, hi, ?_⟩
      rw [Bool.eq_false_iff] at hb ⊢
      intro hc
      apply hb
      unfold depOk' lastS at hc
      unfold depOk
      simp only [Bool.and_eq_true, Bool.or_eq_true, decide_eq_true_eq, Bool.not_eq_true', decide_eq_false_iff_not] at hc ⊢
      obtain ⟨c1, c2, c4, c5⟩ := hc
      refine ⟨by omega, c2, ?_, c4, c5⟩
      by_cases h0 : i = 0
      · exact .inl h0
      · rw [if_neg h0] at c1
        exact .inr (by omega))
theorem deps_Check_eq {d : List MDep} (h : gD d) : deps_Check_o d = some (depsC d) := by
  have hl := h.1
  have key : ∀ i, i < d.length → deps_Check_s2 (lastS d i, d, (d.length : Int), (i : Int), ()) = some (bif depOk' d i then .nxt (lastS d (i + 1), d, (d.length : Int), ((i + 1 : Nat) : Int), ()) else .ret (60, ())) := fun i hi => by
    have hn : (d.getD i default).2.length ≤ 140737488355328 := h.at hi
    simp only [deps_Check_s2, lt_cast, ix', Int.toNat_natCast, hi, decide_true, cond_true, deps_Check_ok1, deps_Check_rb1, deps_Check_r1, deps_Check_e1, deps_ids hn _ _ rfl]
    unfold depOk'
    have el : lastS d (i + 1) = (d.getD i default).1 := by simp [lastS]
    rw [el]
    by_cases c1 : (d.getD i default).1 ≤ lastS d i
    · simp only [c1, decide_true, cond_true, Bool.not_true, Bool.false_and, cond_false]
    simp only [c1, decide_false, cond_false, Bool.not_false, Bool.true_and]
    by_cases c2 : 8 ≤ (d.getD i default).1
    · simp only [c2, decide_true, cond_true, (show ¬ (d.getD i default).1 < 8 by omega), decide_false, Bool.false_and, cond_false]
    simp only [c2, decide_false, cond_false, (show (d.getD i default).1 < 8 by omega), decide_true, Bool.true_and]
    cases rises (d.getD i default).2 && allIs (d.getD i default).2 <;> simp only [cond_true, cond_false, Option.isSome_some, isR, getR, getE, wrap_succ (show i < 9223372036854775807 by omega)]
  have hs := lim_search (step := deps_Check_s2) (fun i => (lastS d i, d, (d.length : Int), (i : Int), ())) d.length (fun i => !depOk' d i) (60, ()) ()
    (fun i hi hb => by rw [key i hi]; rw [Bool.not_eq_false'] at hb; rw [hb]; rfl) (fun i hi hb => by rw [key i hi]; rw [Bool.not_eq_true'] at hb; rw [hb]; rfl) (by simp [deps_Check_s2])
  have hs' : lim deps_Check_s2 (-1, d, (d.length : Int), 0, ()) = _ := hs
  rw [depOk_any] at hs'
  unfold deps_Check_o depsC
  simp only [deps_Check_ok0, deps_Check_rb0, deps_Check_e0, deps_sum h, Option.isSome_some, isR, getE, cond_true, cond_false, deps_Check_ok2, deps_Check_rb2, deps_Check_r2, hs']
  by_cases h8 : 8 < d.length
  · simp only [h8, (show (8 : Int) < (d.length : Int) by omega), decide_true, cond_true]
  · simp only [h8, (show ¬ (8 : Int) < (d.length : Int) by omega), decide_false, cond_false, wsum_eq h (by omega) d.length (Nat.le_refl _)]
    by_cases h5 : 512 < nsum d d.length
    · simp only [h5, (show (512 : Int) < (nsum d d.length : Int) by omega), decide_true, cond_true]
    · simp only [h5, (show ¬ (512 : Int) < (nsum d d.length : Int) by omega), decide_false, cond_false]
      cases (List.range d.length).any (fun i => !depOk d i) <;> rfl
theorem leT_nil {a : ByteArray} (h : ref03_Key a = true) : (Op.bytesLess a.toList (⟨⟨[]⟩⟩ : ByteArray).toList || a.toList == (⟨⟨[]⟩⟩ : ByteArray).toList) = false := by
  have e : (⟨⟨[]⟩⟩ : ByteArray).toList = [] := by rw [ByteArray.toList_eq]
  rw [e]
  have hs : 1 ≤ a.size := by
    unfold ref03_Key at h
    by_cases c : 1 ≤ (a.size : Int)
    · omega
    · simp [c] at h
  have hne : a.toList ≠ [] := fun h0 => by
    rw [ByteArray.toList_eq] at h0
    have := congrArg List.length h0
    rw [Array.length_toList] at this
    have : a.size = 0 := this
    omega
  have e2 : Op.bytesLess a.toList [] = false := by cases a.toList <;> rfl
  rw [e2, Bool.false_or]
  simpa using hne
noncomputable def lastT {α : Type} [Inhabited α] (f : α → ByteArray) (l : List α) (i : Nat) : ByteArray := if i = 0 then ⟨⟨[]⟩⟩ else f (l.getD (i - 1) default)
theorem lay_IsPairs_eq {l : List MPair} (h : gPr l) : lay_IsPairs_o l = some (pairsB l) := by
  have hl := h.1
  have key : ∀ i, i < l.length → lay_rising_api_Pair_lay_IsPairs_1_lay_IsPairs_2_s0 ((), (), lastT MPair.key l i, l, (l.length : Int), (i : Int), ()) = some (bif prOk l i then .nxt ((), (), lastT MPair.key l (i + 1), l, (l.length : Int), ((i + 1 : Nat) : Int), ()) else .ret (false, ())) := fun i hi => by
    have hn : (num_Check (l.getD i default).2 != 0) = !ref07_Is (l.getD i default).2 := num_ok (h.2 _ (getD_mem hi))
    have el : lastT MPair.key l (i + 1) = (l.getD i default).1 := by simp [lastT]
    simp only [lay_rising_api_Pair_lay_IsPairs_1_lay_IsPairs_2_s0, lt_cast, ix', Int.toNat_natCast, hi, decide_true, cond_true, key_ok, hn, el, wrap_succ (show i < 9223372036854775807 by omega)]
    unfold prOk leT
    cases hk : ref03_Key (l.getD i default).1 with
    | false => rfl
    | true =>
      by_cases h0 : i = 0
      · subst h0
        have := leT_nil hk
        have e0 : lastT MPair.key l 0 = (⟨⟨[]⟩⟩ : ByteArray) := rfl
        simp only [e0, this, Bool.not_true, cond_false, decide_true, Bool.true_or, Bool.and_true, Bool.true_and]
        cases ref07_Is (l.getD 0 default).2 <;> rfl
      · have e0 : lastT MPair.key l i = (l.getD (i - 1) default).1 := by simp [lastT, h0]
        simp only [e0, h0, Bool.not_true, cond_false, decide_false, Bool.false_or, Bool.true_and]
        cases ref07_Is (l.getD i default).2 <;> cases (Op.bytesLess (l.getD i default).1.toList (l.getD (i - 1) default).1.toList || (l.getD i default).1.toList == (l.getD (i - 1) default).1.toList) <;> rfl
  have hs := lim_search (step := lay_rising_api_Pair_lay_IsPairs_1_lay_IsPairs_2_s0) (fun i => ((), (), lastT MPair.key l i, l, (l.length : Int), (i : Int), ())) l.length (fun i => !prOk l i) (false, ()) ()
    (fun i hi hb => by rw [key i hi]; rw [Bool.not_eq_false'] at hb; rw [hb]; rfl) (fun i hi hb => by rw [key i hi]; rw [Bool.not_eq_true'] at hb; rw [hb]; rfl) (by simp [lay_rising_api_Pair_lay_IsPairs_1_lay_IsPairs_2_s0])
  have hs' : lim lay_rising_api_Pair_lay_IsPairs_1_lay_IsPairs_2_s0 ((), (), { data := { toList := [] } }, l, (l.length : Int), 0, ()) = _ := hs
  unfold lay_IsPairs_o lay_rising_api_Pair_lay_IsPairs_1_lay_IsPairs_2_o pairsB
  simp only [lay_rising_api_Pair_lay_IsPairs_1_lay_IsPairs_2_ok0, lay_rising_api_Pair_lay_IsPairs_1_lay_IsPairs_2_rb0, lay_rising_api_Pair_lay_IsPairs_1_lay_IsPairs_2_r0, hs']
  cases (List.range l.length).any (fun i => !prOk l i) <;> rfl
noncomputable def wrOk1 (l : List MWrite) (i : Nat) : Bool := ref03_Key (l.getD i default).1 && (ref07_Is (l.getD i default).2 && (decide (i = 0) || !leT (l.getD i default).1 (l.getD (i - 1) default).1))
theorem lay_IsWrites_eq {l : List MWrite} (h : gWr l) : lay_IsWrites_o l = some (writesB l) := by
  have hl := h.1
  have key : ∀ i, i < l.length → lay_rising_api_Write_lay_IsWrites_1_lay_IsWrites_2_s0 ((), (), lastT MWrite.key l i, l, (l.length : Int), (i : Int), ()) = some (bif wrOk1 l i then .nxt ((), (), lastT MWrite.key l (i + 1), l, (l.length : Int), ((i + 1 : Nat) : Int), ()) else .ret (false, ())) := fun i hi => by
    have hn : (num_Check (l.getD i default).2 != 0) = !ref07_Is (l.getD i default).2 := num_ok (h.2 _ (getD_mem hi))
    have el : lastT MWrite.key l (i + 1) = (l.getD i default).1 := by simp [lastT]
    simp only [lay_rising_api_Write_lay_IsWrites_1_lay_IsWrites_2_s0, lt_cast, ix', Int.toNat_natCast, hi, decide_true, cond_true, key_ok, hn, el, wrap_succ (show i < 9223372036854775807 by omega)]
    unfold wrOk1 leT
    cases hk : ref03_Key (l.getD i default).1 with
    | false => rfl
    | true =>
      by_cases h0 : i = 0
      · subst h0
        have := leT_nil hk
        have e0 : lastT MWrite.key l 0 = (⟨⟨[]⟩⟩ : ByteArray) := rfl
        simp only [e0, this, Bool.not_true, cond_false, decide_true, Bool.true_or, Bool.and_true, Bool.true_and]
        cases ref07_Is (l.getD 0 default).2 <;> rfl
      · have e0 : lastT MWrite.key l i = (l.getD (i - 1) default).1 := by simp [lastT, h0]
        simp only [e0, h0, Bool.not_true, cond_false, decide_false, Bool.false_or, Bool.true_and]
        cases ref07_Is (l.getD i default).2 <;> cases (Op.bytesLess (l.getD i default).1.toList (l.getD (i - 1) default).1.toList || (l.getD i default).1.toList == (l.getD (i - 1) default).1.toList) <;> rfl
  have hs := lim_search (step := lay_rising_api_Write_lay_IsWrites_1_lay_IsWrites_2_s0) (fun i => ((), (), lastT MWrite.key l i, l, (l.length : Int), (i : Int), ())) l.length (fun i => !wrOk1 l i) (false, ()) ()
    (fun i hi hb => by rw [key i hi]; rw [Bool.not_eq_false'] at hb; rw [hb]; rfl) (fun i hi hb => by rw [key i hi]; rw [Bool.not_eq_true'] at hb; rw [hb]; rfl) (by simp [lay_rising_api_Write_lay_IsWrites_1_lay_IsWrites_2_s0])
  have hs' : lim lay_rising_api_Write_lay_IsWrites_1_lay_IsWrites_2_s0 ((), (), { data := { toList := [] } }, l, (l.length : Int), 0, ()) = _ := hs
  have key3 : ∀ i, i < l.length → slices_IndexFunc_api_Write_api_Write_lay_IsWrites_3_s0 (l, (), (l.length : Int), (i : Int), ()) = some (bif ((l.getD i default).3 && (l.getD i default).2 != 0) then .ret ((i : Int), ()) else .nxt (l, (), (l.length : Int), ((i + 1 : Nat) : Int), ())) := fun i hi => by
    simp only [slices_IndexFunc_api_Write_api_Write_lay_IsWrites_3_s0, lt_cast, ix', Int.toNat_natCast, hi, decide_true, cond_true, lay_IsWrites_3, wrap_succ (show i < 9223372036854775807 by omega)]
    cases (l.getD i default).3 <;> cases ((l.getD i default).2 != 0) <;> rfl
  have h3 : ∃ x, lim slices_IndexFunc_api_Write_api_Write_lay_IsWrites_3_s0 (l, (), (l.length : Int), 0, ()) = some x ∧ (match x with
      | .inl r => 0 ≤ r.1 ∧ (List.range l.length).any (fun i => (l.getD i default).3 && (l.getD i default).2 != 0) = true
      | .inr _ => (List.range l.length).any (fun i => (l.getD i default).3 && (l.getD i default).2 != 0) = false) := by
    refine lim_inv (fun n d => ∃ i, i ≤ l.length ∧ n = l.length - i ∧ d = (l, (), (l.length : Int), (i : Int), ()) ∧ ∀ j, j < i → ((l.getD j default).3 && (l.getD j default).2 != 0) = false) _ ?_ l.length _ ⟨0, Nat.zero_le _, rfl, rfl, fun j hj => by omega⟩
    rintro n d ⟨i, hi, rfl, rfl, hj⟩
    by_cases hlt : i < l.length
    · cases ho : ((l.getD i default).3 && (l.getD i default).2 != 0) with
      | false =>
        refine .inl ⟨_, l.length - (i + 1), by rw [key3 i hlt, ho]; rfl, by omega, i + 1, by omega, rfl, rfl, fun j hj' => ?_⟩
        by_cases e : j = i
        · rw [e]; exact ho
        · exact hj j (by omega)
      | true => exact .inr (.inl ⟨_, by rw [key3 i hlt, ho]; rfl, by simp, List.any_eq_true.2 ⟨i, List.mem_range.2 hlt, ho⟩⟩)
    · have e : i = l.length := by omega
      subst e
      refine .inr (.inr ⟨(), by simp [slices_IndexFunc_api_Write_api_Write_lay_IsWrites_3_s0], ?_⟩)
      rw [Bool.eq_false_iff]
      intro h
      obtain ⟨j, hj', hb⟩ := List.any_eq_true.1 h
      rw [hj j (List.mem_range.1 hj')] at hb
      cases hb
  obtain ⟨x, h4, h5⟩ := h3
  have hC : slices_ContainsFunc_api_Write_api_Write_lay_IsWrites_3_o l () = some ((List.range l.length).any (fun i => (l.getD i default).3 && (l.getD i default).2 != 0)) := by
    unfold slices_ContainsFunc_api_Write_api_Write_lay_IsWrites_3_o slices_IndexFunc_api_Write_api_Write_lay_IsWrites_3_o
    simp only [slices_IndexFunc_api_Write_api_Write_lay_IsWrites_3_ok0, slices_IndexFunc_api_Write_api_Write_lay_IsWrites_3_rb0, slices_IndexFunc_api_Write_api_Write_lay_IsWrites_3_r0, h4, Option.isSome_some, cond_true]
    cases x with
    | inl r => simp only [isR, getR, cond_true, Option.isSome_some, Option.getD_some, h5.1, h5.2, decide_true]
    | inr r =>
      have h5' : (List.range l.length).any (fun i => (l.getD i default).3 && (l.getD i default).2 != 0) = false := h5
      simp only [isR, cond_false, Option.isSome_some, cond_true, Option.getD_some, h5']
      rfl
  have hR : lay_rising_api_Write_lay_IsWrites_1_lay_IsWrites_2_o l () () = some (!(List.range l.length).any (fun i => !wrOk1 l i)) := by
    unfold lay_rising_api_Write_lay_IsWrites_1_lay_IsWrites_2_o
    simp only [lay_rising_api_Write_lay_IsWrites_1_lay_IsWrites_2_ok0, lay_rising_api_Write_lay_IsWrites_1_lay_IsWrites_2_rb0, lay_rising_api_Write_lay_IsWrites_1_lay_IsWrites_2_r0, hs']
    cases (List.range l.length).any (fun i => !wrOk1 l i) <;> rfl
  have split : writesB l = (!(List.range l.length).any (fun i => !wrOk1 l i) && !(List.range l.length).any (fun i => (l.getD i default).3 && (l.getD i default).2 != 0)) := by
    unfold writesB
    have key : (List.range l.length).any (fun i => !wrOk l i) = true ↔ (List.range l.length).any (fun i => !wrOk1 l i) = true ∨ (List.range l.length).any (fun i => (l.getD i default).3 && (l.getD i default).2 != 0) = true := by
      simp only [List.any_eq_true, List.mem_range]
      constructor
      · rintro ⟨i, hi, hb⟩
        cases c : ((l.getD i default).3 && (l.getD i default).2 != 0) with
        | true => exact .inr ⟨i, hi, c⟩
        | false =>
          refine .inl ⟨i, hi, ?_⟩
          unfold wrOk at hb
          rw [c] at hb
          unfold wrOk1
          simpa using hb
      · rintro (⟨i, hi, hb⟩ | ⟨i, hi, hb⟩)
        · refine ⟨i, hi, ?_⟩
          rw [Bool.not_eq_true'] at hb ⊢
          exact and_more hb
        · refine ⟨i, hi, ?_⟩
          unfold wrOk
          rw [hb]
          simp
    have := bool_or key
    rw [this, Bool.not_not]
  unfold lay_IsWrites_o
  rw [hR, hC, split]
  simp only [Option.isSome_some, Option.getD_some, cond_true]
  cases (List.range l.length).any (fun i => !wrOk1 l i) <;> cases (List.range l.length).any (fun i => (l.getD i default).3 && (l.getD i default).2 != 0) <;> rfl
end Go.Proofs.YtbljhngekhgbbaaGreat
namespace Go.Proofs.YtbljhngekhgbbaaGreat
open Go.RowKit
set_option linter.unusedVariables false
set_option linter.unusedSimpArgs false
theorem int_zero (n : Int) : (n == 0) = decide (n = 0) := bool_ext (by simp)
theorem lay_IsValue_eq {v : MVal} (h : gD v.deps) : lay_IsValue_o v = some (vB v) := by
  unfold lay_IsValue_o vB
  have e : deps_Check_o v.3 = some (depsC v.deps) := deps_Check_eq h
  simp only [e, Option.isSome_some, Option.getD_some, cond_true, none_eq, stamp_zero, len0, int_zero (depsC v.deps)]
  cases v.1 <;> cases eqB v.2 z0 <;> cases ref01_Is v.2 <;> cases decide (v.3.length = 0) <;> cases decide (depsC v.deps = 0) <;> rfl
noncomputable def seenB (c : MCmd) : Bool := (!decide (c.ops.length = 0) || (eqB c.vote z0 && (!c.fast && decide (c.seen.length = 0)))) && ((eqB c.vote z0 || (ref01_Is c.vote && !ref01_Less c.vote c.id)) && decide (depsC c.seen = 0))
theorem isSeen_eq {c : MCmd} (h : gD c.seen) : cmd_isSeen_o c = some (seenB c) := by
  unfold cmd_isSeen_o seenB
  have e : deps_Check_o c.7 = some (depsC c.seen) := deps_Check_eq h
  have e2 : decide (stamp_Compare c.5 c.1 < 0) = ref01_Less c.5 c.1 := cmp_less _ _
  simp only [e, e2, Option.isSome_some, Option.getD_some, cond_true, none_eq, stamp_bad, len0, len1, int_zero (depsC c.seen)]
  cases decide (c.2.length = 0) <;> cases eqB c.5 z0 <;> cases c.6 <;> cases decide (c.7.length = 0) <;> cases ref01_Is c.5 <;> cases ref01_Less c.5 c.1 <;> cases decide (depsC c.seen = 0) <;> rfl
theorem isValue_eq {c : MCmd} (h : gD c.value.deps) : cmd_isValue_o c = some (valueB c) := by
  unfold cmd_isValue_o valueB
  have e : lay_IsValue_o c.11 = some (vB c.value) := lay_IsValue_eq h
  simp only [e, Option.isSome_some, Option.getD_some, cond_true, none_eq, len0]
  cases c.9 <;> cases vB c.value <;> cases eqB c.10 z0 <;> cases c.11.1 <;> cases eqB c.11.2 z0 <;> cases decide (c.11.3.length = 0) <;> rfl
noncomputable def phaseB (c : MCmd) : Bool := (c.ready || decide (c.writes.length = 0)) && ((c.phase == 3 || decide (c.pairs.length = 0)) && (
  bif c.phase == 0 then decide (c.ops.length = 0) && !c.ready else
  bif c.phase == 1 then !decide (c.ops.length = 0) && !c.ready else
  bif c.phase == 2 then c.has && ((!decide (c.ops.length = 0) || c.value.gone) && !(c.ready && c.value.gone)) else
  bif c.phase == 3 then c.has && ((!decide (c.ops.length = 0) || c.value.gone) && (!(c.ready && c.value.gone) && c.ready)) else false))
theorem phase_cases (k : Int) : k = 0 ∨ k = 1 ∨ k = 2 ∨ k = 3 ∨ ((k == 0) = false ∧ (k == 1) = false ∧ (k == 2) = false ∧ (k == 3) = false) := by
  simp only [beq_eq_false_iff_ne]
  omega
theorem isPhase_eq (c : MCmd) : cmd_isPhase c = phaseB c := by
  unfold cmd_isPhase phaseB
  simp only [len1, bne]
  show _ = ((c.12 || decide (c.13.length = 0)) && ((c.3 == 3 || decide (c.14.length = 0)) && (
  bif c.3 == 0 then decide (c.2.length = 0) && !c.12 else
  bif c.3 == 1 then !decide (c.2.length = 0) && !c.12 else
  bif c.3 == 2 then c.9 && ((!decide (c.2.length = 0) || c.11.1) && !(c.12 && c.11.1)) else
  bif c.3 == 3 then c.9 && ((!decide (c.2.length = 0) || c.11.1) && (!(c.12 && c.11.1) && c.12)) else false)))
  generalize c.3 = k
  generalize decide (c.2.length = 0) = o
  generalize decide (c.13.length = 0) = w
  generalize decide (c.14.length = 0) = p
  generalize c.9 = h
  generalize c.12 = r
  generalize c.11.1 = g
  rcases phase_cases k with e | e | e | e | ⟨e0, e1, e2, e3⟩
  · subst e; cases o <;> cases w <;> cases p <;> cases h <;> cases r <;> cases g <;> rfl
  · subst e; cases o <;> cases w <;> cases p <;> cases h <;> cases r <;> cases g <;> rfl
  · subst e; cases o <;> cases w <;> cases p <;> cases h <;> cases r <;> cases g <;> rfl
  · subst e; cases o <;> cases w <;> cases p <;> cases h <;> cases r <;> cases g <;> rfl
  · rw [e0, e1, e2, e3]; cases o <;> cases w <;> cases p <;> cases h <;> cases r <;> cases g <;> rfl
/-- may a command be? -/
noncomputable def cmdB (c : MCmd) : Bool := ref01_Is c.id && (seenB c && (valueB c && (phaseB c && (ref09_Ballot c.promise && (ref09_Ballot c.ballot && (ref09_Ballot c.bound && ((decide (c.ops.length = 0) || decide (opsC c.ops = 0)) && (writesB c.writes && pairsB c.pairs))))))))
theorem cmd_Check_eq {c : MCmd} (h : GC c) : cmd_Check_o c = some (bif cmdB c then 0 else 90) := by
  have e1 : txn_Check_o c.2 = some (opsC c.ops) := txn_Check_eq h.ops.1 h.ops.2
  have e2 : lay_IsWrites_o c.13 = some (writesB c.writes) := lay_IsWrites_eq h.writes
  have e3 : lay_IsPairs_o c.14 = some (pairsB c.pairs) := lay_IsPairs_eq h.pairs
  unfold cmd_Check_o cmdB
  simp only [isSeen_eq h.seen, isValue_eq h.deps, isPhase_eq, isBallot_eq, e1, e2, e3, stamp_zero, len1, int_zero (opsC c.ops), Option.isSome_some, Option.getD_some, cond_true]
  show (bif !decide (c.ops.length = 0) then _ else _) = _
  cases ref01_Is c.1 with
  | false => cases decide (c.ops.length = 0) <;> rfl
  | true =>
  cases seenB c with
  | false => cases decide (c.ops.length = 0) <;> rfl
  | true =>
  cases valueB c with
  | false => cases decide (c.ops.length = 0) <;> rfl
  | true =>
  cases phaseB c with
  | false => cases decide (c.ops.length = 0) <;> rfl
  | true =>
  cases ref09_Ballot c.4 with
  | false => cases decide (c.ops.length = 0) <;> rfl
  | true =>
  cases ref09_Ballot c.10 with
  | false => cases decide (c.ops.length = 0) <;> rfl
  | true =>
  cases ref09_Ballot c.8 with
  | false => cases decide (c.ops.length = 0) <;> rfl
  | true =>
  cases decide (c.ops.length = 0) <;> cases decide (opsC c.ops = 0) <;> cases writesB c.writes <;> cases pairsB c.pairs <;> rfl
end Go.Proofs.YtbljhngekhgbbaaGreat
