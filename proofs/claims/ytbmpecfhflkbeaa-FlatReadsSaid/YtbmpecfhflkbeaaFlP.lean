/- The plain law: what is laid is read. -/
import Derived.Test.YtbmpecfhflkbeaaFlBl
namespace Go.Proofs.Ytbmpecfhflkbeaa
open Go.RowKit
set_option linter.unusedVariables false

theorem numV_app (l m : List UInt8) : numV (l ++ m) = numV l + 256 ^ l.length * numV m := by
  induction l with
  | nil => simp [numV]
  | cons b l ih =>
    show b.toNat + 256 * numV (l ++ m) = b.toNat + 256 * numV l + 256 ^ (l.length + 1) * numV m
    rw [ih, Nat.pow_succ, Nat.mul_add, Nat.add_assoc]
    congr 2
    rw [Nat.mul_comm (256 ^ l.length) 256, Nat.mul_assoc]
theorem numV_lowB (n k : Nat) : numV (lowB n k) = n % 256 ^ k := by
  induction k with
  | zero => simp [lowB, numV, Nat.mod_one]
  | succ k ih =>
    rw [lowB_succ, numV_snoc, ih, lowB_len, Nat.pow_succ, Nat.mod_mul]
    congr 1
    rw [Nat.mul_comm]
    congr 1
theorem take_app8 (l m : List UInt8) (k : Nat) (h : l.length = k) : (l ++ m).take k = l := by rw [← h]; exact List.take_left
theorem drop_app8 (l m : List UInt8) (k : Nat) (h : l.length = k) : (l ++ m).drop k = m := by rw [← h]; exact List.drop_left
theorem p256 : (256 : Nat) ^ 8 = 18446744073709551616 := by decide
theorem wrap_toU (n : Int) (h : in64 n) : wrap64 ((toU n : Nat) : Int) = n := by
  unfold in64 at h
  rw [toU_eq]
  unfold wrap64
  omega
theorem numV_intB (n : Int) : numV (intB n) = toU n := by
  unfold intB
  rw [numV_lowB, p256, Nat.mod_eq_of_lt (toU_lt n)]
theorem intR_back (n : Int) (R : List UInt8) (h : in64 n) : intR (intB n ++ R) = some (n, R) := by
  unfold intR
  rw [if_pos (by rw [List.length_append, intB_len]; omega), take_app8 _ _ 8 (intB_len n), drop_app8 _ _ 8 (intB_len n), numV_intB, wrap_toU n h]
theorem cutS_small (s : ByteArray) (h : s.size ≤ 1048576) : cutS s = s := by
  unfold cutS
  rw [List.take_of_length_le (by rw [bs_len]; exact h), strOf_bs]
theorem textR_back (s : ByteArray) (R : List UInt8) (h : s.size ≤ 1048576) : textR (textB s ++ R) = some (s, R) := by
  have e : textB s = lowB s.size 4 ++ bs s := by unfold textB; rw [cutS_small s h]
  have hN : numV (lowB s.size 4) = s.size := by rw [numV_lowB]; exact Nat.mod_eq_of_lt (Nat.lt_of_le_of_lt h (by decide))
  unfold textR
  rw [e, List.append_assoc, if_pos (by rw [List.length_append, lowB_len]; omega), take_app8 _ _ 4 (lowB_len _ _), drop_app8 _ _ 4 (lowB_len _ _), hN,
    if_pos ⟨h, by rw [List.length_append, bs_len]; omega⟩, take_app8 _ _ _ (bs_len s), drop_app8 _ _ _ (bs_len s), strOf_bs]
theorem boolR_back (b : Bool) (R : List UInt8) : boolR (boolB b ++ R) = some (b, R) := by
  cases b <;> simp [boolR, boolB, numV]
theorem stampR_back (s : St) (R : List UInt8) (h : StIn s) : stampR (stampB s ++ R) = some (s, R) := by
  unfold stampR stampB
  rw [List.append_assoc, if_pos (by rw [List.length_append, List.length_append, intB_len, intB_len]; omega), take_app8 _ _ 8 (intB_len _), drop_app8 _ _ 8 (intB_len _), take_app8 _ _ 8 (intB_len _), numV_intB, numV_intB, wrap_toU _ h.1, wrap_toU _ h.2,
    ← List.append_assoc, drop_app8 _ _ 16 (by rw [List.length_append, intB_len, intB_len])]
theorem stampAt_back (l : List St) (R : List UInt8) (i : Nat) (hi : i < l.length) (h : ∀ s ∈ l, StIn s) : stampAt (l.flatMap stampB ++ R) i = l[i] := by
  have hd : (l.flatMap stampB ++ R).drop (16 * i) = (l.drop i).flatMap stampB ++ R := by
    have e : l.flatMap stampB = (l.take i).flatMap stampB ++ (l.drop i).flatMap stampB := by rw [← List.flatMap_append, List.take_append_drop]
    rw [e, List.append_assoc]
    exact drop_app8 _ _ _ (by rw [flat_len16, List.length_take]; omega)
  have hs := h l[i] (List.getElem_mem hi)
  unfold stampAt
  rw [hd, List.drop_eq_getElem_cons hi, List.flatMap_cons]
  unfold stampB
  rw [List.append_assoc, List.append_assoc, take_app8 _ _ 8 (intB_len _), drop_app8 _ _ 8 (intB_len _), take_app8 _ _ 8 (intB_len _), numV_intB, numV_intB, wrap_toU _ hs.1, wrap_toU _ hs.2]
theorem stampL_back (l : List St) (R : List UInt8) (h : ∀ s ∈ l, StIn s) : stampL (l.flatMap stampB ++ R) l.length = l := by
  unfold stampL
  apply List.ext_getElem
  · simp
  · intro i h1 h2
    rw [List.getElem_map, List.getElem_range]
    exact stampAt_back l R i h2 h
theorem stampsR_back (l : List St) (R : List UInt8) (h : ∀ s ∈ l, StIn s) (hl : l.length ≤ 1099511627776) : stampsR (stampsB l ++ R) = some (l, R) := by
  have hin : in64 (l.length : Int) := by unfold in64; omega
  unfold stampsR stampsB
  rw [List.append_assoc, if_pos (by rw [List.length_append, intB_len]; omega), take_app8 _ _ 8 (intB_len _), drop_app8 _ _ 8 (intB_len _), numV_intB, wrap_toU _ hin,
    if_pos ⟨by omega, by rw [List.length_append, flat_len16]; omega⟩, Int.toNat_natCast, stampL_back l R h, drop_app8 _ _ _ (flat_len16 l)]

/-! ### with more behind it, the same is read -/
theorem take_more (ys t : List UInt8) (k : Nat) (h : k ≤ ys.length) : (ys ++ t).take k = ys.take k := List.take_append_of_le_length h
theorem drop_more (ys t : List UInt8) (k : Nat) (h : k ≤ ys.length) : (ys ++ t).drop k = ys.drop k ++ t := List.drop_append_of_le_length h
theorem intR_more (ys t zs : List UInt8) (v : Int) (h : intR ys = some (v, zs)) : intR (ys ++ t) = some (v, zs ++ t) := by
  unfold intR at h ⊢
  by_cases h8 : 8 ≤ ys.length
  · rw [if_pos h8] at h
    rw [if_pos (by rw [List.length_append]; omega), take_more _ _ _ h8, drop_more _ _ _ h8]
    simp only [Option.some.injEq, Prod.mk.injEq] at h
    rw [h.1, h.2]
  · rw [if_neg h8] at h; cases h
theorem textR_more (ys t zs : List UInt8) (v : ByteArray) (h : textR ys = some (v, zs)) : textR (ys ++ t) = some (v, zs ++ t) := by
  unfold textR at h ⊢
  by_cases h8 : 4 ≤ ys.length
  · rw [if_pos h8] at h
    rw [if_pos (by rw [List.length_append]; omega), take_more _ _ _ h8, drop_more _ _ _ h8]
    by_cases h9 : numV (ys.take 4) ≤ 1048576 ∧ numV (ys.take 4) ≤ (ys.drop 4).length
    · rw [if_pos h9] at h
      rw [if_pos ⟨h9.1, by rw [List.length_append]; omega⟩, take_more _ _ _ h9.2, drop_more _ _ _ h9.2]
      simp only [Option.some.injEq, Prod.mk.injEq] at h
      rw [h.1, h.2]
    · rw [if_neg h9] at h; cases h
  · rw [if_neg h8] at h; cases h
theorem boolR_more (ys t zs : List UInt8) (v : Bool) (h : boolR ys = some (v, zs)) : boolR (ys ++ t) = some (v, zs ++ t) := by
  unfold boolR at h ⊢
  by_cases h8 : 1 ≤ ys.length
  · rw [if_pos h8] at h
    rw [if_pos (by rw [List.length_append]; omega), take_more _ _ _ h8, drop_more _ _ _ h8]
    by_cases h9 : numV (ys.take 1) ≤ 1
    · rw [if_pos h9] at h
      rw [if_pos h9]
      simp only [Option.some.injEq, Prod.mk.injEq] at h
      rw [h.1, h.2]
    · rw [if_neg h9] at h; cases h
  · rw [if_neg h8] at h; cases h
theorem stampR_more (ys t zs : List UInt8) (v : St) (h : stampR ys = some (v, zs)) : stampR (ys ++ t) = some (v, zs ++ t) := by
  unfold stampR at h ⊢
  by_cases h8 : 16 ≤ ys.length
  · rw [if_pos h8] at h
    rw [if_pos (by rw [List.length_append]; omega), take_more _ _ 8 (by omega), drop_more _ _ 8 (by omega), take_more (ys.drop 8) _ 8 (by rw [List.length_drop]; omega), drop_more _ _ 16 h8]
    simp only [Option.some.injEq, Prod.mk.injEq] at h
    rw [h.1, h.2]
  · rw [if_neg h8] at h; cases h
theorem stampAt_more (ys t : List UInt8) (i : Nat) (h : 16 * i + 16 ≤ ys.length) : stampAt (ys ++ t) i = stampAt ys i := by
  unfold stampAt
  rw [drop_more _ _ _ (by omega), take_more _ _ 8 (by rw [List.length_drop]; omega), drop_more _ _ 8 (by rw [List.length_drop]; omega), take_more _ _ 8 (by rw [List.length_drop, List.length_drop]; omega)]
theorem stampL_more (ys t : List UInt8) (n : Nat) (h : 16 * n ≤ ys.length) : stampL (ys ++ t) n = stampL ys n := by
  unfold stampL
  apply List.map_congr_left
  intro i hi
  have := List.mem_range.1 hi
  exact stampAt_more ys t i (by omega)
theorem stampsR_more (ys t zs : List UInt8) (v : List St) (h : stampsR ys = some (v, zs)) : stampsR (ys ++ t) = some (v, zs ++ t) := by
  unfold stampsR at h ⊢
  by_cases h8 : 8 ≤ ys.length
  · rw [if_pos h8] at h
    rw [if_pos (by rw [List.length_append]; omega), take_more _ _ _ h8, drop_more _ _ _ h8]
    generalize wrap64 (numV (ys.take 8) : Nat) = N at *
    by_cases h9 : 0 ≤ N ∧ N ≤ (((ys.drop 8).length / 16 : Nat) : Int)
    · rw [if_pos h9] at h
      rw [if_pos ⟨h9.1, by rw [List.length_append]; omega⟩, stampL_more _ _ _ (by omega), drop_more _ _ _ (by omega)]
      simp only [Option.some.injEq, Prod.mk.injEq] at h
      rw [h.1, h.2]
    · rw [if_neg h9] at h; cases h
  · rw [if_neg h8] at h; cases h
/-- of a part that is cut off: nothing is read, or what was laid, and again a part is left -/
theorem part_read {T : Type} (r : List UInt8 → Option (T × List UInt8)) (more : ∀ ys t zs v, r ys = some (v, zs) → r (ys ++ t) = some (v, zs ++ t)) (ys t R : List UInt8) (x z : T) (hb : r (ys ++ t) = some (x, R)) :
    ((after false ys (r ys) z).2.2 = true) ∨ ((after false ys (r ys) z).2.2 = false ∧ (after false ys (r ys) z).2.1 ++ t = R) := by
  cases h : r ys with
  | none => left; rfl
  | some q =>
    obtain ⟨v, zs⟩ := q
    right
    have := more ys t zs v h
    rw [hb] at this
    simp only [Option.some.injEq, Prod.mk.injEq] at this
    exact ⟨rfl, this.2.symm⟩
end Go.Proofs.Ytbmpecfhflkbeaa
