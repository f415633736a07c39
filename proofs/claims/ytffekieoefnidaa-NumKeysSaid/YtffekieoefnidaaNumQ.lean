/- Plain facts on nums: sums, whole numbers. -/
import Derived.Test.YtffekieoefnidaaNumP
namespace Go.Proofs.Ytffekieoefnidaa
open Go.RowKit Ieee

theorem natAbs_scale (t : Int) (k : Nat) : (t * ((2 ^ k : Nat) : Int)).natAbs = t.natAbs * 2 ^ k := by
  rw [Int.natAbs_mul, Int.natAbs_natCast]
theorem scale_zero (t : Int) (k : Nat) : t * ((2 ^ k : Nat) : Int) = 0 ↔ t = 0 := by
  have hp : (0 : Int) < ((2 ^ k : Nat) : Int) := by have := Nat.two_pow_pos k; omega
  constructor
  · intro h; rcases Int.mul_eq_zero.1 h with h | h; exact h; omega
  · intro h; rw [h, Int.zero_mul]
theorem scale_neg (t : Int) (k : Nat) : t * ((2 ^ k : Nat) : Int) < 0 ↔ t < 0 := by
  have hp : (0 : Int) < ((2 ^ k : Nat) : Int) := by have := Nat.two_pow_pos k; omega
  have h : t * ((2 ^ k : Nat) : Int) < 0 * ((2 ^ k : Nat) : Int) ↔ t < 0 := Int.mul_lt_mul_right hp
  rw [Int.zero_mul] at h; exact h

/-- the sign of a sum -/
def sumSign (s t : Bool) (n : Int) : Bool := if n = 0 then s && t else decide (n < 0)

theorem sum_fin (x y : Nat) (hx : rung x < 9218868437227405312) (hy : rung y < 9218868437227405312) :
    sumW x y = some (double.word (sumSign (sB x) (sB y) (S x + S y)) (rungOf (S x + S y).natAbs)) := by
  show ((double.read x).sum (double.read y)).map double.write = _
  rw [read_fin x hx, read_fin y hy]
  simp only [Datum.sum]
  rw [min_places, sub_places, sub_places, signed_down x (min (up x) (up y)) (by omega), signed_down y (min (up x) (up y)) (by omega), ← Int.add_mul]
  generalize signed (sB x) (mant x) (up x - min (up x) (up y)) + signed (sB y) (mant y) (up y - min (up x) (up y)) = t
  generalize min (up x) (up y) = k
  simp only [Option.map_some, Format.write]
  rw [nearest_eq, natAbs_scale]
  congr 2
  unfold sumSign
  simp only [scale_zero, scale_neg]

theorem sum_inf (x y : Nat) (hx : rung x = 9218868437227405312) (hy : rung y = 9218868437227405312) :
    sumW x y = if sB x = sB y then some (double.word (sB x) 9218868437227405312) else none := by
  show ((double.read x).sum (double.read y)).map double.write = _
  rw [read_inf x hx, read_inf y hy]
  simp only [Datum.sum]
  split <;> simp [Format.write, dbl_inf]
theorem sum_inf_fin (x y : Nat) (hx : rung x = 9218868437227405312) (hy : rung y < 9218868437227405312) :
    sumW x y = some (double.word (sB x) 9218868437227405312) := by
  show ((double.read x).sum (double.read y)).map double.write = _
  rw [read_inf x hx, read_fin y hy]
  simp [Datum.sum, Format.write, dbl_inf]
theorem sum_fin_inf (x y : Nat) (hx : rung x < 9218868437227405312) (hy : rung y = 9218868437227405312) :
    sumW x y = some (double.word (sB y) 9218868437227405312) := by
  show ((double.read x).sum (double.read y)).map double.write = _
  rw [read_fin x hx, read_inf y hy]
  simp [Datum.sum, Format.write, dbl_inf]
theorem sum_nan_left (x y : Nat) (hx : 9218868437227405312 < rung x) : sumW x y = none := by
  obtain ⟨t, ht⟩ := read_nan x hx
  show ((double.read x).sum (double.read y)).map double.write = _
  rw [ht]; simp [Datum.sum]
theorem sum_nan_right (x y : Nat) (hy : 9218868437227405312 < rung y) : sumW x y = none := by
  obtain ⟨t, ht⟩ := read_nan y hy
  show ((double.read x).sum (double.read y)).map double.write = _
  rw [ht]; cases double.read x <;> simp [Datum.sum]

/-! ### in integers -/
/-- a word of sign and rung -/
def wd (s : Bool) (r : Int) : Int := if s then 9223372036854775808 + r else r
theorem word_wd (s : Bool) (r : Nat) : ((double.word s r : Nat) : Int) = wd s r := by rw [word_eq]; unfold wd; cases s <;> simp
def ng (a : Int) : Int := if 9223372036854775808 ≤ a then a - 9223372036854775808 else a + 9223372036854775808
def neg? (a : Int) : Bool := decide (9223372036854775808 ≤ a)
def Inf? (a : Int) : Prop := In64 a ∧ rg a = 9218868437227405312
def Fin? (a : Int) : Prop := In64 a ∧ rg a < 9218868437227405312
theorem Fin?.fine {a : Int} (h : Fin? a) : Fine a := ⟨h.1, by have := h.2; omega⟩
theorem Inf?.fine {a : Int} (h : Inf? a) : Fine a := ⟨h.1, by have := h.2; omega⟩
theorem Fine.cases {a : Int} (h : Fine a) : Inf? a ∨ Fin? a := by
  have := h.2
  by_cases c : rg a = 9218868437227405312
  · exact .inl ⟨h.1, c⟩
  · exact .inr ⟨h.1, by omega⟩
theorem wd_self {a : Int} (h : In64 a) : wd (neg? a) (rg a) = a := by
  obtain ⟨h0, h1⟩ := h
  unfold wd neg? rg
  by_cases c : 9223372036854775808 ≤ a <;> simp [c] <;> omega
theorem wd_fine (s : Bool) (r : Int) (h0 : 0 ≤ r) (h1 : r ≤ 9218868437227405312) : Fine (wd s r) := by
  unfold Fine In64 wd rg
  cases s <;> simp <;> omega
theorem sB_neg {a : Int} (h : In64 a) : sB a.toNat = neg? a := sB_eq h
theorem rung_fin {a : Int} (h : Fin? a) : rung a.toNat < 9218868437227405312 := by have := rung_eq h.1; have := h.2; omega
theorem rung_inf {a : Int} (h : Inf? a) : rung a.toNat = 9218868437227405312 := by have := rung_eq h.1; have := h.2; omega

/-- the integer that a finite num is, in units -/
def SI (a : Int) : Int := S a.toNat
theorem SI_eq {a : Int} (h : In64 a) : SI a = if 9223372036854775808 ≤ a then -(V (rg a).toNat : Int) else (V (rg a).toNat : Int) := S_int h

theorem R_wd (s : Bool) (r : Nat) (h : r ≤ 9218868437227405312) : R ((double.word s r : Nat) : Int) = wd s r := by
  rw [word_wd]; exact R_fine (wd_fine s r (by omega) (by omega))
theorem addV_fin {a b : Int} (ha : Fin? a) (hb : Fin? b) : addV a b = wd (sumSign (neg? a) (neg? b) (SI a + SI b)) (rungOf (SI a + SI b).natAbs) := by
  unfold addV
  rw [R_fine ha.fine, R_fine hb.fine, sum_fin _ _ (rung_fin ha) (rung_fin hb)]
  show R _ = _
  rw [R_wd _ _ (rungOf_le _), sB_neg ha.1, sB_neg hb.1]; rfl
theorem addV_inf {a b : Int} (ha : Inf? a) (hb : Inf? b) : addV a b = if neg? a = neg? b then a else quiet := by
  unfold addV
  rw [R_fine ha.fine, R_fine hb.fine, sum_inf _ _ (rung_inf ha) (rung_inf hb), sB_neg ha.1, sB_neg hb.1]
  split
  · rename_i r h
    split at h
    · rename_i e
      rw [if_pos e]
      injection h with h
      rw [← h, R_wd _ _ (by omega)]
      have := wd_self ha.1; rw [ha.2] at this; exact this
    · cases h
  · rename_i h
    split at h
    · cases h
    · rename_i e; rw [if_neg e]
theorem addV_inf_fin {a b : Int} (ha : Inf? a) (hb : Fin? b) : addV a b = a := by
  unfold addV
  rw [R_fine ha.fine, R_fine hb.fine, sum_inf_fin _ _ (rung_inf ha) (rung_fin hb), sB_neg ha.1]
  show R _ = _
  rw [R_wd _ _ (by omega)]
  have := wd_self ha.1; rw [ha.2] at this; exact this
theorem addV_fin_inf {a b : Int} (ha : Fin? a) (hb : Inf? b) : addV a b = b := by
  unfold addV
  rw [R_fine ha.fine, R_fine hb.fine, sum_fin_inf _ _ (rung_fin ha) (rung_inf hb), sB_neg hb.1]
  show R _ = _
  rw [R_wd _ _ (by omega)]
  have := wd_self hb.1; rw [hb.2] at this; exact this
theorem addV_quiet_left {a b : Int} (h : R a = quiet) : addV a b = quiet := by
  unfold addV; rw [h, sum_nan_left _ _ (by decide)]
theorem addV_quiet_right {a b : Int} (h : R b = quiet) : addV a b = quiet := by
  unfold addV; rw [h, sum_nan_right _ _ (by decide)]

theorem sumSign_comm (s t : Bool) (m n : Int) : sumSign s t (m + n) = sumSign t s (n + m) := by
  unfold sumSign; rw [Int.add_comm, Bool.and_comm]
theorem addV_comm {a b : Int} (ha : In64 a) (hb : In64 b) : addV a b = addV b a := by
  by_cases fa : Fine a
  · by_cases fb : Fine b
    · rcases fa.cases with ia | ia
      · rcases fb.cases with ib | ib
        · rw [addV_inf ia ib, addV_inf ib ia]
          by_cases e : neg? a = neg? b
          · rw [if_pos e, if_pos e.symm]
            have h1 := wd_self ia.1; have h2 := wd_self ib.1
            rw [ia.2] at h1; rw [ib.2, ← e] at h2; exact h1.symm.trans h2
          · rw [if_neg e, if_neg (fun h => e h.symm)]
        · rw [addV_inf_fin ia ib, addV_fin_inf ib ia]
      · rcases fb.cases with ib | ib
        · rw [addV_inf_fin ib ia, addV_fin_inf ia ib]
        · rw [addV_fin ia ib, addV_fin ib ia, sumSign_comm, Int.add_comm]
    · rw [addV_quiet_right (R_not_fine hb fb), addV_quiet_left (R_not_fine hb fb)]
  · rw [addV_quiet_right (R_not_fine ha fa), addV_quiet_left (R_not_fine ha fa)]
theorem raddV_eq {a b : Int} (ha : In64 a) (hb : In64 b) : raddV a b = addV a b := by
  unfold raddV addV
  rw [RR_eq ha, RR_eq hb]
  cases h : sumW (R a).toNat (R b).toNat with
  | some r =>
    have hlt := double.add_lt h
    have e : (2 : Nat) ^ double.width = 18446744073709551616 := by decide
    rw [e] at hlt
    exact RR_eq ⟨by omega, by omega⟩
  | none => rfl

theorem addV_in {a b : Int} : In64 (addV a b) := by
  unfold addV
  cases h : sumW (R a).toNat (R b).toNat with
  | some r =>
    have hlt := double.add_lt h
    have e : (2 : Nat) ^ double.width = 18446744073709551616 := by decide
    rw [e] at hlt
    exact R_in ⟨by omega, by omega⟩
  | none => exact quiet_in
theorem R_R {a : Int} (h : In64 a) : R (R a) = R a := by
  rcases R_cases h with e | ⟨_, e⟩
  · rw [e, R_quiet]
  · rw [e, e]
theorem R_addV {a b : Int} : R (addV a b) = addV a b := by
  unfold addV
  cases h : sumW (R a).toNat (R b).toNat with
  | some r =>
    have hlt := double.add_lt h
    have e : (2 : Nat) ^ double.width = 18446744073709551616 := by decide
    rw [e] at hlt
    exact R_R ⟨by omega, by omega⟩
  | none => exact R_quiet

/-! ### turned round -/
theorem ng_in {a : Int} (h : In64 a) : In64 (ng a) := by obtain ⟨h0, h1⟩ := h; unfold ng In64; split <;> omega
theorem ng_ng {a : Int} (h : In64 a) : ng (ng a) = a := by obtain ⟨h0, h1⟩ := h; unfold ng; split <;> split <;> omega
theorem rg_ng {a : Int} (h : In64 a) : rg (ng a) = rg a := by obtain ⟨h0, h1⟩ := h; unfold ng rg; split <;> omega
theorem ng_fine {a : Int} (h : Fine a) : Fine (ng a) := ⟨ng_in h.1, by rw [rg_ng h.1]; exact h.2⟩
theorem ng_fin {a : Int} (h : Fin? a) : Fin? (ng a) := ⟨ng_in h.1, by rw [rg_ng h.1]; exact h.2⟩
theorem ng_inf {a : Int} (h : Inf? a) : Inf? (ng a) := ⟨ng_in h.1, by rw [rg_ng h.1]; exact h.2⟩
theorem neg_ng {a : Int} (h : In64 a) : neg? (ng a) = !neg? a := by
  obtain ⟨h0, h1⟩ := h
  unfold neg? ng
  by_cases c : 9223372036854775808 ≤ a
  · rw [if_pos c]; simp [c]; omega
  · rw [if_neg c]; simp [c]; omega
theorem SI_ng {a : Int} (h : In64 a) : SI (ng a) = -SI a := by
  rw [SI_eq (ng_in h), SI_eq h, rg_ng h]
  obtain ⟨h0, h1⟩ := h
  unfold ng
  by_cases c : 9223372036854775808 ≤ a
  · simp only [if_pos c]; rw [if_neg (by omega), Int.neg_neg]
  · simp only [if_neg c]; rw [if_pos (by omega)]
/-- num.Neg -/
def negV (a : Int) : Int := R (bits .xor .u64 a 9223372036854775808)
theorem negV_fine {a : Int} (h : Fine a) : negV a = ng a := by
  unfold negV; rw [xor_sign h.1]; exact R_fine (ng_fine h)
theorem negV_quiet : negV quiet = quiet := by
  unfold negV; rw [xor_sign quiet_in]
  unfold R; rw [nanB_int (by unfold In64 quiet; decide)]; decide
theorem rk_ng {a : Int} (h : In64 a) : rk (ng a) = 18446744073709551615 - rk a := by
  obtain ⟨h0, h1⟩ := h; unfold rk ng; split <;> split <;> omega
theorem cmpI_turn (a b c : Int) : cmpI (c - a) (c - b) = -cmpI a b := by
  unfold cmpI
  by_cases h : a < b
  · rw [if_neg (by omega), if_pos (by omega), if_pos h]; rfl
  · by_cases h2 : b < a
    · rw [if_pos (by omega), if_neg h, if_pos h2]
    · rw [if_neg (by omega), if_neg (by omega), if_neg h, if_neg h2]; rfl
theorem wd_ng (s : Bool) (r : Int) (h0 : 0 ≤ r) (h1 : r ≤ 9218868437227405312) : ng (wd s r) = wd (!s) r := by
  unfold ng wd; cases s <;> simp <;> omega
theorem addV_turn {a b : Int} (ha : Fine a) (hb : Fine b) : addV (ng a) (ng b) = negV (addV a b) ∨ (addV a b = 0 ∧ addV (ng a) (ng b) = 0) := by
  rcases ha.cases with ia | ia
  · rcases hb.cases with ib | ib
    · rw [addV_inf ia ib, addV_inf (ng_inf ia) (ng_inf ib), neg_ng ia.1, neg_ng ib.1]
      left
      by_cases e : neg? a = neg? b
      · rw [if_pos e, if_pos (by rw [e]), negV_fine ha]
      · rw [if_neg e, if_neg (fun h => e (by revert h; cases neg? a <;> cases neg? b <;> decide)), negV_quiet]
    · rw [addV_inf_fin ia ib, addV_inf_fin (ng_inf ia) (ng_fin ib)]
      left; rw [negV_fine ha]
  · rcases hb.cases with ib | ib
    · rw [addV_fin_inf ia ib, addV_fin_inf (ng_fin ia) (ng_inf ib)]
      left; rw [negV_fine hb]
    · rw [addV_fin ia ib, addV_fin (ng_fin ia) (ng_fin ib), SI_ng ia.1, SI_ng ib.1, neg_ng ia.1, neg_ng ib.1]
      have e : -SI a + -SI b = -(SI a + SI b) := by omega
      rw [e, Int.natAbs_neg]
      have hle := rungOf_le (SI a + SI b).natAbs
      rw [negV_fine (wd_fine _ _ (by omega) (by omega)), wd_ng _ _ (by omega) (by omega)]
      by_cases z : SI a + SI b = 0
      · rw [z]
        unfold sumSign
        rw [if_pos rfl, if_pos (by rfl)]
        have hz : ((rungOf (Int.natAbs 0) : Nat) : Int) = 0 := rfl
        rw [hz]
        cases neg? a <;> cases neg? b <;> simp [wd]
      · left
        unfold sumSign
        rw [if_neg z, if_neg (by omega)]
        congr 1
        rw [Bool.eq_iff_iff]; simp; omega

/-- a + 0 is a, but -0 + 0 is 0 -/
theorem addV_zero {a : Int} (ha : Fine a) : addV a 0 = a ∨ (a = 9223372036854775808 ∧ addV a 0 = 0) := by
  have h0 : Fin? 0 := ⟨⟨by decide, by decide⟩, by decide⟩
  have hS0 : SI 0 = 0 := rfl
  rcases ha.cases with ia | ia
  · left; exact addV_inf_fin ia h0
  · rw [addV_fin ia h0, hS0, Int.add_zero]
    have hw := wd_self ia.1
    have hlt := ia.2
    have hg : rg a = a % 9223372036854775808 := rfl
    obtain ⟨a0, a1⟩ := ia.1
    have hr := rungOf_V (rg a).toNat (by omega)
    have hS := SI_eq ia.1
    have hA : (SI a).natAbs = V (rg a).toNat := by rw [hS]; split <;> omega
    rw [hA, hr]
    have hrg : ((rg a).toNat : Int) = rg a := by omega
    rw [hrg]
    by_cases z : rg a = 0
    · have hV : V (rg a).toNat = 0 := by rw [z]; rfl
      rw [hV] at hS
      have hz : SI a = 0 := by rw [hS]; split <;> rfl
      unfold sumSign
      rw [if_pos hz, z]
      have : neg? 0 = false := by decide
      rw [this, Bool.and_false]
      by_cases c : 9223372036854775808 ≤ a
      · right; exact ⟨by omega, rfl⟩
      · left; show (0 : Int) = a; omega
    · left
      have hp : 0 < V (rg a).toNat := V_pos (by omega)
      have hsg : sumSign (neg? a) (neg? 0) (SI a) = neg? a := by
        unfold sumSign
        by_cases c : 9223372036854775808 ≤ a
        · rw [if_pos c] at hS
          rw [if_neg (by omega)]
          have : neg? a = true := by unfold neg?; simp [c]
          rw [this]; simp; omega
        · rw [if_neg c] at hS
          rw [if_neg (by omega)]
          have : neg? a = false := by unfold neg?; simp; omega
          rw [this]; simp; omega
      rw [hsg, hw]

/-- a number less itself is 0 -/
theorem addV_self {a : Int} (ha : Fin? a) : addV a (ng a) = 0 := by
  rw [addV_fin ha (ng_fin ha), SI_ng ha.1, neg_ng ha.1]
  have e : SI a + -SI a = 0 := by omega
  rw [e]
  have hz : ((rungOf (Int.natAbs 0) : Nat) : Int) = 0 := rfl
  rw [hz]
  unfold sumSign
  rw [if_pos rfl]
  cases neg? a <;> rfl

/-! ### whole numbers -/
/-- how far the ones stand above the least place -/
def lpN : Nat := 1074
theorem nat_whole (n : Nat) (h : n ≤ 4503599627370496) : ∃ r, r < 9218868437227405312 ∧ V r = n * 2 ^ lpN ∧ (n = 0 → r = 0) ∧ (0 < n → 0 < r) := by
  by_cases h0 : n = 0
  · exact ⟨0, by decide, by subst h0; rw [Nat.zero_mul]; rfl, fun _ => rfl, fun h => by omega⟩
  · have hl : n.log2 ≤ 52 := by
      have : n.log2 < 53 := (Nat.log2_lt h0).2 (by omega)
      omega
    have h1 : 2 ^ n.log2 ≤ n := Nat.log2_self_le h0
    have h2 : n < 2 ^ (n.log2 + 1) := Nat.lt_log2_self
    generalize n.log2 = L at *
    have e1 : 2 ^ L * 2 ^ (52 - L) = 4503599627370496 := by
      rw [← Nat.pow_add]; have : L + (52 - L) = 52 := by omega
      rw [this]
    have hp : 0 < 2 ^ (52 - L) := Nat.two_pow_pos _
    have h3 : 4503599627370496 ≤ n * 2 ^ (52 - L) := by rw [← e1]; exact Nat.mul_le_mul_right _ h1
    have h4 : n * 2 ^ (52 - L) < 9007199254740992 := by
      have : 2 ^ (L + 1) * 2 ^ (52 - L) = 9007199254740992 := by rw [Nat.pow_succ, Nat.mul_right_comm, e1]
      rw [← this]; exact Nat.mul_lt_mul_of_pos_right h2 hp
    obtain ⟨m, hm⟩ : ∃ m, n * 2 ^ (52 - L) = m := ⟨_, rfl⟩
    rw [hm] at h3 h4
    refine ⟨(1023 + L) * 4503599627370496 + (m - 4503599627370496), by omega, ?_, fun h => absurd h h0, fun _ => by omega⟩
    unfold V
    rw [if_neg (by omega)]
    have e2 : ((1023 + L) * 4503599627370496 + (m - 4503599627370496)) % 4503599627370496 = m - 4503599627370496 := by omega
    have e3 : ((1023 + L) * 4503599627370496 + (m - 4503599627370496)) / 4503599627370496 = 1023 + L := by omega
    rw [e2, e3]
    have e4 : 4503599627370496 + (m - 4503599627370496) = m := by omega
    have e5 : 52 - L + (1023 + L - 1) = lpN := by unfold lpN; omega
    rw [e4, ← hm, Nat.mul_assoc, ← Nat.pow_add, e5]

theorem ofRaw_eq (n : Int) : ofRaw n = wd (decide (n < 0)) (rungOf (n.natAbs * 2 ^ lpN)) := by
  unfold ofRaw floatOfInt FloatKind.nearest FloatKind.encode
  show ((double.nearest (decide (n < 0)) n.natAbs 0 : Nat) : Int) = _
  have e : (0 : Int) = -1074 + ((lpN : Nat) : Int) := by decide
  conv => lhs; rw [e]
  rw [nearest_eq, word_wd]
  rfl
theorem ofRaw_fine (n : Int) : Fine (ofRaw n) := by
  rw [ofRaw_eq]; have := rungOf_le (n.natAbs * 2 ^ lpN); exact wd_fine _ _ (by omega) (by omega)
theorem ofV_eq (n : Int) : ofV n = ofRaw n := R_fine (ofRaw_fine n)

theorem rg_wd (s : Bool) (r : Int) (h0 : 0 ≤ r) (h1 : r < 9223372036854775808) : rg (wd s r) = r := by
  unfold rg wd; cases s <;> simp <;> omega
theorem neg_wd (s : Bool) (r : Int) (h0 : 0 ≤ r) (h1 : r < 9223372036854775808) : neg? (wd s r) = s := by
  unfold neg? wd; cases s <;> simp <;> omega

/-- a whole number's num is that number -/
theorem whole {n : Int} (h0 : -4503599627370496 ≤ n) (h1 : n ≤ 4503599627370496) : Fin? (ofRaw n) ∧ SI (ofRaw n) = n * ((2 ^ lpN : Nat) : Int) ∧ neg? (ofRaw n) = decide (n < 0) := by
  obtain ⟨r, hr, hV, _, _⟩ := nat_whole n.natAbs (by omega)
  rw [ofRaw_eq, ← hV, rungOf_V r hr]
  have hf := wd_fine (decide (n < 0)) r (by omega) (by omega)
  have hg := rg_wd (decide (n < 0)) r (by omega) (by omega)
  have hn := neg_wd (decide (n < 0)) r (by omega) (by omega)
  refine ⟨⟨hf.1, by rw [hg]; omega⟩, ?_, hn⟩
  rw [SI_eq hf.1, hg]
  have e : (r : Int).toNat = r := by omega
  rw [e, hV]
  unfold neg? at hn
  generalize hK : (2 ^ lpN : Nat) = K
  by_cases c : n < 0
  · have hc : 9223372036854775808 ≤ wd (decide (n < 0)) r := by simpa [c] using hn
    rw [if_pos hc, Int.natCast_mul]
    have : (n.natAbs : Int) = -n := by omega
    rw [this, Int.neg_mul, Int.neg_neg]
  · have hc : ¬ 9223372036854775808 ≤ wd (decide (n < 0)) r := by simpa [c] using hn
    rw [if_neg hc, Int.natCast_mul]
    have : (n.natAbs : Int) = n := by omega
    rw [this]

theorem whole_fin {n : Int} (h0 : -4503599627370496 ≤ n) (h1 : n ≤ 4503599627370496) : Fin? (ofV n) := by
  have h := (whole h0 h1).1
  rw [ofV_eq]; exact h

theorem whole_add {a b : Int} (a0 : -2251799813685248 ≤ a) (a1 : a ≤ 2251799813685248) (b0 : -2251799813685248 ≤ b) (b1 : b ≤ 2251799813685248) :
    addV (ofRaw a) (ofRaw b) = ofRaw (a + b) := by
  obtain ⟨fa, sa, na⟩ := whole (n := a) (by omega) (by omega)
  obtain ⟨fb, sb, nb⟩ := whole (n := b) (by omega) (by omega)
  rw [addV_fin fa fb, sa, sb, na, nb, ofRaw_eq, ← Int.add_mul, natAbs_scale]
  congr 1
  unfold sumSign
  simp only [scale_zero, scale_neg]
  by_cases z : a + b = 0
  · rw [if_pos z]
    by_cases c : a < 0
    · have : ¬ b < 0 := by omega
      simp [this]; omega
    · simp [c]; omega
  · rw [if_neg z]

theorem whole_order {a b : Int} (a0 : -2251799813685248 ≤ a) (a1 : a ≤ 2251799813685248) (b0 : -2251799813685248 ≤ b) (b1 : b ≤ 2251799813685248) :
    compareV (ofRaw a) (ofRaw b) = cmpI a b ∧ coversV (ofRaw a) (ofRaw b) = decide (b ≤ a) := by
  obtain ⟨fa, sa, na⟩ := whole (n := a) (by omega) (by omega)
  obtain ⟨fb, sb, nb⟩ := whole (n := b) (by omega) (by omega)
  unfold SI at sa sb
  constructor
  · have hc : compareV (ofRaw a) (ofRaw b) = orV (cmpFV (ofRaw a).toNat (ofRaw b).toNat) (cmpI (minusV (ofRaw a).toNat) (minusV (ofRaw b).toNat)) := by
      unfold compareV
      rw [R_fine fa.fine, R_fine fb.fine, nan_fine fa.fine, nan_fine fb.fine]; rfl
    rw [hc, cmpFV_eq fa.fine fb.fine, sa, sb]
    have hp : (0 : Int) < ((2 ^ lpN : Nat) : Int) := by have := Nat.two_pow_pos lpN; omega
    have h1 : a * ((2 ^ lpN : Nat) : Int) < b * ((2 ^ lpN : Nat) : Int) ↔ a < b := Int.mul_lt_mul_right hp
    have h2 : b * ((2 ^ lpN : Nat) : Int) < a * ((2 ^ lpN : Nat) : Int) ↔ b < a := Int.mul_lt_mul_right hp
    by_cases l : a < b
    · rw [orV_lt (h1.2 l), cmpI_lt l]
    · by_cases l2 : b < a
      · rw [orV_gt (h2.2 l2), cmpI_gt l2]
      · have e : a = b := by omega
        subst e
        rw [orV_eq rfl, cmpI_eq rfl, cmpI_eq rfl]
  · rw [coversV_fine fa.fine fb.fine, sa, sb]
    have hp : (0 : Int) < ((2 ^ lpN : Nat) : Int) := by have := Nat.two_pow_pos lpN; omega
    have h2 : b * ((2 ^ lpN : Nat) : Int) ≤ a * ((2 ^ lpN : Nat) : Int) ↔ b ≤ a := Int.mul_le_mul_right hp
    simp only [h2]

theorem whole_neg {a : Int} (h : a ≠ 0) : ng (ofRaw a) = ofRaw (-a) := by
  have hle := rungOf_le (a.natAbs * 2 ^ lpN)
  rw [ofRaw_eq, ofRaw_eq, wd_ng _ _ (by omega) (by omega), Int.natAbs_neg]
  congr 1
  by_cases c : a < 0
  · simp [c]; omega
  · simp [c]; omega
end Go.Proofs.Ytffekieoefnidaa
