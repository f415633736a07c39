/- Plain facts on nums: the program's answers and the reference's, by sign and rung. -/
import Derived.Test.YtffekieoefnidaaNumR
import Derived.Test.YtffekieoefnidaaNumM
import Derived.Laws.BitsAllLaws
namespace Go.Proofs.Ytffekieoefnidaa
open Go.RowKit Ieee

def In64 (a : Int) : Prop := 0 ≤ a ∧ a < 18446744073709551616

theorem nat_or63 (r : Nat) (h : r < 9223372036854775808) : r ||| 9223372036854775808 = 9223372036854775808 + r := by
  have := Nat.two_pow_add_eq_or_of_lt (i := 63) (b := r) (by simpa using h) 1
  simp only [Nat.mul_one] at this
  rw [Nat.or_comm]; exact this.symm
theorem nat_xor63 (r : Nat) (h : r < 9223372036854775808) : r ^^^ 9223372036854775808 = 9223372036854775808 + r := by
  rw [← nat_or63 r h]
  have hr : ∀ i, 63 ≤ i → r.testBit i = false := fun i hi => Nat.testBit_lt_two_pow (Nat.lt_of_lt_of_le h (by have := Nat.pow_le_pow_right (n := 2) (by decide) hi; simpa using this))
  apply Nat.eq_of_testBit_eq
  intro i
  have e : (9223372036854775808 : Nat) = 2 ^ 63 := by decide
  rw [Nat.testBit_xor, Nat.testBit_or, e, Nat.testBit_two_pow]
  by_cases hi : 63 = i
  · subst hi; rw [hr 63 (by omega)]; rfl
  · simp [hi]
theorem nat_xor63' (r : Nat) (h : r < 9223372036854775808) : (9223372036854775808 + r) ^^^ 9223372036854775808 = r := by
  rw [← nat_xor63 r h, Nat.xor_assoc, Nat.xor_self, Nat.xor_zero]
theorem nat_and63 (r : Nat) (h : r < 9223372036854775808) : r &&& 9223372036854775808 = 0 := by
  have hr : ∀ i, 63 ≤ i → r.testBit i = false := fun i hi => Nat.testBit_lt_two_pow (Nat.lt_of_lt_of_le h (by have := Nat.pow_le_pow_right (n := 2) (by decide) hi; simpa using this))
  apply Nat.eq_of_testBit_eq
  intro i
  have e : (9223372036854775808 : Nat) = 2 ^ 63 := by decide
  rw [Nat.testBit_and, e, Nat.testBit_two_pow, Nat.zero_testBit]
  by_cases hi : 63 = i
  · subst hi; rw [hr 63 (by omega)]; rfl
  · simp [hi]
theorem nat_and63' (r : Nat) (h : r < 9223372036854775808) : (9223372036854775808 + r) &&& 9223372036854775808 = 9223372036854775808 := by
  rw [← nat_or63 r h, Nat.and_or_distrib_right, nat_and63 r h, Nat.and_self]; rfl
theorem nat_or63' (r : Nat) (h : r < 9223372036854775808) : (9223372036854775808 + r) ||| 9223372036854775808 = 9223372036854775808 + r := by
  rw [← nat_or63 r h, Nat.or_assoc, Nat.or_self]
theorem nat_not64 (n : Nat) (h : n < 18446744073709551616) : 18446744073709551615 ^^^ n = 18446744073709551615 - n := by
  have e1 : (BitVec.allOnes 64).toNat = 18446744073709551615 := by decide
  have e2 : (BitVec.ofNat 64 n).toNat = n := by rw [BitVec.toNat_ofNat]; omega
  have := congrArg BitVec.toNat (BitVec.xor_allOnes (x := BitVec.ofNat 64 n))
  rw [BitVec.toNat_xor, BitVec.toNat_not, e1, e2] at this
  rw [Nat.xor_comm, this]

theorem sB_eq {a : Int} (h : In64 a) : sB a.toNat = decide (9223372036854775808 ≤ a) := by
  obtain ⟨h1, h2⟩ := h
  unfold sB
  by_cases c : 9223372036854775808 ≤ a
  · have : a.toNat / 9223372036854775808 % 2 = 1 := by omega
    rw [this]; simp [c]
  · have : a.toNat / 9223372036854775808 % 2 = 0 := by omega
    rw [this]; simp; omega

theorem and_sign {a : Int} (h : In64 a) : bits .and .u64 a 9223372036854775808 = if 9223372036854775808 ≤ a then 9223372036854775808 else 0 := by
  obtain ⟨h1, h2⟩ := h
  rw [u64_and a _ h1 h2 (by decide) (by decide)]
  have e : (9223372036854775808 : Int).toNat = 9223372036854775808 := rfl
  rw [e]
  by_cases c : 9223372036854775808 ≤ a
  · obtain ⟨r, hr⟩ : ∃ r : Nat, a.toNat = 9223372036854775808 + r := ⟨a.toNat - 9223372036854775808, by omega⟩
    rw [hr, nat_and63' r (by omega), if_pos c]; rfl
  · rw [nat_and63 _ (by omega), if_neg c]; rfl
theorem or_sign {a : Int} (h : In64 a) : bits .or .u64 a 9223372036854775808 = if 9223372036854775808 ≤ a then a else a + 9223372036854775808 := by
  obtain ⟨h1, h2⟩ := h
  rw [u64_or a _ h1 h2 (by decide) (by decide)]
  have e : (9223372036854775808 : Int).toNat = 9223372036854775808 := rfl
  rw [e]
  by_cases c : 9223372036854775808 ≤ a
  · obtain ⟨r, hr⟩ : ∃ r : Nat, a.toNat = 9223372036854775808 + r := ⟨a.toNat - 9223372036854775808, by omega⟩
    rw [hr, nat_or63' r (by omega), if_pos c]; omega
  · rw [nat_or63 _ (by omega), if_neg c]; omega
theorem xor_sign {a : Int} (h : In64 a) : bits .xor .u64 a 9223372036854775808 = if 9223372036854775808 ≤ a then a - 9223372036854775808 else a + 9223372036854775808 := by
  obtain ⟨h1, h2⟩ := h
  rw [u64_xor a _ h1 h2 (by decide) (by decide)]
  have e : (9223372036854775808 : Int).toNat = 9223372036854775808 := rfl
  rw [e]
  by_cases c : 9223372036854775808 ≤ a
  · obtain ⟨r, hr⟩ : ∃ r : Nat, a.toNat = 9223372036854775808 + r := ⟨a.toNat - 9223372036854775808, by omega⟩
    rw [hr, nat_xor63' r (by omega), if_pos c]; omega
  · rw [nat_xor63 _ (by omega), if_neg c]; omega
theorem andNot_sign {a : Int} (h : In64 a) : bits .andNot .u64 a 9223372036854775808 = a % 9223372036854775808 := by
  obtain ⟨h1, h2⟩ := h
  rw [u64_andNot a _ h1 h2 (by decide) (by decide)]
  have e : 18446744073709551615 - (9223372036854775808 : Int).toNat = 2 ^ 63 - 1 := by decide
  rw [e, Nat.and_two_pow_sub_one_eq_mod]
  have e2 : (2 : Nat) ^ 63 = 9223372036854775808 := by decide
  rw [e2]; omega
theorem xor_max {a : Int} (h : In64 a) : bits .xor .u64 IntKind.u64.max a = 18446744073709551615 - a := by
  obtain ⟨h1, h2⟩ := h
  have em : IntKind.u64.max = 18446744073709551615 := by decide
  rw [em, u64_xor _ a (by decide) (by decide) h1 h2]
  have e : (18446744073709551615 : Int).toNat = 18446744073709551615 := rfl
  rw [e, nat_not64 _ (by omega)]; omega

def rg (a : Int) : Int := a % 9223372036854775808
theorem rung_eq {a : Int} (h : In64 a) : (rung a.toNat : Int) = rg a := by
  obtain ⟨h1, h2⟩ := h
  unfold rung rg; omega
theorem nanB_int {a : Int} (h : In64 a) : nanB a.toNat = decide (9218868437227405312 < rg a) := by
  rw [nanB_eq]
  have := rung_eq h
  by_cases c : 9218868437227405312 < rg a
  · simp [c]; omega
  · simp [c]; omega
theorem nanRef_eq {a : Int} (h : In64 a) : nanRef a = nanB a.toNat := by
  rw [nanB_int h]; unfold nanRef; rw [andNot_sign h]; rfl
theorem RR_eq {a : Int} (h : In64 a) : RR a = R a := by unfold RR R; rw [nanRef_eq h]
theorem quiet_in : In64 quiet := by unfold In64 quiet; omega
theorem R_in {a : Int} (h : In64 a) : In64 (R a) := by unfold R; split; exact quiet_in; exact h

/-- a num that is a number, an infinity counted -/
def Fine (a : Int) : Prop := In64 a ∧ rg a ≤ 9218868437227405312
theorem nan_fine {a : Int} (h : Fine a) : nanB a.toNat = false := by rw [nanB_int h.1]; simp; exact h.2
theorem R_fine {a : Int} (h : Fine a) : R a = a := by unfold R; rw [nan_fine h]; rfl
theorem nan_quiet : nanB quiet.toNat = true := by rw [nanB_int quiet_in]; decide
theorem R_quiet : R quiet = quiet := by unfold R; split <;> rfl
/-- each word's num: the quiet NaN, or a number -/
theorem R_cases {a : Int} (h : In64 a) : R a = quiet ∨ (Fine a ∧ R a = a) := by
  by_cases c : rg a ≤ 9218868437227405312
  · exact .inr ⟨⟨h, c⟩, R_fine ⟨h, c⟩⟩
  · left; unfold R; rw [nanB_int h]; simp; omega

/-! ### order -/
def rk (a : Int) : Int := if 9223372036854775808 ≤ a then 18446744073709551615 - a else a + 9223372036854775808
theorem rankV_eq {a : Int} (h : In64 a) : rankV a = rk (R a) := by
  unfold rankV rk
  rw [and_sign (R_in h), or_sign (R_in h), xor_max (R_in h)]
  by_cases c : 9223372036854775808 ≤ R a
  · simp only [if_pos c]; rfl
  · simp only [if_neg c]; rfl
theorem rrankV_eq {a : Int} (h : In64 a) : rrankV a = rk (R a) := by
  unfold rrankV rk
  rw [RR_eq h, and_sign (R_in h), or_sign (R_in h), xor_max (R_in h)]
  by_cases c : 9223372036854775808 ≤ R a
  · simp only [if_pos c]; rfl
  · simp only [if_neg c]; rfl

theorem S_int {a : Int} (h : In64 a) : S a.toNat = if 9223372036854775808 ≤ a then -(V (rg a).toNat : Int) else (V (rg a).toNat : Int) := by
  unfold S
  have e : rung a.toNat = (rg a).toNat := by have := rung_eq h; omega
  rw [sB_eq h, e]
  by_cases c : 9223372036854775808 ≤ a <;> simp [c]

theorem order_fine {a b : Int} (ha : Fine a) (hb : Fine b) : FloatKind.f64.format.order a.toNat b.toNat = some (compare (S a.toNat) (S b.toNat)) := by
  have h1 := rung_eq ha.1
  have h2 := rung_eq hb.1
  have h3 := ha.2
  have h4 := hb.2
  exact order_num _ _ (by omega) (by omega)

theorem cmpFV_eq {a b : Int} (ha : Fine a) (hb : Fine b) : cmpFV a.toNat b.toNat = cmpI (S a.toNat) (S b.toNat) := by
  unfold cmpFV cmpI
  rw [order_fine ha hb]
  by_cases h : S a.toNat < S b.toNat
  · rw [compare_lt h, if_pos h]; rfl
  · by_cases h2 : S b.toNat < S a.toNat
    · rw [compare_gt h2, if_neg h, if_pos h2]; rfl
    · rw [compare_eq (by omega), if_neg h, if_neg h2]; rfl

theorem minusV_eq {a : Int} (ha : Fine a) : minusV a.toNat = if a = 9223372036854775808 then -1 else 0 := by
  unfold minusV minusB
  have h0 : Fine 0 := ⟨⟨by decide, by decide⟩, by decide⟩
  have e := order_fine ha h0
  have e0 : (0 : Int).toNat = 0 := rfl
  rw [e0] at e
  rw [e]
  have hS0 : S 0 = 0 := rfl
  have hw : decide (wrap64 ((a.toNat : Nat) : Int) < 0) = decide (9223372036854775808 ≤ a) := by
    have := ha.1.1; have := ha.1.2
    unfold wrap64
    by_cases c : 9223372036854775808 ≤ a <;> simp [c] <;> omega
  rw [hw, hS0]
  have hs := S_int ha.1
  have hg : rg a = a % 9223372036854775808 := rfl
  have := ha.1.1; have := ha.1.2
  by_cases c : 9223372036854775808 ≤ a
  · rw [if_pos c] at hs
    by_cases c2 : a = 9223372036854775808
    · subst c2; rw [hs]; rfl
    · have : 0 < V (rg a).toNat := V_pos (by omega)
      rw [compare_lt (by omega), if_neg c2]; rfl
  · have c2 : ¬ a = 9223372036854775808 := by omega
    have c3 : decide (9223372036854775808 ≤ a) = false := by simp; omega
    rw [if_neg c2, c3, Bool.and_false]; rfl

theorem cmpI_lt {a b : Int} (h : a < b) : cmpI a b = -1 := by simp [cmpI, h]
theorem cmpI_gt {a b : Int} (h : b < a) : cmpI a b = 1 := by unfold cmpI; rw [if_neg (by omega), if_pos h]
theorem cmpI_eq {a b : Int} (h : a = b) : cmpI a b = 0 := by unfold cmpI; rw [if_neg (by omega), if_neg (by omega)]

theorem orV_lt {a b x y : Int} (h : a < b) : orV (cmpI a b) (cmpI x y) = -1 := by rw [cmpI_lt h]; rfl
theorem orV_gt {a b x y : Int} (h : b < a) : orV (cmpI a b) (cmpI x y) = 1 := by rw [cmpI_gt h]; rfl
theorem orV_eq {a b x y : Int} (h : a = b) : orV (cmpI a b) (cmpI x y) = cmpI x y := by rw [cmpI_eq h]; rfl

theorem fineOrder {a b : Int} (ha : Fine a) (hb : Fine b) : orV (cmpFV a.toNat b.toNat) (cmpI (minusV a.toNat) (minusV b.toNat)) = cmpI (rk a) (rk b) := by
  rw [cmpFV_eq ha hb, minusV_eq ha, minusV_eq hb, S_int ha.1, S_int hb.1]
  have ga : rg a = a % 9223372036854775808 := rfl
  have gb : rg b = b % 9223372036854775808 := rfl
  obtain ⟨⟨a0, a1⟩, a2⟩ := ha
  obtain ⟨⟨b0, b1⟩, b2⟩ := hb
  have hab := @V_lt (rg a).toNat (rg b).toNat
  have hba := @V_lt (rg b).toNat (rg a).toNat
  have hpa : 0 < (rg a).toNat → 0 < V (rg a).toNat := V_pos
  have hpb : 0 < (rg b).toNat → 0 < V (rg b).toNat := V_pos
  have hza : (rg a).toNat = 0 → V (rg a).toNat = 0 := fun h => by rw [h]; rfl
  have hzb : (rg b).toNat = 0 → V (rg b).toNat = 0 := fun h => by rw [h]; rfl
  generalize hva : V (rg a).toNat = va at *
  generalize hvb : V (rg b).toNat = vb at *
  unfold rk
  by_cases ca : 9223372036854775808 ≤ a
  · by_cases cb : 9223372036854775808 ≤ b
    · simp only [if_pos ca, if_pos cb]
      by_cases l : a < b
      · rw [orV_gt (by omega), cmpI_gt (by omega)]
      · by_cases l2 : b < a
        · rw [orV_lt (by omega), cmpI_lt (by omega)]
        · have e : a = b := by omega
          subst e
          rw [orV_eq (by omega), cmpI_eq rfl, cmpI_eq rfl]
    · simp only [if_pos ca, if_neg cb]
      rw [cmpI_lt (a := 18446744073709551615 - a) (by omega)]
      by_cases z : va = 0 ∧ vb = 0
      · rw [orV_eq (by omega), if_pos (by omega), if_neg (by omega)]; rfl
      · rw [orV_lt (by omega)]
  · by_cases cb : 9223372036854775808 ≤ b
    · simp only [if_neg ca, if_pos cb]
      rw [cmpI_gt (b := 18446744073709551615 - b) (by omega)]
      by_cases z : va = 0 ∧ vb = 0
      · rw [orV_eq (by omega), if_neg (by omega), if_pos (by omega)]; rfl
      · rw [orV_gt (by omega)]
    · simp only [if_neg ca, if_neg cb]
      by_cases l : a < b
      · rw [orV_lt (by omega), cmpI_lt (by omega)]
      · by_cases l2 : b < a
        · rw [orV_gt (by omega), cmpI_gt (by omega)]
        · have e : a = b := by omega
          subst e
          rw [orV_eq (by omega), cmpI_eq rfl, cmpI_eq rfl]

theorem rk_quiet : rk quiet = 18444492273895866369 := by decide
theorem rk_fine {a : Int} (h : Fine a) : rk a < 18444492273895866369 := by
  obtain ⟨⟨a0, a1⟩, a2⟩ := h
  unfold rg at a2; unfold rk; split <;> omega

/-- num.Compare is the order of ranks -/
theorem compareV_eq {a b : Int} (ha : In64 a) (hb : In64 b) : compareV a b = cmpI (rk (R a)) (rk (R b)) := by
  unfold compareV
  rcases R_cases ha with qa | ⟨fa, ea⟩
  · rw [qa, nan_quiet, if_pos rfl]
    rcases R_cases hb with qb | ⟨fb, eb⟩
    · rw [qb, nan_quiet, if_pos rfl, cmpI_eq rfl]
    · rw [eb, nan_fine fb, if_neg (by decide), cmpI_gt (by rw [rk_quiet]; exact rk_fine fb)]
  · rw [ea, nan_fine fa, if_neg (by decide)]
    rcases R_cases hb with qb | ⟨fb, eb⟩
    · rw [qb, nan_quiet, if_pos rfl, cmpI_lt (by rw [rk_quiet]; exact rk_fine fa)]
    · rw [eb, nan_fine fb, if_neg (by decide), fineOrder fa fb]

theorem coversV_fine {a b : Int} (ha : Fine a) (hb : Fine b) : coversV a b = decide (S b.toNat ≤ S a.toNat) := by
  unfold coversV
  rw [R_fine ha, R_fine hb, order_fine ha hb]
  by_cases h : S a.toNat < S b.toNat
  · rw [compare_lt h]; simp; exact h
  · by_cases h2 : S b.toNat < S a.toNat
    · rw [compare_gt h2]; simp; omega
    · rw [compare_eq (by omega)]; simp; omega
theorem coversV_nan_left {a b : Int} (h : R a = quiet) : coversV a b = false := by
  unfold coversV
  have : FloatKind.f64.format.order (R a).toNat (R b).toNat = none := by
    rw [h]; exact order_nan_left _ _ (by decide)
  rw [this]; rfl
theorem coversV_nan_right {a b : Int} (h : R b = quiet) : coversV a b = false := by
  unfold coversV
  have : FloatKind.f64.format.order (R a).toNat (R b).toNat = none := by
    rw [h]; exact order_nan_right _ _ (by decide)
  rw [this]; rfl
theorem nanRef_of {a : Int} (h : In64 a) : nanRef a = true ↔ ¬ Fine a := by
  rw [nanRef_eq h, nanB_int h]; simp [Fine, h]
theorem R_not_fine {a : Int} (h : In64 a) (n : ¬ Fine a) : R a = quiet := by
  unfold R; rw [nanB_int h, if_pos]; simp; have : ¬ (rg a ≤ 9218868437227405312) := fun c => n ⟨h, c⟩; omega

theorem coversV_eq {a b : Int} (ha : In64 a) (hb : In64 b) : rcoversV a b = coversV a b := by
  unfold rcoversV
  by_cases fa : Fine a
  · by_cases fb : Fine b
    · have na : nanRef a = false := by rw [nanRef_eq ha, nan_fine fa]
      have nb : nanRef b = false := by rw [nanRef_eq hb, nan_fine fb]
      rw [na, nb, if_neg (by decide), coversV_fine fa fb, andNot_sign ha, andNot_sign hb, rrankV_eq ha, rrankV_eq hb, R_fine fa, R_fine fb, ← fineOrder fa fb, cmpFV_eq fa fb, minusV_eq fa, minusV_eq fb]
      have ga : rg a = a % 9223372036854775808 := rfl
      have gb : rg b = b % 9223372036854775808 := rfl
      by_cases z : a % 9223372036854775808 = 0 ∧ b % 9223372036854775808 = 0
      · rw [if_pos z, S_int ha, S_int hb, ga, gb, z.1, z.2]
        have : V (0 : Int).toNat = 0 := rfl
        rw [this]; split <;> split <;> rfl
      · rw [if_neg z]
        by_cases l : S a.toNat < S b.toNat
        · rw [orV_lt l]; simp; exact l
        · by_cases l2 : S b.toNat < S a.toNat
          · rw [orV_gt l2]; simp; omega
          · rw [orV_eq (by omega)]
            have hS : S a.toNat = S b.toNat := by omega
            rw [S_int ha, S_int hb] at hS
            have hi := @V_inj (rg a).toNat (rg b).toNat
            have hpa : 0 < (rg a).toNat → 0 < V (rg a).toNat := V_pos
            have hpb : 0 < (rg b).toNat → 0 < V (rg b).toNat := V_pos
            obtain ⟨a0, a1⟩ := ha
            obtain ⟨b0, b1⟩ := hb
            have e : a = b := by
              by_cases ca : 9223372036854775808 ≤ a <;> by_cases cb : 9223372036854775808 ≤ b <;> simp only [ca, cb, if_true, if_false] at hS <;> omega
            subst e
            rw [cmpI_eq rfl]; simp
    · rw [if_pos (by rw [(nanRef_of hb).2 fb]; simp), coversV_nan_right (R_not_fine hb fb)]
  · rw [if_pos (by rw [(nanRef_of ha).2 fa]; rfl), coversV_nan_left (R_not_fine ha fa)]
end Go.Proofs.Ytffekieoefnidaa
