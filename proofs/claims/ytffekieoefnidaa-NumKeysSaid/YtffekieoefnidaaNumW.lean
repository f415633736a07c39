/- The walks of the laws of package num. -/
import Derived.Test.YtffekieoefnidaaNumQ
namespace Go.Proofs.Ytffekieoefnidaa
open Go.RowKit

theorem neg_any' (n : Int) (w : World) :
    Calls Try.prog 18 #[.int .u64 n] w fun e w' => e = .returned (.int .u64 (negV n)) ∧ w = w' := neg_any n w

theorem one_fin : Fin? (ofV 1) := whole_fin (by decide) (by decide)
theorem rungOf_zero : rungOf 0 = 0 := rfl
theorem ofV_zero : ofV 0 = 0 := by
  have h : (0 : Int).natAbs * 2 ^ lpN = 0 := by
    rw [show (0 : Int).natAbs = 0 from rfl, Nat.zero_mul]
  have h2 : wd (decide ((0 : Int) < 0)) ((rungOf 0 : Nat) : Int) = 0 := rfl
  have h3 := ofRaw_eq 0
  rw [h] at h3
  exact (ofV_eq 0).trans (h3.trans h2)
theorem negV_zero : negV 0 = 9223372036854775808 := by rw [negV_fine ⟨⟨by decide, by decide⟩, by decide⟩]; rfl
theorem infi : Inf? 9218868437227405312 := ⟨⟨by decide, by decide⟩, by decide⟩
theorem live1 : (addV (ofV 1) (negV (ofV 1)) == 0) = true := by
  rw [negV_fine one_fin.fine, addV_self one_fin]; rfl
theorem live2 : (compareV (negV (ofV 0)) 0 == -1) = true := by
  rw [ofV_zero, negV_zero, compareV_eq ⟨by decide, by decide⟩ ⟨by decide, by decide⟩, R_fine ⟨⟨by decide, by decide⟩, by decide⟩, R_fine ⟨⟨by decide, by decide⟩, by decide⟩]; decide
theorem live3 : coversV (negV (ofV 0)) 0 = true := by
  rw [ofV_zero, negV_zero, coversV_fine ⟨⟨by decide, by decide⟩, by decide⟩ ⟨⟨by decide, by decide⟩, by decide⟩]; decide
theorem live4 : (addV 9218868437227405312 (negV 9218868437227405312) == 9221120237041090561) = true := by
  rw [negV_fine infi.fine, addV_inf infi (ng_inf infi), if_neg (by decide)]; decide
theorem live5 : (checkV 9221120237041090562 == 70) = true := by
  unfold checkV R
  rw [nanB_int ⟨by decide, by decide⟩]; decide
theorem live6 : be8 (rankV 0) = ⟨#[128, 0, 0, 0, 0, 0, 0, 0]⟩ := by
  rw [rankV_eq ⟨by decide, by decide⟩, R_fine ⟨⟨by decide, by decide⟩, by decide⟩]; decide

theorem live_any (w : World) :
    Calls Try.prog 24 #[] w fun e w' => e = .returned (.bool true) ∧ Ext w w' := by
  have h1 := live1
  have h2 := live2
  have h3 := live3
  have h4 := live4
  have h5 := live5
  have h6 := live6
  go_enter Try.func24, Try.ntmps24
  go_wp2_with (first | (go_at_call 14; refine (of_any _ _).mono ?_; rintro e w' ⟨rfl, rfl⟩) | (go_at_call 18; refine (neg_any' _ _).mono ?_; rintro e w' ⟨rfl, rfl⟩) | (go_at_call 16; refine (add_any _ _ _).mono ?_; rintro e w1 ⟨rfl, hx1⟩) | (go_at_call 20; refine (compare_any _ _ _).mono ?_; rintro e w2 ⟨rfl, hx2⟩) | (go_at_call 22; refine (covers_any _ _ _).mono ?_; rintro e w' ⟨rfl, rfl⟩) | (go_at_call 10; refine (check_any _ _).mono ?_; rintro e w' ⟨rfl, rfl⟩) | (go_at_call 25; refine (key_any _ _).mono ?_; rintro e w3 ⟨rfl, hx3⟩))
  go_ret
  exact ⟨rfl, by repeat (first | assumption | refine Ext.trans ?_ (by assumption))⟩

theorem in64_of {a : Int} (h : (Lit.int .u64 a).wf = true) : In64 a := by
  simp [Lit.wf, IntKind.min, IntKind.max, IntKind.signed, IntKind.bits] at h
  exact ⟨h.1, by omega⟩

theorem ris_eq {a : Int} (h : In64 a) (w : World) :
    Calls Try.prog 11 #[.int .u64 a] w fun e w' => e = .returned (.bool (checkV a == 0)) ∧ w = w' := by
  have e : (checkV a == 0) = (RR a == a) := by
    rw [RR_eq h]; unfold checkV
    by_cases c : R a = a <;> simp [c]
  rw [e]; exact ris_any a w
theorem rright_eq {a : Int} (h : In64 a) (w : World) :
    Calls Try.prog 13 #[.int .u64 a] w fun e w' => e = .returned (.int .u64 (R a)) ∧ w = w' := by
  rw [← RR_eq h]; exact rright_any a w
theorem rof_eq (n : Int) (w : World) :
    Calls Try.prog 15 #[.int .i64 n] w fun e w' => e = .returned (.int .u64 (ofV n)) ∧ w = w' := by
  rw [ofV_eq]; exact rof_any n w
theorem rneg_eq {a : Int} (h : In64 a) (w : World) :
    Calls Try.prog 19 #[.int .u64 a] w fun e w' => e = .returned (.int .u64 (negV a)) ∧ w = w' := by
  have e : negV a = RR (bits .xor .u64 a 9223372036854775808) := by
    unfold negV
    rw [RR_eq]
    rw [xor_sign h]; exact ng_in h
  rw [e]; exact rneg_any a w
theorem radd_eq {a b : Int} (ha : In64 a) (hb : In64 b) (w : World) :
    Calls Try.prog 17 #[.int .u64 a, .int .u64 b] w fun e w' => e = .returned (.int .u64 (addV a b)) ∧ Ext w w' := by
  rw [← raddV_eq ha hb]
  have hQ : ∀ q : Nat, nanB q = true → nanRef (q : Int) = true ∨ 18446744073709551616 ≤ q := by
    intro q hq
    by_cases c : 18446744073709551616 ≤ q
    · exact .inr c
    · left; rw [nanRef_eq ⟨by omega, by omega⟩]; exact hq
  exact radd_any a b hQ w
theorem rcompare_eq {a b : Int} (ha : In64 a) (hb : In64 b) (w : World) :
    Calls Try.prog 21 #[.int .u64 a, .int .u64 b] w fun e w' => e = .returned (.int .i64 (compareV a b)) ∧ w = w' := by
  rw [compareV_eq ha hb, ← rrankV_eq ha, ← rrankV_eq hb]; exact rcompare_any a b w
theorem rcovers_eq {a b : Int} (ha : In64 a) (hb : In64 b) (w : World) :
    Calls Try.prog 23 #[.int .u64 a, .int .u64 b] w fun e w' => e = .returned (.bool (coversV a b)) ∧ w = w' := by
  rw [← coversV_eq ha hb]; exact rcovers_any a b w

theorem numTells_walk (a b n : Int) (wa : (Lit.int .u64 a).wf = true) (wb : (Lit.int .u64 b).wf = true) (_wn : (Lit.int .i64 n).wf = true) (w : World) :
    Calls Try.prog 3 #[.int .u64 a, .int .u64 b, .int .i64 n] w fun e w' => e = .returned (.bool true) ∧ Ext w w' := by
  have ha := in64_of wa
  have hb := in64_of wb
  clear wa wb
  have c1 := ris_eq ha
  have c2 := rright_eq ha
  have c4 := rneg_eq ha
  have c5 := radd_eq ha hb
  have c6 := rcompare_eq ha hb
  have c7 := rcovers_eq ha hb
  clear ha hb
  go_enter Try.func3, Try.ntmps3
  go_wp2_with (first | (go_at_call 14; refine (of_any _ _).mono ?_; rintro e w' ⟨rfl, rfl⟩) | (go_at_call 12; refine (right_any _ _).mono ?_; rintro e w' ⟨rfl, rfl⟩) | (go_at_call 18; refine (neg_any' _ _).mono ?_; rintro e w' ⟨rfl, rfl⟩) | (go_at_call 16; refine (add_any _ _ _).mono ?_; rintro e w1 ⟨rfl, hx1⟩) | (go_at_call 20; refine (compare_any _ _ _).mono ?_; rintro e w2 ⟨rfl, hx2⟩) | (go_at_call 22; refine (covers_any _ _ _).mono ?_; rintro e w' ⟨rfl, rfl⟩) | (go_at_call 10; refine (check_any _ _).mono ?_; rintro e w' ⟨rfl, rfl⟩) | (go_at_call 25; refine (key_any _ _).mono ?_; rintro e w3 ⟨rfl, hx3⟩) | (go_at_call 24; refine (live_any _).mono ?_; rintro e w4 ⟨rfl, hx4⟩) | (go_at_call 11; refine (c1 _).mono ?_; rintro e w' ⟨rfl, rfl⟩) | (go_at_call 13; refine (c2 _).mono ?_; rintro e w' ⟨rfl, rfl⟩) | (go_at_call 15; refine (rof_eq _ _).mono ?_; rintro e w' ⟨rfl, rfl⟩) | (go_at_call 19; refine (c4 _).mono ?_; rintro e w' ⟨rfl, rfl⟩) | (go_at_call 17; refine (c5 _).mono ?_; rintro e w5 ⟨rfl, hx5⟩) | (go_at_call 21; refine (c6 _).mono ?_; rintro e w' ⟨rfl, rfl⟩) | (go_at_call 23; refine (c7 _).mono ?_; rintro e w' ⟨rfl, rfl⟩))
  go_ret
  exact ⟨rfl, by repeat (first | assumption | refine Ext.trans ?_ (by assumption))⟩

/-! ### Check is a test -/
theorem checkV_zero {a : Int} (h : R a = a) : checkV a = 0 := by unfold checkV; rw [if_pos h]
theorem checkV_70 {a : Int} (h : ¬ R a = a) : checkV a = 70 := by unfold checkV; rw [if_neg h]
theorem checkV_cases (a : Int) : checkV a = 0 ∨ checkV a = 70 := by unfold checkV; split; exact .inl rfl; exact .inr rfl
/-- a num is a number, or the one NaN -/
theorem num_cases {a : Int} (h : In64 a) (c : R a = a) : Fine a ∨ a = quiet := by
  rcases R_cases h with q | ⟨f, _⟩
  · right; rw [← c]; exact q
  · exact .inl f
theorem quiet_not_fine : ¬ Fine quiet := by intro h; exact absurd h.2 (by decide)

/-- Covers, of two nums -/
theorem covers_cases {a b : Int} (ha : In64 a) (hb : In64 b) (ca : R a = a) (cb : R b = b) :
    (a = quiet ∨ b = quiet) ∧ coversV a b = false ∧ coversV b a = false ∨
    (a ≠ quiet ∧ b ≠ quiet) ∧ (coversV a b || coversV b a) = true ∧ ((coversV a b && coversV b a) = true ↔ (a = b ∨ (a = 0 ∨ a = 9223372036854775808) ∧ (b = 0 ∨ b = 9223372036854775808))) := by
  rcases num_cases ha ca with fa | rfl
  · rcases num_cases hb cb with fb | rfl
    · right
      refine ⟨⟨fun h => quiet_not_fine (h ▸ fa), fun h => quiet_not_fine (h ▸ fb)⟩, ?_, ?_⟩
      · rw [coversV_fine fa fb, coversV_fine fb fa]; simp; omega
      · rw [coversV_fine fa fb, coversV_fine fb fa]
        have hA := S_int ha
        have hB := S_int hb
        have ga : rg a = a % 9223372036854775808 := rfl
        have gb : rg b = b % 9223372036854775808 := rfl
        have hi := @V_inj (rg a).toNat (rg b).toNat
        have hpa : 0 < (rg a).toNat → 0 < V (rg a).toNat := V_pos
        have hpb : 0 < (rg b).toNat → 0 < V (rg b).toNat := V_pos
        have hza : (rg a).toNat = 0 → V (rg a).toNat = 0 := fun h => by rw [h]; rfl
        have hzb : (rg b).toNat = 0 → V (rg b).toNat = 0 := fun h => by rw [h]; rfl
        obtain ⟨a0, a1⟩ := ha
        obtain ⟨b0, b1⟩ := hb
        simp only [Bool.and_eq_true, decide_eq_true_eq]
        by_cases c1 : 9223372036854775808 ≤ a <;> by_cases c2 : 9223372036854775808 ≤ b <;> simp only [c1, c2, if_true, if_false] at hA hB <;> omega
    · left; exact ⟨.inr rfl, coversV_nan_right R_quiet, coversV_nan_left R_quiet⟩
  · left; exact ⟨.inl rfl, coversV_nan_left R_quiet, coversV_nan_right R_quiet⟩

/-- two nums, or one that is none: what Check says -/
theorem two_checks {a b : Int} : (checkV a = 0 ∧ checkV b = 0 ∧ R a = a ∧ R b = b) ∨ (checkV a + checkV b != 0) = true := by
  by_cases ca : R a = a
  · by_cases cb : R b = b
    · exact .inl ⟨checkV_zero ca, checkV_zero cb, ca, cb⟩
    · right; rw [checkV_zero ca, checkV_70 cb]; rfl
  · right; rw [checkV_70 ca]; rcases checkV_cases b with h | h <;> rw [h] <;> rfl
theorem checkV_bd (a : Int) : 0 ≤ checkV a ∧ checkV a ≤ 70 := by rcases checkV_cases a with h | h <;> rw [h] <;> decide

/-- how the tests of two numbers hang together -/
def covOk (A0 A1 B0 B1 E P Q : Bool) : Bool := !(A0 && A1) && !(B0 && B1) && (!(A0 && B0) || E) && (!(A1 && B1) || E) && (!E || A0 == B0) && (!E || A1 == B1) && (P || Q) && ((P && Q) == (E || (A0 || A1) && (B0 || B1)))
theorem covOk_of {a b : Int} (c1 : (coversV a b || coversV b a) = true) (c2 : (coversV a b && coversV b a) = true ↔ (a = b ∨ (a = 0 ∨ a = 9223372036854775808) ∧ (b = 0 ∨ b = 9223372036854775808))) :
    covOk (a == 0) (a == 9223372036854775808) (b == 0) (b == 9223372036854775808) (a == b) (coversV a b) (coversV b a) = true := by
  have e : (coversV a b && coversV b a) = (a == b || (a == 0 || a == 9223372036854775808) && (b == 0 || b == 9223372036854775808)) := by
    rw [Bool.eq_iff_iff, c2]; simp
  unfold covOk
  rw [e, c1]
  by_cases h : a = b
  · subst h; by_cases h0 : a = 0 <;> by_cases h1 : a = 9223372036854775808 <;> simp [h0, h1] <;> omega
  · have h' : (a == b) = false := by simpa using h
    rw [h']
    by_cases h0 : a = 0 <;> by_cases h1 : a = 9223372036854775808 <;> by_cases h2 : b = 0 <;> by_cases h3 : b = 9223372036854775808 <;> simp [h0, h1, h2, h3] <;> omega

theorem numCovers_walk (a b : Int) (wa : (Lit.int .u64 a).wf = true) (wb : (Lit.int .u64 b).wf = true) (w : World) :
    Calls Try.prog 5 #[.int .u64 a, .int .u64 b] w fun e w' => e = .returned (.bool true) ∧ Ext w w' := by
  have ha := in64_of wa
  have hb := in64_of wb
  clear wa wb
  rcases @two_checks a b with ⟨z1, z2, ca, cb⟩ | z
  · rcases covers_cases ha hb ca cb with ⟨q, c1, c2⟩ | ⟨⟨q1, q2⟩, c1, c2⟩
    · clear ca cb ha hb
      by_cases qa : a = 9221120237041090561
      · replace qa : (a == 9221120237041090561) = true := by simpa using qa
        clear q
        go_enter Try.func5, Try.ntmps5
        go_wp2_with (first | (go_at_call 14; refine (of_any _ _).mono ?_; rintro e w' ⟨rfl, rfl⟩) | (go_at_call 12; refine (right_any _ _).mono ?_; rintro e w' ⟨rfl, rfl⟩) | (go_at_call 18; refine (neg_any' _ _).mono ?_; rintro e w' ⟨rfl, rfl⟩) | (go_at_call 16; refine (add_any _ _ _).mono ?_; rintro e w1 ⟨rfl, hx1⟩) | (go_at_call 20; refine (compare_any _ _ _).mono ?_; rintro e w2 ⟨rfl, hx2⟩) | (go_at_call 22; refine (covers_any _ _ _).mono ?_; rintro e w' ⟨rfl, rfl⟩) | (go_at_call 10; refine (check_any _ _).mono ?_; rintro e w' ⟨rfl, rfl⟩) | (go_at_call 25; refine (key_any _ _).mono ?_; rintro e w3 ⟨rfl, hx3⟩) | (go_at_call 24; refine (live_any _).mono ?_; rintro e w4 ⟨rfl, hx4⟩))
        go_ret
        exact ⟨rfl, by repeat (first | assumption | refine Ext.trans ?_ (by assumption))⟩
      · have qb : (b == 9221120237041090561) = true := by
          rcases q with q | q
          · exact absurd q qa
          · exact beq_iff_eq.2 q
        replace qa : (a == 9221120237041090561) = false := by simpa using qa
        clear q
        go_enter Try.func5, Try.ntmps5
        go_wp2_with (first | (go_at_call 14; refine (of_any _ _).mono ?_; rintro e w' ⟨rfl, rfl⟩) | (go_at_call 12; refine (right_any _ _).mono ?_; rintro e w' ⟨rfl, rfl⟩) | (go_at_call 18; refine (neg_any' _ _).mono ?_; rintro e w' ⟨rfl, rfl⟩) | (go_at_call 16; refine (add_any _ _ _).mono ?_; rintro e w1 ⟨rfl, hx1⟩) | (go_at_call 20; refine (compare_any _ _ _).mono ?_; rintro e w2 ⟨rfl, hx2⟩) | (go_at_call 22; refine (covers_any _ _ _).mono ?_; rintro e w' ⟨rfl, rfl⟩) | (go_at_call 10; refine (check_any _ _).mono ?_; rintro e w' ⟨rfl, rfl⟩) | (go_at_call 25; refine (key_any _ _).mono ?_; rintro e w3 ⟨rfl, hx3⟩) | (go_at_call 24; refine (live_any _).mono ?_; rintro e w4 ⟨rfl, hx4⟩))
        go_ret
        exact ⟨rfl, by repeat (first | assumption | refine Ext.trans ?_ (by assumption))⟩
    · have hok := covOk_of c1 c2
      clear ca cb ha hb c1 c2
      replace q1 : (a == 9221120237041090561) = false := beq_eq_false_iff_ne.2 q1
      replace q2 : (b == 9221120237041090561) = false := beq_eq_false_iff_ne.2 q2
      cases e1 : (a == 0) <;> cases e2 : (a == 9223372036854775808) <;> cases e3 : (b == 0) <;> cases e4 : (b == 9223372036854775808) <;> cases e5 : (a == b) <;> cases e6 : coversV a b <;> cases e7 : coversV b a <;> rw [e1, e2, e3, e4, e5, e6, e7] at hok
      all_goals first
        | exact absurd hok (by decide)
        | (clear hok
           go_enter Try.func5, Try.ntmps5
           go_wp2_with (first | (go_at_call 14; refine (of_any _ _).mono ?_; rintro e w' ⟨rfl, rfl⟩) | (go_at_call 12; refine (right_any _ _).mono ?_; rintro e w' ⟨rfl, rfl⟩) | (go_at_call 18; refine (neg_any' _ _).mono ?_; rintro e w' ⟨rfl, rfl⟩) | (go_at_call 16; refine (add_any _ _ _).mono ?_; rintro e w1 ⟨rfl, hx1⟩) | (go_at_call 20; refine (compare_any _ _ _).mono ?_; rintro e w2 ⟨rfl, hx2⟩) | (go_at_call 22; refine (covers_any _ _ _).mono ?_; rintro e w' ⟨rfl, rfl⟩) | (go_at_call 10; refine (check_any _ _).mono ?_; rintro e w' ⟨rfl, rfl⟩) | (go_at_call 25; refine (key_any _ _).mono ?_; rintro e w3 ⟨rfl, hx3⟩) | (go_at_call 24; refine (live_any _).mono ?_; rintro e w4 ⟨rfl, hx4⟩))
           go_ret
           exact ⟨rfl, by repeat (first | assumption | refine Ext.trans ?_ (by assumption))⟩)
  · have b1 := checkV_bd a
    have b2 := checkV_bd b
    go_enter Try.func5, Try.ntmps5
    go_wp2_with (first | (go_at_call 14; refine (of_any _ _).mono ?_; rintro e w' ⟨rfl, rfl⟩) | (go_at_call 12; refine (right_any _ _).mono ?_; rintro e w' ⟨rfl, rfl⟩) | (go_at_call 18; refine (neg_any' _ _).mono ?_; rintro e w' ⟨rfl, rfl⟩) | (go_at_call 16; refine (add_any _ _ _).mono ?_; rintro e w1 ⟨rfl, hx1⟩) | (go_at_call 20; refine (compare_any _ _ _).mono ?_; rintro e w2 ⟨rfl, hx2⟩) | (go_at_call 22; refine (covers_any _ _ _).mono ?_; rintro e w' ⟨rfl, rfl⟩) | (go_at_call 10; refine (check_any _ _).mono ?_; rintro e w' ⟨rfl, rfl⟩) | (go_at_call 25; refine (key_any _ _).mono ?_; rintro e w3 ⟨rfl, hx3⟩) | (go_at_call 24; refine (live_any _).mono ?_; rintro e w4 ⟨rfl, hx4⟩))
    go_ret
    exact ⟨rfl, by repeat (first | assumption | refine Ext.trans ?_ (by assumption))⟩
end Go.Proofs.Ytffekieoefnidaa
