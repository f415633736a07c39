/- The walks of the laws of package num. -/
import Derived.Test.YtffekieoefnidaaNumQ
namespace Go.Proofs.Ytffekieoefnidaa
open Go.RowKit

theorem neg_any' (n : Int) (w : World) :
    Calls Try.prog 18 #[.int .u64 n] w fun e w' => e = .returned (.int .u64 (negV n)) ∧ w = w' := neg_any n w

theorem one_fin : Fin? (ofV 1) := whole_fin (by decide) (by decide)
theorem rungOf_zero : rungOf 0 = 0 := rfl
theorem ofV_zero : ofV 0 = 0 := by
  have h : (0 : Int).natAbs * 2 ^ lpN = 0 := by
    rw [show (0 : Int).natAbs = 0 from rfl, Nat.zero_mul]
  have h2 : wd (decide ((0 : Int) < 0)) ((rungOf 0 : Nat) : Int) = 0 := rfl
  have h3 := ofRaw_eq 0
  rw [h] at h3
  exact (ofV_eq 0).trans (h3.trans h2)
theorem negV_zero : negV 0 = 9223372036854775808 := by rw [negV_fine ⟨⟨by decide, by decide⟩, by decide⟩]; rfl
theorem infi : Inf? 9218868437227405312 := ⟨⟨by decide, by decide⟩, by decide⟩
theorem live1 : (addV (ofV 1) (negV (ofV 1)) == 0) = true := by
  rw [negV_fine one_fin.fine, addV_self one_fin]; rfl
theorem live2 : (compareV (negV (ofV 0)) 0 == -1) = true := by
  rw [ofV_zero, negV_zero, compareV_eq ⟨by decide, by decide⟩ ⟨by decide, by decide⟩, R_fine ⟨⟨by decide, by decide⟩, by decide⟩, R_fine ⟨⟨by decide, by decide⟩, by decide⟩]; decide
theorem live3 : coversV (negV (ofV 0)) 0 = true := by
  rw [ofV_zero, negV_zero, coversV_fine ⟨⟨by decide, by decide⟩, by decide⟩ ⟨⟨by decide, by decide⟩, by decide⟩]; decide
theorem live4 : (addV 9218868437227405312 (negV 9218868437227405312) == 9221120237041090561) = true := by
  rw [negV_fine infi.fine, addV_inf infi (ng_inf infi), if_neg (by decide)]; decide
theorem live5 : (checkV 9221120237041090562 == 70) = true := by
  unfold checkV R
  rw [nanB_int ⟨by decide, by decide⟩]; decide
theorem live6 : be8 (rankV 0) = ⟨#[128, 0, 0, 0, 0, 0, 0, 0]⟩ := by
  rw [rankV_eq ⟨by decide, by decide⟩, R_fine ⟨⟨by decide, by decide⟩, by decide⟩]; decide

theorem live_any (w : World) :
    Calls Try.prog 24 #[] w fun e w' => e = .returned (.bool true) ∧ Ext w w' := by
  have h1 := live1
  have h2 := live2
  have h3 := live3
  have h4 := live4
  have h5 := live5
  have h6 := live6
  go_enter Try.func24, Try.ntmps24
  go_wp2_with (first | (go_at_call 14; refine (of_any _ _).mono ?_; rintro e w' ⟨rfl, rfl⟩) | (go_at_call 18; refine (neg_any' _ _).mono ?_; rintro e w' ⟨rfl, rfl⟩) | (go_at_call 16; refine (add_any _ _ _).mono ?_; rintro e w1 ⟨rfl, hx1⟩) | (go_at_call 20; refine (compare_any _ _ _).mono ?_; rintro e w2 ⟨rfl, hx2⟩) | (go_at_call 22; refine (covers_any _ _ _).mono ?_; rintro e w' ⟨rfl, rfl⟩) | (go_at_call 10; refine (check_any _ _).mono ?_; rintro e w' ⟨rfl, rfl⟩) | (go_at_call 25; refine (key_any _ _).mono ?_; rintro e w3 ⟨rfl, hx3⟩))
  go_ret
  exact ⟨rfl, by repeat (first | assumption | refine Ext.trans ?_ (by assumption))⟩

theorem in64_of {a : Int} (h : (Lit.int .u64 a).wf = true) : In64 a := by
  simp [Lit.wf, IntKind.min, IntKind.max, IntKind.signed, IntKind.bits] at h
  exact ⟨h.1, by omega⟩

theorem ris_eq {a : Int} (h : In64 a) (w : World) :
    Calls Try.prog 11 #[.int .u64 a] w fun e w' => e = .returned (.bool (checkV a == 0)) ∧ w = w' := by
  have e : (checkV a == 0) = (RR a == a) := by
    rw [RR_eq h]; unfold checkV
    by_cases c : R a = a <;> simp [c]
  rw [e]; exact ris_any a w
theorem rright_eq {a : Int} (h : In64 a) (w : World) :
    Calls Try.prog 13 #[.int .u64 a] w fun e w' => e = .returned (.int .u64 (R a)) ∧ w = w' := by
  rw [← RR_eq h]; exact rright_any a w
theorem rof_eq (n : Int) (w : World) :
    Calls Try.prog 15 #[.int .i64 n] w fun e w' => e = .returned (.int .u64 (ofV n)) ∧ w = w' := by
  rw [ofV_eq]; exact rof_any n w
theorem rneg_eq {a : Int} (h : In64 a) (w : World) :
    Calls Try.prog 19 #[.int .u64 a] w fun e w' => e = .returned (.int .u64 (negV a)) ∧ w = w' := by
  have e : negV a = RR (bits .xor .u64 a 9223372036854775808) := by
    unfold negV
    rw [RR_eq]
    rw [xor_sign h]; exact ng_in h
  rw [e]; exact rneg_any a w
theorem radd_eq {a b : Int} (ha : In64 a) (hb : In64 b) (w : World) :
    Calls Try.prog 17 #[.int .u64 a, .int .u64 b] w fun e w' => e = .returned (.int .u64 (addV a b)) ∧ Ext w w' := by
  rw [← raddV_eq ha hb]
  have hQ : ∀ q : Nat, nanB q = true → nanRef (q : Int) = true ∨ 18446744073709551616 ≤ q := by
    intro q hq
    by_cases c : 18446744073709551616 ≤ q
    · exact .inr c
    · left; rw [nanRef_eq ⟨by omega, by omega⟩]; exact hq
  exact radd_any a b hQ w
theorem rcompare_eq {a b : Int} (ha : In64 a) (hb : In64 b) (w : World) :
    Calls Try.prog 21 #[.int .u64 a, .int .u64 b] w fun e w' => e = .returned (.int .i64 (compareV a b)) ∧ w = w' := by
  rw [compareV_eq ha hb, ← rrankV_eq ha, ← rrankV_eq hb]; exact rcompare_any a b w
theorem rcovers_eq {a b : Int} (ha : In64 a) (hb : In64 b) (w : World) :
    Calls Try.prog 23 #[.int .u64 a, .int .u64 b] w fun e w' => e = .returned (.bool (coversV a b)) ∧ w = w' := by
  rw [← coversV_eq ha hb]; exact rcovers_any a b w

theorem numTells_walk (a b n : Int) (wa : (Lit.int .u64 a).wf = true) (wb : (Lit.int .u64 b).wf = true) (_wn : (Lit.int .i64 n).wf = true) (w : World) :
    Calls Try.prog 3 #[.int .u64 a, .int .u64 b, .int .i64 n] w fun e w' => e = .returned (.bool true) ∧ Ext w w' := by
  have ha := in64_of wa
  have hb := in64_of wb
  clear wa wb
  have c1 := ris_eq ha
  have c2 := rright_eq ha
  have c4 := rneg_eq ha
  have c5 := radd_eq ha hb
  have c6 := rcompare_eq ha hb
  have c7 := rcovers_eq ha hb
  clear ha hb
  go_enter Try.func3, Try.ntmps3
  go_wp2_with (first | (go_at_call 14; refine (of_any _ _).mono ?_; rintro e w' ⟨rfl, rfl⟩) | (go_at_call 12; refine (right_any _ _).mono ?_; rintro e w' ⟨rfl, rfl⟩) | (go_at_call 18; refine (neg_any' _ _).mono ?_; rintro e w' ⟨rfl, rfl⟩) | (go_at_call 16; refine (add_any _ _ _).mono ?_; rintro e w1 ⟨rfl, hx1⟩) | (go_at_call 20; refine (compare_any _ _ _).mono ?_; rintro e w2 ⟨rfl, hx2⟩) | (go_at_call 22; refine (covers_any _ _ _).mono ?_; rintro e w' ⟨rfl, rfl⟩) | (go_at_call 10; refine (check_any _ _).mono ?_; rintro e w' ⟨rfl, rfl⟩) | (go_at_call 25; refine (key_any _ _).mono ?_; rintro e w3 ⟨rfl, hx3⟩) | (go_at_call 24; refine (live_any _).mono ?_; rintro e w4 ⟨rfl, hx4⟩) | (go_at_call 11; refine (c1 _).mono ?_; rintro e w' ⟨rfl, rfl⟩) | (go_at_call 13; refine (c2 _).mono ?_; rintro e w' ⟨rfl, rfl⟩) | (go_at_call 15; refine (rof_eq _ _).mono ?_; rintro e w' ⟨rfl, rfl⟩) | (go_at_call 19; refine (c4 _).mono ?_; rintro e w' ⟨rfl, rfl⟩) | (go_at_call 17; refine (c5 _).mono ?_; rintro e w5 ⟨rfl, hx5⟩) | (go_at_call 21; refine (c6 _).mono ?_; rintro e w' ⟨rfl, rfl⟩) | (go_at_call 23; refine (c7 _).mono ?_; rintro e w' ⟨rfl, rfl⟩))
  go_ret
  exact ⟨rfl, by repeat (first | assumption | refine Ext.trans ?_ (by assumption))⟩
end Go.Proofs.Ytffekieoefnidaa
