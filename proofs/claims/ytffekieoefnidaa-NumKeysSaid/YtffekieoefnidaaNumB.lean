/- Contracts of package num's and its reference's functions (part B: sums, orders). -/
import Derived.Test.YtffekieoefnidaaNumA
import Derived.Test.YtffekieoefnidaaNumM
import Derived.Test.YtffekieoefnidaaBase
namespace Go.Proofs.Ytffekieoefnidaa
open Go.RowKit

/-- the word of a sum; where it has none: none -/
def sumW (x y : Nat) : Option Nat := FloatKind.f64.format.add x y
def addV (a b : Int) : Int := match sumW (R a).toNat (R b).toNat with | some r => R r | none => quiet

open Ieee in
theorem nanB_eq (n : Nat) : nanB n = decide (9218868437227405312 < rung n) := by
  unfold nanB
  show (double.order n n != some .eq) = _
  by_cases h : 9218868437227405312 < rung n
  · rw [order_nan_left n n h]; simp [h]
  · rw [order_num n n (by omega) (by omega), compare_eq rfl]; simp [h]
theorem nanWord (s m : Nat) (h : m < 4503599627370495) : nanB (s * 2 ^ 63 + 9218868437227405312 + 1 + m) = true := by
  rw [nanB_eq]; unfold rung
  have e2 : (2 : Nat) ^ 63 = 9223372036854775808 := by decide
  rw [e2]; simp; omega

theorem run_add_nan (x y : Nat) (h : sumW x y = none) (w : World) : ∃ b : Nat, nanB b = true ∧ b < 18446744073709551616 ∧ (binOp .add 44 (.float .f64 x) (.float .f64 y)).run Try.prog w = .ok (.float .f64 b) w.drew := by
  have h' : FloatKind.f64.format.add x y = none := h
  refine ⟨(Question.nanBits .f64 x y).cut (w.tape w.drawn (.nanBits .f64 x y)), ?_, ?_, ?_⟩
  · generalize w.tape w.drawn (.nanBits .f64 x y) = t
    show nanB ((t % 2) * 2 ^ 63 + 0x7ff0000000000000 + 1 + (t / 2) % (2 ^ 52 - 1)) = true
    exact nanWord _ _ (Nat.mod_lt _ (by decide))
  · generalize w.tape w.drawn (.nanBits .f64 x y) = t
    show (t % 2) * 2 ^ 63 + 0x7ff0000000000000 + 1 + (t / 2) % (2 ^ 52 - 1) < 18446744073709551616
    have h1 : t % 2 < 2 := Nat.mod_lt _ (by decide)
    have h2 : (t / 2) % (2 ^ 52 - 1) < 2 ^ 52 - 1 := Nat.mod_lt _ (by decide)
    generalize t % 2 = p at *
    generalize (t / 2) % (2 ^ 52 - 1) = q at *
    omega
  · simp [binOp, Op.floatArith, h', Question.forced]

theorem add_any (a b : Int) (w : World) :
    Calls Try.prog 16 #[.int .u64 a, .int .u64 b] w fun e w' => e = .returned (.int .u64 (addV a b)) ∧ Ext w w' := by
  have hd := tobits_run
  cases h : sumW (R a).toNat (R b).toNat with
  | some r =>
    have hV : addV a b = R r := by simp [addV, h]
    rw [hV]; clear hV
    have hr := fun (w : World) => run_float_arith (P := Try.prog) w .add 44 .f64 (R a).toNat (R b).toNat r h
    clear h
    go_enter Try.func16, Try.ntmps16
    go_wp2_with (first | (go_at_call 12; refine (right_any _ _).mono ?_; rintro e w' ⟨rfl, rfl⟩) | (go_at_call 33; refine (float_any _ _).mono ?_; rintro e w' ⟨rfl, rfl⟩))
    go_ret
    exact ⟨rfl, Ext.refl _⟩
  | none =>
    have hV : addV a b = quiet := by simp [addV, h]
    rw [hV]; clear hV
    obtain ⟨q, hq, _, hr⟩ := run_add_nan _ _ h w
    have hR : R (q : Int) = quiet := by simp [R, hq]
    clear h hq
    go_enter Try.func16, Try.ntmps16
    go_wp2_with (first | (go_at_call 12; refine (right_any _ _).mono ?_; rintro e w' ⟨rfl, rfl⟩) | (go_at_call 33; refine (float_any _ _).mono ?_; rintro e w' ⟨rfl, rfl⟩))
    go_ret
    exact ⟨rfl, (Ext.refl _).drew⟩

theorem signbit_any (b : Nat) (w : World) :
    Calls Try.prog 42 #[.float .f64 b] w fun e w' => e = .returned (.bool (decide (wrap64 (b : Int) < 0))) ∧ w = w' := by
  have hd := tobits_run
  go_enter Try.func42, Try.ntmps42
  go_wp2
  go_ret
  exact ⟨rfl, rfl⟩

/-- a zero with a sign -/
def minusB (b : Nat) : Bool := FloatKind.f64.format.order b 0 == some .eq && decide (wrap64 (b : Int) < 0)
def minusV (b : Nat) : Int := if minusB b then -1 else 0
theorem minus_any (b : Nat) (w : World) :
    Calls Try.prog 38 #[.float .f64 b] w fun e w' => e = .returned (.int .i64 (minusV b)) ∧ w = w' := by
  by_cases h0 : (FloatKind.f64.format.order b 0 == some .eq) = true
  · by_cases h1 : decide (wrap64 (b : Int) < 0) = true
    · have hV : minusV b = -1 := by simp only [minusV, minusB, h0, h1]; rfl
      rw [hV]; clear hV
      go_enter Try.func38, Try.ntmps38
      go_wp2_with (go_at_call 42; refine (signbit_any _ _).mono ?_; rintro e w' ⟨rfl, rfl⟩)
      go_ret
      exact ⟨rfl, rfl⟩
    · have h1' : decide (wrap64 (b : Int) < 0) = false := by simpa using h1
      clear h1
      have hV : minusV b = 0 := by simp only [minusV, minusB, h0, h1']; rfl
      rw [hV]; clear hV
      go_enter Try.func38, Try.ntmps38
      go_wp2_with (go_at_call 42; refine (signbit_any _ _).mono ?_; rintro e w' ⟨rfl, rfl⟩)
      go_ret
      exact ⟨rfl, rfl⟩
  · have h0' : (FloatKind.f64.format.order b 0 == some .eq) = false := by simpa using h0
    clear h0
    have hV : minusV b = 0 := by simp only [minusV, minusB, h0']; rfl
    rw [hV]; clear hV
    go_enter Try.func38, Try.ntmps38
    go_wp2_with (go_at_call 42; refine (signbit_any _ _).mono ?_; rintro e w' ⟨rfl, rfl⟩)
    go_ret
    exact ⟨rfl, rfl⟩

theorem cmpInt_isNaN (a : Int) (w : World) :
    Calls Try.prog 40 #[.int .i64 a] w fun e w' => e = .returned (.bool false) ∧ w = w' := by
  go_enter Try.func40, Try.ntmps40
  go_wp2
  go_ret
  exact ⟨rfl, rfl⟩

theorem cmpF_isNaN (b : Nat) (w : World) :
    Calls Try.prog 41 #[.float .f64 b] w fun e w' => e = .returned (.bool (nanB b)) ∧ w = w' := by
  go_enter Try.func41, Try.ntmps41
  go_wp2
  go_ret
  exact ⟨rfl, rfl⟩

def cmpI (a b : Int) : Int := if a < b then -1 else if b < a then 1 else 0
theorem cmpInt_any (a b : Int) (w : World) :
    Calls Try.prog 34 #[.int .i64 a, .int .i64 b] w fun e w' => e = .returned (.int .i64 (cmpI a b)) ∧ w = w' := by
  by_cases h : a < b
  · have hV : cmpI a b = -1 := by simp [cmpI, h]
    rw [hV]; clear hV
    go_enter Try.func34, Try.ntmps34
    go_wp2_with (go_at_call 40; refine (cmpInt_isNaN _ _).mono ?_; rintro e w' ⟨rfl, rfl⟩)
    go_ret
    exact ⟨rfl, rfl⟩
  · by_cases h2 : b < a
    · have hV : cmpI a b = 1 := by simp [cmpI, h, h2]
      rw [hV]; clear hV
      go_enter Try.func34, Try.ntmps34
      go_wp2_with (go_at_call 40; refine (cmpInt_isNaN _ _).mono ?_; rintro e w' ⟨rfl, rfl⟩)
      go_ret
      exact ⟨rfl, rfl⟩
    · have hV : cmpI a b = 0 := by simp [cmpI, h, h2]
      rw [hV]; clear hV
      go_enter Try.func34, Try.ntmps34
      go_wp2_with (go_at_call 40; refine (cmpInt_isNaN _ _).mono ?_; rintro e w' ⟨rfl, rfl⟩)
      go_ret
      exact ⟨rfl, rfl⟩

/-- the order of two floats that are numbers -/
def cmpFV (x y : Nat) : Int := if FloatKind.f64.format.order x y == some .lt then -1 else if FloatKind.f64.format.order x y == some .gt then 1 else 0
theorem cmpFloat_any (x y : Nat) (hx : nanB x = false) (hy : nanB y = false) (w : World) :
    Calls Try.prog 37 #[.float .f64 x, .float .f64 y] w fun e w' => e = .returned (.int .i64 (cmpFV x y)) ∧ w = w' := by
  by_cases h : (FloatKind.f64.format.order x y == some .lt) = true
  · have hV : cmpFV x y = -1 := by unfold cmpFV; rw [if_pos h]
    rw [hV]; clear hV
    go_enter Try.func37, Try.ntmps37
    go_wp2_with (go_at_call 41; refine (cmpF_isNaN _ _).mono ?_; rintro e w' ⟨rfl, rfl⟩)
    go_ret
    exact ⟨rfl, rfl⟩
  · have h' : (FloatKind.f64.format.order x y == some .lt) = false := by simpa using h
    clear h
    by_cases h2 : (FloatKind.f64.format.order x y == some .gt) = true
    · have hV : cmpFV x y = 1 := by unfold cmpFV; rw [if_neg (by rw [h']; decide), if_pos h2]
      rw [hV]; clear hV
      go_enter Try.func37, Try.ntmps37
      go_wp2_with (go_at_call 41; refine (cmpF_isNaN _ _).mono ?_; rintro e w' ⟨rfl, rfl⟩)
      go_ret
      exact ⟨rfl, rfl⟩
    · have h2' : (FloatKind.f64.format.order x y == some .gt) = false := by simpa using h2
      clear h2
      have hV : cmpFV x y = 0 := by unfold cmpFV; rw [if_neg (by rw [h']; decide), if_neg (by rw [h2']; decide)]
      rw [hV]; clear hV
      go_enter Try.func37, Try.ntmps37
      go_wp2_with (go_at_call 41; refine (cmpF_isNaN _ _).mono ?_; rintro e w' ⟨rfl, rfl⟩)
      go_ret
      exact ⟨rfl, rfl⟩

def orV (a b : Int) : Int := if a = 0 then b else a
theorem or_any (a b : Int) (bl off c : Nat) (w : World) (h0 : w.cell? ⟨bl, off, none⟩ = some (.int .i64 a)) (h1 : w.cell? ⟨bl, off + 1, none⟩ = some (.int .i64 b)) :
    Calls Try.prog 36 #[.slice (some ⟨bl, off, none⟩) 2 c] w fun e w' => e = .returned (.int .i64 (orV a b)) ∧ w = w' := by
  by_cases ha : a = 0
  · subst ha
    by_cases hb : b = 0
    · subst hb
      go_enter Try.func36, Try.ntmps36
      go_wp2
      go_loop [8] (fun i => ∃ k : Nat, k ≤ 2 ∧ i = .int .i64 k) (fun i => 2 - (intOf i).toNat)
      case atStart => exact ⟨0, by omega, rfl⟩
      case round =>
        obtain ⟨k, hk, rfl⟩ := hrel
        by_cases k0 : k = 0
        · subst k0
          go_wp2
          go_round
          case rel => exact ⟨1, by omega, rfl⟩
          case measure => simp [intOf]
        · by_cases k1 : k = 1
          · subst k1
            go_wp2
            go_round
            case rel => exact ⟨2, by omega, rfl⟩
            case measure => simp [intOf]
          · obtain rfl : k = 2 := by omega
            go_wp2
            go_ret
            exact ⟨rfl, rfl⟩
    · have hb' : (b != 0) = true := by simp [hb]
      have hV : orV 0 b = b := by simp [orV]
      rw [hV]; clear hV hb
      go_enter Try.func36, Try.ntmps36
      go_wp2
      go_loop [8] (fun i => ∃ k : Nat, k ≤ 1 ∧ i = .int .i64 k) (fun i => 2 - (intOf i).toNat)
      case atStart => exact ⟨0, by omega, rfl⟩
      case round =>
        obtain ⟨k, hk, rfl⟩ := hrel
        by_cases k0 : k = 0
        · subst k0
          go_wp2
          go_round
          case rel => exact ⟨1, by omega, rfl⟩
          case measure => simp [intOf]
        · obtain rfl : k = 1 := by omega
          go_wp2
          go_ret
          exact ⟨rfl, rfl⟩
  · have ha' : (a != 0) = true := by simp [ha]
    have hV : orV a b = a := by simp [orV, ha]
    rw [hV]; clear hV ha
    go_enter Try.func36, Try.ntmps36
    go_wp2
    go_loop [8] (fun i => i = .int .i64 0) (fun i => 2 - (intOf i).toNat)
    case atStart => rfl
    case round =>
      subst hrel
      go_wp2
      go_ret
      exact ⟨rfl, rfl⟩

/-- the order of two nums, as num.Compare tells it -/
def compareV (a b : Int) : Int :=
  if nanB (R a).toNat then (if nanB (R b).toNat then 0 else 1) else if nanB (R b).toNat then -1
  else orV (cmpFV (R a).toNat (R b).toNat) (cmpI (minusV (R a).toNat) (minusV (R b).toNat))
theorem compare_any (a b : Int) (w : World) :
    Calls Try.prog 20 #[.int .u64 a, .int .u64 b] w fun e w' => e = .returned (.int .i64 (compareV a b)) ∧ Ext w w' := by
  unfold compareV
  by_cases ha : nanB (R a).toNat = true
  · rw [if_pos ha]
    by_cases hb : nanB (R b).toNat = true
    · rw [if_pos hb]
      go_enter Try.func20, Try.ntmps20
      go_wp2_with (first | (go_at_call 33; refine (float_any _ _).mono ?_; rintro e w' ⟨rfl, rfl⟩) | (go_at_call 35; refine (class_any _ _).mono ?_; rintro e w' ⟨rfl, rfl⟩) | (go_at_call 34; refine (cmpInt_any _ _ _).mono ?_; rintro e w' ⟨rfl, rfl⟩) | (go_at_call 37; refine (cmpFloat_any _ _ ha hb _).mono ?_; rintro e w' ⟨rfl, rfl⟩) | (go_at_call 38; refine (minus_any _ _).mono ?_; rintro e w' ⟨rfl, rfl⟩) | (go_at_call 36; refine (or_any _ _ _ _ _ _ (cell_two_new _ _ _ _ 0 _ rfl) (cell_two_new _ _ _ _ 1 _ rfl)).mono ?_; rintro e w' ⟨rfl, rfl⟩))
      go_ret
      exact ⟨rfl, Ext.refl _⟩
    · rw [if_neg hb]
      replace hb : nanB (R b).toNat = false := by simpa using hb
      go_enter Try.func20, Try.ntmps20
      go_wp2_with (first | (go_at_call 33; refine (float_any _ _).mono ?_; rintro e w' ⟨rfl, rfl⟩) | (go_at_call 35; refine (class_any _ _).mono ?_; rintro e w' ⟨rfl, rfl⟩) | (go_at_call 34; refine (cmpInt_any _ _ _).mono ?_; rintro e w' ⟨rfl, rfl⟩) | (go_at_call 37; refine (cmpFloat_any _ _ ha hb _).mono ?_; rintro e w' ⟨rfl, rfl⟩) | (go_at_call 38; refine (minus_any _ _).mono ?_; rintro e w' ⟨rfl, rfl⟩) | (go_at_call 36; refine (or_any _ _ _ _ _ _ (cell_two_new _ _ _ _ 0 _ rfl) (cell_two_new _ _ _ _ 1 _ rfl)).mono ?_; rintro e w' ⟨rfl, rfl⟩))
      go_ret
      exact ⟨rfl, Ext.refl _⟩
  · rw [if_neg ha]
    replace ha : nanB (R a).toNat = false := by simpa using ha
    by_cases hb : nanB (R b).toNat = true
    · rw [if_pos hb]
      go_enter Try.func20, Try.ntmps20
      go_wp2_with (first | (go_at_call 33; refine (float_any _ _).mono ?_; rintro e w' ⟨rfl, rfl⟩) | (go_at_call 35; refine (class_any _ _).mono ?_; rintro e w' ⟨rfl, rfl⟩) | (go_at_call 34; refine (cmpInt_any _ _ _).mono ?_; rintro e w' ⟨rfl, rfl⟩) | (go_at_call 37; refine (cmpFloat_any _ _ ha hb _).mono ?_; rintro e w' ⟨rfl, rfl⟩) | (go_at_call 38; refine (minus_any _ _).mono ?_; rintro e w' ⟨rfl, rfl⟩) | (go_at_call 36; refine (or_any _ _ _ _ _ _ (cell_two_new _ _ _ _ 0 _ rfl) (cell_two_new _ _ _ _ 1 _ rfl)).mono ?_; rintro e w' ⟨rfl, rfl⟩))
      go_ret
      exact ⟨rfl, Ext.refl _⟩
    · rw [if_neg hb]
      replace hb : nanB (R b).toNat = false := by simpa using hb
      go_enter Try.func20, Try.ntmps20
      go_wp2_with (first | (go_at_call 33; refine (float_any _ _).mono ?_; rintro e w' ⟨rfl, rfl⟩) | (go_at_call 35; refine (class_any _ _).mono ?_; rintro e w' ⟨rfl, rfl⟩) | (go_at_call 34; refine (cmpInt_any _ _ _).mono ?_; rintro e w' ⟨rfl, rfl⟩) | (go_at_call 37; refine (cmpFloat_any _ _ ha hb _).mono ?_; rintro e w' ⟨rfl, rfl⟩) | (go_at_call 38; refine (minus_any _ _).mono ?_; rintro e w' ⟨rfl, rfl⟩) | (go_at_call 36; refine (or_any _ _ _ _ _ _ (cell_two_new _ _ _ _ 0 _ rfl) (cell_two_new _ _ _ _ 1 _ rfl)).mono ?_; rintro e w' ⟨rfl, rfl⟩))
      go_ret
      exact ⟨rfl, (Ext.refl _).alloc _⟩
end Go.Proofs.Ytffekieoefnidaa
