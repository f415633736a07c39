/- Contracts of package num's and its reference's functions (part A: classes, signs, bits). -/
import Derived.Test.YtffekieoefnidaaRows
import Derived.WalkKit
import Derived.WalkSpells
import Derived.WalkLawsBesides
namespace Go.Proofs.Ytffekieoefnidaa
open Go.RowKit

theorem frombits_run (n : Int) (w : World) : (callFunc 30 #[.int .u64 n]).run Try.prog w = .ok (.value (.float .f64 n.toNat)) w := by kernel_rfl
theorem tobits_run (b : Nat) (w : World) : (callFunc 32 #[.float .f64 b]).run Try.prog w = .ok (.value (.int .u64 b)) w := by kernel_rfl

/-- is a float's word a NaN's, as 'f != f' tells it? -/
def nanB (b : Nat) : Bool := FloatKind.f64.format.order b b != some .eq
def quiet : Int := 9221120237041090561
def sgn : Int := 9223372036854775808
def R (n : Int) : Int := if nanB n.toNat then quiet else n

theorem isNaN_any (b : Nat) (w : World) :
    Calls Try.prog 29 #[.float .f64 b] w fun e w' => e = .returned (.bool (nanB b)) ∧ w = w' := by
  go_enter Try.func29, Try.ntmps29
  go_wp2
  go_ret
  exact ⟨rfl, rfl⟩

theorem right_any (n : Int) (w : World) :
    Calls Try.prog 12 #[.int .u64 n] w fun e w' => e = .returned (.int .u64 (R n)) ∧ w = w' := by
  have hd := frombits_run
  by_cases h : nanB n.toNat = true
  · have hR : R n = quiet := by simp [R, h]
    rw [hR]; clear hR
    go_enter Try.func12, Try.ntmps12
    go_wp2_with (go_at_call 29; refine (isNaN_any _ _).mono ?_; rintro e w' ⟨rfl, rfl⟩)
    go_ret
    exact ⟨rfl, rfl⟩
  · have hR : R n = n := by simp [R, h]
    rw [hR]; clear hR
    have h' : nanB n.toNat = false := by simpa using h
    clear h
    go_enter Try.func12, Try.ntmps12
    go_wp2_with (go_at_call 29; refine (isNaN_any _ _).mono ?_; rintro e w' ⟨rfl, rfl⟩)
    go_ret
    exact ⟨rfl, rfl⟩

/-- a float as the program makes it of a num -/
theorem float_any (n : Int) (w : World) :
    Calls Try.prog 33 #[.int .u64 n] w fun e w' => e = .returned (.float .f64 (R n).toNat) ∧ w = w' := by
  have hd := frombits_run
  go_enter Try.func33, Try.ntmps33
  go_wp2_with (go_at_call 12; refine (right_any _ _).mono ?_; rintro e w' ⟨rfl, rfl⟩)
  go_ret
  exact ⟨rfl, rfl⟩

def checkV (n : Int) : Int := if R n = n then 0 else 70
theorem check_any (n : Int) (w : World) :
    Calls Try.prog 10 #[.int .u64 n] w fun e w' => e = .returned (.int .i64 (checkV n)) ∧ w = w' := by
  by_cases h : R n = n
  · have hR : checkV n = 0 := by simp [checkV, h]
    rw [hR]; clear hR
    have h' : (R n != n) = false := by simp [h]
    clear h
    go_enter Try.func10, Try.ntmps10
    go_wp2_with (go_at_call 12; refine (right_any _ _).mono ?_; rintro e w' ⟨rfl, rfl⟩)
    go_ret
    exact ⟨rfl, rfl⟩
  · have hR : checkV n = 70 := by simp [checkV, h]
    rw [hR]; clear hR
    have h' : (R n != n) = true := by simp [h]
    clear h
    go_enter Try.func10, Try.ntmps10
    go_wp2_with (go_at_call 12; refine (right_any _ _).mono ?_; rintro e w' ⟨rfl, rfl⟩)
    go_ret
    exact ⟨rfl, rfl⟩

def ofRaw (n : Int) : Int := (floatOfInt .f64 n : Nat)
def ofV (n : Int) : Int := R (ofRaw n)
theorem of_any (n : Int) (w : World) :
    Calls Try.prog 14 #[.int .i64 n] w fun e w' => e = .returned (.int .u64 (ofV n)) ∧ w = w' := by
  have hd := tobits_run
  go_enter Try.func14, Try.ntmps14
  go_wp2_with (go_at_call 12; refine (right_any _ _).mono ?_; rintro e w' ⟨rfl, rfl⟩)
  go_ret
  exact ⟨rfl, rfl⟩

theorem neg_any (n : Int) (w : World) :
    Calls Try.prog 18 #[.int .u64 n] w fun e w' => e = .returned (.int .u64 (R (bits .xor .u64 n sgn))) ∧ w = w' := by
  go_enter Try.func18, Try.ntmps18
  go_wp2_with (go_at_call 12; refine (right_any _ _).mono ?_; rintro e w' ⟨rfl, rfl⟩)
  go_ret
  exact ⟨rfl, rfl⟩

theorem class_any (b : Nat) (w : World) :
    Calls Try.prog 35 #[.float .f64 b] w fun e w' => e = .returned (.int .i64 (if nanB b then 1 else 0)) ∧ w = w' := by
  by_cases h : nanB b = true
  · rw [if_pos h]
    go_enter Try.func35, Try.ntmps35
    go_wp2_with (go_at_call 29; refine (isNaN_any _ _).mono ?_; rintro e w' ⟨rfl, rfl⟩)
    go_ret
    exact ⟨rfl, rfl⟩
  · rw [if_neg h]
    have h' : nanB b = false := by simpa using h
    clear h
    go_enter Try.func35, Try.ntmps35
    go_wp2_with (go_at_call 29; refine (isNaN_any _ _).mono ?_; rintro e w' ⟨rfl, rfl⟩)
    go_ret
    exact ⟨rfl, rfl⟩
end Go.Proofs.Ytffekieoefnidaa
