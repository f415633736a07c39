/- Texts of the proofs of CmdEnds, CmdFirst, CmdGrows, merged (NumM2). -/
import Derived.Laws.FloatBits
set_option linter.unusedSimpArgs false
set_option linter.unusedVariables false
namespace Go.Proofs.YtbljhngekhgbbaaGreat.Nm
open Ieee
theorem dbl_binade : double.binade = 4503599627370496 := by decide
theorem dbl_inf : double.infRung = 9218868437227405312 := by decide
theorem dbl_sw : double.signWeight = 9223372036854775808 := by decide
theorem dbl_lp : double.leastPlace = -1074 := by decide
/-- a rung's value, in units of the least place -/
def V (r : Nat) : Nat := if r < 4503599627370496 then r else (4503599627370496 + r % 4503599627370496) * 2 ^ (r / 4503599627370496 - 1)
theorem V_zero : V 0 = 0 := rfl
theorem V_succ (r : Nat) : V r < V (r + 1) := by
  unfold V
  by_cases h : r + 1 < 4503599627370496
  · rw [if_pos (by omega), if_pos h]; omega
  · rw [if_neg h]
    by_cases h0 : r < 4503599627370496
    · rw [if_pos h0]
      have : r + 1 = 4503599627370496 := by omega
      rw [this]; simp; omega
    · rw [if_neg h0]
      by_cases hm : r % 4503599627370496 + 1 < 4503599627370496
      · have e1 : (r + 1) % 4503599627370496 = r % 4503599627370496 + 1 := by omega
        have e2 : (r + 1) / 4503599627370496 = r / 4503599627370496 := by omega
        rw [e1, e2]
        exact Nat.mul_lt_mul_of_pos_right (by omega) (Nat.two_pow_pos _)
      · have e1 : (r + 1) % 4503599627370496 = 0 := by omega
        have e2 : (r + 1) / 4503599627370496 - 1 = (r / 4503599627370496 - 1) + 1 := by omega
        rw [e1, e2, Nat.pow_succ]
        have hp : 0 < 2 ^ (r / 4503599627370496 - 1) := Nat.two_pow_pos _
        have e3 : (4503599627370496 + 0) * (2 ^ (r / 4503599627370496 - 1) * 2) = 9007199254740992 * 2 ^ (r / 4503599627370496 - 1) := by omega
        rw [e3]
        exact Nat.mul_lt_mul_of_pos_right (by omega) hp
theorem V_mono {a b : Nat} (h : a < b) : V a < V b := by
  induction b with
  | zero => omega
  | succ b ih =>
    by_cases e : a = b
    · subst e; exact V_succ a
    · exact Nat.lt_trans (ih (by omega)) (V_succ b)
theorem V_pos {r : Nat} (h : 0 < r) : 0 < V r := by have := V_mono h; rw [V_zero] at this; exact this
/-- sign and rung of a word -/
def sB (x : Nat) : Bool := x / 9223372036854775808 % 2 == 1
def rung (x : Nat) : Nat := x % 9223372036854775808
def S (x : Nat) : Int := if sB x then -(V (rung x) : Int) else (V (rung x) : Int)
theorem signed_eq (s : Bool) (m k : Nat) : signed s m k = if s then -((m * 2 ^ k : Nat) : Int) else ((m * 2 ^ k : Nat) : Int) := by
  unfold signed; rw [Nat.shiftLeft_eq]
theorem signed_add (s : Bool) (m k j : Nat) : signed s m (k + j) = signed s m k * ((2 ^ j : Nat) : Int) := by
  rw [signed_eq, signed_eq]
  have : m * 2 ^ (k + j) = m * 2 ^ k * 2 ^ j := by rw [Nat.pow_add, Nat.mul_assoc]
  rw [this]
  cases s <;> simp [Int.neg_mul]
/-- the number that a finite word is: mantissa and how far its place is above the least -/
def mant (x : Nat) : Nat := if rung x < 4503599627370496 then rung x else 4503599627370496 + rung x % 4503599627370496
def up (x : Nat) : Nat := if rung x < 4503599627370496 then 0 else rung x / 4503599627370496 - 1
theorem mant_up (x : Nat) : mant x * 2 ^ up x = V (rung x) := by
  unfold mant up V; split <;> simp
theorem S_eq (x : Nat) : S x = signed (sB x) (mant x) (up x) := by
  rw [signed_eq, mant_up]; rfl
theorem read_fin (x : Nat) (h : rung x < 9218868437227405312) : double.read x = .number (sB x) (mant x) (-1074 + (up x : Int)) := by
  unfold Format.read
  simp only [dbl_sw, dbl_binade, dbl_inf, dbl_lp]
  unfold mant up
  unfold rung at *
  unfold sB
  by_cases h0 : x % 9223372036854775808 < 4503599627370496
  · simp only [if_pos h0]; simp
  · simp only [if_neg h0, if_pos h]
theorem read_inf (x : Nat) (h : rung x = 9218868437227405312) : double.read x = .infinity (sB x) := by
  unfold Format.read
  simp only [dbl_sw, dbl_binade, dbl_inf, dbl_lp]
  unfold rung at h
  rw [if_neg (by omega), if_neg (by omega), if_pos h]; rfl
theorem read_nan (x : Nat) (h : 9218868437227405312 < rung x) : ∃ t, double.read x = .nan (sB x) t := by
  unfold Format.read
  simp only [dbl_sw, dbl_binade, dbl_inf, dbl_lp]
  unfold rung at h
  rw [if_neg (by omega), if_neg (by omega), if_neg (by omega)]
  exact ⟨_, rfl⟩
theorem order_nan_left (x y : Nat) (h : 9218868437227405312 < rung x) : double.order x y = none := by
  obtain ⟨t, ht⟩ := read_nan x h
  unfold Format.order; rw [ht]; simp [Datum.order]
theorem compare_scale (a b : Int) (k : Nat) : compare (a * ((2 ^ k : Nat) : Int)) (b * ((2 ^ k : Nat) : Int)) = compare a b := by
  have hp : (0 : Int) < ((2 ^ k : Nat) : Int) := by have := Nat.two_pow_pos k; omega
  simp only [compare, compareOfLessAndEq]
  have h1 : a * ((2 ^ k : Nat) : Int) < b * ((2 ^ k : Nat) : Int) ↔ a < b := Int.mul_lt_mul_right hp
  have h2 : a * ((2 ^ k : Nat) : Int) = b * ((2 ^ k : Nat) : Int) ↔ a = b := Int.mul_eq_mul_right_iff (by omega)
  simp only [h1, h2]
/-- a word's value, with its place brought down to a lower one -/
theorem signed_down (x : Nat) (b : Nat) (h : b ≤ up x) : S x = signed (sB x) (mant x) (up x - b) * ((2 ^ b : Nat) : Int) := by
  rw [S_eq, ← signed_add]
  congr 1; omega
theorem sub_places (i : Nat) (b : Nat) : ((-1074 + (i : Int)) - (-1074 + (b : Int))).toNat = i - b := by omega
theorem min_places (i j : Nat) : min (-1074 + (i : Int)) (-1074 + (j : Int)) = -1074 + ((min i j : Nat) : Int) := by omega
theorem compare_lt {a b : Int} (h : a < b) : compare a b = .lt := by simp [compare, compareOfLessAndEq, h]
theorem compare_gt {a b : Int} (h : b < a) : compare a b = .gt := by
  show compareOfLessAndEq a b = .gt
  unfold compareOfLessAndEq; rw [if_neg (by omega), if_neg (by omega)]
theorem compare_eq {a b : Int} (h : a = b) : compare a b = .eq := by simp [compare, compareOfLessAndEq, h]
theorem S_bound (x : Nat) (h : rung x < 9218868437227405312) : S x < (V 9218868437227405312 : Int) ∧ -(V 9218868437227405312 : Int) < S x := by
  have := V_mono h
  unfold S; split <;> omega
theorem S_inf (x : Nat) (h : rung x = 9218868437227405312) : S x = if sB x then -(V 9218868437227405312 : Int) else (V 9218868437227405312 : Int) := by
  unfold S; rw [h]
theorem V_inf_pos : 0 < V 9218868437227405312 := V_pos (by decide)
theorem order_num (x y : Nat) (hx : rung x ≤ 9218868437227405312) (hy : rung y ≤ 9218868437227405312) : double.order x y = some (compare (S x) (S y)) := by
  unfold Format.order
  have hp := V_inf_pos
  by_cases hx' : rung x < 9218868437227405312
  · by_cases hy' : rung y < 9218868437227405312
    · rw [read_fin x hx', read_fin y hy']
      simp only [Datum.order]
      rw [min_places, sub_places, sub_places]
      congr 1
      rw [signed_down x (min (up x) (up y)) (by omega), signed_down y (min (up x) (up y)) (by omega), compare_scale]
    · have hy2 : rung y = 9218868437227405312 := by omega
      rw [read_fin x hx', read_inf y hy2]
      simp only [Datum.order]
      have hb := S_bound x hx'
      rw [S_inf y hy2]
      cases sB y
      · simp only [Bool.false_eq_true, if_false]; rw [compare_lt hb.1]
      · simp only [if_true]; rw [compare_gt hb.2]
  · have hx2 : rung x = 9218868437227405312 := by omega
    by_cases hy' : rung y < 9218868437227405312
    · rw [read_inf x hx2, read_fin y hy']
      simp only [Datum.order]
      have hb := S_bound y hy'
      rw [S_inf x hx2]
      cases sB x
      · simp only [Bool.false_eq_true, if_false]; rw [compare_gt hb.1]
      · simp only [if_true]; rw [compare_lt hb.2]
    · have hy2 : rung y = 9218868437227405312 := by omega
      rw [read_inf x hx2, read_inf y hy2]
      simp only [Datum.order]
      rw [S_inf x hx2, S_inf y hy2]
      congr 1
      cases sB x <;> cases sB y
      · simp only [Bool.false_eq_true, if_false]; rw [compare_eq rfl]; decide
      · simp only [Bool.false_eq_true, if_false, if_true]; rw [compare_gt (by omega)]; decide
      · simp only [Bool.false_eq_true, if_false, if_true]; rw [compare_lt (by omega)]; decide
      · simp only [if_true]; rw [compare_eq rfl]; decide
end Go.Proofs.YtbljhngekhgbbaaGreat.Nm
