/- Contracts of num.Covers, and of the reference's functions. -/
import Derived.Test.YtffekieoefnidaaNumK
namespace Go.Proofs.Ytffekieoefnidaa
open Go.RowKit

def coversV (a b : Int) : Bool := FloatKind.f64.format.order (R a).toNat (R b).toNat == some .gt || FloatKind.f64.format.order (R a).toNat (R b).toNat == some .eq
theorem covers_any (a b : Int) (w : World) :
    Calls Try.prog 22 #[.int .u64 a, .int .u64 b] w fun e w' => e = .returned (.bool (coversV a b)) ∧ w = w' := by
  go_enter Try.func22, Try.ntmps22
  go_wp2_with (go_at_call 33; refine (float_any _ _).mono ?_; rintro e w' ⟨rfl, rfl⟩)
  go_ret
  exact ⟨rfl, rfl⟩

def nanRef (n : Int) : Bool := decide (9218868437227405312 < bits .andNot .u64 n 9223372036854775808)
theorem rnan_any (n : Int) (w : World) :
    Calls Try.prog 31 #[.int .u64 n] w fun e w' => e = .returned (.bool (nanRef n)) ∧ w = w' := by
  go_enter Try.func31, Try.ntmps31
  go_wp2
  go_ret
  exact ⟨rfl, rfl⟩

def RR (n : Int) : Int := if nanRef n then quiet else n
theorem rright_any (n : Int) (w : World) :
    Calls Try.prog 13 #[.int .u64 n] w fun e w' => e = .returned (.int .u64 (RR n)) ∧ w = w' := by
  by_cases h : nanRef n = true
  · have hR : RR n = quiet := by simp [RR, h]
    rw [hR]; clear hR
    go_enter Try.func13, Try.ntmps13
    go_wp2_with (go_at_call 31; refine (rnan_any _ _).mono ?_; rintro e w' ⟨rfl, rfl⟩)
    go_ret
    exact ⟨rfl, rfl⟩
  · have hR : RR n = n := by simp [RR, h]
    rw [hR]; clear hR
    replace h : nanRef n = false := by simpa using h
    go_enter Try.func13, Try.ntmps13
    go_wp2_with (go_at_call 31; refine (rnan_any _ _).mono ?_; rintro e w' ⟨rfl, rfl⟩)
    go_ret
    exact ⟨rfl, rfl⟩

theorem ris_any (n : Int) (w : World) :
    Calls Try.prog 11 #[.int .u64 n] w fun e w' => e = .returned (.bool (RR n == n)) ∧ w = w' := by
  go_enter Try.func11, Try.ntmps11
  go_wp2_with (go_at_call 13; refine (rright_any _ _).mono ?_; rintro e w' ⟨rfl, rfl⟩)
  go_ret
  exact ⟨rfl, rfl⟩

theorem rof_any (n : Int) (w : World) :
    Calls Try.prog 15 #[.int .i64 n] w fun e w' => e = .returned (.int .u64 (ofRaw n)) ∧ w = w' := by
  have hd := tobits_run
  go_enter Try.func15, Try.ntmps15
  go_wp2
  go_ret
  exact ⟨rfl, rfl⟩

theorem rneg_any (n : Int) (w : World) :
    Calls Try.prog 19 #[.int .u64 n] w fun e w' => e = .returned (.int .u64 (RR (bits .xor .u64 n 9223372036854775808))) ∧ w = w' := by
  go_enter Try.func19, Try.ntmps19
  go_wp2_with (go_at_call 13; refine (rright_any _ _).mono ?_; rintro e w' ⟨rfl, rfl⟩)
  go_ret
  exact ⟨rfl, rfl⟩

def raddV (a b : Int) : Int := match sumW (RR a).toNat (RR b).toNat with | some r => RR r | none => quiet
theorem radd_any (a b : Int) (hQ : ∀ q : Nat, nanB q = true → nanRef (q : Int) = true ∨ 18446744073709551616 ≤ q) (w : World) :
    Calls Try.prog 17 #[.int .u64 a, .int .u64 b] w fun e w' => e = .returned (.int .u64 (raddV a b)) ∧ Ext w w' := by
  have hd := tobits_run
  have hf := frombits_run
  cases h : sumW (RR a).toNat (RR b).toNat with
  | some r =>
    have hV : raddV a b = RR r := by simp [raddV, h]
    rw [hV]; clear hV hQ
    have hr := fun (w : World) => run_float_arith (P := Try.prog) w .add 44 .f64 (RR a).toNat (RR b).toNat r h
    clear h
    go_enter Try.func17, Try.ntmps17
    go_wp2_with (go_at_call 13; refine (rright_any _ _).mono ?_; rintro e w' ⟨rfl, rfl⟩)
    go_ret
    exact ⟨rfl, Ext.refl _⟩
  | none =>
    have hV : raddV a b = quiet := by simp [raddV, h]
    rw [hV]; clear hV
    obtain ⟨q, hq, hlt, hr⟩ := run_add_nan _ _ h w
    have hR : RR (q : Int) = quiet := by
      rcases hQ q hq with h | h
      · simp [RR, h]
      · omega
    clear h hq hlt hQ
    go_enter Try.func17, Try.ntmps17
    go_wp2_with (go_at_call 13; refine (rright_any _ _).mono ?_; rintro e w' ⟨rfl, rfl⟩)
    go_ret
    exact ⟨rfl, (Ext.refl _).drew⟩

def rrankV (a : Int) : Int := if bits .and .u64 (RR a) 9223372036854775808 = 0 then bits .or .u64 (RR a) 9223372036854775808 else bits .xor .u64 IntKind.u64.max (RR a)
theorem rrank_any (a : Int) (w : World) :
    Calls Try.prog 39 #[.int .u64 a] w fun e w' => e = .returned (.int .u64 (rrankV a)) ∧ w = w' := by
  unfold rrankV
  by_cases h : bits .and .u64 (RR a) 9223372036854775808 = 0
  · rw [if_pos h]
    replace h : (bits .and .u64 (RR a) 9223372036854775808 != 0) = false := by simp [h]
    go_enter Try.func39, Try.ntmps39
    go_wp2_with (go_at_call 13; refine (rright_any _ _).mono ?_; rintro e w' ⟨rfl, rfl⟩)
    go_ret
    exact ⟨rfl, rfl⟩
  · rw [if_neg h]
    replace h : (bits .and .u64 (RR a) 9223372036854775808 != 0) = true := by simpa using h
    go_enter Try.func39, Try.ntmps39
    go_wp2_with (go_at_call 13; refine (rright_any _ _).mono ?_; rintro e w' ⟨rfl, rfl⟩)
    go_ret
    exact ⟨rfl, rfl⟩

theorem rcompare_any (a b : Int) (w : World) :
    Calls Try.prog 21 #[.int .u64 a, .int .u64 b] w fun e w' => e = .returned (.int .i64 (cmpI (rrankV a) (rrankV b))) ∧ w = w' := by
  by_cases h : rrankV a < rrankV b
  · have hV : cmpI (rrankV a) (rrankV b) = -1 := by simp [cmpI, h]
    rw [hV]; clear hV
    go_enter Try.func21, Try.ntmps21
    go_wp2_with (go_at_call 39; refine (rrank_any _ _).mono ?_; rintro e w' ⟨rfl, rfl⟩)
    go_ret
    exact ⟨rfl, rfl⟩
  · by_cases h2 : rrankV b < rrankV a
    · have hV : cmpI (rrankV a) (rrankV b) = 1 := by simp [cmpI, h, h2]
      rw [hV]; clear hV
      go_enter Try.func21, Try.ntmps21
      go_wp2_with (go_at_call 39; refine (rrank_any _ _).mono ?_; rintro e w' ⟨rfl, rfl⟩)
      go_ret
      exact ⟨rfl, rfl⟩
    · have hV : cmpI (rrankV a) (rrankV b) = 0 := by simp [cmpI, h, h2]
      rw [hV]; clear hV
      go_enter Try.func21, Try.ntmps21
      go_wp2_with (go_at_call 39; refine (rrank_any _ _).mono ?_; rintro e w' ⟨rfl, rfl⟩)
      go_ret
      exact ⟨rfl, rfl⟩

def rcoversV (a b : Int) : Bool :=
  if nanRef a || nanRef b then false
  else if bits .andNot .u64 a 9223372036854775808 = 0 ∧ bits .andNot .u64 b 9223372036854775808 = 0 then true
  else decide (0 ≤ cmpI (rrankV a) (rrankV b))
theorem rcovers_any (a b : Int) (w : World) :
    Calls Try.prog 23 #[.int .u64 a, .int .u64 b] w fun e w' => e = .returned (.bool (rcoversV a b)) ∧ w = w' := by
  unfold rcoversV
  by_cases ha : nanRef a = true
  · rw [if_pos (by rw [ha]; rfl)]
    go_enter Try.func23, Try.ntmps23
    go_wp2_with (go_at_call 31; refine (rnan_any _ _).mono ?_; rintro e w' ⟨rfl, rfl⟩)
    go_ret
    exact ⟨rfl, rfl⟩
  · replace ha : nanRef a = false := by simpa using ha
    by_cases hb : nanRef b = true
    · rw [if_pos (by rw [ha, hb]; rfl)]
      go_enter Try.func23, Try.ntmps23
      go_wp2_with (go_at_call 31; refine (rnan_any _ _).mono ?_; rintro e w' ⟨rfl, rfl⟩)
      go_ret
      exact ⟨rfl, rfl⟩
    · replace hb : nanRef b = false := by simpa using hb
      rw [if_neg (by rw [ha, hb]; decide)]
      by_cases h0 : bits .andNot .u64 a 9223372036854775808 = 0
      · by_cases h1 : bits .andNot .u64 b 9223372036854775808 = 0
        · rw [if_pos ⟨h0, h1⟩]
          replace h0 : (bits .andNot .u64 a 9223372036854775808 == 0) = true := by simpa using h0
          replace h1 : (bits .andNot .u64 b 9223372036854775808 == 0) = true := by simpa using h1
          go_enter Try.func23, Try.ntmps23
          go_wp2_with (go_at_call 31; refine (rnan_any _ _).mono ?_; rintro e w' ⟨rfl, rfl⟩)
          go_ret
          exact ⟨rfl, rfl⟩
        · rw [if_neg (fun h => h1 h.2)]
          replace h0 : (bits .andNot .u64 a 9223372036854775808 == 0) = true := by simpa using h0
          replace h1 : (bits .andNot .u64 b 9223372036854775808 == 0) = false := by simpa using h1
          go_enter Try.func23, Try.ntmps23
          go_wp2_with (first | (go_at_call 31; refine (rnan_any _ _).mono ?_; rintro e w' ⟨rfl, rfl⟩) | (go_at_call 21; refine (rcompare_any _ _ _).mono ?_; rintro e w' ⟨rfl, rfl⟩))
          go_ret
          exact ⟨rfl, rfl⟩
      · rw [if_neg (fun h => h0 h.1)]
        replace h0 : (bits .andNot .u64 a 9223372036854775808 == 0) = false := by simpa using h0
        go_enter Try.func23, Try.ntmps23
        go_wp2_with (first | (go_at_call 31; refine (rnan_any _ _).mono ?_; rintro e w' ⟨rfl, rfl⟩) | (go_at_call 21; refine (rcompare_any _ _ _).mono ?_; rintro e w' ⟨rfl, rfl⟩))
        go_ret
        exact ⟨rfl, rfl⟩
end Go.Proofs.Ytffekieoefnidaa
