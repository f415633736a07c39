/- Keys of nums and back: contracts, and the law's walk. -/
import Derived.Test.YtffekieoefnidaaNumV
import Derived.Lib.Hide
namespace Go.Proofs.Ytffekieoefnidaa
open Go.RowKit

def fkStep (acc : Int) (c : UInt8) : Int := bits .or .u64 (IntKind.u64.wrap (acc * 256)) (IntKind.u64.wrap (c.toNat : Int))
def fk (l : List UInt8) : Int := l.foldl fkStep 0
theorem fk_take (s : ByteArray) (k : Nat) (h : k < s.size) : fk (s.data.toList.take (k + 1)) = fkStep (fk (s.data.toList.take k)) s[k] := by
  have e : s.data.toList.take (k + 1) = s.data.toList.take k ++ [s[k]] := by
    rw [List.take_succ_eq_append_getElem (by simpa using h)]; rfl
  unfold fk
  rw [e, List.foldl_append]; rfl
def fkAll (s : ByteArray) : Int := fk s.data.toList
theorem fk_end (s : ByteArray) : fk (s.data.toList.take s.size) = fkAll s := by
  unfold fkAll; rw [List.take_of_length_le (by simp)]

/-- the bits of a key's bits -/
def unrank (x : Int) : Int := if 0 < bits .and .u64 x 9223372036854775808 then bits .andNot .u64 x 9223372036854775808 else bits .xor .u64 IntKind.u64.max x
def fromKeyN (s : ByteArray) : Int := if s.size = 8 ∧ checkV (unrank (fkAll s)) = 0 then unrank (fkAll s) else 0
def fromKeyE (s : ByteArray) : Int := if s.size = 8 ∧ checkV (unrank (fkAll s)) = 0 then 0 else 70

theorem fromKey_any (s : ByteArray) (w : World) (hs : s.size ≤ 1000) :
    Calls Try.prog 26 #[.string s] w fun e w' => e = .returned (.tuple #[.int .u64 (fromKeyN s), .int .i64 (fromKeyE s)]) ∧ w = w' := by
  go_enter Try.func26, Try.ntmps26
  go_wp2
  go_loop [9, 4] (fun i b => ∃ k : Nat, k ≤ s.size ∧ i = .int .i64 k ∧ b = .int .u64 (fk (s.data.toList.take k))) (fun i _ => s.size - (intOf i).toNat)
  case atStart => exact ⟨0, by omega, rfl, rfl⟩
  case round =>
    obtain ⟨k, hk, rfl, rfl⟩ := hrel
    by_cases hlt : k < s.size
    · go_wp2
      go_round
      case rel => exact ⟨k + 1, by omega, by go_num, by rw [fk_take s k hlt]; rfl⟩
      case measure => simp [intOf]; omega
    · obtain rfl : k = s.size := by omega
      rw [fk_end]
      generalize hx : fkAll s = x
      by_cases h8 : s.size = 8
      · by_cases hp : 0 < bits .and .u64 x 9223372036854775808
        · have hu : unrank x = bits .andNot .u64 x 9223372036854775808 := by unfold unrank; rw [if_pos hp]
          by_cases hc : checkV (unrank x) = 0
          · have e1 : fromKeyN s = bits .andNot .u64 x 9223372036854775808 := by unfold fromKeyN; rw [hx, if_pos ⟨h8, hc⟩, hu]
            have e2 : fromKeyE s = 0 := by unfold fromKeyE; rw [hx, if_pos ⟨h8, hc⟩]
            rw [hu] at hc
            have h8' : ((s.size : Int) == 8) = true := by simp; omega
            have E1 := Lib.hid e1
            have E2 := Lib.hid e2
            clear hu hx e1 e2 h8 hlt hk
            go_wp2_with (go_at_call 10; refine (check_any _ _).mono ?_; rintro e w' ⟨rfl, rfl⟩)
            go_ret2
            exact ⟨by rw [E1.out, E2.out]; rfl, rfl⟩
          · have e1 : fromKeyN s = 0 := by unfold fromKeyN; rw [hx, if_neg (fun h => hc h.2)]
            have e2 : fromKeyE s = 70 := by unfold fromKeyE; rw [hx, if_neg (fun h => hc h.2)]
            rw [hu] at hc
            have hc' : (checkV (bits .andNot .u64 x 9223372036854775808) == 0) = false := by simpa using hc
            have h8' : ((s.size : Int) == 8) = true := by simp; omega
            have E1 := Lib.hid e1
            have E2 := Lib.hid e2
            clear hu hx e1 e2 h8 hlt hk hc
            go_wp2_with (go_at_call 10; refine (check_any _ _).mono ?_; rintro e w' ⟨rfl, rfl⟩)
            go_ret2
            exact ⟨by rw [E1.out, E2.out]; rfl, rfl⟩
        · have hu : unrank x = bits .xor .u64 IntKind.u64.max x := by unfold unrank; rw [if_neg hp]
          have hp0 : bits .and .u64 x 9223372036854775808 ≤ 0 := by omega
          clear hp
          by_cases hc : checkV (unrank x) = 0
          · have e1 : fromKeyN s = bits .xor .u64 IntKind.u64.max x := by unfold fromKeyN; rw [hx, if_pos ⟨h8, hc⟩, hu]
            have e2 : fromKeyE s = 0 := by unfold fromKeyE; rw [hx, if_pos ⟨h8, hc⟩]
            rw [hu] at hc
            have h8' : ((s.size : Int) == 8) = true := by simp; omega
            have E1 := Lib.hid e1
            have E2 := Lib.hid e2
            clear hu hx e1 e2 h8 hlt hk
            have kx := fun w => check_any (bits .xor .u64 IntKind.u64.max x) w
            go_wp2_with (go_at_call 10; refine (kx _).mono ?_; rintro e w' ⟨rfl, rfl⟩)
            go_ret2
            exact ⟨by rw [E1.out, E2.out]; rfl, rfl⟩
          · have e1 : fromKeyN s = 0 := by unfold fromKeyN; rw [hx, if_neg (fun h => hc h.2)]
            have e2 : fromKeyE s = 70 := by unfold fromKeyE; rw [hx, if_neg (fun h => hc h.2)]
            rw [hu] at hc
            have hc' : (checkV (bits .xor .u64 IntKind.u64.max x) == 0) = false := by simpa using hc
            have h8' : ((s.size : Int) == 8) = true := by simp; omega
            have E1 := Lib.hid e1
            have E2 := Lib.hid e2
            clear hu hx e1 e2 h8 hlt hk hc
            have kx := fun w => check_any (bits .xor .u64 IntKind.u64.max x) w
            go_wp2_with (go_at_call 10; refine (kx _).mono ?_; rintro e w' ⟨rfl, rfl⟩)
            go_ret2
            exact ⟨by rw [E1.out, E2.out]; rfl, rfl⟩
      · have e1 : fromKeyN s = 0 := by unfold fromKeyN; rw [if_neg (fun h => h8 h.1)]
        have e2 : fromKeyE s = 70 := by unfold fromKeyE; rw [if_neg (fun h => h8 h.1)]
        have h8' : ((s.size : Int) == 8) = false := by simp; omega
        have E1 := Lib.hid e1
        have E2 := Lib.hid e2
        clear hx e1 e2 h8 hlt hk
        by_cases hp : 0 < bits .and .u64 x 9223372036854775808
        · go_wp2
          go_ret2
          exact ⟨by rw [E1.out, E2.out]; rfl, rfl⟩
        · have hp0 : bits .and .u64 x 9223372036854775808 ≤ 0 := by omega
          clear hp
          go_wp2
          go_ret2
          exact ⟨by rw [E1.out, E2.out]; rfl, rfl⟩


theorem make8 (w : World) : (Instr.makeSlice 56 (.int .i64 8) (.int .i64 8)).run Try.prog w = .ok (.slice (some ⟨w.heap.size, 0, none⟩) 8 8) (w.alloc (.cells #[.int .u8 0, .int .u8 0, .int .u8 0, .int .u8 0, .int .u8 0, .int .u8 0, .int .u8 0, .int .u8 0] 5)) := by kernel_rfl

theorem be8_pow (x : Int) : (⟨#[b8 (x / 72057594037927936), b8 (x / 281474976710656), b8 (x / 1099511627776), b8 (x / 4294967296), b8 (x / 16777216), b8 (x / 65536), b8 (x / 256), b8 x]⟩ : ByteArray) = be8 x := by
  unfold be8
  have e2 : x / 256 / 256 = x / 65536 := by omega
  have e3 : x / 65536 / 256 = x / 16777216 := by omega
  have e4 : x / 16777216 / 256 = x / 4294967296 := by omega
  have e5 : x / 4294967296 / 256 = x / 1099511627776 := by omega
  have e6 : x / 1099511627776 / 256 = x / 281474976710656 := by omega
  have e7 : x / 281474976710656 / 256 = x / 72057594037927936 := by omega
  rw [e2, e3, e4, e5, e6, e7]

theorem rkey_any (a : Int) (w : World) :
    Calls Try.prog 28 #[.int .u64 a] w fun e w' => e = .returned (.string (be8 (rrankV a))) ∧ Ext w w' := by
  have hk := conv8
  have hmk := make8
  go_enter Try.func28, Try.ntmps28
  go_wp2_with (go_at_call 39; refine (rrank_any _ _).mono ?_; rintro e w' ⟨rfl, rfl⟩)
  go_rounds 9
  go_ret
  exact ⟨congrArg (fun s => Ending.returned (Value.string s)) (be8_pow _), (Ext.refl _).alloc _⟩

/-! ### the reference's FromKey -/
def rfromKeyN (s : ByteArray) : Int := if s.size = 8 ∧ RR (unrank (fkAll s)) = unrank (fkAll s) then unrank (fkAll s) else 0
def rfromKeyE (s : ByteArray) : Int := if s.size = 8 ∧ RR (unrank (fkAll s)) = unrank (fkAll s) then 0 else 70

theorem rfromKey_any (s : ByteArray) (w : World) (hs : s.size ≤ 1000) (hn : 0 ≤ bits .and .u64 (fkAll s) 9223372036854775808) :
    Calls Try.prog 27 #[.string s] w fun e w' => e = .returned (.tuple #[.int .u64 (rfromKeyN s), .int .i64 (rfromKeyE s)]) ∧ w = w' := by
  by_cases h8 : s.size = 8
  · have hi0 : 8 ≤ s.size := by omega
    have h8' : ((s.size : Int) == 8) = true := by simp; omega
    have h8n : ((s.size : Int) != 8) = false := by simp; omega
    have H8 := Lib.hid h8
    clear h8
    go_enter Try.func27, Try.ntmps27
    go_wp2
    go_loop [5, 4] (fun i b => ∃ k : Nat, k ≤ 8 ∧ i = .int .i64 k ∧ b = .int .u64 (fk (s.data.toList.take k))) (fun i _ => 8 - (intOf i).toNat)
    case atStart => exact ⟨0, by omega, rfl, rfl⟩
    case round =>
      obtain ⟨k, hk, rfl, rfl⟩ := hrel
      by_cases hlt : k < 8
      · have hlt' : k < s.size := by omega
        go_wp2
        go_round
        case rel => exact ⟨k + 1, by omega, by go_num, by rw [fk_take s k hlt']; rfl⟩
        case measure => simp [intOf]; omega
      · obtain rfl : k = 8 := by omega
        have he : fk (s.data.toList.take 8) = fkAll s := by rw [← fk_end s, H8.out]
        rw [he]
        have e0 := H8.out
        clear he
        generalize hx : fkAll s = x at *
        by_cases hp : 0 < bits .and .u64 x 9223372036854775808
        · have hu : unrank x = bits .andNot .u64 x 9223372036854775808 := by unfold unrank; rw [if_pos hp]
          have hp' : (bits .and .u64 x 9223372036854775808 != 0) = true := by simp; omega
          by_cases hc : RR (unrank x) = unrank x
          · have e1 : rfromKeyN s = bits .andNot .u64 x 9223372036854775808 := by unfold rfromKeyN; rw [hx, if_pos ⟨e0, hc⟩, hu]
            have e2 : rfromKeyE s = 0 := by unfold rfromKeyE; rw [hx, if_pos ⟨e0, hc⟩]
            rw [hu] at hc
            have hc' : (RR (bits .andNot .u64 x 9223372036854775808) == bits .andNot .u64 x 9223372036854775808) = true := by simpa using hc
            have E1 := Lib.hid e1
            have E2 := Lib.hid e2
            clear hu hx e1 e2 e0 hlt hk hc hp
            go_wp2_with (go_at_call 11; refine (ris_any _ _).mono ?_; rintro e w' ⟨rfl, rfl⟩)
            go_ret2
            exact ⟨by rw [E1.out, E2.out]; rfl, rfl⟩
          · have e1 : rfromKeyN s = 0 := by unfold rfromKeyN; rw [hx, if_neg (fun h => hc h.2)]
            have e2 : rfromKeyE s = 70 := by unfold rfromKeyE; rw [hx, if_neg (fun h => hc h.2)]
            rw [hu] at hc
            have hc' : (RR (bits .andNot .u64 x 9223372036854775808) == bits .andNot .u64 x 9223372036854775808) = false := by simpa using hc
            have E1 := Lib.hid e1
            have E2 := Lib.hid e2
            clear hu hx e1 e2 e0 hlt hk hc hp
            go_wp2_with (go_at_call 11; refine (ris_any _ _).mono ?_; rintro e w' ⟨rfl, rfl⟩)
            go_ret2
            exact ⟨by rw [E1.out, E2.out]; rfl, rfl⟩
        · have hu : unrank x = bits .xor .u64 IntKind.u64.max x := by unfold unrank; rw [if_neg hp]
          have hp' : (bits .and .u64 x 9223372036854775808 != 0) = false := by simp; omega
          by_cases hc : RR (unrank x) = unrank x
          · have e1 : rfromKeyN s = bits .xor .u64 IntKind.u64.max x := by unfold rfromKeyN; rw [hx, if_pos ⟨e0, hc⟩, hu]
            have e2 : rfromKeyE s = 0 := by unfold rfromKeyE; rw [hx, if_pos ⟨e0, hc⟩]
            rw [hu] at hc
            have hc' : (RR (bits .xor .u64 IntKind.u64.max x) == bits .xor .u64 IntKind.u64.max x) = true := by simpa using hc
            have E1 := Lib.hid e1
            have E2 := Lib.hid e2
            clear hu hx e1 e2 e0 hlt hk hc hp
            have kx := fun w => ris_any (bits .xor .u64 IntKind.u64.max x) w
            go_wp2_with (go_at_call 11; refine (kx _).mono ?_; rintro e w' ⟨rfl, rfl⟩)
            go_ret2
            exact ⟨by rw [E1.out, E2.out]; rfl, rfl⟩
          · have e1 : rfromKeyN s = 0 := by unfold rfromKeyN; rw [hx, if_neg (fun h => hc h.2)]
            have e2 : rfromKeyE s = 70 := by unfold rfromKeyE; rw [hx, if_neg (fun h => hc h.2)]
            rw [hu] at hc
            have hc' : (RR (bits .xor .u64 IntKind.u64.max x) == bits .xor .u64 IntKind.u64.max x) = false := by simpa using hc
            have E1 := Lib.hid e1
            have E2 := Lib.hid e2
            clear hu hx e1 e2 e0 hlt hk hc hp
            have kx := fun w => ris_any (bits .xor .u64 IntKind.u64.max x) w
            go_wp2_with (go_at_call 11; refine (kx _).mono ?_; rintro e w' ⟨rfl, rfl⟩)
            go_ret2
            exact ⟨by rw [E1.out, E2.out]; rfl, rfl⟩
  · have e1 : rfromKeyN s = 0 := by unfold rfromKeyN; rw [if_neg (fun h => h8 h.1)]
    have e2 : rfromKeyE s = 70 := by unfold rfromKeyE; rw [if_neg (fun h => h8 h.1)]
    have h8n : ((s.size : Int) != 8) = true := by simp; omega
    have E1 := Lib.hid e1
    have E2 := Lib.hid e2
    clear e1 e2 h8 hn
    go_enter Try.func27, Try.ntmps27
    go_wp2
    go_ret2
    exact ⟨by rw [E1.out, E2.out]; rfl, rfl⟩

/-! ### plain -/
theorem nat_or8 (m c : Nat) (h : c < 256) : (m * 256) ||| c = m * 256 + c := by
  have := Nat.two_pow_add_eq_or_of_lt (i := 8) (b := c) (by simpa using h) m
  rw [Nat.mul_comm m 256]; exact this.symm
theorem fkStep_eq {acc : Int} (h0 : 0 ≤ acc) (h1 : acc < 72057594037927936) (c : UInt8) : fkStep acc c = acc * 256 + (c.toNat : Int) := by
  have hc : c.toNat < 256 := c.toNat_lt
  unfold fkStep
  rw [IntKind.wrap_u64, IntKind.wrap_u64, Int.emod_eq_of_lt (by omega) (by omega), Int.emod_eq_of_lt (by omega) (by omega), u64_or _ _ (by omega) (by omega) (by omega) (by omega)]
  have e1 : (acc * 256).toNat = acc.toNat * 256 := by omega
  have e2 : ((c.toNat : Nat) : Int).toNat = c.toNat := by omega
  rw [e1, e2, nat_or8 _ _ hc]; omega
theorem fkStep_in (acc : Int) (c : UInt8) : In64 (fkStep acc c) := by
  have hc : c.toNat < 256 := c.toNat_lt
  unfold fkStep
  rw [IntKind.wrap_u64, IntKind.wrap_u64, u64_or _ _ (by omega) (by omega) (by omega) (by omega)]
  have h := Nat.or_lt_two_pow (x := (acc * 256 % 18446744073709551616).toNat) (y := ((c.toNat : Int) % 18446744073709551616).toNat) (n := 64) (by omega) (by omega)
  have e : (2 : Nat) ^ 64 = 18446744073709551616 := by decide
  rw [e] at h
  exact ⟨by omega, by omega⟩
theorem fk_in (l : List UInt8) : In64 (fk l) := by
  unfold fk
  rw [← List.foldr_reverse]
  cases l.reverse with
  | nil => exact ⟨by decide, by decide⟩
  | cons c m => exact fkStep_in _ _
theorem fkAll_in (s : ByteArray) : In64 (fkAll s) := fk_in _
theorem fk_back {y : Int} (h : In64 y) : fkStep (y / 256) (b8 y) = y := by
  obtain ⟨h0, h1⟩ := h
  rw [fkStep_eq (by omega) (by omega), b8_toNat]; omega
/-- a number's eight bytes are that number -/
theorem fk_be8 {x : Int} (hx : In64 x) : fkAll (be8 x) = x := by
  obtain ⟨h0, h1⟩ := hx
  unfold fkAll be8 fk
  simp only [List.foldl]
  have h7 : fkStep 0 (b8 (x / 256 / 256 / 256 / 256 / 256 / 256 / 256)) = x / 256 / 256 / 256 / 256 / 256 / 256 / 256 := by
    have h := fk_back (y := x / 256 / 256 / 256 / 256 / 256 / 256 / 256) ⟨by omega, by omega⟩
    have z : x / 256 / 256 / 256 / 256 / 256 / 256 / 256 / 256 = 0 := by omega
    rw [z] at h; exact h
  rw [h7]
  rw [fk_back (y := x / 256 / 256 / 256 / 256 / 256 / 256) ⟨by omega, by omega⟩]
  rw [fk_back (y := x / 256 / 256 / 256 / 256 / 256) ⟨by omega, by omega⟩]
  rw [fk_back (y := x / 256 / 256 / 256 / 256) ⟨by omega, by omega⟩]
  rw [fk_back (y := x / 256 / 256 / 256) ⟨by omega, by omega⟩]
  rw [fk_back (y := x / 256 / 256) ⟨by omega, by omega⟩]
  rw [fk_back (y := x / 256) ⟨by omega, by omega⟩]
  rw [fk_back (y := x) ⟨by omega, by omega⟩]

theorem unrank_in {x : Int} (h : In64 x) : In64 (unrank x) := by
  unfold unrank
  rw [and_sign h, andNot_sign h, xor_max h]
  obtain ⟨h0, h1⟩ := h
  unfold In64
  split <;> omega
theorem unrank_rk {a : Int} (h : In64 a) : unrank (rk a) = a := by
  have hr := rk_in h
  unfold unrank
  rw [and_sign hr, andNot_sign hr, xor_max hr]
  obtain ⟨h0, h1⟩ := h
  unfold rk
  by_cases c : 9223372036854775808 ≤ a
  · rw [if_pos c, if_neg (by rw [if_neg (by omega)]; decide)]; omega
  · rw [if_neg c, if_pos (by rw [if_pos (by omega)]; decide)]; omega
theorem fromKey_same (s : ByteArray) : rfromKeyN s = fromKeyN s ∧ rfromKeyE s = fromKeyE s := by
  have hu : In64 (unrank (fkAll s)) := unrank_in (fkAll_in s)
  have e : (RR (unrank (fkAll s)) = unrank (fkAll s)) ↔ checkV (unrank (fkAll s)) = 0 := by
    rw [RR_eq hu]
    constructor
    · exact checkV_zero
    · intro h
      by_cases c : R (unrank (fkAll s)) = unrank (fkAll s)
      · exact c
      · rw [checkV_70 c] at h; exact absurd h (by decide)
  constructor
  · unfold rfromKeyN fromKeyN; simp only [e]
  · unfold rfromKeyE fromKeyE; simp only [e]
theorem be8_size (x : Int) : (be8 x).size = 8 := rfl
theorem fromKey_back {a : Int} (h : In64 a) : fromKeyN (be8 (rankV a)) = R a ∧ fromKeyE (be8 (rankV a)) = 0 := by
  have hr := R_in h
  have e : unrank (fkAll (be8 (rankV a))) = R a := by
    rw [rankV_eq h, fk_be8 (rk_in hr), unrank_rk hr]
  have c : checkV (R a) = 0 := checkV_zero (R_R h)
  unfold fromKeyN fromKeyE
  rw [e, if_pos ⟨be8_size _, c⟩, if_pos ⟨be8_size _, c⟩]
  exact ⟨rfl, rfl⟩

theorem numKeys_walk (n : Int) (s : ByteArray) (wn : (Lit.int .u64 n).wf = true) (ws : s.size ≤ maxLen) (w : World) :
    Calls Try.prog 9 #[.int .u64 n, .string s] w fun e w' => e = .returned (.bool true) ∧ Ext w w' := by
  have hn := in64_of wn
  unfold maxLen at ws
  clear wn
  by_cases hs : 1000 < s.size
  · go_enter Try.func9, Try.ntmps9
    go_wp2_with (first | (go_at_call 14; refine (of_any _ _).mono ?_; rintro e w' ⟨rfl, rfl⟩) | (go_at_call 12; refine (right_any _ _).mono ?_; rintro e w' ⟨rfl, rfl⟩) | (go_at_call 18; refine (neg_any' _ _).mono ?_; rintro e w' ⟨rfl, rfl⟩) | (go_at_call 16; refine (add_any _ _ _).mono ?_; rintro e w1 ⟨rfl, hx1⟩) | (go_at_call 20; refine (compare_any _ _ _).mono ?_; rintro e w2 ⟨rfl, hx2⟩) | (go_at_call 22; refine (covers_any _ _ _).mono ?_; rintro e w' ⟨rfl, rfl⟩) | (go_at_call 10; refine (check_any _ _).mono ?_; rintro e w' ⟨rfl, rfl⟩) | (go_at_call 25; refine (key_any _ _).mono ?_; rintro e w3 ⟨rfl, hx3⟩) | (go_at_call 24; refine (live_any _).mono ?_; rintro e w4 ⟨rfl, hx4⟩))
    go_ret
    exact ⟨rfl, by repeat (first | assumption | refine Ext.trans ?_ (by assumption))⟩
  · have hs' : s.size ≤ 1000 := by omega
    have hnn : 0 ≤ bits .and .u64 (fkAll s) 9223372036854775808 := by
      rw [and_sign (fkAll_in s)]; split <;> decide
    have c1 := fun w => fromKey_any s w hs'
    have c2 := fun w => rfromKey_any s w hs' hnn
    rw [(fromKey_same s).1, (fromKey_same s).2] at c2
    have c3 := fun w => fromKey_any (be8 (rankV n)) w (by rw [be8_size]; decide)
    rw [(fromKey_back hn).1, (fromKey_back hn).2] at c3
    have c4 := fun w => rkey_any n w
    rw [rrankV_eq hn, ← rankV_eq hn] at c4
    have c5 := rright_eq hn
    clear hn hnn hs
    go_enter Try.func9, Try.ntmps9
    go_wp2_with (first | (go_at_call 14; refine (of_any _ _).mono ?_; rintro e w' ⟨rfl, rfl⟩) | (go_at_call 12; refine (right_any _ _).mono ?_; rintro e w' ⟨rfl, rfl⟩) | (go_at_call 18; refine (neg_any' _ _).mono ?_; rintro e w' ⟨rfl, rfl⟩) | (go_at_call 16; refine (add_any _ _ _).mono ?_; rintro e w1 ⟨rfl, hx1⟩) | (go_at_call 20; refine (compare_any _ _ _).mono ?_; rintro e w2 ⟨rfl, hx2⟩) | (go_at_call 22; refine (covers_any _ _ _).mono ?_; rintro e w' ⟨rfl, rfl⟩) | (go_at_call 10; refine (check_any _ _).mono ?_; rintro e w' ⟨rfl, rfl⟩) | (go_at_call 25; refine (key_any _ _).mono ?_; rintro e w3 ⟨rfl, hx3⟩) | (go_at_call 24; refine (live_any _).mono ?_; rintro e w4 ⟨rfl, hx4⟩) | (go_at_call 26; (with_reducible refine (c1 _).mono ?_); rintro e w' ⟨rfl, rfl⟩) | (go_at_call 26; (with_reducible refine (c3 _).mono ?_); rintro e w' ⟨rfl, rfl⟩) | (go_at_call 27; (with_reducible refine (c2 _).mono ?_); rintro e w' ⟨rfl, rfl⟩) | (go_at_call 28; (with_reducible refine (c4 _).mono ?_); rintro e w6 ⟨rfl, hx6⟩) | (go_at_call 13; refine (c5 _).mono ?_; rintro e w' ⟨rfl, rfl⟩))
    go_ret
    exact ⟨rfl, by repeat (first | assumption | refine Ext.trans ?_ (by assumption))⟩
end Go.Proofs.Ytffekieoefnidaa
