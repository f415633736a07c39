/- Contracts of package num's Key and Covers. -/
import Derived.Test.YtffekieoefnidaaNumB
import Derived.Handy
import Derived.Laws.IdiomStrings
namespace Go.Proofs.Ytffekieoefnidaa
open Go.RowKit

/-- the lowest byte of a number -/
def b8 (z : Int) : UInt8 := UInt8.ofNat (z % 256).toNat
theorem b8_toNat (z : Int) : ((b8 z).toNat : Int) = z % 256 := by
  unfold b8
  rw [UInt8.toNat_ofNat']
  omega

theorem conv8 (z7 z6 z5 z4 z3 z2 z1 z0 : Int) (t : TypeId) (w : World) :
    (convert 56 9 (.slice (some ⟨w.heap.size, 0, none⟩) 8 8)).run Try.prog (w.alloc (.cells #[.int .u8 (z7 % 256), .int .u8 (z6 % 256), .int .u8 (z5 % 256), .int .u8 (z4 % 256), .int .u8 (z3 % 256), .int .u8 (z2 % 256), .int .u8 (z1 % 256), .int .u8 (z0 % 256)] t)) =
      .ok (.string ⟨#[b8 z7, b8 z6, b8 z5, b8 z4, b8 z3, b8 z2, b8 z1, b8 z0]⟩) (w.alloc (.cells #[.int .u8 (z7 % 256), .int .u8 (z6 % 256), .int .u8 (z5 % 256), .int .u8 (z4 % 256), .int .u8 (z3 % 256), .int .u8 (z2 % 256), .int .u8 (z1 % 256), .int .u8 (z0 % 256)] t)) := by
  refine run_convert_bytes_back (P := Try.prog) _ 56 9 5 ⟨w.heap.size, 0, none⟩ 8 [b8 z7, b8 z6, b8 z5, b8 z4, b8 z3, b8 z2, b8 z1, b8 z0] Try.underlying56 Try.underlying5 Try.underlying9 ?_
  intro j hj
  simp only [List.length_cons, List.length_nil] at hj
  match j, hj with
  | 0, _ => simp [Addr.add, b8_toNat]
  | 1, _ => simp [Addr.add, b8_toNat]
  | 2, _ => simp [Addr.add, b8_toNat]
  | 3, _ => simp [Addr.add, b8_toNat]
  | 4, _ => simp [Addr.add, b8_toNat]
  | 5, _ => simp [Addr.add, b8_toNat]
  | 6, _ => simp [Addr.add, b8_toNat]
  | 7, _ => simp [Addr.add, b8_toNat]

/-- eight bytes, the highest first -/
def be8 (x : Int) : ByteArray := ⟨#[b8 (x / 256 / 256 / 256 / 256 / 256 / 256 / 256), b8 (x / 256 / 256 / 256 / 256 / 256 / 256), b8 (x / 256 / 256 / 256 / 256 / 256), b8 (x / 256 / 256 / 256 / 256), b8 (x / 256 / 256 / 256), b8 (x / 256 / 256), b8 (x / 256), b8 x]⟩
/-- the bits that a num's key tells -/
def rankV (a : Int) : Int := if 0 < bits .and .u64 (R a) 9223372036854775808 then bits .xor .u64 IntKind.u64.max (R a) else bits .or .u64 (R a) 9223372036854775808

set_option maxHeartbeats 1000000 in
theorem key_any (a : Int) (w : World) :
    Calls Try.prog 25 #[.int .u64 a] w fun e w' => e = .returned (.string (be8 (rankV a))) ∧ Ext w w' := by
  by_cases h : 0 < bits .and .u64 (R a) 9223372036854775808
  · have hV : rankV a = bits .xor .u64 IntKind.u64.max (R a) := by unfold rankV; rw [if_pos h]
    rw [hV]; clear hV
    have hk := conv8
    go_enter Try.func25, Try.ntmps25
    go_wp2_with (go_at_call 12; refine (right_any _ _).mono ?_; rintro e w' ⟨rfl, rfl⟩)
    go_rounds 9
    go_ret
    exact ⟨rfl, (Ext.refl _).alloc _⟩
  · have hV : rankV a = bits .or .u64 (R a) 9223372036854775808 := by unfold rankV; rw [if_neg h]
    rw [hV]; clear hV
    have hk := conv8
    go_enter Try.func25, Try.ntmps25
    go_wp2_with (go_at_call 12; refine (right_any _ _).mono ?_; rintro e w' ⟨rfl, rfl⟩)
    go_rounds 9
    go_ret
    exact ⟨rfl, (Ext.refl _).alloc _⟩
end Go.Proofs.Ytffekieoefnidaa
