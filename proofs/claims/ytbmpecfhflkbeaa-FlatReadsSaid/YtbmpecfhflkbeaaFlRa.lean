/- Contracts: the reference's eye reads. -/
import Derived.Test.YtbmpecfhflkbeaaFlR
namespace Go.Proofs.Ytbmpecfhflkbeaa
open Go.RowKit
set_option linter.unusedVariables false

/-- the reference's eye behind a reading: what is left is what the reading leaves -/
def RSeen (w' : World) (q : Nat) (A : Option Addr) (c : Nat) (xs : List UInt8) (i : Nat) {T : Type} (bl : Bool) (r : Option (T × List UInt8)) (z : T) : Prop :=
  ∃ j, REye w' q A c xs j (after bl (xs.drop i) r z).2.2 ∧ xs.drop j = (after bl (xs.drop i) r z).2.1

set_option maxRecDepth 100000 in
theorem rint_eye (q : Nat) (A : Option Addr) (c : Nat) (xs : List UInt8) (i : Nat) (bl : Bool) (w : World) (he : REye w q A c xs i bl) :
    Calls Try.prog 28 #[.pointer (some ⟨q, 0, none⟩)] w fun e w' => e = .returned (.int .i64 (after bl (xs.drop i) (intR (xs.drop i)) 0).1) ∧ Chs (isP q) w w' ∧ RSeen w' q A c xs i bl (intR (xs.drop i)) (0 : Int) := by
  unfold RSeen
  cases bl with
  | true =>
    rw [after_blind]
    have h := rtake_blind q A c xs i 8 w he
    go_enter Try.func28, Try.ntmps28
    go_wp2_with (go_at_call 51; refine h.mono ?_; rintro e w1 ⟨rfl, hx1, he1⟩)
    go_ret
    exact ⟨rfl, hx1, i, he1, rfl⟩
  | false =>
    by_cases h8 : 8 ≤ xs.length - i
    · rw [after_some (xs.drop i) ((xs.drop i).drop 8) (wrap64 (numV ((xs.drop i).take 8) : Nat)) (0 : Int) _ (by unfold intR; rw [if_pos (by rw [List.length_drop]; exact h8)])]
      have h := rtake_ok q A c xs i 8 w he h8
      have htl : ((xs.drop i).take 8).length = 8 := by rw [List.length_take, List.length_drop]; omega
      have hnum := fun (w' : World) (A' : Option Addr) (c' : Nat) (hu : U8s w' A' ((xs.drop i).take 8)) => rnumber_any _ A' c' w' (by omega) hu
      rw [htl] at hnum
      generalize (xs.drop i).take 8 = ys at *
      clear htl
      go_enter Try.func28, Try.ntmps28
      go_wp2_with (first
        | (go_at_call 51; refine h.mono ?_; rintro e w1 ⟨A1, c1, rfl, hu1, hx1, he1, hc1⟩)
        | (go_at_call 52; refine (hnum _ A1 c1 hu1).mono ?_; rintro e w2 ⟨rfl, rfl⟩))
      go_ret
      exact ⟨rfl, hx1, i + 8, he1, by rw [List.drop_drop]⟩
    · rw [after_none (xs.drop i) (0 : Int) _ (by unfold intR; rw [if_neg (by rw [List.length_drop]; exact h8)])]
      have h := rtake_not q A c xs i 8 w he (by omega) (by omega)
      go_enter Try.func28, Try.ntmps28
      go_wp2_with (go_at_call 51; refine h.mono ?_; rintro e w1 ⟨rfl, hx1, he1⟩)
      go_ret
      exact ⟨rfl, hx1, i, he1, rfl⟩
end Go.Proofs.Ytbmpecfhflkbeaa
