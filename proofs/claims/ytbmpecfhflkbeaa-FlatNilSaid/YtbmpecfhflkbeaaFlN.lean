/- The walk of FlatNil. -/
import Derived.Test.YtbmpecfhflkbeaaFl4
namespace Go.Proofs.Ytbmpecfhflkbeaa
open Go.RowKit
set_option linter.unusedVariables false

theorem stamp_nil (l : List St) (A : Option Addr) (c : Nat) (w : World) (hm : l.length ≤ 1099511627776) (hr : Sts w A l) : Calls Try.prog 16 #[.pointer none, .slice A l.length c] w fun e w' => e = .returned (.tuple #[]) ∧ Ext w w' := by
  go_enter Try.func16, Try.ntmps16
  go_wp2
  go_loopw [8] (fun i wr => ∃ k : Nat, k ≤ l.length ∧ i = .int .i64 k ∧ Ext w wr) (fun i _ => l.length - (intOf i).toNat)
  case atStart => exact ⟨0, by omega, rfl, Ext.refl _⟩
  case round =>
    obtain ⟨k, hk, rfl, hx⟩ := hrel
    by_cases hlt : k < l.length
    · obtain ⟨b, o, rfl, hb, hc0, hc1⟩ := (hr.ext hx).c2 k hlt _ _ rfl
      generalize l[k] = s at *
      obtain ⟨t, n⟩ := s
      dsimp only at hc0 hc1
      have hrow : I64s ((wr.alloc (.cells #[.int .i64 t, .int .i64 n] 39)).alloc (.cells #[.int .i64 t, .int .i64 n] 2)) (some ⟨wr.heap.size + 1, 0, none⟩) [t, n] := by
        simpa using Row.new (f := fI64) (size := 1) (wr.alloc (.cells #[.int .i64 t, .int .i64 n] 39)) #[.int .i64 t, .int .i64 n] 2 [t, n] (fun _ => rfl) rfl
      have hx2 := ((Ext.refl wr).alloc (.cells #[.int .i64 t, .int .i64 n] 39)).alloc (.cells #[.int .i64 t, .int .i64 n] 2)
      go_wp2_with (go_at_call 14; refine (int_nil [t, n] _ 2 _ (by simp) hrow).mono ?_; rintro e w1 ⟨rfl, rfl⟩)
      go_roundw
      case rel => exact ⟨k + 1, by omega, by go_num, hx.trans hx2⟩
      case measure => simp [intOf]; omega
    · obtain rfl : k = l.length := by omega
      go_wp2
      go_end0
      exact ⟨rfl, hx⟩
theorem stamps_nil (w : World) : Calls Try.prog 22 #[.pointer none, .slice none 0 0] w fun e w' => e = .returned (.tuple #[]) ∧ Ext w w' := by
  have hrow := Row.new (f := fI64) (size := 1) w #[.int .i64 0] 2 [0] (fun _ => rfl) rfl
  have hx1 := (Ext.refl w).alloc (.cells #[.int .i64 0] 2)
  go_enter Try.func22, Try.ntmps22
  go_wp2_with (first
    | (go_at_call 14; refine (int_nil [0] _ 1 _ (by simp) hrow).mono ?_; rintro e w1 ⟨rfl, rfl⟩)
    | (go_at_call 16; refine (stamp_nil [] none 0 _ (by simp) (Row.nil _ _)).mono ?_; rintro e w2 ⟨rfl, hx2⟩))
  go_end0
  exact ⟨rfl, hx1.trans hx2⟩
theorem eint_nil (w : World) : Calls Try.prog 27 #[.pointer none] w fun e w' => e = .returned (.int .i64 0) ∧ Ext w w' := by
  have hmf : ∀ (fn : Fn) (first cap : Array Value) (w : World), (Instr.makeFunc fn first cap).run Try.prog w = .ok (.func fn first cap) w := fun _ _ _ _ => rfl
  have hx := (Ext.refl w).alloc (.cells #[.pointer none] 52)
  go_enter Try.func27, Try.ntmps27
  go_wp2_with (go_at_call 48; refine (see_nil_int _ _).mono ?_; rintro e w1 ⟨rfl, hx1⟩)
  go_ret
  exact ⟨rfl, hx.trans hx1⟩
theorem etext_nil (w : World) : Calls Try.prog 29 #[.pointer none] w fun e w' => e = .returned (.string { data := #[] }) ∧ Ext w w' := by
  have hmf : ∀ (fn : Fn) (first cap : Array Value) (w : World), (Instr.makeFunc fn first cap).run Try.prog w = .ok (.func fn first cap) w := fun _ _ _ _ => rfl
  have hx := (Ext.refl w).alloc (.cells #[.pointer none] 52)
  go_enter Try.func29, Try.ntmps29
  go_wp2_with (go_at_call 53; refine (see_nil_text _ _).mono ?_; rintro e w1 ⟨rfl, hx1⟩)
  go_ret
  exact ⟨rfl, hx.trans hx1⟩
theorem ebool_nil (w : World) : Calls Try.prog 31 #[.pointer none] w fun e w' => e = .returned (.bool false) ∧ Ext w w' := by
  have hmf : ∀ (fn : Fn) (first cap : Array Value) (w : World), (Instr.makeFunc fn first cap).run Try.prog w = .ok (.func fn first cap) w := fun _ _ _ _ => rfl
  have hx := (Ext.refl w).alloc (.cells #[.pointer none] 52)
  go_enter Try.func31, Try.ntmps31
  go_wp2_with (go_at_call 57; refine (see_nil_bool _ _).mono ?_; rintro e w1 ⟨rfl, hx1⟩)
  go_ret
  exact ⟨rfl, hx.trans hx1⟩
theorem estamps_nil (w : World) : Calls Try.prog 36 #[.pointer none] w fun e w' => e = .returned (.slice none 0 0) ∧ Ext w w' := by
  have hmf : ∀ (fn : Fn) (first cap : Array Value) (w : World), (Instr.makeFunc fn first cap).run Try.prog w = .ok (.func fn first cap) w := fun _ _ _ _ => rfl
  have hx := (Ext.refl w).alloc (.cells #[.pointer none] 52)
  go_enter Try.func36, Try.ntmps36
  go_wp2_with (go_at_call 61; refine (see_nil_stamps _ _).mono ?_; rintro e w1 ⟨rfl, hx1⟩)
  go_ret
  exact ⟨rfl, hx.trans hx1⟩
set_option maxRecDepth 100000 in
theorem estamp_nil (w : World) : Calls Try.prog 33 #[.pointer none] w fun e w' => e = .returned (.agg #[.int .i64 0, .int .i64 0]) ∧ Ext w w' := by
  have hmf : ∀ (fn : Fn) (first cap : Array Value) (w : World), (Instr.makeFunc fn first cap).run Try.prog w = .ok (.func fn first cap) w := fun _ _ _ _ => rfl
  have hx := (Ext.refl w).alloc (.cells #[.int .i64 0, .int .i64 0] 39)
  have hB := Blk.new w 39 #[.int .i64 0, .int .i64 0]
  go_enter Try.func33, Try.ntmps33
  go_wp2_with (go_at_call 59; refine (see_nil_stamp _ _).mono ?_; rintro e w1 ⟨rfl, hx1⟩; have hb1 := hB.ext hx1; have c1 : w1.cell? ⟨w.heap.size, 0, none⟩ = some (.int .i64 0) := hb1.cell 0; have c2 : w1.cell? ⟨w.heap.size, 1, none⟩ = some (.int .i64 0) := hb1.cell 1; have z1 := hb1.frozen 0; have z2 := hb1.frozen 1; have l1 := hb1.lt)
  have hb3 := (hb1.set_ 0 (.int .i64 0)).set_ 1 (.int .i64 0)
  have c3 := (hb3.cell 0).trans (show _ = some (Value.int .i64 0) from rfl)
  have c4 := (hb3.cell 1).trans (show _ = some (Value.int .i64 0) from rfl)
  refine bodyPost_ret (v := .agg #[.int .i64 0, .int .i64 0]) (by simp [results, Try.results33, go_sem, c3, c4]) rfl ⟨rfl, ?_⟩
  exact ((hx.trans hx1).setCell (p := ⟨w.heap.size, 0, none⟩) (Nat.le_refl _) _).setCell (p := ⟨w.heap.size, 1, none⟩) (Nat.le_refl _) _

set_option maxHeartbeats 2000000 in
set_option maxRecDepth 100000 in
theorem flatNil_walk (n : Int) (s : ByteArray) (w : World) (_wn : (Lit.int .i64 n).wf = true) (_ws : s.size ≤ reachBytes) :
    Calls Try.prog 11 #[.int .i64 n, .string s] w fun e w' => e = .returned (.bool true) ∧ Ext w w' := by
  clear _wn _ws
  by_cases g0 : 20000 < s.size
  · go_enter Try.func11, Try.ntmps11
    go_wp2_with (go_at_call 12; refine (live_any _).mono ?_; rintro e w1 ⟨rfl, hx1⟩)
    go_ret
    exact ⟨rfl, (by repeat (first | assumption | exact Ext.refl _ | (with_reducible refine Ext.alloc ?_ _) | (with_reducible refine Ext.drew ?_) | refine Ext.trans ?_ (by assumption)))⟩
  have r0 := Row.new (f := fI64) (size := 1) w #[.int .i64 n] 2 [n] (fun _ => rfl) rfl
  have x0 := ((Ext.refl w).alloc (.cells #[.int .i64 n] 2)).alloc (.cells #[.string s] 9)
  have rs : Sts (((w.alloc (.cells #[.int .i64 n] 2)).alloc (.cells #[.string s] 9)).alloc (.cells #[.int .i64 0, .int .i64 0] 39)) (some ⟨w.heap.size + 1 + 1, 0, none⟩) [⟨0, 0⟩] := by
    simpa using Row.new (f := fSt) (size := 2) ((w.alloc (.cells #[.int .i64 n] 2)).alloc (.cells #[.string s] 9)) #[.int .i64 0, .int .i64 0] 39 [⟨0, 0⟩] (fun _ => rfl) rfl
  have xs := x0.alloc (.cells #[.int .i64 0, .int .i64 0] 39)
  clear x0
  go_enter Try.func11, Try.ntmps11
  go_wp2_with (first
    | (go_at_call 14; refine (int_nil [n] _ 1 _ (by simp) r0).mono ?_; rintro e w1 ⟨rfl, rfl⟩)
    | (go_at_call 15; refine (text_nil _ _).mono ?_; rintro e w2 ⟨rfl, rfl⟩)
    | (go_at_call 23; refine (bool_nil _ _).mono ?_; rintro e w3 ⟨rfl, rfl⟩)
    | (go_at_call 16; refine (stamp_nil [⟨0, 0⟩] _ 1 _ (by simp) rs).mono ?_; rintro e w4 ⟨rfl, x4⟩)
    | (go_at_call 22; refine (stamps_nil _).mono ?_; rintro e w5 ⟨rfl, x5⟩)
    | (go_at_call 17; refine (bytes_nil _).mono ?_; rintro e w6 ⟨rfl, rfl⟩)
    | (go_at_call 27; refine (eint_nil _).mono ?_; rintro e w7 ⟨rfl, x7⟩)
    | (go_at_call 29; refine (etext_nil _).mono ?_; rintro e w8 ⟨rfl, x8⟩)
    | (go_at_call 31; refine (ebool_nil _).mono ?_; rintro e w9 ⟨rfl, x9⟩)
    | (go_at_call 33; refine (estamp_nil _).mono ?_; rintro e w10 ⟨rfl, x10⟩)
    | (go_at_call 36; refine (estamps_nil _).mono ?_; rintro e w11 ⟨rfl, x11⟩)
    | (go_at_call 38; refine (left_nil _).mono ?_; rintro e w12 ⟨rfl, rfl⟩)
    | (go_at_call 40; refine (done_nil _).mono ?_; rintro e w13 ⟨rfl, x13⟩)
    | (go_at_call 39; refine (num_any _ _).mono ?_; rintro e w' ⟨rfl, rfl⟩)
    | (go_at_call 12; refine (live_any _).mono ?_; rintro e w14 ⟨rfl, x14⟩))
  go_ret
  exact ⟨rfl, ((((((((xs.trans x4).trans x5).trans x7).trans x8).trans x9).trans x10).trans x11).trans x13).trans x14⟩
end Go.Proofs.Ytbmpecfhflkbeaa
