/- Contracts: the eye. -/
import Derived.Test.YtbmpecfhflkbeaaFlD
import Derived.Test.YtbmpecfhflkbeaaFlE
import Derived.Test.YtbmpecfhflkbeaaFlF
import Derived.Test.YtbmpecfhflkbeaaFlG
namespace Go.Proofs.Ytbmpecfhflkbeaa
open Go.RowKit

/-- what a reading yields, where it is none: what the eye hands back, what is left, is it blind -/
def after {T : Type} (bl : Bool) (xs : List UInt8) (r : Option (T × List UInt8)) (z : T) : T × List UInt8 × Bool :=
  if bl then (z, xs, true) else match r with
    | some (v, ys) => (v, ys, false)
    | none => (z, xs, true)
def intR (xs : List UInt8) : Option (Int × List UInt8) := if 8 ≤ xs.length then some (wrap64 (numV (xs.take 8) : Nat), xs.drop 8) else none
def textR (xs : List UInt8) : Option (ByteArray × List UInt8) :=
  if 4 ≤ xs.length then
    if numV (xs.take 4) ≤ 1048576 ∧ numV (xs.take 4) ≤ (xs.drop 4).length then some (strOf ((xs.drop 4).take (numV (xs.take 4))), (xs.drop 4).drop (numV (xs.take 4))) else none
  else none
def boolR (xs : List UInt8) : Option (Bool × List UInt8) := if 1 ≤ xs.length then (if numV (xs.take 1) ≤ 1 then some (numV (xs.take 1) == 1, xs.drop 1) else none) else none
def stampR (xs : List UInt8) : Option (St × List UInt8) := if 16 ≤ xs.length then some (⟨wrap64 (numV (xs.take 8) : Nat), wrap64 (numV ((xs.drop 8).take 8) : Nat)⟩, xs.drop 16) else none
/-- the eye has done a reading -/
def Seen {T : Type} (w w' : World) (p : Nat) (g : Option Nat) (bl : Bool) (xs : List UInt8) (r : Option (T × List UInt8)) (z : T) : Prop :=
  Chs (isP p) w w' ∧ ∃ A c, EyeAt w' p g A c (after bl xs r z).2.1 (after bl xs r z).2.2

theorem intS_ok (bx p : Nat) (g : Option Nat) (A : Option Addr) (c : Nat) (xs : List UInt8) (w : World) (hb : w.cell? ⟨bx, 0, none⟩ = some (.pointer (some ⟨p, 0, none⟩))) (he : EyeAt w p g A c xs false) (hn : 8 ≤ xs.length) :
    Calls Try.prog 49 #[.pointer (some ⟨bx, 0, none⟩)] w fun e w' => e = .returned (.int .i64 (wrap64 (numV (xs.take 8) : Nat))) ∧ Chs (isP p) w w' ∧ ∃ A' c', EyeAt w' p g A' c' (xs.drop 8) false := by
  go_enter Try.func49, Try.ntmps49
  go_wp2_with (go_at_call 50; refine (number_ok p g 8 A c xs false _ he hn (by omega)).mono ?_; rintro e w1 ⟨rfl, hx1, A1, he1⟩)
  go_ret
  exact ⟨rfl, hx1, A1, _, he1⟩
theorem intS_not (bx p : Nat) (g : Option Nat) (A : Option Addr) (c : Nat) (xs : List UInt8) (w : World) (hb : w.cell? ⟨bx, 0, none⟩ = some (.pointer (some ⟨p, 0, none⟩))) (he : EyeAt w p g A c xs false) (hn : xs.length < 8) :
    Calls Try.prog 49 #[.pointer (some ⟨bx, 0, none⟩)] w fun e w' => e = sight ∧ Chs (isP p) w w' ∧ ∃ v0 v1, Blk w' p 79 #[v0, v1] := by
  go_enter Try.func49, Try.ntmps49
  go_wp2_with (go_at_call 50; refine (number_not p g 8 A c xs false _ he hn).mono ?_; rintro e w1 ⟨rfl, rfl⟩)
  exact ⟨rfl, rfl, Chs.refl _ _, _, _, he.blk⟩
theorem eye_int (p : Nat) (g : Option Nat) (A : Option Addr) (c : Nat) (xs : List UInt8) (bl : Bool) (w : World) (he : EyeAt w p g A c xs bl) :
    Calls Try.prog 27 #[.pointer (some ⟨p, 0, none⟩)] w fun e w' => e = .returned (.int .i64 (after bl xs (intR xs) 0).1) ∧ Seen w w' p g bl xs (intR xs) 0 := by
  have hmf : ∀ (fn : Fn) (first cap : Array Value) (w : World), (Instr.makeFunc fn first cap).run Try.prog w = .ok (.func fn first cap) w := fun _ _ _ _ => rfl
  have hx := (Ext.refl w).alloc (.cells #[.pointer (some ⟨p, 0, none⟩)] 52)
  have hbx := Blk.new w 52 #[.pointer (some ⟨p, 0, none⟩)]
  have he1 := he.ext hx
  unfold Seen after
  cases bl with
  | true =>
    simp only [if_true]
    go_enter Try.func27, Try.ntmps27
    go_wp2_with (go_at_call 48; refine (see_blind_int _ p g A c xs _ he1).mono ?_; rintro e w1 ⟨rfl, hx1⟩)
    go_ret
    exact ⟨rfl, .of_ext (hx.trans hx1), A, c, he1.ext hx1⟩
  | false =>
    simp only [Bool.false_eq_true, if_false]
    unfold intR
    by_cases h8 : 8 ≤ xs.length
    · simp only [if_pos h8]
      have hC := fun w1 (h : Ext _ w1) => intS_ok w.heap.size p g A c xs w1 (h.cell hbx.lt (hbx.cell 0)) (he1.ext h) h8
      go_enter Try.func27, Try.ntmps27
      go_wp2_with (go_at_call 48; refine (see_ok_int w.heap.size p g A c xs _ _ _ he1 hC).mono ?_; rintro e w1 ⟨rfl, hx1, A1, c1, he2⟩)
      go_ret
      exact ⟨rfl, (Chs.of_ext hx).trans hx1, A1, c1, he2⟩
    · simp only [if_neg h8]
      have hC := fun w1 (h : Ext _ w1) => intS_not w.heap.size p g A c xs w1 (h.cell hbx.lt (hbx.cell 0)) (he1.ext h) (by omega)
      go_enter Try.func27, Try.ntmps27
      go_wp2_with (go_at_call 48; refine (see_not_int w.heap.size p g A c xs _ he1 hC).mono ?_; rintro e w1 ⟨rfl, hx1, he2⟩)
      go_ret
      exact ⟨rfl, (Chs.of_ext hx).trans hx1, A, c, he2⟩

theorem textS_ok (bx p : Nat) (g : Option Nat) (A : Option Addr) (c : Nat) (xs : List UInt8) (w : World) (hb : Blk w bx 52 #[.pointer (some ⟨p, 0, none⟩)]) (he : EyeAt w p g A c xs false) (hn : 4 ≤ xs.length)
    (h1 : numV (xs.take 4) ≤ 1048576) (h2 : numV (xs.take 4) ≤ (xs.drop 4).length) :
    Calls Try.prog 54 #[.pointer (some ⟨bx, 0, none⟩)] w fun e w' => e = .returned (.string (strOf ((xs.drop 4).take (numV (xs.take 4))))) ∧ Chs (isP p) w w' ∧ ∃ A' c', EyeAt w' p g A' c' ((xs.drop 4).drop (numV (xs.take 4))) false := by
  have c0 : w.cell? ⟨bx, 0, none⟩ = some (.pointer (some ⟨p, 0, none⟩)) := hb.cell 0
  have hbp : bx ≠ p := hb.ne_ he.blk (by decide)
  have hN := numV_lt (xs.take 4)
  generalize hNN : numV (xs.take 4) = N at *
  have HN := Lib.hid hNN
  clear hNN
  have hwN : IntKind.i64.wrap (N : Int) = (N : Int) := by rw [IntKind.wrap_i64]; omega
  have hsv : ∀ (w3 : World) (A3 : Option Addr), U8s w3 A3 ((xs.drop 4).take N) → (convert 22 9 (.slice A3 N (c - 4))).run Try.prog w3 = .ok (.string (strOf ((xs.drop 4).take N))) w3 := by
    intro w3 A3 h
    have := run_string_of (c := c - 4) (U8s.rd h)
    rwa [List.length_take, Nat.min_eq_left h2] at this
  go_enter Try.func54, Try.ntmps54
  go_wp2_with (first
    | (go_at_call 50; refine (number_ok p g 4 A c xs false _ he hn (by omega)).mono ?_; rintro e w1 ⟨rfl, hx1, A1, he1⟩; rw [HN.out]; have c1 : w1.cell? ⟨bx, 0, none⟩ = some (.pointer (some ⟨p, 0, none⟩)) := (hb.chs hx1 hbp).cell 0)
    | (go_at_call 55; refine (must_ok _ (by simp; omega) _).mono ?_; rintro e w2 ⟨rfl, rfl⟩)
    | (go_at_call 56; refine (take_ok p g N _ _ (xs.drop 4) false _ he1 h2).mono ?_; rintro e w3 ⟨rfl, hx3, ⟨A3, he3⟩, hr3⟩; have hst := hsv _ _ hr3))
  go_ret
  exact ⟨rfl, hx1.trans hx3, A3, _, he3⟩
theorem textS_not (bx p : Nat) (g : Option Nat) (A : Option Addr) (c : Nat) (xs : List UInt8) (w : World) (hb : Blk w bx 52 #[.pointer (some ⟨p, 0, none⟩)]) (he : EyeAt w p g A c xs false)
    (hn : ¬ (4 ≤ xs.length ∧ numV (xs.take 4) ≤ 1048576 ∧ numV (xs.take 4) ≤ (xs.drop 4).length)) :
    Calls Try.prog 54 #[.pointer (some ⟨bx, 0, none⟩)] w fun e w' => e = sight ∧ Chs (isP p) w w' ∧ ∃ v0 v1, Blk w' p 79 #[v0, v1] := by
  have c0 : w.cell? ⟨bx, 0, none⟩ = some (.pointer (some ⟨p, 0, none⟩)) := hb.cell 0
  have hbp : bx ≠ p := hb.ne_ he.blk (by decide)
  by_cases h4 : 4 ≤ xs.length
  · generalize hNN : numV (xs.take 4) = N at *
    have hN := numV_lt (xs.take 4)
    rw [hNN, List.length_take, Nat.min_eq_left h4] at hN
    have HN := Lib.hid hNN
    clear hNN
    have hwN : IntKind.i64.wrap (N : Int) = (N : Int) := by rw [IntKind.wrap_i64]; omega
    by_cases h1 : N ≤ 1048576
    · have h2 : (xs.drop 4).length < N := by
        rcases Nat.lt_or_ge (xs.drop 4).length N with h | h
        · exact h
        · exact absurd ⟨h4, h1, h⟩ hn
      clear hn
      go_enter Try.func54, Try.ntmps54
      go_wp2_with (first
        | (go_at_call 50; refine (number_ok p g 4 A c xs false _ he h4 (by omega)).mono ?_; rintro e w1 ⟨rfl, hx1, A1, he1⟩; rw [HN.out]; have c1 : w1.cell? ⟨bx, 0, none⟩ = some (.pointer (some ⟨p, 0, none⟩)) := (hb.chs hx1 hbp).cell 0)
        | (go_at_call 55; refine (must_ok _ (by simp; omega) _).mono ?_; rintro e w2 ⟨rfl, rfl⟩)
        | (go_at_call 56; refine (take_not p g N _ _ (xs.drop 4) false _ he1 h2).mono ?_; rintro e w3 ⟨rfl, rfl⟩))
      exact ⟨rfl, rfl, hx1, _, _, he1.blk⟩
    · clear hn
      go_enter Try.func54, Try.ntmps54
      go_wp2_with (first
        | (go_at_call 50; refine (number_ok p g 4 A c xs false _ he h4 (by omega)).mono ?_; rintro e w1 ⟨rfl, hx1, A1, he1⟩; rw [HN.out]; have c1 : w1.cell? ⟨bx, 0, none⟩ = some (.pointer (some ⟨p, 0, none⟩)) := (hb.chs hx1 hbp).cell 0)
        | (go_at_call 55; refine (must_no _ (by simp; omega) _).mono ?_; rintro e w2 ⟨rfl, rfl⟩))
      exact ⟨rfl, rfl, hx1, _, _, he1.blk⟩
  · clear hn
    go_enter Try.func54, Try.ntmps54
    go_wp2_with (go_at_call 50; refine (number_not p g 4 A c xs false _ he (by omega)).mono ?_; rintro e w1 ⟨rfl, rfl⟩)
    exact ⟨rfl, rfl, Chs.refl _ _, _, _, he.blk⟩

theorem boolS_ok (bx p : Nat) (g : Option Nat) (A : Option Addr) (c : Nat) (xs : List UInt8) (w : World) (hb : Blk w bx 52 #[.pointer (some ⟨p, 0, none⟩)]) (he : EyeAt w p g A c xs false) (hn : 1 ≤ xs.length) (h1 : numV (xs.take 1) ≤ 1) :
    Calls Try.prog 58 #[.pointer (some ⟨bx, 0, none⟩)] w fun e w' => e = .returned (.bool (numV (xs.take 1) == 1)) ∧ Chs (isP p) w w' ∧ ∃ A' c', EyeAt w' p g A' c' (xs.drop 1) false := by
  have c0 : w.cell? ⟨bx, 0, none⟩ = some (.pointer (some ⟨p, 0, none⟩)) := hb.cell 0
  generalize hNN : numV (xs.take 1) = N at *
  have HN := Lib.hid hNN
  clear hNN
  have he2 : ((N : Int) == 1) = (N == 1) := by
    rcases Nat.le_one_iff_eq_zero_or_eq_one.1 h1 with rfl | rfl <;> rfl
  go_enter Try.func58, Try.ntmps58
  go_wp2_with (first
    | (go_at_call 50; refine (number_ok p g 1 A c xs false _ he hn (by omega)).mono ?_; rintro e w1 ⟨rfl, hx1, A1, he1⟩; rw [HN.out])
    | (go_at_call 55; refine (must_ok _ (by simp; omega) _).mono ?_; rintro e w2 ⟨rfl, rfl⟩))
  go_ret
  exact ⟨by simp, hx1, A1, _, he1⟩
theorem boolS_not (bx p : Nat) (g : Option Nat) (A : Option Addr) (c : Nat) (xs : List UInt8) (w : World) (hb : Blk w bx 52 #[.pointer (some ⟨p, 0, none⟩)]) (he : EyeAt w p g A c xs false) (hn : ¬ (1 ≤ xs.length ∧ numV (xs.take 1) ≤ 1)) :
    Calls Try.prog 58 #[.pointer (some ⟨bx, 0, none⟩)] w fun e w' => e = sight ∧ Chs (isP p) w w' ∧ ∃ v0 v1, Blk w' p 79 #[v0, v1] := by
  have c0 : w.cell? ⟨bx, 0, none⟩ = some (.pointer (some ⟨p, 0, none⟩)) := hb.cell 0
  by_cases h4 : 1 ≤ xs.length
  · generalize hNN : numV (xs.take 1) = N at *
    have HN := Lib.hid hNN
    clear hNN
    have h1 : ¬ N ≤ 1 := fun h => hn ⟨h4, h⟩
    clear hn
    go_enter Try.func58, Try.ntmps58
    go_wp2_with (first
      | (go_at_call 50; refine (number_ok p g 1 A c xs false _ he h4 (by omega)).mono ?_; rintro e w1 ⟨rfl, hx1, A1, he1⟩; rw [HN.out])
      | (go_at_call 55; refine (must_no _ (by simp; omega) _).mono ?_; rintro e w2 ⟨rfl, rfl⟩))
    exact ⟨rfl, rfl, hx1, _, _, he1.blk⟩
  · clear hn
    go_enter Try.func58, Try.ntmps58
    go_wp2_with (go_at_call 50; refine (number_not p g 1 A c xs false _ he (by omega)).mono ?_; rintro e w1 ⟨rfl, rfl⟩)
    exact ⟨rfl, rfl, Chs.refl _ _, _, _, he.blk⟩

set_option maxRecDepth 100000 in
theorem stampS_ok (p : Nat) (g : Option Nat) (A : Option Addr) (c : Nat) (xs : List UInt8) (w : World) (he : EyeAt w p g A c xs false) (hn : 16 ≤ xs.length) :
    Calls Try.prog 60 #[.pointer (some ⟨p, 0, none⟩)] w fun e w' => e = .returned (.agg #[.int .i64 (wrap64 (numV (xs.take 8) : Nat)), .int .i64 (wrap64 (numV ((xs.drop 8).take 8) : Nat))]) ∧ Chs (isP p) w w' ∧ ∃ A' c', EyeAt w' p g A' c' (xs.drop 16) false := by
  have hx := (Ext.refl w).alloc (.cells #[.int .i64 0, .int .i64 0] 39)
  have hB := Blk.new w 39 #[.int .i64 0, .int .i64 0]
  have he0 := he.ext hx
  have hpl := he.blk.lt
  go_enter Try.func60, Try.ntmps60
  go_wp2_with fail
  refine (number_ok p g 8 A c xs false _ he0 (by omega) (by omega)).mono ?_
  rintro e w1 ⟨rfl, hx1, A1, he1⟩
  go_wp2_with fail
  refine (number_ok p g 8 A1 _ (xs.drop 8) false _ he1 (by rw [List.length_drop]; omega) (by omega)).mono ?_
  rintro e w2 ⟨rfl, hx2, A2, he2⟩
  have hB2 := hB.chs (hx1.trans hx2) (show w.heap.size ≠ p by omega)
  have hl2 := hB2.lt
  have c1 : w2.cell? ⟨w.heap.size, 0, none⟩ = some (.int .i64 0) := hB2.cell 0
  have c2 : w2.cell? ⟨w.heap.size, 1, none⟩ = some (.int .i64 0) := hB2.cell 1
  have z1 := hB2.frozen 0
  have z2 := hB2.frozen 1
  generalize hN1 : numV (xs.take 8) = N1 at *
  generalize hN2 : numV ((xs.drop 8).take 8) = N2 at *
  go_wp2
  have hB3 := (hB2.set_ 0 (.int .i64 (wrap64 (N1 : Int)))).set_ 1 (.int .i64 (wrap64 (N2 : Int)))
  have c3 : ((w2.setCell ⟨w.heap.size, 0, none⟩ (.int .i64 (wrap64 (N1 : Int)))).setCell ⟨w.heap.size, 1, none⟩ (.int .i64 (wrap64 (N2 : Int)))).cell? ⟨w.heap.size, 0, none⟩ = some (.int .i64 (wrap64 (N1 : Int))) := hB3.cell 0
  have c4 : ((w2.setCell ⟨w.heap.size, 0, none⟩ (.int .i64 (wrap64 (N1 : Int)))).setCell ⟨w.heap.size, 1, none⟩ (.int .i64 (wrap64 (N2 : Int)))).cell? ⟨w.heap.size, 1, none⟩ = some (.int .i64 (wrap64 (N2 : Int))) := hB3.cell 1
  have hx3 : Chs (fun i => i = w.heap.size) w2 ((w2.setCell ⟨w.heap.size, 0, none⟩ (.int .i64 (wrap64 (N1 : Int)))).setCell ⟨w.heap.size, 1, none⟩ (.int .i64 (wrap64 (N2 : Int)))) := (Chs.set1 _ _ _ _).trans (Chs.set1 _ _ _ _)
  refine bodyPost_ret (v := .agg #[.int .i64 (wrap64 (N1 : Int)), .int .i64 (wrap64 (N2 : Int))]) (by simp [results, Try.results60, go_sem, c3, c4]) rfl ⟨by rw [hN1, hN2], ?_, ?_⟩
  · exact ((Chs.of_ext hx).trans (hx1.trans hx2)).trans' hx3 (fun i hi e => by omega)
  · refine ⟨A2, c - 8 - 8, ?_⟩
    have := he2.chs hx3 (by omega) (fun i _ e1 e2 => by have := he.lt i e1; omega)
    rwa [List.drop_drop] at this

set_option maxRecDepth 100000 in
theorem stampS_not (p : Nat) (g : Option Nat) (A : Option Addr) (c : Nat) (xs : List UInt8) (w : World) (he : EyeAt w p g A c xs false) (hn : xs.length < 16) :
    Calls Try.prog 60 #[.pointer (some ⟨p, 0, none⟩)] w fun e w' => e = sight ∧ Chs (isP p) w w' ∧ ∃ v0 v1, Blk w' p 79 #[v0, v1] := by
  have hx := (Ext.refl w).alloc (.cells #[.int .i64 0, .int .i64 0] 39)
  have he0 := he.ext hx
  by_cases h8 : 8 ≤ xs.length
  · go_enter Try.func60, Try.ntmps60
    go_wp2_with fail
    refine (number_ok p g 8 A c xs false _ he0 (by omega) (by omega)).mono ?_
    rintro e w1 ⟨rfl, hx1, A1, he1⟩
    go_wp2_with fail
    refine (number_not p g 8 A1 _ (xs.drop 8) false _ he1 (by rw [List.length_drop]; omega)).mono ?_
    rintro e w2 ⟨rfl, rfl⟩
    go_wp2
    exact ⟨rfl, rfl, (Chs.of_ext hx).trans hx1, _, _, he1.blk⟩
  · go_enter Try.func60, Try.ntmps60
    go_wp2_with fail
    refine (number_not p g 8 A c xs false _ he0 (by omega)).mono ?_
    rintro e w1 ⟨rfl, rfl⟩
    go_wp2
    exact ⟨rfl, rfl, .of_ext hx, _, _, he0.blk⟩

theorem eye_text (p : Nat) (g : Option Nat) (A : Option Addr) (c : Nat) (xs : List UInt8) (bl : Bool) (w : World) (he : EyeAt w p g A c xs bl) :
    Calls Try.prog 29 #[.pointer (some ⟨p, 0, none⟩)] w fun e w' => e = .returned (.string (after bl xs (textR xs) ByteArray.empty).1) ∧ Seen w w' p g bl xs (textR xs) ByteArray.empty := by
  have hmf : ∀ (fn : Fn) (first cap : Array Value) (w : World), (Instr.makeFunc fn first cap).run Try.prog w = .ok (.func fn first cap) w := fun _ _ _ _ => rfl
  have hx := (Ext.refl w).alloc (.cells #[.pointer (some ⟨p, 0, none⟩)] 52)
  have hbx := Blk.new w 52 #[.pointer (some ⟨p, 0, none⟩)]
  have he1 := he.ext hx
  unfold Seen after
  cases bl with
  | true =>
    simp only [if_true]
    go_enter Try.func29, Try.ntmps29
    go_wp2_with (go_at_call 53; refine (see_blind_text _ p g A c xs _ he1).mono ?_; rintro e w1 ⟨rfl, hx1⟩)
    go_ret
    exact ⟨rfl, .of_ext (hx.trans hx1), A, c, he1.ext hx1⟩
  | false =>
    simp only [Bool.false_eq_true, if_false]
    unfold textR
    have hno : ¬ (4 ≤ xs.length ∧ numV (xs.take 4) ≤ 1048576 ∧ numV (xs.take 4) ≤ (xs.drop 4).length) → Calls Try.prog 29 #[.pointer (some ⟨p, 0, none⟩)] w fun e w' => e = .returned (.string ByteArray.empty) ∧ Chs (isP p) w w' ∧ ∃ A c, EyeAt w' p g A c xs true := by
      intro h8
      have hC := fun w1 (h : Ext _ w1) => textS_not w.heap.size p g A c xs w1 (hbx.ext h) (he1.ext h) h8
      go_enter Try.func29, Try.ntmps29
      go_wp2_with (go_at_call 53; refine (see_not_text w.heap.size p g A c xs _ he1 hC).mono ?_; rintro e w1 ⟨rfl, hx1, he2⟩)
      go_ret
      exact ⟨rfl, (Chs.of_ext hx).trans hx1, A, c, he2⟩
    by_cases h8 : 4 ≤ xs.length
    · simp only [if_pos h8]
      by_cases h9 : numV (xs.take 4) ≤ 1048576 ∧ numV (xs.take 4) ≤ (xs.drop 4).length
      · simp only [if_pos h9]
        have hC := fun w1 (h : Ext _ w1) => textS_ok w.heap.size p g A c xs w1 (hbx.ext h) (he1.ext h) h8 h9.1 h9.2
        clear hno h9
        generalize strOf ((xs.drop 4).take (numV (xs.take 4))) = V at *
        generalize (xs.drop 4).drop (numV (xs.take 4)) = ys at *
        go_enter Try.func29, Try.ntmps29
        go_wp2_with (go_at_call 53; refine (see_ok_text w.heap.size p g A c xs _ _ _ he1 hC).mono ?_; rintro e w1 ⟨rfl, hx1, A1, c1, he2⟩)
        go_ret
        exact ⟨rfl, (Chs.of_ext hx).trans hx1, A1, c1, he2⟩
      · simp only [if_neg h9]
        exact hno fun h => h9 h.2
    · simp only [if_neg h8]
      exact hno fun h => h8 h.1
theorem eye_bool (p : Nat) (g : Option Nat) (A : Option Addr) (c : Nat) (xs : List UInt8) (bl : Bool) (w : World) (he : EyeAt w p g A c xs bl) :
    Calls Try.prog 31 #[.pointer (some ⟨p, 0, none⟩)] w fun e w' => e = .returned (.bool (after bl xs (boolR xs) false).1) ∧ Seen w w' p g bl xs (boolR xs) false := by
  have hmf : ∀ (fn : Fn) (first cap : Array Value) (w : World), (Instr.makeFunc fn first cap).run Try.prog w = .ok (.func fn first cap) w := fun _ _ _ _ => rfl
  have hx := (Ext.refl w).alloc (.cells #[.pointer (some ⟨p, 0, none⟩)] 52)
  have hbx := Blk.new w 52 #[.pointer (some ⟨p, 0, none⟩)]
  have he1 := he.ext hx
  unfold Seen after
  cases bl with
  | true =>
    simp only [if_true]
    go_enter Try.func31, Try.ntmps31
    go_wp2_with (go_at_call 57; refine (see_blind_bool _ p g A c xs _ he1).mono ?_; rintro e w1 ⟨rfl, hx1⟩)
    go_ret
    exact ⟨rfl, .of_ext (hx.trans hx1), A, c, he1.ext hx1⟩
  | false =>
    simp only [Bool.false_eq_true, if_false]
    unfold boolR
    have hno : ¬ (1 ≤ xs.length ∧ numV (xs.take 1) ≤ 1) → Calls Try.prog 31 #[.pointer (some ⟨p, 0, none⟩)] w fun e w' => e = .returned (.bool false) ∧ Chs (isP p) w w' ∧ ∃ A c, EyeAt w' p g A c xs true := by
      intro h8
      have hC := fun w1 (h : Ext _ w1) => boolS_not w.heap.size p g A c xs w1 (hbx.ext h) (he1.ext h) h8
      go_enter Try.func31, Try.ntmps31
      go_wp2_with (go_at_call 57; refine (see_not_bool w.heap.size p g A c xs _ he1 hC).mono ?_; rintro e w1 ⟨rfl, hx1, he2⟩)
      go_ret
      exact ⟨rfl, (Chs.of_ext hx).trans hx1, A, c, he2⟩
    by_cases h8 : 1 ≤ xs.length
    · simp only [if_pos h8]
      by_cases h9 : numV (xs.take 1) ≤ 1
      · simp only [if_pos h9]
        have hC := fun w1 (h : Ext _ w1) => boolS_ok w.heap.size p g A c xs w1 (hbx.ext h) (he1.ext h) h8 h9
        clear hno h9
        generalize (numV (xs.take 1) == 1) = V at *
        go_enter Try.func31, Try.ntmps31
        go_wp2_with (go_at_call 57; refine (see_ok_bool w.heap.size p g A c xs _ _ _ he1 hC).mono ?_; rintro e w1 ⟨rfl, hx1, A1, c1, he2⟩)
        go_ret
        exact ⟨rfl, (Chs.of_ext hx).trans hx1, A1, c1, he2⟩
      · simp only [if_neg h9]
        exact hno fun h => h9 h.2
    · simp only [if_neg h8]
      exact hno fun h => h8 h.1
end Go.Proofs.Ytbmpecfhflkbeaa

