/- The walk of FlatBlind. -/
import Derived.Test.YtbmpecfhflkbeaaFl4
namespace Go.Proofs.Ytbmpecfhflkbeaa
open Go.RowKit
set_option linter.unusedVariables false

theorem after_some {T : Type} (xs ys : List UInt8) (v z : T) (r : Option (T × List UInt8)) (h : r = some (v, ys)) : after false xs r z = (v, ys, false) := by subst h; rfl
theorem after_none {T : Type} (xs : List UInt8) (z : T) (r : Option (T × List UInt8)) (h : r = none) : after false xs r z = (z, xs, true) := by subst h; rfl
theorem after_blind {T : Type} (xs : List UInt8) (z : T) (r : Option (T × List UInt8)) : after true xs r z = (z, xs, true) := rfl
/-- what a blind eye sees -/
theorem blind_int (p : Nat) (g : Option Nat) (A : Option Addr) (c : Nat) (xs : List UInt8) (w : World) (he : EyeAt w p g A c xs true) :
    Calls Try.prog 27 #[.pointer (some ⟨p, 0, none⟩)] w fun e w' => e = .returned (.int .i64 0) ∧ Chs (isP p) w w' ∧ ∃ A c, EyeAt w' p g A c xs true :=
  (eye_int p g A c xs true w he).mono fun e w' h => h
theorem blind_text (p : Nat) (g : Option Nat) (A : Option Addr) (c : Nat) (xs : List UInt8) (w : World) (he : EyeAt w p g A c xs true) :
    Calls Try.prog 29 #[.pointer (some ⟨p, 0, none⟩)] w fun e w' => e = .returned (.string { data := #[] }) ∧ Chs (isP p) w w' ∧ ∃ A c, EyeAt w' p g A c xs true :=
  (eye_text p g A c xs true w he).mono fun e w' h => h
theorem blind_bool (p : Nat) (g : Option Nat) (A : Option Addr) (c : Nat) (xs : List UInt8) (w : World) (he : EyeAt w p g A c xs true) :
    Calls Try.prog 31 #[.pointer (some ⟨p, 0, none⟩)] w fun e w' => e = .returned (.bool false) ∧ Chs (isP p) w w' ∧ ∃ A c, EyeAt w' p g A c xs true :=
  (eye_bool p g A c xs true w he).mono fun e w' h => h
theorem blind_stamp (p : Nat) (g : Option Nat) (A : Option Addr) (c : Nat) (xs : List UInt8) (w : World) (he : EyeAt w p g A c xs true) :
    Calls Try.prog 33 #[.pointer (some ⟨p, 0, none⟩)] w fun e w' => e = .returned (.agg #[.int .i64 0, .int .i64 0]) ∧ Chs (isP p) w w' ∧ ∃ A c, EyeAt w' p g A c xs true :=
  (eye_stamp p g A c xs true w he).mono fun e w' h => h
theorem blind_stamps (p : Nat) (g : Option Nat) (A : Option Addr) (c : Nat) (xs : List UInt8) (w : World) (he : EyeAt w p g A c xs true) :
    Calls Try.prog 36 #[.pointer (some ⟨p, 0, none⟩)] w fun e w' => ∃ B d, e = .returned (.slice B 0 d) ∧ Chs (isP p) w w' ∧ ∃ A c, EyeAt w' p g A c xs true :=
  (eye_stamps p g A c xs true w he).mono fun e w' h => by
    obtain ⟨B, d, e1, _, h2⟩ := h
    exact ⟨B, d, e1, h2⟩

set_option maxHeartbeats 4000000 in
set_option maxRecDepth 100000 in
theorem flatBlind_walk (A0 : Option Addr) (n0 c0 : Nat) (xs : List UInt8) (A1 : Option Addr) (n1 c1 : Nat) (ks : List Int) (w : World) (h0 : BytesIn w A0 n0 c0 xs) (h1 : I64sIn w A1 n1 c1 ks) :
    Calls Try.prog 9 #[.slice A0 n0 c0, .slice A1 n1 c1] w fun e w' => e = .returned (.bool true) ∧ Ext w w' := by
  obtain ⟨rfl, _, hn0, _, h0, _⟩ := h0
  obtain ⟨rfl, _, _, _, h1, _⟩ := h1
  by_cases g0 : 20000 < xs.length
  · clear h0 h1 hn0
    go_enter Try.func9, Try.ntmps9
    go_wp2_with (go_at_call 12; refine (live_any _).mono ?_; rintro e w1 ⟨rfl, hx1⟩)
    go_ret
    exact ⟨rfl, (by repeat (first | assumption | exact Ext.refl _ | (with_reducible refine Ext.alloc ?_ _) | (with_reducible refine Ext.drew ?_) | refine Ext.trans ?_ (by assumption)))⟩
  by_cases g1 : 60 < ks.length
  · clear h0 h1 hn0
    go_enter Try.func9, Try.ntmps9
    go_wp2_with (go_at_call 12; refine (live_any _).mono ?_; rintro e w1 ⟨rfl, hx1⟩)
    go_ret
    exact ⟨rfl, (by repeat (first | assumption | exact Ext.refl _ | (with_reducible refine Ext.alloc ?_ _) | (with_reducible refine Ext.drew ?_) | refine Ext.trans ?_ (by assumption)))⟩
  have hop := open_any xs A0 c0 w (by omega) h0 hn0
  have hw8 : wrap64 ((xs.length : Int) / 8) = ((xs.length / 8 : Nat) : Int) := by unfold wrap64; omega
  clear h0 hn0
  go_enter Try.func9, Try.ntmps9
  go_wp2_with (go_at_call 24; refine hop.mono ?_; rintro e w1 ⟨hx1, p, g, A2, c2, rfl, hp, hg, he1⟩)
  go_loopw [6] (fun i wr => ∃ (k : Nat) (A : Option Addr) (c : Nat), k ≤ xs.length / 8 ∧ i = .int .i64 k ∧ Ext w wr ∧ EyeAt wr p g A c (xs.drop (8 * k)) false) (fun i _ => xs.length / 8 - (intOf i).toNat)
  case atStart => exact ⟨0, A2, c2, by omega, rfl, hx1, by simpa using he1⟩
  case round =>
    clear he1 hx1
    obtain ⟨k, A, c, hk, rfl, hx, he⟩ := hrel
    by_cases hlt : k < xs.length / 8
    · have hr := after_some (xs.drop (8 * k)) ((xs.drop (8 * k)).drop 8) (wrap64 (numV ((xs.drop (8 * k)).take 8) : Nat)) (0 : Int) (intR (xs.drop (8 * k))) (by unfold intR; rw [if_pos (by rw [List.length_drop]; omega)])
      have hei := eye_int p g A c _ false wr he
      unfold Seen at hei
      rw [hr] at hei
      have hD : Hid ((xs.drop (8 * k)).drop 8 = xs.drop (8 * (k + 1))) := Lib.hid (by rw [List.drop_drop]; congr 1)
      generalize wrap64 (numV ((xs.drop (8 * k)).take 8) : Nat) = v at *
      dsimp only at hei
      clear hr he
      go_wp2_with (go_at_call 27; refine hei.mono ?_; rintro e w2 ⟨rfl, hx2, A', c', he2⟩)
      go_roundw
      case rel => exact ⟨k + 1, A', c', by omega, by go_num, hx.see hx2 (by omega), by rw [← hD.out]; exact he2⟩
      case measure => simp [intOf]; omega
    · obtain rfl : k = xs.length / 8 := by omega
      have hlen : (xs.drop (8 * (xs.length / 8))).length = xs.length % 8 := by rw [List.length_drop]; omega
      generalize xs.drop (8 * (xs.length / 8)) = ys at *
      have hlf := left_any p g A c ys false wr he
      rw [hlen] at hlf
      have hei := eye_int p g A c ys false wr he
      unfold Seen at hei
      rw [after_none ys (0 : Int) (intR ys) (by unfold intR; rw [if_neg (by omega)])] at hei
      dsimp only at hei
      have dV : doneV ys true = 20 := rfl
      go_wp2_with (first
        | (go_at_call 38; refine hlf.mono ?_; rintro e w2 ⟨rfl, rfl⟩; clear hlf)
        | (go_at_call 27; refine hei.mono ?_; rintro e w3 ⟨rfl, hx2, A', c', he2⟩; have hlf2 : Calls Try.prog 38 #[.pointer (some ⟨p, 0, none⟩)] w3 fun e w' => e = .returned (.int .i64 ((xs.length % 8 : Nat) : Int)) ∧ w3 = w' := (by rw [← hlen]; exact left_any p g A' c' ys true w3 he2); have D3 := done_any p g A' c' ys true w3 he2)
        | (go_at_call 38; refine hlf2.mono ?_; rintro e w2 ⟨rfl, rfl⟩)
        | (go_at_call 40; refine D3.mono ?_; rintro e w4 ⟨rfl, hx4⟩)
        | (go_at_call 39; refine (num_any _ _).mono ?_; rintro e w' ⟨rfl, rfl⟩))
      have hx3 := (hx.see hx2 (by omega)).trans hx4
      have he3 := he2.ext hx4
      clear hei hlf2 D3 he2 hx2 hx4 hx he hk hlt hop
      go_loopw [8] (fun i wr => ∃ (k : Nat) (A : Option Addr) (c : Nat), k ≤ ks.length ∧ i = .int .i64 k ∧ Ext w wr ∧ EyeAt wr p g A c ys true) (fun i _ => ks.length - (intOf i).toNat)
      case atStart => exact ⟨0, A', c', by omega, rfl, hx3, he3⟩
      case round =>
        clear he3 hx3
        obtain ⟨k, A3, c3, hk, rfl, hx3, he3⟩ := hrel
        by_cases hlt : k < ks.length
        · obtain ⟨b, o, rfl, hb, hcell⟩ := (h1.ext hx3).c1 k hlt _ rfl
          generalize ks[k] = K at *
          by_cases k0 : K = 0
          · subst k0
            go_wp2_with (first
              | (go_at_call 27; refine (blind_int p g A3 c3 ys _ he3).mono ?_; rintro e w5 ⟨rfl, hx5, A5, c5, he5⟩; have L5 : Calls Try.prog 38 #[.pointer (some ⟨p, 0, none⟩)] w5 fun e w' => e = .returned (.int .i64 ((xs.length % 8 : Nat) : Int)) ∧ w5 = w' := (by rw [← hlen]; exact left_any p g A5 c5 ys true w5 he5); have D5 := done_any p g A5 c5 ys true w5 he5)
              | (go_at_call 38; refine L5.mono ?_; rintro e w6 ⟨rfl, rfl⟩)
              | (go_at_call 40; refine D5.mono ?_; rintro e w7 ⟨rfl, hx7⟩)
              | (go_at_call 39; refine (num_any _ _).mono ?_; rintro e w' ⟨rfl, rfl⟩))
            go_roundw
            case rel => exact ⟨k + 1, A5, c5, by omega, by go_num, (hx3.see hx5 (by omega)).trans hx7, he5.ext hx7⟩
            case measure => simp [intOf]; omega
          by_cases k1 : K = 1
          · subst k1
            go_wp2_with (first
              | (go_at_call 29; refine (blind_text p g A3 c3 ys _ he3).mono ?_; rintro e w5 ⟨rfl, hx5, A5, c5, he5⟩; have L5 : Calls Try.prog 38 #[.pointer (some ⟨p, 0, none⟩)] w5 fun e w' => e = .returned (.int .i64 ((xs.length % 8 : Nat) : Int)) ∧ w5 = w' := (by rw [← hlen]; exact left_any p g A5 c5 ys true w5 he5); have D5 := done_any p g A5 c5 ys true w5 he5)
              | (go_at_call 38; refine L5.mono ?_; rintro e w6 ⟨rfl, rfl⟩)
              | (go_at_call 40; refine D5.mono ?_; rintro e w7 ⟨rfl, hx7⟩)
              | (go_at_call 39; refine (num_any _ _).mono ?_; rintro e w' ⟨rfl, rfl⟩))
            go_roundw
            case rel => exact ⟨k + 1, A5, c5, by omega, by go_num, (hx3.see hx5 (by omega)).trans hx7, he5.ext hx7⟩
            case measure => simp [intOf]; omega
          by_cases k2 : K = 2
          · subst k2
            go_wp2_with (first
              | (go_at_call 31; refine (blind_bool p g A3 c3 ys _ he3).mono ?_; rintro e w5 ⟨rfl, hx5, A5, c5, he5⟩; have L5 : Calls Try.prog 38 #[.pointer (some ⟨p, 0, none⟩)] w5 fun e w' => e = .returned (.int .i64 ((xs.length % 8 : Nat) : Int)) ∧ w5 = w' := (by rw [← hlen]; exact left_any p g A5 c5 ys true w5 he5); have D5 := done_any p g A5 c5 ys true w5 he5)
              | (go_at_call 38; refine L5.mono ?_; rintro e w6 ⟨rfl, rfl⟩)
              | (go_at_call 40; refine D5.mono ?_; rintro e w7 ⟨rfl, hx7⟩)
              | (go_at_call 39; refine (num_any _ _).mono ?_; rintro e w' ⟨rfl, rfl⟩))
            go_roundw
            case rel => exact ⟨k + 1, A5, c5, by omega, by go_num, (hx3.see hx5 (by omega)).trans hx7, he5.ext hx7⟩
            case measure => simp [intOf]; omega
          by_cases k3 : K = 3
          · subst k3
            go_wp2_with (first
              | (go_at_call 33; refine (blind_stamp p g A3 c3 ys _ he3).mono ?_; rintro e w5 ⟨rfl, hx5, A5, c5, he5⟩; have L5 : Calls Try.prog 38 #[.pointer (some ⟨p, 0, none⟩)] w5 fun e w' => e = .returned (.int .i64 ((xs.length % 8 : Nat) : Int)) ∧ w5 = w' := (by rw [← hlen]; exact left_any p g A5 c5 ys true w5 he5); have D5 := done_any p g A5 c5 ys true w5 he5)
              | (go_at_call 38; refine L5.mono ?_; rintro e w6 ⟨rfl, rfl⟩)
              | (go_at_call 40; refine D5.mono ?_; rintro e w7 ⟨rfl, hx7⟩)
              | (go_at_call 39; refine (num_any _ _).mono ?_; rintro e w' ⟨rfl, rfl⟩))
            go_roundw
            case rel => exact ⟨k + 1, A5, c5, by omega, by go_num, (hx3.see hx5 (by omega)).trans hx7, he5.ext hx7⟩
            case measure => simp [intOf]; omega
          by_cases k4 : K = 4
          · subst k4
            go_wp2_with (first
              | (go_at_call 36; refine (blind_stamps p g A3 c3 ys _ he3).mono ?_; rintro e w5 ⟨B, d, rfl, hx5, A5, c5, he5⟩; have L5 : Calls Try.prog 38 #[.pointer (some ⟨p, 0, none⟩)] w5 fun e w' => e = .returned (.int .i64 ((xs.length % 8 : Nat) : Int)) ∧ w5 = w' := (by rw [← hlen]; exact left_any p g A5 c5 ys true w5 he5); have D5 := done_any p g A5 c5 ys true w5 he5)
              | (go_at_call 38; refine L5.mono ?_; rintro e w6 ⟨rfl, rfl⟩)
              | (go_at_call 40; refine D5.mono ?_; rintro e w7 ⟨rfl, hx7⟩)
              | (go_at_call 39; refine (num_any _ _).mono ?_; rintro e w' ⟨rfl, rfl⟩))
            go_roundw
            case rel => exact ⟨k + 1, A5, c5, by omega, by go_num, (hx3.see hx5 (by omega)).trans hx7, he5.ext hx7⟩
            case measure => simp [intOf]; omega
          have L5 : Calls Try.prog 38 #[.pointer (some ⟨p, 0, none⟩)] wr fun e w' => e = .returned (.int .i64 ((xs.length % 8 : Nat) : Int)) ∧ wr = w' := (by rw [← hlen]; exact left_any p g A3 c3 ys true wr he3)
          have D5 := done_any p g A3 c3 ys true wr he3
          go_wp2_with (first
            | (go_at_call 38; refine L5.mono ?_; rintro e w6 ⟨rfl, rfl⟩)
            | (go_at_call 40; refine D5.mono ?_; rintro e w7 ⟨rfl, hx7⟩)
            | (go_at_call 39; refine (num_any _ _).mono ?_; rintro e w' ⟨rfl, rfl⟩))
          go_roundw
          case rel => exact ⟨k + 1, A3, c3, by omega, by go_num, hx3.trans hx7, he3.ext hx7⟩
          case measure => simp [intOf]; omega
        · obtain rfl : k = ks.length := by omega
          go_wp2_with (go_at_call 12; refine (live_any _).mono ?_; rintro e w9 ⟨rfl, hx9⟩)
          go_ret
          exact ⟨rfl, hx3.trans hx9⟩
end Go.Proofs.Ytbmpecfhflkbeaa
