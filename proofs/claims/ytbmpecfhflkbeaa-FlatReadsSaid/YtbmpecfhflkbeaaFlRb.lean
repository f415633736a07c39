/- Contracts: the reference's eye reads texts and truths. -/
import Derived.Test.YtbmpecfhflkbeaaFlRa
namespace Go.Proofs.Ytbmpecfhflkbeaa
open Go.RowKit
set_option linter.unusedVariables false

theorem REye.back {w w' : World} {q : Nat} {A : Option Addr} {c : Nat} {xs : List UInt8} {i j : Nat} {bl b2 : Bool} (h : REye w q A c xs i bl) (hj : j ≤ xs.length) :
    REye ((w.setCell ⟨q, 1, none⟩ (.int .i64 (j : Int))).setCell ⟨q, 2, none⟩ (.bool b2)) q A c xs j b2 ∧ Chs (isP q) w ((w.setCell ⟨q, 1, none⟩ (.int .i64 (j : Int))).setCell ⟨q, 2, none⟩ (.bool b2)) := by
  have hc : Chs (isP q) w ((w.setCell ⟨q, 1, none⟩ (.int .i64 (j : Int))).setCell ⟨q, 2, none⟩ (.bool b2)) := (Chs.set1 _ _ _ _).trans (Chs.set1 _ _ _ _)
  exact ⟨⟨by have := (h.blk.set_ 1 (.int .i64 (j : Int))).set_ 2 (.bool b2); simpa using this, h.row.chs hc (fun _ => h.ne), h.cap, h.ne, fun ad e => Nat.lt_of_lt_of_le (h.lt ad e) hc.size, hj, h.none_, h.max_⟩, hc⟩

set_option maxHeartbeats 1000000 in
set_option maxRecDepth 100000 in
theorem rtext_eye (q : Nat) (A : Option Addr) (c : Nat) (xs : List UInt8) (i : Nat) (bl : Bool) (w : World) (he : REye w q A c xs i bl) :
    Calls Try.prog 30 #[.pointer (some ⟨q, 0, none⟩)] w fun e w' => e = .returned (.string (after bl (xs.drop i) (textR (xs.drop i)) ByteArray.empty).1) ∧ Chs (isP q) w w' ∧ RSeen w' q A c xs i bl (textR (xs.drop i)) ByteArray.empty := by
  unfold RSeen
  have hql := he.blk.lt
  have f1 : w.cell? ⟨q, 1, none⟩ = some (.int .i64 (i : Int)) := he.blk.cell 1
  cases bl with
  | true =>
    rw [after_blind]
    have h := rtake_blind q A c xs i 4 w he
    go_enter Try.func30, Try.ntmps30
    go_wp2_with (go_at_call 51; refine h.mono ?_; rintro e w1 ⟨rfl, hx1, he1⟩)
    go_ret
    exact ⟨rfl, hx1, i, he1, rfl⟩
  | false =>
    by_cases h4 : 4 ≤ xs.length - i
    · have h := rtake_ok q A c xs i 4 w he h4
      have htl : ((xs.drop i).take 4).length = 4 := by rw [List.length_take, List.length_drop]; omega
      have hN := numV_lt ((xs.drop i).take 4)
      rw [htl] at hN
      have hnum := fun (w' : World) (A' : Option Addr) (c' : Nat) (hu : U8s w' A' ((xs.drop i).take 4)) => rnumber_any _ A' c' w' (by omega) hu
      rw [htl] at hnum
      have hi := he.hi
      have hm := he.max_
      have hdl : ((xs.drop i).drop 4).length = xs.length - (i + 4) := by rw [List.length_drop, List.length_drop]; omega
      have hw1 : IntKind.i64.wrap ((xs.length : Int) - ((i + 4 : Nat) : Int)) = ((xs.length - (i + 4) : Nat) : Int) := by rw [IntKind.wrap_i64]; omega
      by_cases h9 : numV ((xs.drop i).take 4) ≤ 1048576 ∧ numV ((xs.drop i).take 4) ≤ ((xs.drop i).drop 4).length
      · rw [after_some (xs.drop i) (((xs.drop i).drop 4).drop (numV ((xs.drop i).take 4))) (strOf (((xs.drop i).drop 4).take (numV ((xs.drop i).take 4)))) ByteArray.empty _ (by unfold textR; rw [if_pos (by rw [List.length_drop]; exact h4), if_pos h9])]
        obtain ⟨h9a, h9b⟩ := h9
        rw [hdl] at h9b
        generalize numV ((xs.drop i).take 4) = N at *
        generalize hys : (xs.drop i).take 4 = ys at *
        obtain ⟨m, hmm⟩ : ∃ m : Nat, m = i + 4 := ⟨_, rfl⟩
        have hM := Lib.hid hmm
        have hh : ((xs.drop i).drop 4) = xs.drop m := by rw [List.drop_drop, hmm]
        rw [hh]
        rw [← hmm] at hw1 h9b h
        have htk := fun (w' : World) (k : REye w' q A c xs m false) => rtake_ok q A c xs m N w' k (by omega)
        have hwN : IntKind.i64.wrap (N : Int) = (N : Int) := by rw [IntKind.wrap_i64]; omega
        have hd1 : decide ((1048576 : Int) < (N : Int)) = false := by rw [decide_eq_false_iff_not]; omega
        have hd2 : ¬ xs.length - m < N := by omega
        have hsv : ∀ (w3 : World) (A3 : Option Addr) (c3 : Nat), U8s w3 A3 ((xs.drop m).take N) → (convert 22 9 (.slice A3 N c3)).run Try.prog w3 = .ok (.string (strOf ((xs.drop m).take N))) w3 := by
          intro w3 A3 c3 h
          have := run_string_of (c := c3) (U8s.rd h)
          rwa [List.length_take, Nat.min_eq_left (by rw [List.length_drop]; omega)] at this
        have hdd : (xs.drop m).drop N = xs.drop (m + N) := List.drop_drop
        rw [hdd]
        generalize (xs.drop m).take N = zs at *
        have HD := Lib.hid hdl
        clear hdl hdd hh hm hi hN h9a h9b hmm htl hys
        generalize xs.length - m = rest at *
        go_enter Try.func30, Try.ntmps30
        go_upto_region 6 with (first
          | (go_at_call 51; refine h.mono ?_; rintro e w1 ⟨A1, c1, rfl, hu1, hx1, he1, hc1⟩)
          | (go_at_call 52; refine (hnum _ A1 c1 hu1).mono ?_; rintro e w2 ⟨rfl, rfl⟩))
        have l1 := he1.blk.lt
        have e0 : w1.cell? ⟨q, 0, none⟩ = some (.slice A xs.length c) := he1.blk.cell 0
        have e1 : w1.cell? ⟨q, 1, none⟩ = some (.int .i64 (m : Int)) := he1.blk.cell 1
        refine wp_region_in _ (by kernel_rfl) (by kernel_rfl) (Ext.refl _) ?_
        repeat (refine wpQuiet_step (fun K hK => ?_); go_simp; first | (refine hK _ ?_; clear hK K) | (apply Exists.intro; refine ⟨fun w' hw' => ?_, hK _ ?_⟩; (first |  (have g0 := hw'.cell l1 e0; have g1 := hw'.cell l1 e1; go_simp; rfl)); clear hK K))
        refine wpQuiet_nil ?_
        intro w4 hx4
        have hk := htk w4 (he1.ext hx4)
        go_wp2_with (go_at_call 51; refine hk.mono ?_; rintro e w5 ⟨A5, c5, rfl, hu5, hx5, he5, hc5⟩; have hst := hsv _ _ c5 hu5)
        go_ret
        exact ⟨rfl, (hx1.then_ext hx4).trans hx5, m + N, he5, rfl⟩
      · rw [after_none (xs.drop i) ByteArray.empty _ (by unfold textR; rw [if_pos (by rw [List.length_drop]; exact h4), if_neg h9])]
        rw [hdl] at h9
        generalize numV ((xs.drop i).take 4) = N at *
        generalize hys : (xs.drop i).take 4 = ys at *
        obtain ⟨m, hmm⟩ : ∃ m : Nat, m = i + 4 := ⟨_, rfl⟩
        rw [← hmm] at hw1 h9 h
        have hwN : IntKind.i64.wrap (N : Int) = (N : Int) := by rw [IntKind.wrap_i64]; omega
        have HI := Lib.hid hi
        have h0 : N ≤ 1048576 → xs.length - m < N := by intro hh; have : ¬ N ≤ xs.length - m := fun k => h9 ⟨hh, k⟩; omega
        clear hdl hm hi hN h9 hmm htl hys
        generalize xs.length - m = rest at *
        go_enter Try.func30, Try.ntmps30
        go_upto_region 6 with (first
          | (go_at_call 51; refine h.mono ?_; rintro e w1 ⟨A1, c1, rfl, hu1, hx1, he1, hc1⟩)
          | (go_at_call 52; refine (hnum _ A1 c1 hu1).mono ?_; rintro e w2 ⟨rfl, rfl⟩))
        have l1 := he1.blk.lt
        have e0 : w1.cell? ⟨q, 0, none⟩ = some (.slice A xs.length c) := he1.blk.cell 0
        have e1 : w1.cell? ⟨q, 1, none⟩ = some (.int .i64 (m : Int)) := he1.blk.cell 1
        by_cases hNN : N ≤ 1048576
        · have hd1 : decide ((1048576 : Int) < (N : Int)) = false := by rw [decide_eq_false_iff_not]; omega
          have hd2 := h0 hNN
          clear h0 hNN
          refine wp_region_in _ (by kernel_rfl) (by kernel_rfl) (Ext.refl _) ?_
          repeat (refine wpQuiet_step (fun K hK => ?_); go_simp; first | (refine hK _ ?_; clear hK K) | (apply Exists.intro; refine ⟨fun w' hw' => ?_, hK _ ?_⟩; (first |  (have g0 := hw'.cell l1 e0; have g1 := hw'.cell l1 e1; go_simp; rfl)); clear hK K))
          refine wpQuiet_nil ?_
          intro w4 hx4
          obtain ⟨hb1, hb2⟩ := (he1.ext hx4).back (w' := w4) (j := i) (b2 := true) HI.out
          have z1 := (he1.ext hx4).blk.frozen 1
          have z2 := (he1.ext hx4).blk.frozen 2
          have l4 := (he1.ext hx4).blk.lt
          have y1 : w4.cell? ⟨q, 1, none⟩ = some (.int .i64 (m : Int)) := (he1.ext hx4).blk.cell 1
          have y2 : w4.cell? ⟨q, 2, none⟩ = some (.bool false) := (he1.ext hx4).blk.cell 2
          go_wp2
          go_ret
          exact ⟨rfl, (hx1.then_ext hx4).trans hb2, i, hb1, rfl⟩
        · have hd1 : decide ((1048576 : Int) < (N : Int)) = true := by rw [decide_eq_true_eq]; omega
          clear h0 hNN
          go_region
          have hx4 : Ext w1 w1.drew := (Ext.refl _).drew
          generalize w1.drew = w4 at *
          obtain ⟨hb1, hb2⟩ := (he1.ext hx4).back (w' := w4) (j := i) (b2 := true) HI.out
          have z1 := (he1.ext hx4).blk.frozen 1
          have z2 := (he1.ext hx4).blk.frozen 2
          have l4 := (he1.ext hx4).blk.lt
          have y1 : w4.cell? ⟨q, 1, none⟩ = some (.int .i64 (m : Int)) := (he1.ext hx4).blk.cell 1
          have y2 : w4.cell? ⟨q, 2, none⟩ = some (.bool false) := (he1.ext hx4).blk.cell 2
          go_wp2
          go_ret
          exact ⟨rfl, (hx1.then_ext hx4).trans hb2, i, hb1, rfl⟩
    · rw [after_none (xs.drop i) ByteArray.empty _ (by unfold textR; rw [if_neg (by rw [List.length_drop]; exact h4)])]
      have h := rtake_not q A c xs i 4 w he (by omega) (by omega)
      go_enter Try.func30, Try.ntmps30
      go_wp2_with (go_at_call 51; refine h.mono ?_; rintro e w1 ⟨rfl, hx1, he1⟩)
      go_ret
      exact ⟨rfl, hx1, i, he1, rfl⟩
end Go.Proofs.Ytbmpecfhflkbeaa
