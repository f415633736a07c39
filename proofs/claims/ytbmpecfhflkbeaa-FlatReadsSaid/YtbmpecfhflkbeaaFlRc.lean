/- Contracts: the reference's eye reads truths; it is opened, it is done; the sum. -/
import Derived.Test.YtbmpecfhflkbeaaFlRa
import Derived.Test.YtbmpecfhflkbeaaFlJ
namespace Go.Proofs.Ytbmpecfhflkbeaa
open Go.RowKit
set_option linter.unusedVariables false

theorem numV_one (l : List UInt8) (h : l.length = 1) : numV l = (l[0]'(by omega)).toNat := by
  match l, h with
  | [a], _ => simp [numV]
set_option maxHeartbeats 1000000 in
set_option maxRecDepth 100000 in
theorem rbool_eye (q : Nat) (A : Option Addr) (c : Nat) (xs : List UInt8) (i : Nat) (bl : Bool) (w : World) (he : REye w q A c xs i bl) :
    Calls Try.prog 32 #[.pointer (some ⟨q, 0, none⟩)] w fun e w' => e = .returned (.bool (after bl (xs.drop i) (boolR (xs.drop i)) false).1) ∧ Chs (isP q) w w' ∧ RSeen w' q A c xs i bl (boolR (xs.drop i)) false := by
  unfold RSeen
  have hql := he.blk.lt
  have f1 : w.cell? ⟨q, 1, none⟩ = some (.int .i64 (i : Int)) := he.blk.cell 1
  cases bl with
  | true =>
    rw [after_blind]
    have h := rtake_blind q A c xs i 1 w he
    go_enter Try.func32, Try.ntmps32
    go_wp2_with (go_at_call 51; refine h.mono ?_; rintro e w1 ⟨rfl, hx1, he1⟩)
    go_ret
    exact ⟨rfl, hx1, i, he1, rfl⟩
  | false =>
    by_cases h4 : 1 ≤ xs.length - i
    · have h := rtake_ok q A c xs i 1 w he h4
      have htl : ((xs.drop i).take 1).length = 1 := by rw [List.length_take, List.length_drop]; omega
      have hi := he.hi
      obtain ⟨b0, hN, hu⟩ : ∃ b0 : UInt8, numV ((xs.drop i).take 1) = b0.toNat ∧ ∀ (w' : World) (A' : Option Addr), U8s w' A' ((xs.drop i).take 1) → ∃ b o, A' = some ⟨b, o, none⟩ ∧ b < w'.heap.size ∧ w'.cell? ⟨b, o, none⟩ = some (.int .u8 (b0.toNat : Int)) :=
        ⟨_, numV_one _ htl, fun w' A' hu => hu.c1 0 (by omega) _ rfl⟩
      by_cases h9 : numV ((xs.drop i).take 1) ≤ 1
      · rw [after_some (xs.drop i) ((xs.drop i).drop 1) (numV ((xs.drop i).take 1) == 1) false _ (by unfold boolR; rw [if_pos (by rw [List.length_drop]; exact h4), if_pos h9])]
        rw [hN] at h9 ⊢
        have hd : decide ((1 : Int) < (b0.toNat : Int)) = false := by rw [decide_eq_false_iff_not]; omega
        have he2 : ((b0.toNat : Int) == 1) = (b0.toNat == 1) := by
          rcases Nat.le_one_iff_eq_zero_or_eq_one.1 h9 with e | e <;> rw [e] <;> rfl
        generalize (xs.drop i).take 1 = ys at *
        clear hN htl h4 h9 hi
        go_enter Try.func32, Try.ntmps32
        go_wp2_with (go_at_call 51; refine h.mono ?_; rintro e w1 ⟨A1, c1, rfl, hu1, hx1, he1, hc1⟩; obtain ⟨b, o, rfl, hb, hcell⟩ := hu w1 A1 hu1)
        go_ret
        exact ⟨by rw [← he2]; rfl, hx1, i + 1, he1, by rw [List.drop_drop]⟩
      · rw [after_none (xs.drop i) false _ (by unfold boolR; rw [if_pos (by rw [List.length_drop]; exact h4), if_neg h9])]
        rw [hN] at h9
        have hd : decide ((1 : Int) < (b0.toNat : Int)) = true := by rw [decide_eq_true_eq]; omega
        generalize (xs.drop i).take 1 = ys at *
        have HI := Lib.hid hi
        clear hN htl h4 h9 hi
        go_enter Try.func32, Try.ntmps32
        go_upto_region 6 with (go_at_call 51; refine h.mono ?_; rintro e w1 ⟨A1, c1, rfl, hu1, hx1, he1, hc1⟩; obtain ⟨b, o, rfl, hb, hcell⟩ := hu w1 A1 hu1)
        have hc2 : Chs (isP q) w1 ((w1.setCell ⟨q, 1, none⟩ (.int .i64 (i : Int))).setCell ⟨q, 2, none⟩ (.bool true)) := (Chs.set1 _ _ _ _).trans (Chs.set1 _ _ _ _)
        have z1 := he1.blk.frozen 1
        have z2 := he1.blk.frozen 2
        have l4 := he1.blk.lt
        have y1 : w1.cell? ⟨q, 1, none⟩ = some (.int .i64 ((i + 1 : Nat) : Int)) := he1.blk.cell 1
        have y2 : w1.cell? ⟨q, 2, none⟩ = some (.bool false) := he1.blk.cell 2
        go_wp2
        go_ret
        exact ⟨rfl, hx1.trans hc2, i, ⟨by have := (he1.blk.set_ 1 (.int .i64 (i : Int))).set_ 2 (.bool true); simpa using this, he1.row.chs hc2 (fun _ => he1.ne), he1.cap, he1.ne, fun ad e => Nat.lt_of_lt_of_le (he1.lt ad e) hc2.size, HI.out, he1.none_, he1.max_⟩, rfl⟩
    · rw [after_none (xs.drop i) false _ (by unfold boolR; rw [if_neg (by rw [List.length_drop]; exact h4)])]
      have h := rtake_not q A c xs i 1 w he (by omega) (by omega)
      go_enter Try.func32, Try.ntmps32
      go_wp2_with (go_at_call 51; refine h.mono ?_; rintro e w1 ⟨rfl, hx1, he1⟩)
      go_ret
      exact ⟨rfl, hx1, i, he1, rfl⟩
theorem rsum_any (l : List UInt8) (A : Option Addr) (c : Nat) (w : World) (hm : l.length ≤ 1099511627776) (hs : U8s w A l) :
    Calls Try.prog 26 #[.slice A l.length c] w fun e w' => e = .returned (.int .u64 (sumV l : Nat)) ∧ w = w' := by
  go_enter Try.func26, Try.ntmps26
  go_wp2
  go_loopw [4, 3] (fun i v wr => ∃ k : Nat, k ≤ l.length ∧ i = .int .i64 k ∧ v = .int .u64 (sumFrom 14695981039346656037 (l.take k) : Nat) ∧ w = wr) (fun i _ _ => l.length - (intOf i).toNat)
  case atStart => exact ⟨0, by omega, rfl, rfl, rfl⟩
  case round =>
    obtain ⟨k, hk, rfl, rfl, rfl⟩ := hrel
    by_cases hlt : k < l.length
    · obtain ⟨b, o, rfl, hb, hcell⟩ := hs.c1 k hlt _ rfl
      have hT := Lib.hid (sumFrom_take 14695981039346656037 l k hlt)
      have hst := sum_step (sumFrom 14695981039346656037 (l.take k)) l[k] (sumFrom_lt _ _ (by omega))
      generalize l[k] = a at *
      generalize sumFrom 14695981039346656037 (l.take k) = N at *
      go_wp2
      go_roundw
      case rel => exact ⟨k + 1, by omega, by go_num, by rw [hT.out], by first | rfl | trivial⟩
      case measure => simp [intOf]; omega
    · obtain rfl : k = l.length := by omega
      rw [List.take_length]
      go_wp2
      go_ret
      exact ⟨rfl, rfl⟩
set_option maxHeartbeats 1000000 in
set_option maxRecDepth 100000 in
theorem rdone_eye (q : Nat) (A : Option Addr) (c : Nat) (xs : List UInt8) (i : Nat) (bl : Bool) (w : World) (he : REye w q A c xs i bl) :
    Calls Try.prog 41 #[.pointer (some ⟨q, 0, none⟩)] w fun e w' => e = .returned (.int .i64 (doneV (xs.drop i) bl)) ∧ Ext w w' := by
  have hql := he.blk.lt
  have f0 : w.cell? ⟨q, 0, none⟩ = some (.slice A xs.length c) := he.blk.cell 0
  have f1 : w.cell? ⟨q, 1, none⟩ = some (.int .i64 (i : Int)) := he.blk.cell 1
  have f2 : w.cell? ⟨q, 2, none⟩ = some (.bool bl) := he.blk.cell 2
  unfold doneV
  rw [List.length_drop]
  have hi := he.hi
  cases bl with
  | true =>
    rw [if_pos (by simp)]
    clear hi
    go_enter Try.func41, Try.ntmps41
    go_upto_region 1 with fail
    have f2d : w.drew.cell? ⟨q, 2, none⟩ = some (.bool true) := f2
    go_region
    have hx1 : Ext w w.drew := (Ext.refl _).drew
    generalize w.drew = w1 at *
    go_wp2
    go_ret
    exact ⟨rfl, hx1⟩
  | false =>
    by_cases h : i < xs.length
    · rw [if_pos (by simp; omega)]
      have hd : decide ((i : Int) < (xs.length : Int)) = true := by rw [decide_eq_true_eq]; omega
      generalize xs.length = n at *
      clear hi
      go_enter Try.func41, Try.ntmps41
      go_upto_region 1 with fail
      refine wp_region_in _ (by kernel_rfl) (by kernel_rfl) (Ext.refl _) ?_
      repeat (refine wpQuiet_step (fun K hK => ?_); go_simp; first | (refine hK _ ?_; clear hK K) | (apply Exists.intro; refine ⟨fun w' hw' => ?_, hK _ ?_⟩; (first |  (have g0 := hw'.cell hql f0; have g1 := hw'.cell hql f1; have g2 := hw'.cell hql f2; go_simp; rfl)); clear hK K))
      refine wpQuiet_nil ?_
      intro w1 hx1
      go_wp2
      go_ret
      exact ⟨rfl, hx1⟩
    · rw [if_neg (by simp; omega)]
      have hd : decide ((i : Int) < (xs.length : Int)) = false := by rw [decide_eq_false_iff_not]; omega
      generalize xs.length = n at *
      clear hi
      go_enter Try.func41, Try.ntmps41
      go_upto_region 1 with fail
      refine wp_region_in _ (by kernel_rfl) (by kernel_rfl) (Ext.refl _) ?_
      repeat (refine wpQuiet_step (fun K hK => ?_); go_simp; first | (refine hK _ ?_; clear hK K) | (apply Exists.intro; refine ⟨fun w' hw' => ?_, hK _ ?_⟩; (first |  (have g0 := hw'.cell hql f0; have g1 := hw'.cell hql f1; have g2 := hw'.cell hql f2; go_simp; rfl)); clear hK K))
      refine wpQuiet_nil ?_
      intro w1 hx1
      go_wp2
      go_ret
      exact ⟨rfl, hx1⟩
end Go.Proofs.Ytbmpecfhflkbeaa
