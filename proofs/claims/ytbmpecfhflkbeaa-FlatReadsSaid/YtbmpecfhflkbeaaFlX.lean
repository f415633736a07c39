/- Contracts: the reference lays stamps. -/
import Derived.Test.YtbmpecfhflkbeaaFlW
namespace Go.Proofs.Ytbmpecfhflkbeaa
open Go.RowKit
set_option linter.unusedVariables false

set_option maxRecDepth 100000 in
theorem rstamp_any (v : Value) (xs : List UInt8) (s : St) (w : World) (ho : OwnB w 0 v xs) (hl : xs.length + 8 ≤ 1099511627776) :
    Calls Try.prog 45 #[v, .agg #[.int .i64 (s).t, .int .i64 (s).n]] w fun e w' => ∃ v', e = .returned v' ∧ RowTo w v w' v' (xs ++ stampB s) := by
  obtain ⟨t, n⟩ := s
  obtain ⟨A, c, rfl, hnn⟩ := own_form1 ho
  have hB := Blk.new w 39 #[.int .i64 t, .int .i64 n]
  have hx := (Ext.refl w).alloc (.cells #[.int .i64 t, .int .i64 n] 39)
  have ho1 := own_ext ho hx.drew
  have c0 : (w.alloc (.cells #[.int .i64 t, .int .i64 n] 39)).cell? ⟨w.heap.size, 0, none⟩ = some (.int .i64 t) := hB.cell 0
  have c1 : (w.alloc (.cells #[.int .i64 t, .int .i64 n] 39)).cell? ⟨w.heap.size, 1, none⟩ = some (.int .i64 n) := hB.cell 1
  have hl1 := Lib.hid hl
  obtain ⟨W, hW⟩ : ∃ W, W = (w.alloc (.cells #[.int .i64 t, .int .i64 n] 39)).drew := ⟨_, rfl⟩
  have hxW : Ext w W := by rw [hW]; exact hx.drew
  have hBW : Blk W w.heap.size 39 #[.int .i64 t, .int .i64 n] := by rw [hW]; exact hB.drew
  have hoW : OwnB W 0 (.slice A xs.length c) xs := by rw [hW]; exact ho1
  have r1 : Calls Try.prog 20 #[.slice A xs.length c, .int .i64 t] W fun e w1 => ∃ A1 d1, e = .returned (.slice A1 (xs ++ intB t).length d1) ∧ (w1.cell? ⟨w.heap.size, 0, none⟩ = some (.int .i64 t) ∧ w1.cell? ⟨w.heap.size, 1, none⟩ = some (.int .i64 n)) ∧
      Calls Try.prog 20 #[.slice A1 (xs ++ intB t).length d1, .int .i64 n] w1 fun e w2 => ∃ A2 d2, e = .returned (.slice A2 (xs ++ intB t ++ intB n).length d2) ∧ (w2.cell? ⟨w.heap.size, 0, none⟩ = some (.int .i64 t) ∧ w2.cell? ⟨w.heap.size, 1, none⟩ = some (.int .i64 n)) ∧ RowTo w (.slice A xs.length c) w2 (.slice A2 (xs ++ intB t ++ intB n).length d2) (xs ++ intB t ++ intB n) := by
    refine (rint_any (.slice A xs.length c) xs t W hoW (by omega)).mono ?_
    rintro e w1 ⟨v1, rfl, hR⟩
    obtain ⟨A1, d1, rfl, hn1⟩ := own_form1 hR.own
    have hB1 := hBW.chs hR.chs (fun e => own_blk_far hoW hBW (by decide) _ e rfl)
    refine ⟨A1, d1, rfl, ⟨hB1.cell 0, hB1.cell 1⟩, ?_⟩
    refine (rint_any (.slice A1 (xs ++ intB t).length d1) (xs ++ intB t) n w1 hR.own (by rw [List.length_append, intB_len]; omega)).mono ?_
    rintro e w2 ⟨v2, rfl, hR2⟩
    obtain ⟨A2, d2, rfl, hn2⟩ := own_form1 hR2.own
    have hB2 := hB1.chs hR2.chs (fun e => own_blk_far hR.own hB1 (by decide) _ e rfl)
    exact ⟨A2, d2, rfl, ⟨hB2.cell 0, hB2.cell 1⟩, hxW.rowTo (hR.trans hR2)⟩
  rw [hW] at r1
  clear hl hW hxW hBW hoW ho1 hB hx hl1
  generalize (xs ++ intB t).length = m1 at *
  generalize hm2 : (xs ++ intB t ++ intB n).length = m2 at *
  go_enter Try.func45, Try.ntmps45
  go_upto_region 1 with fail
  generalize w.heap.size = gb at *
  go_region_held (fun w' => w'.cell? ⟨gb, 0, none⟩ = some (.int .i64 t) ∧ w'.cell? ⟨gb, 1, none⟩ = some (.int .i64 n)) (first | assumption | exact ⟨by simpa using c0, by simpa using c1⟩)
    (first
      | (go_at_call 20; with_reducible refine r1.mono ?_; rintro e w1 ⟨A1, d1, rfl, hS1, r2⟩)
      | (go_at_call 20; with_reducible refine r2.mono ?_; rintro e w2 ⟨A2, d2, rfl, hS2, hR⟩))
  go_wp2
  go_ret
  exact ⟨.slice A2 m2 d2, rfl, hR.app (by rw [List.append_assoc]; rfl)⟩

theorem RowTo.reads {T : Type} {f : T → List Value} {size : Nat} {w w' : World} {v v' : Value} {A : Option Addr} {l : List T} {ys : List UInt8} (h : RowTo w v w' v' ys) (hr : Row f size w A l) (hne : l ≠ [] → ∀ ad, A = some ad → v.ownBlock ≠ some ad.block) :
    Row f size w' A l ∧ (l ≠ [] → ∀ ad, A = some ad → v'.ownBlock ≠ some ad.block) := by
  refine ⟨hr.chs h.chs fun hl ad e e' => hne hl ad e e', fun hl ad e e' => ?_⟩
  rcases h.row _ e' with h1 | h1
  · exact hne hl ad e h1
  · have := hr.lt hl ad e
    omega
set_option maxRecDepth 100000 in
theorem rstamps_any (v : Value) (xs : List UInt8) (l : List St) (A : Option Addr) (c : Nat) (w : World) (ho : OwnB w 0 v xs) (hr : Sts w A l) (hne : l ≠ [] → ∀ ad, A = some ad → v.ownBlock ≠ some ad.block) (hl : xs.length + 8 + 16 * l.length ≤ 1099511627776) :
    Calls Try.prog 46 #[v, .slice A l.length c] w fun e w' => ∃ v', e = .returned v' ∧ RowTo w v w' v' (xs ++ stampsB l) := by
  obtain ⟨A0, c0, rfl, hnn⟩ := own_form1 ho
  have r1 := rint_any (.slice A0 xs.length c0) xs (l.length : Int) w ho (by omega)
  go_enter Try.func46, Try.ntmps46
  go_wp2_with (go_at_call 20; refine r1.mono ?_; rintro e w1 ⟨v1, rfl, hR⟩; obtain ⟨A1, d1, rfl, hn1⟩ := own_form1 hR.own)
  go_loopw [5, 0] (fun i b wr => ∃ (k : Nat), k ≤ l.length ∧ i = .int .i64 k ∧ RowTo w (.slice A0 xs.length c0) wr b (xs ++ intB l.length ++ (l.take k).flatMap stampB)) (fun i _ _ => l.length - (intOf i).toNat)
  case atStart => exact ⟨0, by omega, rfl, by simpa using hR⟩
  case round =>
    clear r1 hR
    obtain ⟨k, hk, rfl, hpn⟩ := hrel
    by_cases hlt : k < l.length
    · obtain ⟨hr1, _⟩ := hpn.reads hr hne
      obtain ⟨b, o, rfl, hb, hc0, hc1⟩ := hr1.c2 k hlt _ _ rfl
      have hT := Lib.hid (take_flat stampB l k hlt)
      have hL : (xs ++ intB l.length ++ (l.take k).flatMap stampB).length + 16 ≤ 1099511627776 := by
        rw [List.length_append, List.length_append, intB_len, flat_len16, List.length_take]; omega
      have r2 := fun s => rstamp_any _ _ s wr hpn.own (by omega)
      clear hL
      generalize l[k] = s at *
      obtain ⟨t, n⟩ := s
      dsimp only at hc0 hc1
      have r3 := r2 ⟨t, n⟩
      clear hr1 r2
      obtain ⟨A2, c2, rfl, hn2⟩ := own_form1 hpn.own
      generalize hm : (xs ++ intB l.length ++ (l.take k).flatMap stampB).length = m at *
      go_wp2_with (go_at_call 45; refine r3.mono ?_; rintro e w2 ⟨v2, rfl, hR2⟩; obtain ⟨A3, d3, rfl, hn3⟩ := own_form1 hR2.own)
      go_roundw
      case rel =>
        refine ⟨k + 1, by omega, by go_num, ?_⟩
        have h9 := (hpn.trans hR2).app (zs := xs ++ intB l.length ++ (l.take (k + 1)).flatMap stampB) (by rw [hT.out, List.append_assoc])
        simpa using h9
      case measure => simp [intOf]; omega
    · obtain rfl : k = l.length := by omega
      rw [List.take_length] at hpn
      obtain ⟨A2, c2, rfl, hn2⟩ := own_form1 hpn.own
      generalize hm : (xs ++ intB l.length ++ l.flatMap stampB).length = m at *
      go_wp2
      go_ret
      exact ⟨_, rfl, hpn.app (by rw [List.append_assoc]; rfl)⟩
end Go.Proofs.Ytbmpecfhflkbeaa
