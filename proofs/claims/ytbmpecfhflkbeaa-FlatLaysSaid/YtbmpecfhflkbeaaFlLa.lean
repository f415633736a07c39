/- The walk of FlatLays. -/
import Derived.Test.YtbmpecfhflkbeaaFlZ
namespace Go.Proofs.Ytbmpecfhflkbeaa
open Go.RowKit
set_option linter.unusedVariables false

set_option maxHeartbeats 4000000 in
set_option maxRecDepth 100000 in
theorem flatLays_walk (A0 : Option Addr) (n0 c0 : Nat) (l : List Thing) (A1 : Option Addr) (n1 c1 : Nat) (m : List Int) (A2 : Option Addr) (n2 c2 : Nat) (s : List ByteArray) (w : World) (h0 : ThingsIn w A0 n0 c0 l) (h1 : I64sIn w A1 n1 c1 m) (h2 : StrsIn w A2 n2 c2 s) :
    Calls Try.prog 6 #[.slice A0 n0 c0, .slice A1 n1 c1, .slice A2 n2 c2] w fun e w' => e = .returned (.bool true) ∧ Ext w w' := by
  obtain ⟨rfl, _, _, _, h1, _⟩ := h1
  obtain ⟨rfl, _, _, _, h2, hsz⟩ := h2
  have hS := small_any l A0 n0 c0 w h0
  cases hsm : smallV l with
  | false =>
    rw [hsm] at hS
    clear h0 h1 h2 hsz
    go_enter Try.func6, Try.ntmps6
    go_wp2_with (first | (go_at_call 18; refine hS.mono ?_; rintro e w0 ⟨rfl, hx0⟩) | (go_at_call 12; refine (live_any _).mono ?_; rintro e w1 ⟨rfl, hx1⟩))
    go_ret
    exact ⟨rfl, (by repeat (first | assumption | exact Ext.refl _ | (with_reducible refine Ext.alloc ?_ _) | (with_reducible refine Ext.drew ?_) | refine Ext.trans ?_ (by assumption)))⟩
  | true =>
    rw [hsm] at hS
    unfold smallV at hsm
    simp only [Bool.and_eq_true, decide_eq_true_eq] at hsm
    obtain ⟨hl60, hlT⟩ := hsm
    by_cases g0 : 60 < m.length
    · clear h0 h1 h2 hsz
      go_enter Try.func6, Try.ntmps6
      go_wp2_with (first | (go_at_call 18; refine hS.mono ?_; rintro e w0 ⟨rfl, hx0⟩) | (go_at_call 12; refine (live_any _).mono ?_; rintro e w1 ⟨rfl, hx1⟩))
      go_ret
      exact ⟨rfl, (by repeat (first | assumption | exact Ext.refl _ | (with_reducible refine Ext.alloc ?_ _) | (with_reducible refine Ext.drew ?_) | refine Ext.trans ?_ (by assumption)))⟩
    by_cases g1 : 60 < s.length
    · clear h0 h1 h2 hsz
      go_enter Try.func6, Try.ntmps6
      go_wp2_with (first | (go_at_call 18; refine hS.mono ?_; rintro e w0 ⟨rfl, hx0⟩) | (go_at_call 12; refine (live_any _).mono ?_; rintro e w1 ⟨rfl, hx1⟩))
      go_ret
      exact ⟨rfl, (by repeat (first | assumption | exact Ext.refl _ | (with_reducible refine Ext.alloc ?_ _) | (with_reducible refine Ext.drew ?_) | refine Ext.trans ?_ (by assumption)))⟩
    rw [reach_num] at hsz
    have HSZ := Lib.hid hsz
    have HBD : Hid (∀ k, sumSz (s.take k) ≤ 8444249301073920) := Lib.hid (fun k => Nat.le_trans (sumSz_bd s k 140737488351232 (by omega) hsz) (by decide))
    have HL60 := Lib.hid (And.intro hl60 hlT)
    clear hsz hl60 hlT
    go_enter Try.func6, Try.ntmps6
    go_wp2_with (go_at_call 18; refine hS.mono ?_; rintro e w0 ⟨rfl, hx0⟩)
    go_loopw [8, 7] (fun i v wr => ∃ k : Nat, k ≤ s.length ∧ i = .int .i64 k ∧ v = .int .i64 (sumSz (s.take k) : Nat) ∧ w0 = wr) (fun i _ _ => s.length - (intOf i).toNat)
    case atStart => exact ⟨0, by omega, rfl, by simp [sumSz], rfl⟩
    case round =>
      obtain ⟨k, hk, rfl, rfl, rfl⟩ := hrel
      by_cases hlt : k < s.length
      · obtain ⟨b, o, rfl, hb, hcell⟩ := (h2.ext hx0).c1 k hlt _ rfl
        have hT := Lib.hid (sumSz_take s k hlt)
        have hbd := HBD.out k
        have hbk := HSZ.out s[k] (List.getElem_mem hlt)
        generalize s[k] = a at *
        generalize sumSz (s.take k) = N at *
        have hw64 : wrap64 ((N : Int) + (a.size : Int)) = (N : Int) + (a.size : Int) := by unfold wrap64; omega
        clear hbd hbk
        go_wp2
        go_roundw
        case rel => exact ⟨k + 1, by omega, by go_num, by rw [hT.out]; simp [hw64], by first | rfl | trivial⟩
        case measure => simp [intOf]; omega
      · obtain rfl : k = s.length := by omega
        rw [List.take_length]
        by_cases g3 : 20000 < sumSz s
        · go_wp2_with (go_at_call 12; refine (live_any _).mono ?_; rintro e w1 ⟨rfl, hx1⟩)
          go_ret
          exact ⟨rfl, (by repeat (first | assumption | exact Ext.refl _ | (with_reducible refine Ext.alloc ?_ _) | (with_reducible refine Ext.drew ?_) | refine Ext.trans ?_ (by assumption)))⟩
        have hlay := lay_any l A0 n0 c0 w0 (h0.ext hx0) HL60.out.1 HL60.out.2
        generalize l.flatMap layB = LB at hlay
        clear h0 hS
        go_wp2_with (go_at_call 19; refine hlay.mono ?_; rintro e w1 ⟨hx1, A3, c3, A4, c4, rfl, ha, hb, hna, hnb⟩)
        clear hlay
        have hxW := hx0.trans hx1
        have hp0 := new_pen w1
        have hx2 := (Ext.refl w1).alloc (.cells #[.slice none 0 0] 33)
        have far : ∀ {T : Type} {f : T → List Value} {size : Nat} {A : Option Addr} {l : List T}, Row f size w A l → l ≠ [] → ∀ ad, A = some ad → ad.block ≠ w1.heap.size ∧ none ≠ some ad.block := by
          intro T f size A l h hl ad e
          have := h.lt hl ad e
          have := hxW.size
          exact ⟨by omega, fun e => by cases e⟩
        have hf1 := far h1
        have hf2 := far h2
        clear far
        have hl0 : (m.flatMap intB).length ≤ 480 := by rw [flat_len8]; omega
        have hl1 : (s.flatMap textB).length ≤ 62914800 := by have := flat_lenT s; omega
        have HL := Lib.hid (And.intro hl0 hl1)
        have i1 := (h1.ext hxW).ext hx2
        have i2 := (h2.ext hxW).ext hx2
        have hwp := Nat.le_refl w1.heap.size
        generalize hp : w1.heap.size = p at hp0 hf1 hf2 hwp
        clear hl0 hl1
        go_wp2_with fail
        refine (int_any p none [] m A1 c1 _ hp0 i1 hf1 (by have := HL.out.1; rw [flat_len8] at this; simp only [List.length_nil]; omega)).mono ?_
        rintro e w2 ⟨rfl, r1, T1⟩
        obtain ⟨j2, k2⟩ := T1.reads i2 hf2
        go_wp2_with fail
        refine (text_any p r1 _ s A2 c2 _ T1.at_ j2 k2 (by have := HL.out.1; simp only [List.length_append, List.length_nil]; omega)).mono ?_
        rintro e w3 ⟨rfl, r3, K3⟩
        have T3 := T1.trans K3
        clear K3 T1 j2 k2
        have hx3 := T3.to_ext hx2 (by omega) (fun i e => by cases e)
        have lay0 : Lay w1 w3 p r3 (.slice none 0 0) ([] ++ m.flatMap intB ++ s.flatMap textB) [] :=
          ⟨hx3.1, by omega, T3.at_, World.ownsRow_nil _ _ _ _, hx3.2, fun i e => by cases e⟩
        generalize hP : ([] ++ m.flatMap intB ++ s.flatMap textB) = P at lay0
        clear T3 hx3 i1 i2 hp0 hf1 hf2 hx2
        go_wp2_with fail
        go_loopw [13, 12] (fun i b wr => ∃ (k : Nat), k ≤ m.length ∧ i = .int .i64 k ∧ Lay w1 wr p r3 b P ((m.take k).flatMap intB)) (fun i _ _ => m.length - (intOf i).toNat)
        case atStart => exact ⟨0, by omega, rfl, by simpa using lay0⟩
        case round =>
          clear lay0
          obtain ⟨k, hk, rfl, L⟩ := hrel
          by_cases hlt : k < m.length
          · obtain ⟨b, o, rfl, hb', hcell⟩ := ((h1.ext hxW).ext L.ext).c1 k hlt _ rfl
            have hT := Lib.hid (take_flat intB m k hlt)
            have hL : ((m.take k).flatMap intB).length ≤ 480 := by rw [flat_len8, List.length_take]; omega
            have HLk := Lib.hid hL
            clear hL
            generalize m[k] = a at *
            generalize hys : (m.take k).flatMap intB = ys at *
            obtain ⟨Ab, cb, rfl, hnb'⟩ := own_form1 L.own
            have R1 := rint_any (.slice Ab ys.length cb) ys a wr L.own (by have := HLk.out; omega)
            generalize hmm : ys.length = mm at *
            go_wp2_with (go_at_call 20; refine R1.mono ?_; rintro e w4 ⟨v4, rfl, K4⟩; have L3 := L.row_ K4; obtain ⟨A5, c5, rfl, hn5⟩ := own_form1 L3.own)
            go_roundw
            case rel =>
              refine ⟨k + 1, by omega, by go_num, ?_⟩
              rw [hT.out]
              simpa [hmm] using L3
            case measure => simp [intOf]; omega
          · obtain rfl : k = m.length := by omega
            rw [List.take_length] at L
            clear hk hlt
            go_wp2_with fail
            go_loopw [14, 12] (fun i b wr => ∃ (k : Nat), k ≤ s.length ∧ i = .int .i64 k ∧ Lay w1 wr p r3 b P (m.flatMap intB ++ (s.take k).flatMap textB)) (fun i _ _ => s.length - (intOf i).toNat)
            case atStart => exact ⟨0, by omega, rfl, by simpa using L⟩
            case round =>
              clear L
              obtain ⟨k, hk, rfl, L⟩ := hrel
              by_cases hlt : k < s.length
              · obtain ⟨b, o, rfl, hb', hcell⟩ := ((h2.ext hxW).ext L.ext).c1 k hlt _ rfl
                have hT := Lib.hid (take_flat textB s k hlt)
                have hL : (m.flatMap intB ++ (s.take k).flatMap textB).length ≤ 62915280 := by
                  have h3 := HL.out.1
                  have h4 := flat_lenT (s.take k)
                  have h5 : (s.take k).length ≤ 60 := by rw [List.length_take]; omega
                  rw [List.length_append]; omega
                have HLk := Lib.hid hL
                clear hL
                generalize s[k] = a at *
                have hTT : Hid (m.flatMap intB ++ (s.take (k + 1)).flatMap textB = (m.flatMap intB ++ (s.take k).flatMap textB) ++ textB a) := Lib.hid (by rw [hT.out, List.append_assoc])
                clear hT
                generalize hys : m.flatMap intB ++ (s.take k).flatMap textB = ys at *
                obtain ⟨Ab, cb, rfl, hnb'⟩ := own_form1 L.own
                have R1 := rtext_any (.slice Ab ys.length cb) ys a wr L.own (by have := HLk.out; omega)
                generalize hmm : ys.length = mm at *
                go_wp2_with (go_at_call 21; refine R1.mono ?_; rintro e w4 ⟨v4, rfl, K4⟩; have L3 := L.row_ K4; obtain ⟨A5, c5, rfl, hn5⟩ := own_form1 L3.own)
                go_roundw
                case rel =>
                  refine ⟨k + 1, by omega, by go_num, ?_⟩
                  rw [hTT.out]
                  simpa [hmm] using L3
                case measure => simp [intOf]; omega
              · obtain rfl : k = s.length := by omega
                rw [List.take_length] at L
                have hPP : m.flatMap intB ++ s.flatMap textB = P := by rw [← hP]; simp
                rw [hPP] at L
                have hPl : P.length ≤ 1099511627776 := by
                  have h3 := HL.out
                  rw [← hPP, List.length_append]; omega
                clear hk hlt hPP hP h1 h2
                obtain ⟨Ab, cb, rfl, hnb'⟩ := own_form1 L.own
                have ca := fun (w' : World) (h : Ext wr w') => run_string_of (c := c3) (U8s.rd (ha.ext (L.ext.trans h)))
                have cb_ := fun (w' : World) (h : Ext wr w') => run_string_of (c := c4) (U8s.rd (hb.ext (L.ext.trans h)))
                have cr := fun (w' : World) (h : Ext wr w') => run_string_of (c := cb) (U8s.rd ((OwnB.rd L.own).2.row.ext h))
                have hpp := L.pen
                have hxw := hxW.trans L.ext
                clear L
                go_upto_region 23 with fail
                go_region_held (fun w' => Ext wr w') (first | assumption | exact (Ext.refl _).drew | exact Ext.refl _ | exact Ext.undrew (by assumption) | (refine Ext.trans ?_ (by assumption); assumption))
                  (first
                    | (go_at_call 17; with_reducible refine (bytes_any p r3 P _ (hpp.ext (by assumption)) hPl).mono ?_; rintro e wL ⟨⟨AL, cL, rfl, hoL, hnL⟩, hxL⟩; have hcvL := run_string_of (c := cL) (OwnB.rd hoL).2)
                    | (go_at_call 12; refine (live_any _).mono ?_; rintro e w9 ⟨rfl, hx9⟩))
                all_goals (go_wp2; go_ret; exact ⟨rfl, hxw.trans (by assumption)⟩)
end Go.Proofs.Ytbmpecfhflkbeaa
