/- Contracts: the reference's eye reads a list of stamps; it is opened. -/
import Derived.Test.YtbmpecfhflkbeaaFlRd
import Derived.Test.YtbmpecfhflkbeaaFl4
namespace Go.Proofs.Ytbmpecfhflkbeaa
open Go.RowKit
set_option linter.unusedVariables false

set_option maxHeartbeats 1000000 in
set_option maxRecDepth 100000 in
theorem rstamps_eye (q : Nat) (A : Option Addr) (c : Nat) (xs : List UInt8) (i : Nat) (bl : Bool) (w : World) (he : REye w q A c xs i bl) :
    Calls Try.prog 37 #[.pointer (some ⟨q, 0, none⟩)] w fun e w' => ∃ B d, e = .returned (.slice B (after bl (xs.drop i) (stampsR (xs.drop i)) []).1.length d) ∧ Sts w' B (after bl (xs.drop i) (stampsR (xs.drop i)) []).1 ∧ Chs (isP q) w w' ∧ RSeen w' q A c xs i bl (stampsR (xs.drop i)) [] := by
  unfold RSeen
  have hql := he.blk.lt
  have f1 : w.cell? ⟨q, 1, none⟩ = some (.int .i64 (i : Int)) := he.blk.cell 1
  have hi := he.hi
  have hm := he.max_
  have hint := rint_eye q A c xs i bl w he
  cases bl with
  | true =>
    rw [after_blind]
    rw [after_blind] at hint
    unfold RSeen at hint
    rw [after_blind] at hint
    clear hm hi
    go_enter Try.func37, Try.ntmps37
    go_wp2_with (go_at_call 28; refine hint.mono ?_; rintro e w1 ⟨rfl, hx1, j, he1, hj⟩; have y2 : w1.cell? ⟨q, 2, none⟩ = some (.bool true) := he1.blk.cell 2; have l1 := he1.blk.lt)
    go_ret
    exact ⟨none, 0, rfl, Row.nil _ _, hx1, j, he1, hj⟩
  | false =>
    by_cases h8 : 8 ≤ xs.length - i
    · have hIR : intR (xs.drop i) = some (wrap64 (numV ((xs.drop i).take 8) : Nat), (xs.drop i).drop 8) := by unfold intR; rw [if_pos (by rw [List.length_drop]; exact h8)]
      unfold RSeen at hint
      rw [hIR, after_some (xs.drop i) ((xs.drop i).drop 8) (wrap64 (numV ((xs.drop i).take 8) : Nat)) (0 : Int) _ rfl] at hint
      by_cases h9 : 0 ≤ wrap64 (numV ((xs.drop i).take 8) : Nat) ∧ wrap64 (numV ((xs.drop i).take 8) : Nat) ≤ ((((xs.drop i).drop 8).length / 16 : Nat) : Int)
      · rw [after_some (xs.drop i) (((xs.drop i).drop 8).drop (16 * (wrap64 (numV ((xs.drop i).take 8) : Nat)).toNat)) (stampL ((xs.drop i).drop 8) (wrap64 (numV ((xs.drop i).take 8) : Nat)).toNat) [] _ (by unfold stampsR; rw [if_pos (by rw [List.length_drop]; exact h8), if_pos h9])]
        generalize wrap64 (numV ((xs.drop i).take 8) : Nat) = V at *
        obtain ⟨n, rfl⟩ : ∃ n : Nat, V = (n : Int) := ⟨V.toNat, by omega⟩
        rw [Int.toNat_natCast]
        have hdl : ((xs.drop i).drop 8).length = xs.length - (i + 8) := by rw [List.length_drop, List.length_drop]; omega
        have h16 : 16 * n + (i + 8) ≤ xs.length := by rw [hdl] at h9; omega
        have hdd : (xs.drop i).drop 8 = xs.drop (i + 8) := List.drop_drop
        simp only [hdd] at hint ⊢
        -- the call, told at the place itself
        have hint2 : Calls Try.prog 28 #[.pointer (some ⟨q, 0, none⟩)] w fun e w' => e = .returned (.int .i64 (n : Int)) ∧ Chs (isP q) w w' ∧ REye w' q A c xs (i + 8) false := by
          refine hint.mono ?_
          rintro e w1 ⟨rfl, hx1, j, he1, hj⟩
          have hjl := congrArg List.length hj
          rw [List.length_drop, List.length_drop] at hjl
          have := he1.hi
          obtain rfl : j = i + 8 := by omega
          exact ⟨rfl, hx1, he1⟩
        have hstp : ∀ (k : Nat) (wr : World), k < n → REye wr q A c xs (i + 8 + 16 * k) false →
            Calls Try.prog 34 #[.pointer (some ⟨q, 0, none⟩)] wr fun e w' => e = .returned (.agg #[.int .i64 (stampAt (xs.drop (i + 8)) k).t, .int .i64 (stampAt (xs.drop (i + 8)) k).n]) ∧ Chs (isP q) wr w' ∧ REye w' q A c xs (i + 8 + 16 * (k + 1)) false := by
          intro k wr hk her
          have hl16 : 16 ≤ (xs.drop (i + 8 + 16 * k)).length := by rw [List.length_drop]; omega
          have hR : stampR (xs.drop (i + 8 + 16 * k)) = some (stampAt (xs.drop (i + 8)) k, (xs.drop (i + 8 + 16 * k)).drop 16) := by
            unfold stampR stampAt
            rw [if_pos hl16]
            simp only [List.drop_drop]
          have h := rstamp_eye q A c xs (i + 8 + 16 * k) false wr her
          unfold RSeen at h
          rw [hR, after_some (xs.drop (i + 8 + 16 * k)) ((xs.drop (i + 8 + 16 * k)).drop 16) (stampAt (xs.drop (i + 8)) k) St.z _ rfl] at h
          refine h.mono ?_
          rintro e w1 ⟨rfl, hx1, j, he1, hj⟩
          have hjl := congrArg List.length hj
          simp only [List.length_drop] at hjl
          have := he1.hi
          obtain rfl : j = i + 8 + 16 * (k + 1) := by omega
          exact ⟨rfl, hx1, he1⟩
        obtain ⟨K, hK⟩ : ∃ K : Nat, K = (xs.length - (i + 8)) / 16 := ⟨_, rfl⟩
        have hKn : ¬ K < n := by omega
        have hwr : IntKind.i64.wrap ((xs.length : Int) - ((i + 8 : Nat) : Int)) = ((xs.length - (i + 8) : Nat) : Int) := by rw [IntKind.wrap_i64]; omega
        have hq : IntKind.i64.wrap (((xs.length - (i + 8) : Nat) : Int) / 16) = (K : Int) := by rw [IntKind.wrap_i64]; omega
        have HB : Hid (16 * n + (i + 8) ≤ xs.length ∧ xs.length ≤ 20000) := Lib.hid ⟨h16, hm⟩
        have hgl := he.lt
        obtain ⟨m, hmm⟩ : ∃ m : Nat, m = i + 8 := ⟨_, rfl⟩
        have HM := Lib.hid hmm
        rw [← hmm] at hint2 hwr hq ⊢
        simp only [← hmm] at hstp
        have hD : (xs.drop m).drop (16 * n) = xs.drop (m + 16 * n) := List.drop_drop
        rw [hD]
        generalize hys : xs.drop m = ys at *
        have HL : Hid (ys.length = xs.length - m) := Lib.hid (by rw [← hys, List.length_drop])
        clear hint h16 hdd hdl h9 h8 hIR hm hi hK hmm hD hys f1
        have f1 : w.cell? ⟨q, 1, none⟩ = some (.int .i64 (i : Int)) := he.blk.cell 1
        generalize xs.length - m = rest at hwr hq
        go_enter Try.func37, Try.ntmps37
        go_upto_region 5 with (go_at_call 28; refine hint2.mono ?_; rintro e w1 ⟨rfl, hx1, he1⟩; have y2 : w1.cell? ⟨q, 2, none⟩ = some (.bool false) := he1.blk.cell 2; have l1 := he1.blk.lt)
        have y0 : w1.cell? ⟨q, 0, none⟩ = some (.slice A xs.length c) := he1.blk.cell 0
        have y1 : w1.cell? ⟨q, 1, none⟩ = some (.int .i64 (m : Int)) := he1.blk.cell 1
        have hn0 : decide ((n : Int) < 0) = false := by rw [decide_eq_false_iff_not]; omega
        refine wp_region_in _ (by kernel_rfl) (by kernel_rfl) (Ext.refl _) ?_
        repeat (refine wpQuiet_step (fun K hK => ?_); go_simp; first | (refine hK _ ?_; clear hK K) | (apply Exists.intro; refine ⟨fun w' hw' => ?_, hK _ ?_⟩; (first |  (have g0 := hw'.cell l1 y0; have g1 := hw'.cell l1 y1; go_simp; rfl)); clear hK K))
        refine wpQuiet_nil ?_
        intro w2 hx2
        have hx12 := hx1.then_ext hx2
        have he2 := he1.ext hx2
        go_upto_region 9 with fail
        clear hn0 hwr hq hKn y0 y1 y2 l1 f1 hint2 he1 hx1
        go_wp2
        go_loopw [6, 5] (fun i lv wr => ∃ (k : Nat), k ≤ n ∧ i = .int .i64 k ∧ Chs (isP q) w wr ∧ wr.ownsRow w.heap.size 39 2 lv (stampL ys k).length ((stampL ys k).flatMap fSt) ∧ REye wr q A c xs (m + 16 * k) false) (fun i _ _ => n - (intOf i).toNat)
        case atStart => exact ⟨0, by omega, rfl, hx12, World.ownsRow_nil _ _ _ _, by simpa using he2⟩
        case round =>
          clear he2 hx12 hx2
          obtain ⟨k, hk, rfl, hx, ho, he2⟩ := hrel
          by_cases hlt : k < n
          · have hst := hstp k wr hlt he2
            have hT := Lib.hid (stampL_succ ys k)
            obtain ⟨⟨t1, t2⟩, hSt⟩ : ∃ S : St, S = stampAt ys k := ⟨_, rfl⟩
            rw [← hSt] at hst hT
            dsimp only at hst
            have hkl := Lib.hid (stampL_len ys k)
            obtain ⟨A3, c3, rfl⟩ := own_slice ho
            obtain ⟨i0, hi0, hz0, hz1, hz2⟩ := info_parts st_info
            generalize hL : stampL ys k = L at *
            clear hstp hSt
            have hnb : n ≤ 1099511627776 := by have := HB.out; omega
            have hbd := Lib.hid (show L.length + 1 ≤ 1099511627776 by have := hkl.out; have := HB.out; omega)
            go_wp2_with (first
              | (go_at_call 34; refine hst.mono ?_; rintro e w3 ⟨rfl, hx3, he4⟩; have ho3 := (own_chs ho hx3 (fun i e e2 => by have := (ho.lt i e).1; omega)).alloc (.cells #[.int .i64 t1, .int .i64 t2] 39); have hrd : Reads (w3.alloc (.cells #[.int .i64 t1, .int .i64 t2] 39)) (w3.alloc (.cells #[.int .i64 t1, .int .i64 t2] 39)).heap.size 2 (some ⟨w3.heap.size, 0, none⟩) 1 [.int .i64 t1, .int .i64 t2] := Row.reads (Row.new (f := fSt) (size := 2) w3 #[.int .i64 t1, .int .i64 t2] 39 [⟨t1, t2⟩] (fun _ => rfl) rfl) (fun _ => rfl) (by omega))
              | (at_builtin; (refine wpList_append_any _ rfl (.tmp 46) (.tmp 49) _ rfl w.heap.size 39 i0 _ 2 16 Try.underlying30 hi0 hz0 hz1 hz2 rfl (by decide) (.slice A3 L.length c3) L.length (L.flatMap fSt) rfl ho3 _ (some ⟨w3.heap.size, 0, none⟩) 1 1 [.int .i64 t1, .int .i64 t2] rfl hrd (by intro u hu; simp at hu; rcases hu with rfl | rfl <;> rfl) (by have := hbd.out; simp only [maxLen]; omega) (by have := hbd.out; omega) (by have := hx.size; have := hx3.size; simp; omega) ?_); intro v4 w4 hown hg hat; obtain ⟨A5, c5, rfl⟩ := own_slice hown))
            have hx4 : Chs (isP q) w w4 := ((hx.trans hx3).alloc _).grown (row := (Value.slice A3 L.length c3).ownBlock) hg (fun i e => .inr (ho.lt i e).1)
            have he5 : REye w4 q A c xs (m + 16 * (k + 1)) false := by
              refine (he4.ext ((Ext.refl w3).alloc (.cells #[.int .i64 t1, .int .i64 t2] 39))).chs (S := fun i => (Value.slice A3 L.length c3).ownBlock = some i) (Chs.grown (Chs.refl _ _) hg (fun i e => .inl e)) (fun e => by have := (ho.lt q e).1; omega) (fun ad e1 e2 => by have := (ho.lt ad.block e2).1; have := hgl ad e1; omega)
            have hown' : w4.ownsRow w.heap.size 39 2 (.slice A5 (L.length + 1) c5) (stampL ys (k + 1)).length ((stampL ys (k + 1)).flatMap fSt) := by
              rw [hT.out, List.length_append, List.flatMap_append]
              exact hown
            clear hown hg hat ho3 hrd
            go_roundw
            case rel => exact ⟨k + 1, by omega, by go_num, hx4, hown', he5⟩
            case measure => simp [intOf]; omega
          · obtain rfl : k = n := by omega
            obtain ⟨A3, c3, rfl⟩ := own_slice ho
            have hR := Row.of_own ho (fun _ => rfl) (by omega)
            clear hstp
            generalize hLL : stampL ys k = L at *
            have HLL := Lib.hid hLL
            clear hLL
            go_wp2
            go_ret
            exact ⟨A3, c3, by first | rfl | (rw [HLL.out]; rfl), by first | exact hR | (rw [HLL.out]; exact hR), hx, m + 16 * k, he2, rfl⟩
      · rw [after_none (xs.drop i) [] _ (by unfold stampsR; rw [if_pos (by rw [List.length_drop]; exact h8), if_neg h9])]
        generalize wrap64 (numV ((xs.drop i).take 8) : Nat) = V at *
        have hdl : ((xs.drop i).drop 8).length = xs.length - (i + 8) := by rw [List.length_drop, List.length_drop]; omega
        rw [hdl] at h9
        have hint2 : Calls Try.prog 28 #[.pointer (some ⟨q, 0, none⟩)] w fun e w' => e = .returned (.int .i64 V) ∧ Chs (isP q) w w' ∧ REye w' q A c xs (i + 8) false := by
          refine hint.mono ?_
          rintro e w1 ⟨rfl, hx1, j, he1, hj⟩
          have hjl := congrArg List.length hj
          simp only [List.length_drop] at hjl
          have := he1.hi
          obtain rfl : j = i + 8 := by omega
          exact ⟨rfl, hx1, he1⟩
        obtain ⟨K, hK⟩ : ∃ K : Nat, K = (xs.length - (i + 8)) / 16 := ⟨_, rfl⟩
        have HI := Lib.hid hi
        have hcase : 0 ≤ V → (K : Int) < V := by
          intro h0
          by_cases h : (K : Int) < V
          · exact h
          · exact absurd ⟨h0, by omega⟩ h9
        have hwr : IntKind.i64.wrap ((xs.length : Int) - ((i + 8 : Nat) : Int)) = ((xs.length - (i + 8) : Nat) : Int) := by rw [IntKind.wrap_i64]; omega
        have hq : IntKind.i64.wrap (((xs.length - (i + 8) : Nat) : Int) / 16) = (K : Int) := by rw [IntKind.wrap_i64]; omega
        obtain ⟨m, hmm⟩ : ∃ m : Nat, m = i + 8 := ⟨_, rfl⟩
        rw [← hmm] at hint2 hwr hq
        clear hint hdl h9 h8 hIR hm hi hK hmm
        generalize xs.length - m = rest at hwr hq
        go_enter Try.func37, Try.ntmps37
        go_upto_region 5 with (go_at_call 28; refine hint2.mono ?_; rintro e w1 ⟨rfl, hx1, he1⟩; have y2 : w1.cell? ⟨q, 2, none⟩ = some (.bool false) := he1.blk.cell 2; have l1 := he1.blk.lt)
        have y0 : w1.cell? ⟨q, 0, none⟩ = some (.slice A xs.length c) := he1.blk.cell 0
        have y1 : w1.cell? ⟨q, 1, none⟩ = some (.int .i64 (m : Int)) := he1.blk.cell 1
        by_cases h0 : 0 ≤ V
        · have hlt := hcase h0
          have hn0 : ¬ V < 0 := by omega
          clear hcase
          refine wp_region_in _ (by kernel_rfl) (by kernel_rfl) (Ext.refl _) ?_
          repeat (refine wpQuiet_step (fun K hK => ?_); go_simp; first | (refine hK _ ?_; clear hK K) | (apply Exists.intro; refine ⟨fun w' hw' => ?_, hK _ ?_⟩; (first |  (have g0 := hw'.cell l1 y0; have g1 := hw'.cell l1 y1; go_simp; rfl)); clear hK K))
          refine wpQuiet_nil ?_
          intro w2 hx2
          have he2 := he1.ext hx2
          clear y1 y2
          have hc2 : Chs (isP q) w2 ((w2.setCell ⟨q, 1, none⟩ (.int .i64 (i : Int))).setCell ⟨q, 2, none⟩ (.bool true)) := (Chs.set1 _ _ _ _).trans (Chs.set1 _ _ _ _)
          have z1 := he2.blk.frozen 1
          have z2 := he2.blk.frozen 2
          have l4 := he2.blk.lt
          have y1 : w2.cell? ⟨q, 1, none⟩ = some (.int .i64 (m : Int)) := he2.blk.cell 1
          have y2 : w2.cell? ⟨q, 2, none⟩ = some (.bool false) := he2.blk.cell 2
          go_wp2
          go_ret
          exact ⟨none, ⟨0, rfl⟩, Row.nil _ _, (hx1.then_ext hx2).trans hc2, i, ⟨by have := (he2.blk.set_ 1 (.int .i64 (i : Int))).set_ 2 (.bool true); simpa using this, he2.row.chs hc2 (fun _ => he2.ne), he2.cap, he2.ne, fun ad e => Nat.lt_of_lt_of_le (he2.lt ad e) hc2.size, HI.out, he2.none_, he2.max_⟩, rfl⟩
        · have hn0 : V < 0 := by omega
          clear hcase h0
          go_region
          have hx2 : Ext w1 w1.drew := (Ext.refl _).drew
          generalize w1.drew = w2 at *
          have he2 := he1.ext hx2
          clear y1 y2
          have hc2 : Chs (isP q) w2 ((w2.setCell ⟨q, 1, none⟩ (.int .i64 (i : Int))).setCell ⟨q, 2, none⟩ (.bool true)) := (Chs.set1 _ _ _ _).trans (Chs.set1 _ _ _ _)
          have z1 := he2.blk.frozen 1
          have z2 := he2.blk.frozen 2
          have l4 := he2.blk.lt
          have y1 : w2.cell? ⟨q, 1, none⟩ = some (.int .i64 (m : Int)) := he2.blk.cell 1
          have y2 : w2.cell? ⟨q, 2, none⟩ = some (.bool false) := he2.blk.cell 2
          go_wp2
          go_ret
          exact ⟨none, 0, rfl, Row.nil _ _, (hx1.then_ext hx2).trans hc2, i, ⟨by have := (he2.blk.set_ 1 (.int .i64 (i : Int))).set_ 2 (.bool true); simpa using this, he2.row.chs hc2 (fun _ => he2.ne), he2.cap, he2.ne, fun ad e => Nat.lt_of_lt_of_le (he2.lt ad e) hc2.size, HI.out, he2.none_, he2.max_⟩, rfl⟩
    · rw [after_none (xs.drop i) [] _ (by unfold stampsR; rw [if_neg (by rw [List.length_drop]; exact h8)])]
      have hIR : intR (xs.drop i) = none := by unfold intR; rw [if_neg (by rw [List.length_drop]; exact h8)]
      unfold RSeen at hint
      rw [hIR, after_none (xs.drop i) (0 : Int) _ rfl] at hint
      clear hm hi
      go_enter Try.func37, Try.ntmps37
      go_wp2_with (go_at_call 28; refine hint.mono ?_; rintro e w1 ⟨rfl, hx1, j, he1, hj⟩; have y2 : w1.cell? ⟨q, 2, none⟩ = some (.bool true) := he1.blk.cell 2; have l1 := he1.blk.lt)
      go_ret
      exact ⟨none, 0, rfl, Row.nil _ _, hx1, j, he1, hj⟩
end Go.Proofs.Ytbmpecfhflkbeaa
