/- StampRises. -/
import Derived.Test.YtnhdjaegkccmaaaStH
namespace Go.Proofs.Ytnhdjaegkccmaaa
open Go.RowKit

set_option maxHeartbeats 8000000 in
set_option maxRecDepth 100000 in
theorem stampRises_walk (node last : Int) (A : Option Addr) (n c : Nat) (l : List St) (w : World) (_wn : (Lit.int .i64 node).wf = true) (_wl : (Lit.int .i64 last).wf = true) (hl : StsIn w A n c l) :
    Calls Try.prog 7 #[.int .i64 node, .int .i64 last, .slice A n c] w fun e w' => e = .returned (.bool true) ∧ Ext w w' := by
  obtain ⟨rfl, hcap, hnone, hs, hwf⟩ := hl
  clear _wn _wl hcap hnone
  by_cases g1 : 60 < l.length
  · clear hs hwf
    go_enter Try.func7, Try.ntmps7
    go_wp2_with (go_at_call 18; refine (live_any _).mono ?_; rintro e w1 ⟨rfl, hx1⟩)
    go_ret
    exact ⟨rfl, (by repeat (first | assumption | exact Ext.refl _ | (with_reducible refine Ext.alloc ?_ _) | (with_reducible refine Ext.drew ?_) | refine Ext.trans ?_ (by assumption)))⟩
  have hle : l.length ≤ 60 := by omega
  clear g1
  by_cases g2 : node < 1
  · clear hs hwf
    go_enter Try.func7, Try.ntmps7
    go_wp2_with (go_at_call 18; refine (live_any _).mono ?_; rintro e w1 ⟨rfl, hx1⟩)
    go_ret
    exact ⟨rfl, (by repeat (first | assumption | exact Ext.refl _ | (with_reducible refine Ext.alloc ?_ _) | (with_reducible refine Ext.drew ?_) | refine Ext.trans ?_ (by assumption)))⟩
  by_cases g3 : 7 < node
  · clear hs hwf
    go_enter Try.func7, Try.ntmps7
    go_wp2_with (go_at_call 18; refine (live_any _).mono ?_; rintro e w1 ⟨rfl, hx1⟩)
    go_ret
    exact ⟨rfl, (by repeat (first | assumption | exact Ext.refl _ | (with_reducible refine Ext.alloc ?_ _) | (with_reducible refine Ext.drew ?_) | refine Ext.trans ?_ (by assumption)))⟩
  by_cases g4 : last < 0
  · clear hs hwf
    go_enter Try.func7, Try.ntmps7
    go_wp2_with (go_at_call 18; refine (live_any _).mono ?_; rintro e w1 ⟨rfl, hx1⟩)
    go_ret
    exact ⟨rfl, (by repeat (first | assumption | exact Ext.refl _ | (with_reducible refine Ext.alloc ?_ _) | (with_reducible refine Ext.drew ?_) | refine Ext.trans ?_ (by assumption)))⟩
  by_cases g5 : 1099511627776 < last
  · clear hs hwf
    go_enter Try.func7, Try.ntmps7
    go_wp2_with (go_at_call 18; refine (live_any _).mono ?_; rintro e w1 ⟨rfl, hx1⟩)
    go_ret
    exact ⟨rfl, (by repeat (first | assumption | exact Ext.refl _ | (with_reducible refine Ext.alloc ?_ _) | (with_reducible refine Ext.drew ?_) | refine Ext.trans ?_ (by assumption)))⟩
  have hnew : newOk node last = true := by unfold newOk nodeOk; simp; omega
  have hcl := fun w => new_ok node last w hnew
  clear hnew
  have HW := Lib.hid hwf
  clear hwf
  go_enter Try.func7, Try.ntmps7
  go_wp2_with (first
    | (go_at_call 25; refine (hcl _).mono ?_; rintro e w2 ⟨rfl, rfl⟩)
    | (go_at_call 14; refine (num_any _ _).mono ?_; rintro e w' ⟨rfl, rfl⟩))
  have hclk : Clk ((w.alloc (.cells #[.int .i64 node, .int .i64 last] 73)).alloc (.cells #[.int .i64 last, .int .i64 0] 23)) w.heap.size node last := (Blk.new w 73 #[.int .i64 node, .int .i64 last]).alloc _
  have hwas := Blk.new (w.alloc (.cells #[.int .i64 node, .int .i64 last] 73)) 23 #[.int .i64 last, .int .i64 0]
  have hwas' : Blk ((w.alloc (.cells #[.int .i64 node, .int .i64 last] 73)).alloc (.cells #[.int .i64 last, .int .i64 0] 23)) (w.heap.size + 1) 23 #[.int .i64 last, .int .i64 0] := by simpa using hwas
  have hgg : w.heap.size < w.heap.size + 1 := by omega
  clear hwas
  generalize w.heap.size + 1 = gg at *
  go_loopw [10] (fun i wr => ∃ (k : Nat) (W : St), k ≤ l.length ∧ i = .int .i64 k ∧ Ext w wr ∧ Clk wr w.heap.size node W.t ∧ Blk wr gg 23 #[.int .i64 W.t, .int .i64 W.n] ∧ 0 ≤ W.t ∧ W.t ≤ 1099511627776) (fun i _ => l.length - (intOf i).toNat)
  case atStart => exact ⟨0, ⟨last, 0⟩, by omega, rfl, ((Ext.refl _).alloc _).alloc _, hclk, hwas', g4, g5⟩
  case round =>
    clear hclk hwas' hcl g4 g5
    obtain ⟨k, W, hk, rfl, hx, hclk, hwas, g4, g5⟩ := hrel
    by_cases hlt : k < l.length
    · obtain ⟨b, o, rfl, hbb, hc⟩ := hs (by rintro rfl; simp at hlt)
      have h1 := hx.cell hbb (hc k hlt).1
      have h2 := hx.cell hbb (hc k hlt).2
      have hbr := hx.lt hbb
      have hg1 := hclk.lt
      have q1 := (hc k hlt).1
      have q2 := (hc k hlt).2
      clear hc
      generalize l[k] = X at *
      have HC := Lib.hid (fun hw => see_some w.heap.size node W.t [X] (some ⟨wr.heap.size, 0, none⟩) 1 (wr.alloc (.cells #[.int .i64 X.t, .int .i64 X.n] 23)) (by simp) (sts_one _ _ _ _) (fun ad h => by injection h with h; subst h; simp; omega) hw)
      go_wp2_with fail
      refine (HC.out (hclk.alloc _)).mono ?_
      rintro e w1 ⟨rfl, hc1, hk1⟩
      replace hk1 : Clk w1 w.heap.size node (tickV W.t X.t) := hk1
      obtain ⟨L, hL⟩ : ∃ L, tickV W.t X.t = L := ⟨_, rfl⟩
      rw [hL] at hk1
      unfold tickV at hL
      have hL1 : W.t ≤ L := by split at hL <;> omega
      have hL2 : L ≤ 1099511627776 := by split at hL <;> omega
      have hL3 : X.t ≤ 1099511627776 → X.t ≤ L := by intro h; rw [if_pos h] at hL; omega
      have HL3 := Lib.hid hL3
      clear hL hL3
      have hwas1 := Chg.blk (hwas.alloc (.cells #[.int .i64 X.t, .int .i64 X.n] 23)) hc1 (by omega)
      replace hx := (hx.alloc (.cells #[.int .i64 X.t, .int .i64 X.n] 23)).chg hc1 (Nat.le_refl _)
      have hL0 : 0 ≤ L := by omega
      clear h1 h2
      clear hbr HC hclk hwas hc1
      by_cases hov : L = 1099511627776
      · subst hov
        go_wp2_with fail
        refine (now_over _ node w1 hk1).mono ?_
        rintro e w2 ⟨rfl, hx2⟩
        have z1 : St.z.t = 0 := rfl
        have z2 : St.z.n = 0 := rfl
        have hk3 : Clk (w2.alloc (.cells #[.int .i64 0, .int .i64 0] 23)) w.heap.size node 1099511627776 := (Blk.ext hk1 hx2).alloc _
        clear q1 q2 hwas1
        go_wp2_with (first | (go_at_call 14; refine (num_any _ _).mono ?_; rintro e w' ⟨rfl, rfl⟩) | (go_at_call 32; refine (last_some w.heap.size node 1099511627776 _ hk3).mono ?_; rintro e w4 ⟨rfl, rfl⟩) | (go_at_call 18; refine (live_any _).mono ?_; rintro e w5 ⟨rfl, hx5⟩))
        go_ret
        exact ⟨rfl, ((hx.trans hx2).alloc _).trans hx5⟩
      · have hlt2 : L < 1099511627776 := by omega
        go_wp2_with fail
        refine (now_some _ node L w1 hk1 hL0 hlt2).mono ?_
        rintro e w2 ⟨rfl, hc2, hk2⟩
        replace hwas1 := (Chg.blk hwas1 hc2 (by omega)).alloc (.cells #[.int .i64 (L + 1), .int .i64 node] 23)
        replace hx := (hx.chg hc2 (Nat.le_refl _)).alloc (.cells #[.int .i64 (L + 1), .int .i64 node] 23)
        replace hk2 := hk2.alloc (.cells #[.int .i64 (L + 1), .int .i64 node] 23)
        have hs2 := Blk.new w2 23 #[.int .i64 (L + 1), .int .i64 node]
        have q3 := hx.cell hbb q1
        have q4 := hx.cell hbb q2
        replace hbb := hx.lt hbb
        clear hc2 hk1 q1 q2 hs
        go_wp2_with (go_at_call 14; refine (num_any _ _).mono ?_; rintro e w' ⟨rfl, rfl⟩)
        generalize w2.alloc (.cells #[.int .i64 (L + 1), .int .i64 node] 23) = W2 at *
        generalize w2.heap.size = gs at *
        have hwl := hwas1.lt
        have hsl := hs2.lt
        have m1 := hwas1.cell 0
        have m2 := hwas1.cell 1
        have m3 := hs2.cell 0
        have m4 := hs2.cell 1
        have m5 := hwas1.frozen 0
        have m6 := hwas1.frozen 1
        simp only [List.getElem?_toArray, List.getElem?_cons_zero, List.getElem?_cons_succ] at m1 m2 m3 m4
        have cW : ∀ w, Calls Try.prog 13 #[.agg #[.int .i64 (W).t, .int .i64 (W).n], .agg #[.int .i64 (L + 1), .int .i64 node]] w fun e w' => e = .returned (.bool true) ∧ Ext w w' := fun w => by
          have h := rless_any W ⟨L + 1, node⟩ w
          have e : St.less W ⟨L + 1, node⟩ = true := by unfold St.less; simp; omega
          rw [e] at h; exact h
        have cK : ∀ w, Calls Try.prog 15 #[.agg #[.int .i64 (L + 1), .int .i64 node]] w fun e w' => e = .returned (.int .i64 0) ∧ Ext w w' := fun w => by
          have h := check_any ⟨L + 1, node⟩ w
          have e : (⟨L + 1, node⟩ : St).chk = 0 := by unfold St.chk St.ok nodeOk; simp; omega
          rw [e] at h; exact h
        rcases Int.lt_or_le 1099511627776 X.t with hX2 | hX
        case inr =>
          have hX3 := HL3.out hX
          have cX : ∀ w, Calls Try.prog 13 #[.agg #[.int .i64 (X).t, .int .i64 (X).n], .agg #[.int .i64 (L + 1), .int .i64 node]] w fun e w' => e = .returned (.bool true) ∧ Ext w w' := fun w => by
            have h := rless_any X ⟨L + 1, node⟩ w
            have e : St.less X ⟨L + 1, node⟩ = true := by unfold St.less; simp; omega
            rw [e] at h; exact h
          clear HL3 hX3
          refine wp_region_in _ (by kernel_rfl) (by kernel_rfl) (Ext.refl _) ?_
          repeat (refine wpQuiet_step (fun K hK => ?_); go_simp; first | (refine hK _ ?_; clear hK K) | (apply Exists.intro; refine ⟨fun w' hw' => ?_, hK _ ?_⟩; (first | (go_at_call 13; with_reducible exact qcall hw' (cW _)) | (go_at_call 13; with_reducible exact qcall hw' (cX _)) | (go_at_call 15; with_reducible exact qcall hw' (cK _)) | (go_at_call 14; exact qcall_same hw' (num_any _ _)) |  (have f1 := hw'.cell hbb q3; have f2 := hw'.cell hbb q4; have f3 := hw'.cell hwl m1; have f4 := hw'.cell hwl m2; have f5 := hw'.cell hsl m3; have f6 := hw'.cell hsl m4; go_simp; rfl)); clear hK K))
          refine wpQuiet_nil ?_
          intro w5 hx5
          have f3 := hx5.cell hwl m1
          have f4 := hx5.cell hwl m2
          have f5 := hx5.cell hsl m3
          have f6 := hx5.cell hsl m4
          replace hwas1 := hwas1.ext hx5
          replace hk2 := Blk.ext hk2 hx5
          replace hx := hx.trans hx5
          have m7 := hwas1.frozen 0
          have m8 := hwas1.frozen 1
          clear m1 m2 m3 m4 m5 m6 q3 q4
          go_wp2
          go_roundw
          case rel => exact ⟨k + 1, ⟨L + 1, node⟩, by omega, by go_num, (hx.setCell (by simp; omega) _).setCell (by simp; omega) _, (hk2.far (by simp; omega) _).far (by simp; omega) _, (hwas1.set_ 0 _).set_ 1 _, by simp; omega, by simp; omega⟩
          case measure => simp [intOf]; omega
        case inl =>
          clear HL3
          have H2 := Lib.hid hX2
          clear hX2
          refine wp_region_in _ (by kernel_rfl) (by kernel_rfl) (Ext.refl _) ?_
          repeat (refine wpQuiet_step (fun K hK => ?_); go_simp; (try rw [if_neg (show ¬ X.t ≤ 1099511627776 by have := H2.out; omega)]); first | (refine hK _ ?_; clear hK K) | (apply Exists.intro; refine ⟨fun w' hw' => ?_, hK _ ?_⟩; (first | (go_at_call 13; with_reducible exact qcall hw' (cW _)) | (go_at_call 15; with_reducible exact qcall hw' (cK _)) | (go_at_call 14; exact qcall_same hw' (num_any _ _)) |  (have f1 := hw'.cell hbb q3; have f2 := hw'.cell hbb q4; have f3 := hw'.cell hwl m1; have f4 := hw'.cell hwl m2; have f5 := hw'.cell hsl m3; have f6 := hw'.cell hsl m4; go_simp; rfl)); clear hK K))
          refine wpQuiet_nil ?_
          intro w5 hx5
          have f3 := hx5.cell hwl m1
          have f4 := hx5.cell hwl m2
          have f5 := hx5.cell hsl m3
          have f6 := hx5.cell hsl m4
          replace hwas1 := hwas1.ext hx5
          replace hk2 := Blk.ext hk2 hx5
          replace hx := hx.trans hx5
          have m7 := hwas1.frozen 0
          have m8 := hwas1.frozen 1
          clear m1 m2 m3 m4 m5 m6 q3 q4
          go_wp2
          go_roundw
          case rel => exact ⟨k + 1, ⟨L + 1, node⟩, by omega, by go_num, (hx.setCell (by simp; omega) _).setCell (by simp; omega) _, (hk2.far (by simp; omega) _).far (by simp; omega) _, (hwas1.set_ 0 _).set_ 1 _, by simp; omega, by simp; omega⟩
          case measure => simp [intOf]; omega
    · go_wp2_with (go_at_call 18; refine (live_any _).mono ?_; rintro e w9 ⟨rfl, hx9⟩)
      go_ret
      exact ⟨rfl, hx.trans hx9⟩
end Go.Proofs.Ytnhdjaegkccmaaa
