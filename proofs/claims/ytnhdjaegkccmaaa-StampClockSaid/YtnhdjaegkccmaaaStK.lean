/- StampClock. -/
import Derived.Test.YtnhdjaegkccmaaaStJ
import Derived.Test.YtnhdjaegkccmaaaOpenAct
namespace Go.Proofs.Ytnhdjaegkccmaaa
open Go.RowKit

theorem StsIn.ext {w w' : World} {A : Option Addr} {n c : Nat} {l : List St} (h : StsIn w A n c l) (hx : Ext w w') : StsIn w' A n c l := ⟨h.len, h.cap, h.none_, h.sts.ext hx, h.wf⟩

theorem seeV_bounds (l : List St) (L : Int) (h0 : 0 ≤ L) (h1 : L ≤ 1099511627776) : 0 ≤ seeV L l ∧ seeV L l ≤ 1099511627776 := by
  unfold seeV
  induction l generalizing L with
  | nil => exact ⟨h0, h1⟩
  | cons a l ih =>
    simp only [List.foldl_cons]
    apply ih <;> (unfold tickV; split <;> omega)

set_option maxHeartbeats 4000000 in
set_option maxRecDepth 100000 in
theorem stampClock_walk (node last : Int) (A : Option Addr) (n c : Nat) (l : List Act) (w : World) (_wn : (Lit.int .i64 node).wf = true) (_wl : (Lit.int .i64 last).wf = true) (hl : ActsIn w A n c l) :
    Calls Try.prog 6 #[.int .i64 node, .int .i64 last, .slice A n c] w fun e w' => e = .returned (.bool true) ∧ Ext w w' := by
  obtain ⟨rfl, hs, hin⟩ := hl
  clear _wn _wl
  by_cases g1 : 60 < l.length
  · clear hs hin
    go_enter Try.func6, Try.ntmps6
    go_wp2_with (go_at_call 18; refine (live_any _).mono ?_; rintro e w1 ⟨rfl, hx1⟩)
    go_ret
    exact ⟨rfl, (by repeat (first | assumption | exact Ext.refl _ | (with_reducible refine Ext.alloc ?_ _) | (with_reducible refine Ext.drew ?_) | refine Ext.trans ?_ (by assumption)))⟩
  have hle : l.length ≤ 60 := by omega
  clear g1
  by_cases hnew : newOk node last = true
  case neg =>
    have hno : newOk node last = false := by simpa using hnew
    have hcl := fun w => new_not node last w hno
    clear hs hin hnew
    have hd : node < 1 ∨ 7 < node ∨ last < 0 ∨ 1099511627776 < last := by
      unfold newOk nodeOk at hno
      simp at hno
      omega
    clear hno
    by_cases g2 : node < 1
    · go_enter Try.func6, Try.ntmps6
      go_wp2_with (first | (go_at_call 25; refine (hcl _).mono ?_; rintro e w2 ⟨rfl, rfl⟩) | (go_at_call 14; refine (num_any _ _).mono ?_; rintro e w' ⟨rfl, rfl⟩) | (go_at_call 18; refine (live_any _).mono ?_; rintro e w1 ⟨rfl, hx1⟩))
      go_ret
      exact ⟨rfl, (by repeat (first | assumption | exact Ext.refl _ | (with_reducible refine Ext.alloc ?_ _) | (with_reducible refine Ext.drew ?_) | refine Ext.trans ?_ (by assumption)))⟩
    by_cases g3 : 7 < node
    · go_enter Try.func6, Try.ntmps6
      go_wp2_with (first | (go_at_call 25; refine (hcl _).mono ?_; rintro e w2 ⟨rfl, rfl⟩) | (go_at_call 14; refine (num_any _ _).mono ?_; rintro e w' ⟨rfl, rfl⟩) | (go_at_call 18; refine (live_any _).mono ?_; rintro e w1 ⟨rfl, hx1⟩))
      go_ret
      exact ⟨rfl, (by repeat (first | assumption | exact Ext.refl _ | (with_reducible refine Ext.alloc ?_ _) | (with_reducible refine Ext.drew ?_) | refine Ext.trans ?_ (by assumption)))⟩
    by_cases g4 : last < 0
    · go_enter Try.func6, Try.ntmps6
      go_wp2_with (first | (go_at_call 25; refine (hcl _).mono ?_; rintro e w2 ⟨rfl, rfl⟩) | (go_at_call 14; refine (num_any _ _).mono ?_; rintro e w' ⟨rfl, rfl⟩) | (go_at_call 18; refine (live_any _).mono ?_; rintro e w1 ⟨rfl, hx1⟩))
      go_ret
      exact ⟨rfl, (by repeat (first | assumption | exact Ext.refl _ | (with_reducible refine Ext.alloc ?_ _) | (with_reducible refine Ext.drew ?_) | refine Ext.trans ?_ (by assumption)))⟩
    have g5 : 1099511627776 < last := by omega
    clear hd
    go_enter Try.func6, Try.ntmps6
    go_wp2_with (first | (go_at_call 25; refine (hcl _).mono ?_; rintro e w2 ⟨rfl, rfl⟩) | (go_at_call 14; refine (num_any _ _).mono ?_; rintro e w' ⟨rfl, rfl⟩) | (go_at_call 18; refine (live_any _).mono ?_; rintro e w1 ⟨rfl, hx1⟩))
    go_ret
    exact ⟨rfl, (by repeat (first | assumption | exact Ext.refl _ | (with_reducible refine Ext.alloc ?_ _) | (with_reducible refine Ext.drew ?_) | refine Ext.trans ?_ (by assumption)))⟩
  have hcl := fun w => new_ok node last w hnew
  have hb : 1 ≤ node ∧ node ≤ 7 ∧ 0 ≤ last ∧ last ≤ 1099511627776 := by
    unfold newOk nodeOk at hnew
    simp at hnew
    omega
  obtain ⟨g2, g3, g4, g5⟩ := hb
  clear hnew
  have HIN := Lib.hid hin
  clear hin
  go_enter Try.func6, Try.ntmps6
  go_wp2_with (first
    | (go_at_call 25; refine (hcl _).mono ?_; rintro e w2 ⟨rfl, rfl⟩)
    | (go_at_call 14; refine (num_any _ _).mono ?_; rintro e w' ⟨rfl, rfl⟩))
  have hclk : Clk ((w.alloc (.cells #[.int .i64 node, .int .i64 last] 73)).alloc (.cells #[.int .i64 node, .int .i64 last] 47)) w.heap.size node last := (Blk.new w 73 #[.int .i64 node, .int .i64 last]).alloc _
  have hrc : RClk ((w.alloc (.cells #[.int .i64 node, .int .i64 last] 73)).alloc (.cells #[.int .i64 node, .int .i64 last] 47)) (w.heap.size + 1) node last := by
    simpa using Blk.new (w.alloc (.cells #[.int .i64 node, .int .i64 last] 73)) 47 #[.int .i64 node, .int .i64 last]
  have hgg : w.heap.size < w.heap.size + 1 := by omega
  generalize w.heap.size + 1 = gg at *
  go_loopw [10] (fun i wr => ∃ (k : Nat) (L : Int), k ≤ l.length ∧ i = .int .i64 k ∧ Ext w wr ∧ Clk wr w.heap.size node L ∧ RClk wr gg node L ∧ 0 ≤ L ∧ L ≤ 1099511627776) (fun i _ => l.length - (intOf i).toNat)
  case atStart => exact ⟨0, last, by omega, rfl, ((Ext.refl _).alloc _).alloc _, hclk, hrc, g4, g5⟩
  case round =>
    clear hclk hrc hcl g4 g5
    obtain ⟨k, L, hk, rfl, hx, hclk, hrc, g4, g5⟩ := hrel
    by_cases hlt : k < l.length
    · obtain ⟨b, o, rfl, hbb, hc⟩ := hs (by rintro rfl; simp at hlt)
      have h1 := hx.cell hbb (hc k hlt).1
      have h2 := hx.cell hbb (hc k hlt).2.1
      have h3 := hx.cell hbb (hc k hlt).2.2
      have hbr := hx.lt hbb
      have hg1 := hclk.lt
      have hg2 := hrc.lt
      have hI := HIN.out (l[k]) (List.getElem_mem hlt)
      clear hc
      generalize l[k] = X at *
      obtain ⟨K, XA, Xn, Xc, XL, To⟩ := X
      dsimp only at h1 h2 h3 hI
      have HI := Lib.hid hI
      clear hI hs
      have hxa := hx.alloc (.cells #[.int .i64 K, .slice XA Xn Xc, .int .i64 To] 49)
      have hca := hclk.alloc (.cells #[.int .i64 K, .slice XA Xn Xc, .int .i64 To] 49)
      have hra := hrc.alloc (.cells #[.int .i64 K, .slice XA Xn Xc, .int .i64 To] 49)
      have hba := Blk.new wr 49 #[.int .i64 K, .slice XA Xn Xc, .int .i64 To]
      by_cases hbig : 60 < Xn
      · go_wp2_with (go_at_call 18; refine (live_any _).mono ?_; rintro e w9 ⟨rfl, hx9⟩)
        go_ret
        exact ⟨rfl, hxa.trans hx9⟩
      by_cases k0 : K = 0
      · subst k0
        by_cases hov : L = 1099511627776
        · subst hov
          go_wp2_with fail
          refine (now_over _ node _ hca).mono ?_
          rintro e w1 ⟨rfl, hx1⟩
          have z1 : St.z.t = 0 := rfl
          have z2 : St.z.n = 0 := rfl
          have hrb := (Blk.ext hra hx1).alloc (.cells #[.int .i64 0, .int .i64 0] 23)
          have hkb := (Blk.ext hca hx1).alloc (.cells #[.int .i64 0, .int .i64 0] 23)
          have hxb := (hxa.trans hx1).alloc (.cells #[.int .i64 0, .int .i64 0] 23)
          have hs0 := Blk.new w1 23 #[.int .i64 0, .int .i64 0]
          have hro := rnow_over gg node _ hrb
          clear hxa hca hra hba hx1
          go_wp2_with fail
          refine hro.mono ?_
          rintro e w2 ⟨rfl, hx2⟩
          have hs1 := (Blk.ext hs0 hx2).alloc (.cells #[.int .i64 0, .int .i64 0] 23)
          have hs2 := Blk.new w2 23 #[.int .i64 0, .int .i64 0]
          have hrd := (Blk.ext hrb hx2).alloc (.cells #[.int .i64 0, .int .i64 0] 23)
          have hkd := (Blk.ext hkb hx2).alloc (.cells #[.int .i64 0, .int .i64 0] 23)
          have hxd := (hxb.trans hx2).alloc (.cells #[.int .i64 0, .int .i64 0] 23)
          clear hro hrb hkb hxb hs0 hx2
          have hs1l := hs1.lt
          have hs2l := hs2.lt
          have m1 := hs1.cell 0
          have m2 := hs1.cell 1
          have m3 := hs2.cell 0
          have m4 := hs2.cell 1
          simp only [List.getElem?_toArray, List.getElem?_cons_zero, List.getElem?_cons_succ] at m1 m2 m3 m4
          go_wp2_with (go_at_call 14; refine (num_any _ _).mono ?_; rintro e w' ⟨rfl, rfl⟩)

          have r1 := hrd.cell 1
          simp only [List.getElem?_toArray, List.getElem?_cons_zero, List.getElem?_cons_succ] at r1
          have r2 := hrd.lt
          refine wp_region_in _ (by kernel_rfl) (by kernel_rfl) (Ext.refl _) ?_
          repeat (refine wpQuiet_step (fun K hK => ?_); go_simp; first | (refine hK _ ?_; clear hK K) | (apply Exists.intro; refine ⟨fun w' hw' => ?_, hK _ ?_⟩; (first | (go_at_call 32; exact qcall_same hw' (last_some w.heap.size node 1099511627776 _ (Blk.ext hkd hw'))) |  (have f1 := hw'.cell r2 r1; go_simp; rfl)); clear hK K))
          refine wpQuiet_nil ?_
          intro w5 hx5
          go_wp2
          go_roundw
          case rel => exact ⟨k + 1, 1099511627776, by omega, by go_num, hxd.trans hx5, Blk.ext hkd hx5, Blk.ext hrd hx5, by omega, by omega⟩
          case measure => simp [intOf]; omega
        · have hlt2 : L < 1099511627776 := by omega
          go_wp2_with fail
          refine (now_some _ node L _ hca g4 hlt2).mono ?_
          rintro e w1 ⟨rfl, hc1, hk1⟩
          have hrb := (Chg.blk hra hc1 (by omega)).alloc (.cells #[.int .i64 (L + 1), .int .i64 node] 23)
          have hkb := hk1.alloc (.cells #[.int .i64 (L + 1), .int .i64 node] 23)
          have hxb := (hxa.chg hc1 (Nat.le_refl _)).alloc (.cells #[.int .i64 (L + 1), .int .i64 node] 23)
          have hs0 := Blk.new w1 23 #[.int .i64 (L + 1), .int .i64 node]
          have hro := rnow_some gg node L _ hrb g4 hlt2
          have hg3 : gg < w1.heap.size := by have h := hc1.size; simp at h; omega
          clear hxa hca hra hba hc1 hk1
          go_wp2_with fail
          refine hro.mono ?_
          rintro e w2 ⟨rfl, hc2, hk2⟩
          have hs1 := (Chg.blk hs0 hc2 (by omega)).alloc (.cells #[.int .i64 (L + 1), .int .i64 node] 23)
          have hs2 := Blk.new w2 23 #[.int .i64 (L + 1), .int .i64 node]
          have hrd := hk2.alloc (.cells #[.int .i64 (L + 1), .int .i64 node] 23)
          have hkd := (Chg.blk hkb hc2 (by omega)).alloc (.cells #[.int .i64 (L + 1), .int .i64 node] 23)
          have hxd := (hxb.chg hc2 (by omega)).alloc (.cells #[.int .i64 (L + 1), .int .i64 node] 23)
          clear hro hrb hkb hxb hs0 hc2 hk2
          have hs1l := hs1.lt
          have hs2l := hs2.lt
          have m1 := hs1.cell 0
          have m2 := hs1.cell 1
          have m3 := hs2.cell 0
          have m4 := hs2.cell 1
          simp only [List.getElem?_toArray, List.getElem?_cons_zero, List.getElem?_cons_succ] at m1 m2 m3 m4
          go_wp2_with (go_at_call 14; refine (num_any _ _).mono ?_; rintro e w' ⟨rfl, rfl⟩)

          have r1 := hrd.cell 1
          simp only [List.getElem?_toArray, List.getElem?_cons_zero, List.getElem?_cons_succ] at r1
          have r2 := hrd.lt
          refine wp_region_in _ (by kernel_rfl) (by kernel_rfl) (Ext.refl _) ?_
          repeat (refine wpQuiet_step (fun K hK => ?_); go_simp; first | (refine hK _ ?_; clear hK K) | (apply Exists.intro; refine ⟨fun w' hw' => ?_, hK _ ?_⟩; (first | (go_at_call 32; exact qcall_same hw' (last_some w.heap.size node (L + 1) _ (Blk.ext hkd hw'))) |  (have f1 := hw'.cell r2 r1; go_simp; rfl)); clear hK K))
          refine wpQuiet_nil ?_
          intro w5 hx5
          go_wp2
          go_roundw
          case rel => exact ⟨k + 1, (L + 1), by omega, by go_num, hxd.trans hx5, Blk.ext hkd hx5, Blk.ext hrd hx5, by omega, by omega⟩
          case measure => simp [intOf]; omega
      by_cases k1 : K = 1
      · subst k1
        clear k0
        have hI := HI.out
        obtain ⟨rfl, hcap, hnone, hsx, hwf⟩ := hI
        clear hcap hnone hwf HI
        have hm : XL.length ≤ 1000 := by omega
        have a1 := hba.cell 1
        have hbl := hba.lt
        simp only [List.getElem?_toArray, List.getElem?_cons_zero, List.getElem?_cons_succ] at a1
        have hsa := (hsx.ext hxa)
        have hown := own_any XL XA Xc _ hm hsa
        go_wp2_with fail
        refine hown.mono ?_
        rintro e w1 ⟨A1, c1, rfl, hN1, hx1⟩
        have hck := Blk.ext hca hx1
        have hrk := Blk.ext hra hx1
        have hbk := Blk.ext hba hx1
        have hgn : ∀ ad, A1 = some ad → ad.block ≠ w.heap.size := fun ad h => by have := hN1.new ad h; simp at this; omega
        have hsee := see_some w.heap.size node L XL A1 c1 w1 (by omega) hN1.sts hgn hck
        clear hown
        go_wp2_with fail
        refine hsee.mono ?_
        rintro e w2 ⟨rfl, hc2, hk2⟩
        have hxb := (hxa.trans hx1).chg hc2 (Nat.le_refl _)
        have hrb := Chg.blk hrk hc2 (by omega)
        have hbb2 := Chg.blk hbk hc2 (by omega)
        have hsb := hsx.ext hxb
        have hne : XL ≠ [] → ∀ ad, XA = some ad → ad.block ≠ gg := fun h ad e => by
          obtain ⟨b', o', h1', h2', _⟩ := hsx h
          rw [h1'] at e
          injection e with e
          subst e
          show b' ≠ gg
          omega
        have hrs := rsee_some gg node L XL XA Xc w2 (by omega) hsb hne hrb
        have hbl2 := hbb2.lt
        have b1 := hbb2.cell 1
        simp only [List.getElem?_toArray, List.getElem?_cons_zero, List.getElem?_cons_succ] at b1
        have hV := seeV_bounds XL L g4 g5
        clear hsee hN1 hgn hck hrk hbk hxa hca hra hba a1 hsa hx1 hsb
        go_wp2_with fail
        refine hrs.mono ?_
        rintro e w3 ⟨rfl, hc3, hk3⟩
        have hkc := Chg.blk hk2 hc3 (by omega)
        have hxc := hxb.chg hc3 (by omega)
        clear hrs hc2 hc3 hk2 hrb hbb2 hxb b1 hne
        generalize seeV L XL = L2 at *
        obtain ⟨hl1, hl2⟩ := hV
        have r1 := hk3.cell 1
        simp only [List.getElem?_toArray, List.getElem?_cons_zero, List.getElem?_cons_succ] at r1
        have r2 := hk3.lt
        go_wp2
        refine wp_region_in _ (by kernel_rfl) (by kernel_rfl) (Ext.refl _) ?_
        repeat (refine wpQuiet_step (fun K hK => ?_); go_simp; first | (refine hK _ ?_; clear hK K) | (apply Exists.intro; refine ⟨fun w' hw' => ?_, hK _ ?_⟩; (first | (go_at_call 32; exact qcall_same hw' (last_some w.heap.size node L2 _ (Blk.ext hkc hw'))) |  (have f1 := hw'.cell r2 r1; go_simp; rfl)); clear hK K))
        refine wpQuiet_nil ?_
        intro w5 hx5
        go_wp2
        go_roundw
        case rel => exact ⟨k + 1, L2, by omega, by go_num, hxc.trans hx5, Blk.ext hkc hx5, Blk.ext hk3 hx5, by omega, by omega⟩
        case measure => simp [intOf]; omega

      by_cases k2 : K = 2
      · subst k2
        clear k0 k1
        go_wp2_with fail
        refine (tick_some w.heap.size node L To _ hca).mono ?_
        rintro e w1 ⟨rfl, hc1, hk1⟩
        have hrb := Chg.blk hra hc1 (by omega)
        have hbb1 := Chg.blk hba hc1 (by omega)
        have hxb := hxa.chg hc1 (Nat.le_refl _)
        have b2 := hbb1.cell 2
        simp only [List.getElem?_toArray, List.getElem?_cons_zero, List.getElem?_cons_succ] at b2
        have hbl := hbb1.lt
        go_wp2_with fail
        refine (rtick_some gg node L To _ hrb).mono ?_
        rintro e w2 ⟨rfl, hc2, hk2⟩
        have hkc := Chg.blk hk1 hc2 (by omega)
        have hxc := hxb.chg hc2 (by omega)
        obtain ⟨L2, hL2⟩ : ∃ L2, tickV L To = L2 := ⟨_, rfl⟩
        rw [hL2] at hkc hk2
        unfold tickV at hL2
        have hl1 : 0 ≤ L2 := by split at hL2 <;> omega
        have hl2 : L2 ≤ 1099511627776 := by split at hL2 <;> omega
        clear hL2 hc1 hc2 hk1 hrb hbb1 hxb hxa hca hra hba b2
        have r1 := hk2.cell 1
        simp only [List.getElem?_toArray, List.getElem?_cons_zero, List.getElem?_cons_succ] at r1
        have r2 := hk2.lt
        go_wp2
        refine wp_region_in _ (by kernel_rfl) (by kernel_rfl) (Ext.refl _) ?_
        repeat (refine wpQuiet_step (fun K hK => ?_); go_simp; first | (refine hK _ ?_; clear hK K) | (apply Exists.intro; refine ⟨fun w' hw' => ?_, hK _ ?_⟩; (first | (go_at_call 32; exact qcall_same hw' (last_some w.heap.size node L2 _ (Blk.ext hkc hw'))) |  (have f1 := hw'.cell r2 r1; go_simp; rfl)); clear hK K))
        refine wpQuiet_nil ?_
        intro w5 hx5
        go_wp2
        go_roundw
        case rel => exact ⟨k + 1, L2, by omega, by go_num, hxc.trans hx5, Blk.ext hkc hx5, Blk.ext hk2 hx5, by omega, by omega⟩
        case measure => simp [intOf]; omega

      · have e0 : (K == 0) = false := by simpa using k0
        have e1 : (K == 1) = false := by simpa using k1
        have e2 : (K == 2) = false := by simpa using k2
        clear k0 k1 k2
        have r1 := hra.cell 1
        simp only [List.getElem?_toArray, List.getElem?_cons_zero, List.getElem?_cons_succ] at r1
        have r2 := hra.lt
        go_wp2
        refine wp_region_in _ (by kernel_rfl) (by kernel_rfl) (Ext.refl _) ?_
        repeat (refine wpQuiet_step (fun K hK => ?_); go_simp; first | (refine hK _ ?_; clear hK K) | (apply Exists.intro; refine ⟨fun w' hw' => ?_, hK _ ?_⟩; (first | (go_at_call 32; exact qcall_same hw' (last_some w.heap.size node L _ (Blk.ext hca hw'))) |  (have f1 := hw'.cell r2 r1; go_simp; rfl)); clear hK K))
        refine wpQuiet_nil ?_
        intro w5 hx5
        go_wp2
        go_roundw
        case rel => exact ⟨k + 1, L, by omega, by go_num, hxa.trans hx5, Blk.ext hca hx5, Blk.ext hra hx5, by omega, by omega⟩
        case measure => simp [intOf]; omega

    · go_wp2_with (go_at_call 18; refine (live_any _).mono ?_; rintro e w9 ⟨rfl, hx9⟩)
      go_ret
      exact ⟨rfl, hx.trans hx9⟩
end Go.Proofs.Ytnhdjaegkccmaaa
