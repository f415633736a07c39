/- Contracts: are two lists of stamps the same. -/
import Derived.Test.YtbmpecfhflkbeaaFlP
namespace Go.Proofs.Ytbmpecfhflkbeaa
open Go.RowKit
set_option linter.unusedVariables false

set_option maxHeartbeats 1000000 in
set_option maxRecDepth 100000 in
theorem same_any (a b : List St) (A B : Option Addr) (c d : Nat) (w : World) (hm : a.length ≤ 1099511627776) (ha : Sts w A a) (hb : Sts w B b) :
    Calls Try.prog 35 #[.slice A a.length c, .slice B b.length d] w fun e w' => e = .returned (.bool (decide (a = b))) ∧ Ext w w' := by
  by_cases hlen : a.length = b.length
  · have hbb : B = B := rfl
    go_enter Try.func35, Try.ntmps35
    go_wp2
    go_loopw [5] (fun i wr => ∃ k : Nat, k ≤ a.length ∧ i = .int .i64 k ∧ a.take k = b.take k ∧ Ext w wr) (fun i _ => a.length - (intOf i).toNat)
    case atStart => exact ⟨0, by omega, rfl, rfl, Ext.refl _⟩
    case round =>
      obtain ⟨k, hk, rfl, ht, hx⟩ := hrel
      by_cases hlt : k < a.length
      · have hlt2 : k < b.length := by omega
        obtain ⟨b1, o1, rfl, hb1, hc0, hc1⟩ := (ha.ext hx).c2 k hlt _ _ rfl
        obtain ⟨b2, o2, rfl, hb2, hd0, hd1⟩ := (hb.ext hx).c2 k hlt2 _ _ rfl
        have hta := Lib.hid (List.take_succ_eq_append_getElem hlt)
        have htb := Lib.hid (List.take_succ_eq_append_getElem hlt2)
        have hne : Hid (a[k] ≠ b[k] → a ≠ b) := Lib.hid (fun h e => h (by subst e; rfl))
        generalize a[k] = x at *
        generalize b[k] = y at *
        obtain ⟨xt, xn⟩ := x
        obtain ⟨yt, yn⟩ := y
        dsimp only at hc0 hc1 hd0 hd1
        have Ht := Lib.hid ht
        clear ht
        by_cases e1 : xt = yt
        · by_cases e2 : xn = yn
          · subst e1 e2
            go_upto_region 6 with fail
            refine wp_region_in _ (by kernel_rfl) (by kernel_rfl) (Ext.refl _) ?_
            repeat (refine wpQuiet_step (fun K hK => ?_); go_simp; first | (refine hK _ ?_; clear hK K) | (apply Exists.intro; refine ⟨fun w' hw' => ?_, hK _ ?_⟩; (first |  (have f1 := hw'.cell hb1 hc0; have f2 := hw'.cell hb1 hc1; have f3 := hw'.cell hb2 hd0; have f4 := hw'.cell hb2 hd1; go_simp; rfl)); clear hK K))
            refine wpQuiet_nil ?_
            intro w5 hx5
            go_wp2
            go_roundw
            case rel => exact ⟨k + 1, by omega, by go_num, by rw [hta.out, htb.out, Ht.out], hx.trans hx5⟩
            case measure => simp [intOf]; omega
          · have hab := Lib.hid (hne.out (by intro h; injection h; exact e2 (by assumption)))
            have e3 : (xn == yn) = false := by simpa using e2
            subst e1
            go_upto_region 6 with fail
            refine wp_region_in _ (by kernel_rfl) (by kernel_rfl) (Ext.refl _) ?_
            repeat (refine wpQuiet_step (fun K hK => ?_); go_simp; first | (refine hK _ ?_; clear hK K) | (apply Exists.intro; refine ⟨fun w' hw' => ?_, hK _ ?_⟩; (first |  (have f1 := hw'.cell hb1 hc0; have f2 := hw'.cell hb1 hc1; have f3 := hw'.cell hb2 hd0; have f4 := hw'.cell hb2 hd1; go_simp; rfl)); clear hK K))
            refine wpQuiet_nil ?_
            intro w5 hx5
            go_wp2
            go_ret
            exact ⟨by rw [decide_eq_false hab.out]; rfl, hx.trans hx5⟩
        · have hab := Lib.hid (hne.out (by intro h; injection h; exact e1 (by assumption)))
          have e3 : (xt == yt) = false := by simpa using e1
          go_upto_region 6 with fail
          refine wp_region_in _ (by kernel_rfl) (by kernel_rfl) (Ext.refl _) ?_
          repeat (refine wpQuiet_step (fun K hK => ?_); go_simp; first | (refine hK _ ?_; clear hK K) | (apply Exists.intro; refine ⟨fun w' hw' => ?_, hK _ ?_⟩; (first |  (have f1 := hw'.cell hb1 hc0; have f2 := hw'.cell hb1 hc1; have f3 := hw'.cell hb2 hd0; have f4 := hw'.cell hb2 hd1; go_simp; rfl)); clear hK K))
          refine wpQuiet_nil ?_
          intro w5 hx5
          go_wp2
          go_ret
          exact ⟨by rw [decide_eq_false hab.out]; rfl, hx.trans hx5⟩
      · obtain rfl : k = a.length := by omega
        have hab : Hid (a = b) := Lib.hid (by rw [List.take_length, hlen, List.take_length] at ht; exact ht)
        clear ht
        go_wp2
        go_ret
        exact ⟨by rw [decide_eq_true hab.out]; rfl, hx⟩
  · have hne : Hid (a ≠ b) := Lib.hid (fun e => hlen (by rw [e]))
    have e3 : ((a.length : Int) == (b.length : Int)) = false := by rw [beq_eq_false_iff_ne]; omega
    go_enter Try.func35, Try.ntmps35
    go_wp2
    go_ret
    exact ⟨by rw [decide_eq_false hne.out]; rfl, Ext.refl _⟩
theorem same_n (a : List St) (A B : Option Addr) (c d n : Nat) (w : World) (hn : a.length = n) (hm : n ≤ 1099511627776) (ha : Sts w A a) (hb : Sts w B a) :
    Calls Try.prog 35 #[.slice A n c, .slice B n d] w fun e w' => e = .returned (.bool true) ∧ Ext w w' := by
  subst hn
  exact (same_any a a A B c d w hm ha hb).mono fun e w' h => ⟨by rw [h.1, decide_eq_true rfl], h.2⟩
end Go.Proofs.Ytbmpecfhflkbeaa
