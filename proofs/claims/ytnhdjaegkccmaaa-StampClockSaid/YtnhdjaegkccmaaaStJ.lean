/- Contracts: the reference's clock. -/
import Derived.Test.YtnhdjaegkccmaaaStH
namespace Go.Proofs.Ytnhdjaegkccmaaa
open Go.RowKit

abbrev RClk (w : World) (g : Nat) (node last : Int) : Prop := Blk w g 47 #[.int .i64 node, .int .i64 last]
theorem rnow_over (g : Nat) (node : Int) (w : World) (hc : RClk w g node 1099511627776) :
    Calls Try.prog 27 #[.pointer (some ⟨g, 0, none⟩)] w fun e w' => e = .returned (.tuple #[.agg #[.int .i64 (St.z).t, .int .i64 (St.z).n], .int .i64 11]) ∧ Ext w w' := by
  have h1 : w.cell? ⟨g, 1, none⟩ = some (.int .i64 1099511627776) := hc.cell 1
  have hg := hc.lt
  go_enter Try.func27, Try.ntmps27
  go_wp2
  refine bodyPost_ret (v := .tuple #[.agg #[.int .i64 (St.z).t, .int .i64 (St.z).n], .int .i64 11]) (by simp [results, Try.results27, go_sem, St.z]) rfl ⟨rfl, (Ext.refl _).alloc _⟩
set_option maxRecDepth 100000 in
theorem rnow_some (g : Nat) (node last : Int) (w : World) (hc : RClk w g node last) (h0 : 0 ≤ last) (hl : last < 1099511627776) :
    Calls Try.prog 27 #[.pointer (some ⟨g, 0, none⟩)] w fun e w' => e = .returned (.tuple #[.agg #[.int .i64 (last + 1), .int .i64 node], .int .i64 0]) ∧ Chg g w w' ∧ RClk w' g node (last + 1) := by
  have h1 : w.cell? ⟨g, 1, none⟩ = some (.int .i64 last) := hc.cell 1
  have h2 : w.cell? ⟨g, 0, none⟩ = some (.int .i64 node) := hc.cell 0
  have h3 := hc.frozen 1
  have hg := hc.lt
  have hne : (last == 1099511627776) = false := by simp; omega
  go_enter Try.func27, Try.ntmps27
  go_wp2
  obtain ⟨W, hW⟩ : ∃ W, W = (w.setCell ⟨g, 1, none⟩ (.int .i64 (last + 1))).alloc (.cells #[.int .i64 0, .int .i64 0] 23) := ⟨_, rfl⟩
  have hb0 : RClk W g node (last + 1) := by rw [hW]; exact (hc.set_ 1 _).alloc _
  have hb1 : Blk W w.heap.size 23 #[.int .i64 0, .int .i64 0] := by
    rw [hW]
    have := Blk.new (w.setCell ⟨g, 1, none⟩ (.int .i64 (last + 1))) 23 #[.int .i64 0, .int .i64 0]
    simpa [World.setCell] using this
  have hx : Chg g w W := by rw [hW]; exact ((Chg.refl g w).setCell (.inl rfl) _).alloc _
  rw [← hW]; clear hW h1 h2 h3
  have c1 : W.cell? ⟨g, 0, none⟩ = some (.int .i64 node) := hb0.cell 0
  have c2 : W.cell? ⟨g, 1, none⟩ = some (.int .i64 (last + 1)) := hb0.cell 1
  have c3 : W.cell? ⟨w.heap.size, 0, none⟩ = some (.int .i64 0) := hb1.cell 0
  have c4 : W.cell? ⟨w.heap.size, 1, none⟩ = some (.int .i64 0) := hb1.cell 1
  have c5 := hb1.frozen 0
  have c6 := hb1.frozen 1
  refine wp_region_still_tail 9 (by kernel_rfl) (by kernel_rfl) ?_
  simp only [List.take_succ_cons, List.take_zero, List.drop_succ_cons, List.drop_zero, World.drew_eq]
  repeat still_step
  try refine wpStill_nil ?_
  go_wp2
  refine bodyPost_ret (v := .tuple #[.agg #[.int .i64 (last + 1), .int .i64 node], .int .i64 0]) (by simp [results, Try.results27, go_sem, c3, c4]) rfl ⟨rfl, (hx.drew.setCell (.inr (by simp)) _).setCell (.inr (by simp)) _, (hb0.drew.far (by simp; omega) _).far (by simp; omega) _⟩

theorem rtick_some (g : Nat) (node last to : Int) (w : World) (hc : RClk w g node last) :
    Calls Try.prog 31 #[.pointer (some ⟨g, 0, none⟩), .int .i64 to] w fun e w' => e = .returned (.tuple #[]) ∧ Chg g w w' ∧ RClk w' g node (tickV last to) := by
  have h1 : w.cell? ⟨g, 1, none⟩ = some (.int .i64 last) := hc.cell 1
  have h3 := hc.frozen 1
  have hg := hc.lt
  unfold tickV
  by_cases h : to ≤ 1099511627776
  · rw [if_pos h]
    by_cases hlt : last < to
    · have e : max last to = to := by omega
      rw [e]; clear e
      go_enter Try.func31, Try.ntmps31
      go_wp2
      go_end0
      exact ⟨rfl, (Chg.refl _ _).setCell (.inl rfl) _, hc.set_ 1 _⟩
    · have e : max last to = last := by omega
      rw [e]; clear e
      have hge : to ≤ last := by omega
      clear hlt
      go_enter Try.func31, Try.ntmps31
      go_wp2
      go_end0
      exact ⟨rfl, (Chg.refl _ _).setCell (.inl rfl) _, hc.set_ 1 _⟩
  · rw [if_neg h]
    go_enter Try.func31, Try.ntmps31
    go_wp2
    go_end0
    exact ⟨rfl, Chg.refl _ _, hc⟩
theorem Chg.stsW {g : Nat} {a b : World} {A : Option Addr} {l : List St} (h : Sts a A l) (k : Chg g a b) (hne : l ≠ [] → ∀ ad, A = some ad → ad.block ≠ g) : Sts b A l := by
  intro hl
  exact Chg.sts h k (hne hl) hl
theorem rsee_some (g : Nat) (node last : Int) (l : List St) (A : Option Addr) (c : Nat) (w : World) (hm : l.length ≤ 70368744177664) (hs : Sts w A l) (hne : l ≠ [] → ∀ ad, A = some ad → ad.block ≠ g) (hc : RClk w g node last) :
    Calls Try.prog 29 #[.pointer (some ⟨g, 0, none⟩), .slice A l.length c] w fun e w' => e = .returned (.tuple #[]) ∧ Chg g w w' ∧ RClk w' g node (seeV last l) := by
  go_enter Try.func29, Try.ntmps29
  go_wp2
  go_loopw [4] (fun i wr => ∃ k : Nat, k ≤ l.length ∧ i = .int .i64 k ∧ Chg g w wr ∧ RClk wr g node (seeV last (l.take k))) (fun i _ => l.length - (intOf i).toNat)
  case atStart => exact ⟨0, by omega, rfl, Chg.refl _ _, hc⟩
  case round =>
    obtain ⟨k, hk, rfl, hx, hcl⟩ := hrel
    by_cases hlt : k < l.length
    · have hs1 := Chg.stsW hs hx hne
      obtain ⟨b, o, rfl, hb, hc'⟩ := hs1 (by rintro rfl; simp at hlt)
      have h1 := (hc' k hlt).1
      have h2 := (hc' k hlt).2
      have hT := Lib.hid (seeV_take last l k hlt)
      have hgb : b ≠ g := hne (by rintro rfl; simp at hlt) ⟨b, o, none⟩ rfl
      generalize l[k] = X at *
      generalize seeV last (l.take k) = L at *
      have hg := hcl.lt
      have hc1 : RClk wr g node L := hcl
      clear hc' hs1
      go_wp2_with (go_at_call 31; refine (rtick_some g node L _ _ hc1).mono ?_; rintro e w1 ⟨rfl, hx1, hc2⟩)
      go_roundw
      case rel => exact ⟨k + 1, by omega, by go_num, hx.trans hx1, by rw [hT.out]; exact hc2⟩
      case measure => simp [intOf]; omega
    · obtain rfl : k = l.length := by omega
      rw [List.take_length] at hcl
      go_wp2
      go_end0
      exact ⟨rfl, hx, hcl⟩
end Go.Proofs.Ytnhdjaegkccmaaa
