/- Contracts: the clocks of package stamp. -/
import Derived.Test.YtnhdjaegkccmaaaStB
namespace Go.Proofs.Ytnhdjaegkccmaaa
open Go.RowKit

/-- only block g, and what is new, has turned -/
def Chg (g : Nat) (w w' : World) : Prop := w.grownBy w' (some g)
theorem Chg.refl (g : Nat) (w : World) : Chg g w w := World.grownBy.refl w _
theorem Chg.trans {g : Nat} {a b c : World} (h : Chg g a b) (k : Chg g b c) : Chg g a c :=
  ⟨k.os.trans h.os, k.tape.trans h.tape, k.output.trans h.output, Nat.le_trans h.size k.size, fun i hi hne => (k.block i (Nat.lt_of_lt_of_le hi h.size) hne).trans (h.block i hi hne)⟩
theorem Chg.of_ext {g : Nat} {a b : World} (h : Ext a b) : Chg g a b := only_of_below h.below _
theorem Chg.drew {g : Nat} {a b : World} (h : Chg g a b) : Chg g a b.drew := only_drew h
theorem Chg.alloc {g : Nat} {a b : World} (h : Chg g a b) (o : Obj) : Chg g a (b.alloc o) := only_alloc h o
theorem Chg.setCell {g : Nat} {a b : World} (h : Chg g a b) {p : Addr} (hp : p.block = g ∨ a.heap.size ≤ p.block) (u : Value) : Chg g a (b.setCell p u) := only_setCell h hp u
theorem Chg.size {g : Nat} {a b : World} (h : Chg g a b) : a.heap.size ≤ b.heap.size := World.grownBy.size h
theorem Ext.chg {g : Nat} {a b c : World} (h : Ext a b) (k : Chg g b c) (hg : a.heap.size ≤ g) : Ext a c :=
  Ext.of ⟨k.os.trans h.os, k.tape.trans h.tape, k.output.trans h.output, Nat.le_trans h.size k.size, fun i hi => (k.block i (Nat.lt_of_lt_of_le hi h.size) (fun e => by injection e; omega)).trans (h.block i hi)⟩
theorem Chg.blk {g g' : Nat} {a b : World} {t : TypeId} {cs : Array Value} (h : Blk a g' t cs) (k : Chg g a b) (hne : g' ≠ g) : Blk b g' t cs := h.grown k (fun e => hne (by injection e))
theorem Chg.sts {g : Nat} {a b : World} {A : Option Addr} {l : List St} (h : Sts a A l) (k : Chg g a b) (hne : ∀ ad, A = some ad → ad.block ≠ g) : Sts b A l := by
  intro hl
  obtain ⟨bl, o, hA, hb, hc⟩ := h hl
  have hn := hne _ hA
  refine ⟨bl, o, hA, Nat.lt_of_lt_of_le hb k.size, fun j hj => ?_⟩
  have hk := k.block bl hb (fun e => hn (by injection e))
  have h1 : b.cell? ⟨bl, o + j * 2, none⟩ = a.cell? ⟨bl, o + j * 2, none⟩ := World.cell?_of_block hk
  have h2 : b.cell? ⟨bl, o + j * 2 + 1, none⟩ = a.cell? ⟨bl, o + j * 2 + 1, none⟩ := World.cell?_of_block hk
  rw [h1, h2]; exact hc j hj

/-- a clock: its node, its last time -/
abbrev Clk (w : World) (g : Nat) (node last : Int) : Prop := Blk w g 73 #[.int .i64 node, .int .i64 last]

def newOk (node last : Int) : Bool := nodeOk node && (decide (0 ≤ last) && decide (last ≤ 1099511627776))
theorem new_ok (node last : Int) (w : World) (h : newOk node last = true) :
    Calls Try.prog 25 #[.int .i64 node, .int .i64 last] w fun e w' => e = .returned (.tuple #[.pointer (some ⟨w.heap.size, 0, none⟩), .int .i64 0]) ∧ w' = w.alloc (.cells #[.int .i64 node, .int .i64 last] 73) := by
  unfold newOk at h
  simp only [Bool.and_eq_true, decide_eq_true_eq] at h
  obtain ⟨h1, h2, h3⟩ := h
  go_enter Try.func25, Try.ntmps25
  go_wp2_with (go_at_call 41; refine (isNode_any _ _).mono ?_; rintro e w' ⟨rfl, rfl⟩)
  go_ret2
  exact ⟨rfl, rfl⟩
theorem new_not (node last : Int) (w : World) (h : newOk node last = false) :
    Calls Try.prog 25 #[.int .i64 node, .int .i64 last] w fun e w' => e = .returned (.tuple #[.pointer none, .int .i64 2]) ∧ w = w' := by
  unfold newOk at h
  cases h1 : nodeOk node with
  | false =>
    clear h
    go_enter Try.func25, Try.ntmps25
    go_wp2_with (go_at_call 41; refine (isNode_any _ _).mono ?_; rintro e w' ⟨rfl, rfl⟩)
    go_ret2
    exact ⟨rfl, rfl⟩
  | true =>
    rw [h1, Bool.true_and] at h
    by_cases h2 : 0 ≤ last
    · have h3 : ¬ last ≤ 1099511627776 := by intro h3; simp [h2, h3] at h
      clear h
      go_enter Try.func25, Try.ntmps25
      go_wp2_with (go_at_call 41; refine (isNode_any _ _).mono ?_; rintro e w' ⟨rfl, rfl⟩)
      go_ret2
      exact ⟨rfl, rfl⟩
    · clear h
      go_enter Try.func25, Try.ntmps25
      go_wp2_with (go_at_call 41; refine (isNode_any _ _).mono ?_; rintro e w' ⟨rfl, rfl⟩)
      go_ret2
      exact ⟨rfl, rfl⟩

theorem now_nil (w : World) :
    Calls Try.prog 26 #[.pointer none] w fun e w' => e = .returned (.tuple #[.agg #[.int .i64 (St.z).t, .int .i64 (St.z).n], .int .i64 7]) ∧ Ext w w' := by
  go_enter Try.func26, Try.ntmps26
  go_wp2
  refine bodyPost_ret (v := .tuple #[.agg #[.int .i64 (St.z).t, .int .i64 (St.z).n], .int .i64 7]) (by simp [results, Try.results26, go_sem, St.z]) rfl ⟨rfl, (Ext.refl _).alloc _⟩
theorem now_over (g : Nat) (node : Int) (w : World) (hc : Clk w g node 1099511627776) :
    Calls Try.prog 26 #[.pointer (some ⟨g, 0, none⟩)] w fun e w' => e = .returned (.tuple #[.agg #[.int .i64 (St.z).t, .int .i64 (St.z).n], .int .i64 11]) ∧ Ext w w' := by
  have h1 : w.cell? ⟨g, 1, none⟩ = some (.int .i64 1099511627776) := hc.cell 1
  have hg := hc.lt
  go_enter Try.func26, Try.ntmps26
  go_wp2
  refine bodyPost_ret (v := .tuple #[.agg #[.int .i64 (St.z).t, .int .i64 (St.z).n], .int .i64 11]) (by simp [results, Try.results26, go_sem, St.z]) rfl ⟨rfl, (Ext.refl _).alloc _⟩
set_option maxRecDepth 100000 in
theorem now_some (g : Nat) (node last : Int) (w : World) (hc : Clk w g node last) (h0 : 0 ≤ last) (hl : last < 1099511627776) :
    Calls Try.prog 26 #[.pointer (some ⟨g, 0, none⟩)] w fun e w' => e = .returned (.tuple #[.agg #[.int .i64 (last + 1), .int .i64 node], .int .i64 0]) ∧ Chg g w w' ∧ Clk w' g node (last + 1) := by
  have h1 : w.cell? ⟨g, 1, none⟩ = some (.int .i64 last) := hc.cell 1
  have h2 : w.cell? ⟨g, 0, none⟩ = some (.int .i64 node) := hc.cell 0
  have h3 := hc.frozen 1
  have hg := hc.lt
  have hne : (last == 1099511627776) = false := by simp; omega
  go_enter Try.func26, Try.ntmps26
  go_wp2
  obtain ⟨W, hW⟩ : ∃ W, W = (w.setCell ⟨g, 1, none⟩ (.int .i64 (last + 1))).alloc (.cells #[.int .i64 0, .int .i64 0] 23) := ⟨_, rfl⟩
  have hb0 : Clk W g node (last + 1) := by rw [hW]; exact (hc.set_ 1 _).alloc _
  have hb1 : Blk W w.heap.size 23 #[.int .i64 0, .int .i64 0] := by
    rw [hW]
    have := Blk.new (w.setCell ⟨g, 1, none⟩ (.int .i64 (last + 1))) 23 #[.int .i64 0, .int .i64 0]
    simpa [World.setCell] using this
  have hx : Chg g w W := by rw [hW]; exact ((Chg.refl g w).setCell (.inl rfl) _).alloc _
  rw [← hW]; clear hW h1 h2 h3
  have c1 : W.cell? ⟨g, 0, none⟩ = some (.int .i64 node) := hb0.cell 0
  have c2 : W.cell? ⟨g, 1, none⟩ = some (.int .i64 (last + 1)) := hb0.cell 1
  have c3 : W.cell? ⟨w.heap.size, 0, none⟩ = some (.int .i64 0) := hb1.cell 0
  have c4 : W.cell? ⟨w.heap.size, 1, none⟩ = some (.int .i64 0) := hb1.cell 1
  have c5 := hb1.frozen 0
  have c6 := hb1.frozen 1
  refine wp_region_still_tail 9 (by kernel_rfl) (by kernel_rfl) ?_
  simp only [List.take_succ_cons, List.take_zero, List.drop_succ_cons, List.drop_zero, World.drew_eq]
  repeat still_step
  try refine wpStill_nil ?_
  go_wp2
  refine bodyPost_ret (v := .tuple #[.agg #[.int .i64 (last + 1), .int .i64 node], .int .i64 0]) (by simp [results, Try.results26, go_sem, c3, c4]) rfl ⟨rfl, (hx.drew.setCell (.inr (by simp)) _).setCell (.inr (by simp)) _, (hb0.drew.far (by simp; omega) _).far (by simp; omega) _⟩

def tickV (last to : Int) : Int := if to ≤ 1099511627776 then max last to else last
theorem tick_nil (to : Int) (w : World) :
    Calls Try.prog 30 #[.pointer none, .int .i64 to] w fun e w' => e = .returned (.tuple #[]) ∧ w = w' := by
  go_enter Try.func30, Try.ntmps30
  go_wp2
  go_end0
  exact ⟨rfl, rfl⟩
theorem tick_some (g : Nat) (node last to : Int) (w : World) (hc : Clk w g node last) :
    Calls Try.prog 30 #[.pointer (some ⟨g, 0, none⟩), .int .i64 to] w fun e w' => e = .returned (.tuple #[]) ∧ Chg g w w' ∧ Clk w' g node (tickV last to) := by
  have h1 : w.cell? ⟨g, 1, none⟩ = some (.int .i64 last) := hc.cell 1
  have h3 := hc.frozen 1
  have hg := hc.lt
  unfold tickV
  by_cases h : to ≤ 1099511627776
  · rw [if_pos h]
    by_cases hlt : last < to
    · have e : max last to = to := by omega
      rw [e]; clear e
      go_enter Try.func30, Try.ntmps30
      go_wp2
      go_end0
      exact ⟨rfl, (Chg.refl _ _).setCell (.inl rfl) _, hc.set_ 1 _⟩
    · have e : max last to = last := by omega
      rw [e]; clear e
      have hge : to ≤ last := by omega
      clear hlt
      go_enter Try.func30, Try.ntmps30
      go_wp2
      go_end0
      exact ⟨rfl, (Chg.refl _ _).setCell (.inl rfl) _, hc.set_ 1 _⟩
  · rw [if_neg h]
    go_enter Try.func30, Try.ntmps30
    go_wp2
    go_end0
    exact ⟨rfl, Chg.refl _ _, hc⟩
theorem last_nil (w : World) :
    Calls Try.prog 32 #[.pointer none] w fun e w' => e = .returned (.int .i64 0) ∧ w = w' := by
  go_enter Try.func32, Try.ntmps32
  go_wp2
  go_ret
  exact ⟨rfl, rfl⟩
theorem last_some (g : Nat) (node last : Int) (w : World) (hc : Clk w g node last) :
    Calls Try.prog 32 #[.pointer (some ⟨g, 0, none⟩)] w fun e w' => e = .returned (.int .i64 last) ∧ w = w' := by
  have h1 : w.cell? ⟨g, 1, none⟩ = some (.int .i64 last) := hc.cell 1
  have hg := hc.lt
  go_enter Try.func32, Try.ntmps32
  go_wp2
  go_ret
  exact ⟨rfl, rfl⟩

/-! ### See -/
def seeV (last : Int) (l : List St) : Int := l.foldl (fun a s => tickV a s.t) last
theorem seeV_take (last : Int) (l : List St) (k : Nat) (h : k < l.length) : seeV last (l.take (k + 1)) = tickV (seeV last (l.take k)) (l[k]).t := by
  unfold seeV
  rw [List.take_succ_eq_append_getElem h, List.foldl_append]; rfl

theorem see_nil (l : List St) (A : Option Addr) (c : Nat) (w : World) (hm : l.length ≤ 70368744177664) (hs : Sts w A l) :
    Calls Try.prog 28 #[.pointer none, .slice A l.length c] w fun e w' => e = .returned (.tuple #[]) ∧ Ext w w' := by
  go_enter Try.func28, Try.ntmps28
  go_wp2
  go_loopw [8] (fun i wr => ∃ k : Nat, k ≤ l.length ∧ i = .int .i64 k ∧ Ext w wr) (fun i _ => l.length - (intOf i).toNat)
  case atStart => exact ⟨0, by omega, rfl, Ext.refl _⟩
  case round =>
    obtain ⟨k, hk, rfl, hx⟩ := hrel
    by_cases hlt : k < l.length
    · obtain ⟨b, o, rfl, hb, hc⟩ := hs (by rintro rfl; simp at hlt)
      have h1 := hx.cell hb (hc k hlt).1
      have h2 := hx.cell hb (hc k hlt).2
      have hbr := hx.lt hb
      generalize l[k] = X at *
      clear hc
      go_wp2_with (go_at_call 30; refine (tick_nil _ _).mono ?_; rintro e w1 ⟨rfl, rfl⟩)
      go_roundw
      case rel => exact ⟨k + 1, by omega, by go_num, hx.alloc _⟩
      case measure => simp [intOf]; omega
    · go_wp2
      go_end0
      exact ⟨rfl, hx⟩

theorem see_some (g : Nat) (node last : Int) (l : List St) (A : Option Addr) (c : Nat) (w : World) (hm : l.length ≤ 70368744177664) (hs : Sts w A l) (hne : ∀ ad, A = some ad → ad.block ≠ g) (hc : Clk w g node last) :
    Calls Try.prog 28 #[.pointer (some ⟨g, 0, none⟩), .slice A l.length c] w fun e w' => e = .returned (.tuple #[]) ∧ Chg g w w' ∧ Clk w' g node (seeV last l) := by
  go_enter Try.func28, Try.ntmps28
  go_wp2
  go_loopw [8] (fun i wr => ∃ k : Nat, k ≤ l.length ∧ i = .int .i64 k ∧ Chg g w wr ∧ Clk wr g node (seeV last (l.take k))) (fun i _ => l.length - (intOf i).toNat)
  case atStart => exact ⟨0, by omega, rfl, Chg.refl _ _, hc⟩
  case round =>
    obtain ⟨k, hk, rfl, hx, hcl⟩ := hrel
    by_cases hlt : k < l.length
    · have hs1 := Chg.sts hs hx hne
      obtain ⟨b, o, rfl, hb, hc'⟩ := hs1 (by rintro rfl; simp at hlt)
      have h1 := (hc' k hlt).1
      have h2 := (hc' k hlt).2
      have hT := Lib.hid (seeV_take last l k hlt)
      have hgb : b ≠ g := hne ⟨b, o, none⟩ rfl
      generalize l[k] = X at *
      generalize seeV last (l.take k) = L at *
      have hg := hcl.lt
      have hc1 : Clk (wr.alloc (.cells #[.int .i64 X.t, .int .i64 X.n] 23)) g node L := hcl.alloc _
      clear hc' hs1
      go_wp2_with (go_at_call 30; refine (tick_some g node L _ _ hc1).mono ?_; rintro e w1 ⟨rfl, hx1, hc2⟩)
      go_roundw
      case rel => exact ⟨k + 1, by omega, by go_num, (hx.alloc _).trans hx1, by rw [hT.out]; exact hc2⟩
      case measure => simp [intOf]; omega
    · obtain rfl : k = l.length := by omega
      rw [List.take_length] at hcl
      go_wp2
      go_end0
      exact ⟨rfl, hx, hcl⟩
end Go.Proofs.Ytnhdjaegkccmaaa
