/- The walks of StampNil and StampOrders. -/
import Derived.Test.YtnhdjaegkccmaaaStD
import Derived.Test.YtnhdjaegkccmaaaOpenSt
namespace Go.Proofs.Ytnhdjaegkccmaaa
open Go.RowKit

theorem sts_one' (w : World) (b : Nat) (hb : w.heap.size = b) (s : St) (t : TypeId) : Sts (w.alloc (.cells #[.int .i64 s.t, .int .i64 s.n] t)) (some ⟨b, 0, none⟩) [s] := by
  subst hb; exact sts_one w s.t s.n t
theorem see_nil1 (s : St) (b : Nat) (w : World) (hb : w.heap.size = b) :
    Calls Try.prog 28 #[.pointer none, .slice (some ⟨b, 0, none⟩) 1 1] (w.alloc (.cells #[.int .i64 s.t, .int .i64 s.n] 23)) fun e w' => e = .returned (.tuple #[]) ∧ Ext (w.alloc (.cells #[.int .i64 s.t, .int .i64 s.n] 23)) w' :=
  see_nil [s] (some ⟨b, 0, none⟩) 1 _ (by simp) (sts_one' w b hb s _)

theorem now_nil' (w : World) :
    Calls Try.prog 26 #[.pointer none] w fun e w' => e = .returned (.tuple #[.agg #[.int .i64 0, .int .i64 0], .int .i64 7]) ∧ Ext w w' := now_nil w

set_option maxHeartbeats 400000 in
set_option maxRecDepth 100000 in
theorem stampNil_walk (s : St) (to : Int) (w : World) (_ws : StIn s) (_wt : (Lit.int .i64 to).wf = true) :
    Calls Try.prog 8 #[.agg #[.int .i64 (s).t, .int .i64 (s).n], .int .i64 to] w fun e w' => e = .returned (.bool true) ∧ Ext w w' := by
  clear _ws _wt
  go_enter Try.func8, Try.ntmps8
  go_wp2_with (first
    | (go_at_call 28; refine (see_nil1 s _ _ (by simp)).mono ?_; rintro e w1 ⟨rfl, hx1⟩)
    | (go_at_call 30; refine (tick_nil _ _).mono ?_; rintro e w' ⟨rfl, rfl⟩)
    | (go_at_call 26; refine (now_nil' _).mono ?_; rintro e w2 ⟨rfl, hx2⟩)
    | (go_at_call 32; refine (last_nil _).mono ?_; rintro e w' ⟨rfl, rfl⟩)
    | (go_at_call 14; refine (num_any _ _).mono ?_; rintro e w' ⟨rfl, rfl⟩)
    | (go_at_call 18; refine (live_any _).mono ?_; rintro e w3 ⟨rfl, hx3⟩))
  go_ret
  exact ⟨rfl, (by repeat (first | assumption | exact Ext.refl _ | (with_reducible refine Ext.alloc ?_ _) | (with_reducible refine Ext.drew ?_) | refine Ext.trans ?_ (by assumption)))⟩

/-! ### StampOrders -/
theorem cmp_less (a b : St) : (St.less a b = true ∧ St.less b a = false ∧ St.cmp a b = -1) ∨ (St.less a b = false ∧ St.less b a = true ∧ St.cmp a b = 1) ∨ (St.less a b = false ∧ St.less b a = false ∧ St.cmp a b = 0 ∧ a = b) := by
  obtain ⟨t, n⟩ := a
  obtain ⟨u, m⟩ := b
  unfold St.less St.cmp orV cmpI
  dsimp only
  by_cases h1 : t < u
  · left; simp [h1]; omega
  · by_cases h2 : u < t
    · right; left; simp [h1, h2]; omega
    · obtain rfl : t = u := by omega
      by_cases h3 : n < m
      · left; simp [h3]; omega
      · by_cases h4 : m < n
        · right; left; simp [h3, h4]
        · obtain rfl : n = m := by omega
          right; right; simp

theorem keep4 {W w1 w2 : World} {p1 p2 p3 p4 : Addr} {v1 v2 v3 v4 : Value} (b1 : p1.block < W.heap.size) (b2 : p2.block < W.heap.size) (b3 : p3.block < W.heap.size) (b4 : p4.block < W.heap.size)
    (h : w1.cell? p1 = some v1 ∧ w1.cell? p2 = some v2 ∧ w1.cell? p3 = some v3 ∧ w1.cell? p4 = some v4 ∧ Ext W w1) (hx : Ext w1 w2) :
    w2.cell? p1 = some v1 ∧ w2.cell? p2 = some v2 ∧ w2.cell? p3 = some v3 ∧ w2.cell? p4 = some v4 ∧ Ext W w2 := by
  obtain ⟨h1, h2, h3, h4, hW⟩ := h
  exact ⟨hx.cell (hW.lt b1) h1, hx.cell (hW.lt b2) h2, hx.cell (hW.lt b3) h3, hx.cell (hW.lt b4) h4, hW.trans hx⟩

theorem two_box (w : World) (a b : St) (t : TypeId) (B : Nat) (hB : w.heap.size = B) : let W := (w.alloc (.cells #[.int .i64 a.t, .int .i64 a.n] t)).alloc (.cells #[.int .i64 b.t, .int .i64 b.n] t)
    W.cell? ⟨B, 0, none⟩ = some (.int .i64 a.t) ∧ W.cell? ⟨B, 1, none⟩ = some (.int .i64 a.n) ∧ W.cell? ⟨B + 1, 0, none⟩ = some (.int .i64 b.t) ∧ W.cell? ⟨B + 1, 1, none⟩ = some (.int .i64 b.n) ∧ B + 1 < W.heap.size ∧ Ext w W := by
  subst hB
  intro W
  exact ⟨by simp [W], by simp [W], by simp [W], by simp [W], by simp [W], ((Ext.refl _).alloc _).alloc _⟩

set_option maxHeartbeats 1000000 in
set_option maxRecDepth 100000 in
theorem stampOrders_core (a b : St) (x y : Bool) (z : Int) (w : World) (h1 : St.less a b = x) (h2 : St.less b a = y) (h3 : St.cmp a b = z) (hz : x = true ∧ y = false ∧ z = -1 ∨ x = false ∧ y = true ∧ z = 1 ∨ x = false ∧ y = false ∧ z = 0) :
    Calls Try.prog 3 #[.agg #[.int .i64 (a).t, .int .i64 (a).n], .agg #[.int .i64 (b).t, .int .i64 (b).n]] w fun e w' => e = .returned (.bool true) ∧ Ext w w' := by
  have hok : (a.ok = true ∧ a.chk = 0) ∨ (a.ok = false ∧ a.chk = 10) := by
    unfold St.chk; cases a.ok <;> simp
  obtain ⟨e1, e2, e3, e4, hl, hx0⟩ := two_box w a b 23 _ rfl
  have hl' : w.heap.size < ((w.alloc (.cells #[.int .i64 a.t, .int .i64 a.n] 23)).alloc (.cells #[.int .i64 b.t, .int .i64 b.n] 23)).heap.size := by omega
  have c1 := fun w => rless_any a b w
  have c2 := fun w => rless_any b a w
  have c3 := fun w => check_any a w
  have c4 := fun w => ris_any a w
  have c5 := fun w => compare_any a b w
  rw [h3] at c5
  rw [h1] at c1
  rw [h2] at c2
  rcases hz with ⟨rfl, rfl, rfl⟩ | ⟨rfl, rfl, rfl⟩ | ⟨rfl, rfl, rfl⟩
  all_goals
    rcases hok with ⟨o1, o2⟩ | ⟨o1, o2⟩
    all_goals
      rw [o2] at c3
      rw [o1] at c4
      clear h1 h2 h3 o1 o2
      go_enter Try.func3, Try.ntmps3
      go_wp2_with fail
      refine (c1 _).mono ?_
      rintro e w1 ⟨rfl, hx1⟩
      replace e1 := hx1.cell hl' e1
      replace e2 := hx1.cell hl' e2
      replace e3 := hx1.cell hl e3
      replace e4 := hx1.cell hl e4
      replace hl := hx1.lt hl
      replace hl' := hx1.lt hl'
      go_wp2_with fail
      refine (c2 _).mono ?_
      rintro e w2 ⟨rfl, hx2⟩
      replace e1 := hx2.cell hl' e1
      replace e2 := hx2.cell hl' e2
      replace e3 := hx2.cell hl e3
      replace e4 := hx2.cell hl e4
      replace hl := hx2.lt hl
      replace hl' := hx2.lt hl'
      clear c1 c2
      go_wp2_with fail
      refine wp_region_in w2 (by kernel_rfl) (by kernel_rfl) (Ext.refl _) ?_
      repeat (refine wpQuiet_step (fun K hK => ?_); go_simp; first | (refine hK _ ?_; clear hK K) | (apply Exists.intro; refine ⟨fun w' hw' => ?_, hK _ ?_⟩; (first | (go_at_call 15; exact qcall hw' (c3 _)) | (go_at_call 14; exact qcall_same hw' (num_any _ _)) | (go_at_call 16; exact qcall hw' (c4 _)) | (go_at_call 17; exact qcall hw' (c5 _)) | (go_at_call 18; exact qcall hw' (live_any _)) |  (have f1 := hw'.cell hl' e1; have f2 := hw'.cell hl' e2; have f3 := hw'.cell hl e3; have f4 := hw'.cell hl e4; go_simp; rfl)); clear hK K))
      refine wpQuiet_nil ?_
      intro w3 hx3
      go_wp2
      go_ret
      exact ⟨rfl, hx0.trans (hx1.trans (hx2.trans hx3))⟩

theorem stampOrders_walk (a b : St) (w : World) (_wa : StIn a) (_wb : StIn b) :
    Calls Try.prog 3 #[.agg #[.int .i64 (a).t, .int .i64 (a).n], .agg #[.int .i64 (b).t, .int .i64 (b).n]] w fun e w' => e = .returned (.bool true) ∧ Ext w w' := by
  rcases cmp_less a b with ⟨h1, h2, h3⟩ | ⟨h1, h2, h3⟩ | ⟨h1, h2, h3, _⟩
  · exact stampOrders_core a b _ _ (-1) w h1 h2 h3 (.inl ⟨rfl, rfl, rfl⟩)
  · exact stampOrders_core a b _ _ 1 w h1 h2 h3 (.inr (.inl ⟨rfl, rfl, rfl⟩))
  · exact stampOrders_core a b _ _ 0 w h1 h2 h3 (.inr (.inr ⟨rfl, rfl, rfl⟩))
end Go.Proofs.Ytnhdjaegkccmaaa
