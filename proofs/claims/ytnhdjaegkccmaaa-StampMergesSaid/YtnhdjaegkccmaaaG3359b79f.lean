/- Texts of the proofs of StampMerges, merged (StD). -/
import Derived.Deep.RegionHeld3
import Derived.Test.YtnhdjaegkccmaaaGf8a1be9d
import Derived.Test.YtnhdjaegkccmaaaG6fd917f9
import Derived.Test.YtnhdjaegkccmaaaG70b67bd7
import Derived.Test.YtnhdjaegkccmaaaGe8422621
namespace Go.Proofs.Ytnhdjaegkccmaaa
open Go.RowKit
theorem after53 : afterS 2 [⟨5, 3⟩] = ⟨6, 2⟩ ∧ afterE 2 [⟨5, 3⟩] = 0 := by decide
theorem sts_one (w : World) (a b : Int) (t : TypeId) : Sts (w.alloc (.cells #[.int .i64 a, .int .i64 b] t)) (some ⟨w.heap.size, 0, none⟩) [⟨a, b⟩] := by
  refine Sts.of_cells (by simp) ?_
  show ∀ j u, [Value.int .i64 a, .int .i64 b][j]? = some u → _
  exact cell_two_new _ _ _ _
theorem after_live (w : World) :
    Calls Try.prog 19 #[.int .i64 2, .slice (some ⟨w.heap.size, 0, none⟩) 1 1] (w.alloc (.cells #[.int .i64 5, .int .i64 3] 23)) fun e w' => e = .returned (.tuple #[.agg #[.int .i64 6, .int .i64 2], .int .i64 0]) ∧ Ext (w.alloc (.cells #[.int .i64 5, .int .i64 3] 23)) w' := by
  have h := after_any 2 [⟨5, 3⟩] (some ⟨w.heap.size, 0, none⟩) 1 (w.alloc (.cells #[.int .i64 5, .int .i64 3] 23)) (by simp) (by simp) (fun h => by cases h) (sts_one _ _ _ _)
  rw [after53.1, after53.2] at h
  exact h
theorem see_live (g b : Nat) (w : World) (hb : w.heap.size = b) (hc : Clk w g 1 5) :
    Calls Try.prog 28 #[.pointer (some ⟨g, 0, none⟩), .slice (some ⟨b, 0, none⟩) 1 1] (w.alloc (.cells #[.int .i64 9, .int .i64 2] 23)) fun e w' => e = .returned (.tuple #[]) ∧ Chg g (w.alloc (.cells #[.int .i64 9, .int .i64 2] 23)) w' ∧ Clk w' g 1 9 := by
  subst hb
  have hg := hc.lt
  exact see_some g 1 5 [⟨9, 2⟩] (some ⟨w.heap.size, 0, none⟩) 1 (w.alloc (.cells #[.int .i64 9, .int .i64 2] 23)) (by simp) (sts_one _ _ _ _) (fun ad h => by injection h with h; subst h; simp; omega) (hc.alloc _)
theorem live_chk : (⟨0, 0⟩ : St).chk = 10 := by decide
theorem live_cmp : St.cmp ⟨5, 1⟩ ⟨10, 1⟩ = -1 := by decide
set_option maxHeartbeats 1000000 in
set_option maxRecDepth 100000 in
theorem live_any (w : World) :
    Calls Try.prog 18 #[] w fun e w' => e = .returned (.bool true) ∧ Ext w w' := by
  have kc := live_chk
  have kd := live_cmp
  go_enter Try.func18, Try.ntmps18
  go_wp2_with (first
    | (go_at_call 19; refine (after_live _).mono ?_; rintro e w1 ⟨rfl, hx1⟩)
    | (go_at_call 25; refine (new_ok 1 4 _ (by decide)).mono ?_; rintro e w2 ⟨rfl, rfl⟩)
    | (go_at_call 14; refine (num_any _ _).mono ?_; rintro e w' ⟨rfl, rfl⟩))
  have hcl : Clk ((w1.alloc (.cells #[.int .i64 6, .int .i64 2] 23)).alloc (.cells #[.int .i64 1, .int .i64 4] 73)) (w1.heap.size + 1) 1 4 := by
    simpa using Blk.new (w1.alloc (.cells #[.int .i64 6, .int .i64 2] 23)) 73 #[.int .i64 1, .int .i64 4]
  have hb1 : Blk ((w1.alloc (.cells #[.int .i64 6, .int .i64 2] 23)).alloc (.cells #[.int .i64 1, .int .i64 4] 73)) w1.heap.size 23 #[.int .i64 6, .int .i64 2] := (Blk.new _ _ _).alloc _
  have hx : Ext w ((w1.alloc (.cells #[.int .i64 6, .int .i64 2] 23)).alloc (.cells #[.int .i64 1, .int .i64 4] 73)) := ((((Ext.refl w).alloc _).trans hx1).alloc _).alloc _
  have hw1 : w.heap.size + 1 ≤ w1.heap.size := by have := hx1.size; simpa using this
  refine (now_some _ 1 4 _ hcl (by decide) (by decide)).mono ?_
  rintro e w3 ⟨rfl, hc3, hk3⟩
  replace hx := hx.chg hc3 (by omega)
  replace hb1 := Chg.blk hb1 hc3 (by omega)
  have hb3 := Blk.new w3 23 #[.int .i64 5, .int .i64 1]
  have hg3 := hk3.lt
  have hk3' : Clk w3 (w1.heap.size + 1) 1 5 := hk3
  have hk3'' := hk3'.alloc (.cells #[.int .i64 5, .int .i64 1] 23)
  clear hcl hc3 hx1 hk3 hk3'
  go_wp2_with (go_at_call 28; refine (see_live _ _ _ (by simp) hk3'').mono ?_; rintro e w4 ⟨rfl, hc4, hk4⟩)
  replace hx := ((hx.alloc _).alloc _).chg hc4 (by omega)
  replace hb1 := Chg.blk ((hb1.alloc _).alloc _) hc4 (by omega)
  replace hb3 := Chg.blk (hb3.alloc _) hc4 (by omega)
  clear hc4 hk3''
  refine (now_some _ 1 9 _ hk4 (by decide) (by decide)).mono ?_
  rintro e w5 ⟨rfl, hc5, hk5⟩
  replace hx := hx.chg hc5 (by omega)
  replace hb1 := Chg.blk hb1 hc5 (by omega)
  replace hb3 := Chg.blk hb3 hc5 (by omega)
  have hb5 := Blk.new w5 23 #[.int .i64 10, .int .i64 1]
  clear hc5 hk4 hk5
  replace hx := hx.alloc (.cells #[.int .i64 10, .int .i64 1] 23)
  replace hb1 := hb1.alloc (.cells #[.int .i64 10, .int .i64 1] 23)
  replace hb3 := hb3.alloc (.cells #[.int .i64 10, .int .i64 1] 23)
  have d1 : (w5.alloc (.cells #[.int .i64 10, .int .i64 1] 23)).cell? ⟨w1.heap.size, 0, none⟩ = some (.int .i64 6) := hb1.cell 0
  have d2 : (w5.alloc (.cells #[.int .i64 10, .int .i64 1] 23)).cell? ⟨w1.heap.size, 1, none⟩ = some (.int .i64 2) := hb1.cell 1
  have d3 : (w5.alloc (.cells #[.int .i64 10, .int .i64 1] 23)).cell? ⟨w3.heap.size, 0, none⟩ = some (.int .i64 5) := hb3.cell 0
  have d4 : (w5.alloc (.cells #[.int .i64 10, .int .i64 1] 23)).cell? ⟨w3.heap.size, 1, none⟩ = some (.int .i64 1) := hb3.cell 1
  have d5 : (w5.alloc (.cells #[.int .i64 10, .int .i64 1] 23)).cell? ⟨w5.heap.size, 0, none⟩ = some (.int .i64 10) := hb5.cell 0
  have d6 : (w5.alloc (.cells #[.int .i64 10, .int .i64 1] 23)).cell? ⟨w5.heap.size, 1, none⟩ = some (.int .i64 1) := hb5.cell 1
  have hl1 := hb1.lt
  have hl3 := hb3.lt
  have hl5 := hb5.lt
  clear hb1 hb3 hb5
  go_wp2_with (first
    | (go_at_call 14; refine (num_any _ _).mono ?_; rintro e w' ⟨rfl, rfl⟩)
    | (go_at_call 15; refine (check_any ⟨0, 0⟩ _).mono ?_; rintro e w6 ⟨rfl, hx6⟩; have f3 := hx6.cell hl3 d3; have f4 := hx6.cell hl3 d4; have f5 := hx6.cell hl5 d5; have f6 := hx6.cell hl5 d6)
    | (go_at_call 17; refine (compare_any ⟨5, 1⟩ ⟨10, 1⟩ _).mono ?_; rintro e w7 ⟨rfl, hx7⟩))
  go_ret
  exact ⟨rfl, (by repeat (first | assumption | exact Ext.refl _ | (with_reducible refine Ext.alloc ?_ _) | (with_reducible refine Ext.drew ?_) | refine Ext.trans ?_ (by assumption)))⟩
end Go.Proofs.Ytnhdjaegkccmaaa
