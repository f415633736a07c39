/- Texts of the proofs of SpanAway, SpanEach, SpanOrder, SpanPoints, SpanSets, merged (PxspanLess). -/
import Derived.Test.YtjimijpkhmpilaaGa0d5d060
import Derived.Test.YtjimijpkhmpilaaGac77b561
-- printed by a program of this session (wip/hp.py over the kit's print)
namespace Go.Proofs.Ytjimijpkhmpilaa.P
open Go.RowKit Go.Proofs.YtjimijpkhmpilaaW.PrintWords Go.Proofs.YtjimijpkhmpilaaW.PrintLast Go.Proofs.YtjimijpkhmpilaaW.PrintMore
attribute [local go_sem] str_leq str_gtr str_geq max2_str max2_int min2_int max_two min_two max_three min_three max_four min_four   -- for this text's walks alone
set_option linter.unusedVariables false
set_option linter.unusedSimpArgs false

/-! ### span_Less: function 18 -/
mutual
def span_Less.l0 : Nat → List (S34) → List (S34) → List (S34) → Int → Int → Option ((List (S34)))
  | 0, _, _, _, _, _ => none
  | k + 1, x1, x4, x11, x12, x13 => if x13 < x12 then (if 0 ≤ x13 then (if x13 < (x11.length : Int) then (span_Less.l1 k x1 x4 true x11 x12 x13 x1 (x1.length : Int) 0 ((rd_T34 x11 x13).f0) ((rd_T34 x11 x13).f1)) else (none)) else (none)) else (some x4)
def span_Less.l1 : Nat → List (S34) → List (S34) → Bool → List (S34) → Int → Int → List (S34) → Int → Int → ByteArray → ByteArray → Option ((List (S34)))
  | 0, _, _, _, _, _, _, _, _, _, _, _ => none
  | k + 1, x1, x4, x8, x11, x12, x13, x18, x19, x20, x109000, x109001 => if x20 < x19 then (if 0 ≤ x20 then (if x20 < (x18.length : Int) then (if x8 = true then ((span_end_before.f ((rd_T34 x18 x20).f1) x109000).bind fun t114 => (span_Less.j2 k x1 x4 x8 x11 x12 x13 x18 x19 x20 t114 x109000 x109001 ((rd_T34 x18 x20).f0) ((rd_T34 x18 x20).f1))) else (span_Less.j2 k x1 x4 x8 x11 x12 x13 x18 x19 x20 true x109000 x109001 ((rd_T34 x18 x20).f0) ((rd_T34 x18 x20).f1))) else (none)) else (none)) else (if x8 = true then (if x4.length < 4398046511104 then (span_Less.l0 k x1 (x4 ++ [(⟨x109000, x109001⟩ : S34)]) x11 x12 (wrap64 (x13 + 1))) else (none)) else (span_Less.l0 k x1 x4 x11 x12 (wrap64 (x13 + 1))))
def span_Less.j2 : Nat → List (S34) → List (S34) → Bool → List (S34) → Int → Int → List (S34) → Int → Int → Bool → ByteArray → ByteArray → ByteArray → ByteArray → Option ((List (S34)))
  | 0, _, _, _, _, _, _, _, _, _, _, _, _, _, _ => none
  | k + 1, x1, x4, x8, x11, x12, x13, x18, x19, x20, x32, x109000, x109001, x114000, x114001 => if x32 = true then (span_Less.l1 k x1 x4 x8 x11 x12 x13 x18 x19 (wrap64 (x20 + 1)) x109000 x109001) else ((span_end_before.f x109001 x114000).bind fun t115 => (if t115 = true then (if x8 = true then (if x4.length < 4398046511104 then (span_Less.l0 k x1 (x4 ++ [(⟨x109000, x109001⟩ : S34)]) x11 x12 (wrap64 (x13 + 1))) else (none)) else (span_Less.l0 k x1 x4 x11 x12 (wrap64 (x13 + 1)))) else (if (Op.bytesLess x109000.toList x114000.toList) = true then (if x4.length < 4398046511104 then ((some (x4 ++ [(⟨x109000, x114000⟩ : S34)] : List (S34))).bind fun y119 => (if x114001.toList = ([] : List UInt8) then (span_Less.l1 k x1 y119 false x11 x12 x13 x18 x19 (wrap64 (x20 + 1)) x114001 x109001) else (if x109001.toList = ([] : List UInt8) then (span_Less.l1 k x1 y119 true x11 x12 x13 x18 x19 (wrap64 (x20 + 1)) x114001 x109001) else (span_Less.l1 k x1 y119 (Op.bytesLess x114001.toList x109001.toList) x11 x12 x13 x18 x19 (wrap64 (x20 + 1)) x114001 x109001)))) else (none)) else (if x114001.toList = ([] : List UInt8) then (span_Less.l1 k x1 x4 false x11 x12 x13 x18 x19 (wrap64 (x20 + 1)) x114001 x109001) else (if x109001.toList = ([] : List UInt8) then (span_Less.l1 k x1 x4 true x11 x12 x13 x18 x19 (wrap64 (x20 + 1)) x114001 x109001) else (span_Less.l1 k x1 x4 (Op.bytesLess x114001.toList x109001.toList) x11 x12 x13 x18 x19 (wrap64 (x20 + 1)) x114001 x109001))))))
end
def span_Less.f (k : Nat) (l0 : List (S34)) (l1 : List (S34)) : Option ((List (S34))) := span_Less.l0 k l1 ([] : List (S34)) l0 (l0.length : Int) 0
theorem span_Less.mono_l : ∀ k, (∀ y0 y1 y2 y3 y4, LeO (span_Less.l0 k y0 y1 y2 y3 y4) (span_Less.l0 (k + 1) y0 y1 y2 y3 y4)) ∧ (∀ y0 y1 y2 y3 y4 y5 y6 y7 y8 y9 y10, LeO (span_Less.l1 k y0 y1 y2 y3 y4 y5 y6 y7 y8 y9 y10) (span_Less.l1 (k + 1) y0 y1 y2 y3 y4 y5 y6 y7 y8 y9 y10)) ∧ (∀ y0 y1 y2 y3 y4 y5 y6 y7 y8 y9 y10 y11 y12 y13, LeO (span_Less.j2 k y0 y1 y2 y3 y4 y5 y6 y7 y8 y9 y10 y11 y12 y13) (span_Less.j2 (k + 1) y0 y1 y2 y3 y4 y5 y6 y7 y8 y9 y10 y11 y12 y13))
  | 0 => ⟨fun _ _ _ _ _ r h => by simp [span_Less.l0] at h, fun _ _ _ _ _ _ _ _ _ _ _ r h => by simp [span_Less.l1] at h, fun _ _ _ _ _ _ _ _ _ _ _ _ _ _ r h => by simp [span_Less.j2] at h⟩
  | k + 1 => by
    obtain ⟨ih0, ih1, ih2⟩ := span_Less.mono_l k
    refine ⟨?_, ?_, ?_⟩
    · intro y0 y1 y2 y3 y4
      unfold span_Less.l0
      repeat' first
      | (with_reducible exact ih0 _ _ _ _ _)
      | (with_reducible exact ih1 _ _ _ _ _ _ _ _ _ _ _)
      | (with_reducible exact ih2 _ _ _ _ _ _ _ _ _ _ _ _ _ _)
      | (with_reducible exact LeO.refl _)
      | (with_reducible exact LeO.none _)
      | (with_reducible refine LeO.ite ?_ ?_)
      | (with_reducible refine LeO.bind ?_ (fun _ => ?_))
      | exact ih0 _ _ _ _ _
      | exact ih1 _ _ _ _ _ _ _ _ _ _ _
      | exact ih2 _ _ _ _ _ _ _ _ _ _ _ _ _ _
      | exact LeO.none _
      | refine LeO.ite ?_ ?_
      | refine LeO.bind ?_ (fun _ => ?_)
    · intro y0 y1 y2 y3 y4 y5 y6 y7 y8 y9 y10
      unfold span_Less.l1
      repeat' first
      | (with_reducible exact ih0 _ _ _ _ _)
      | (with_reducible exact ih1 _ _ _ _ _ _ _ _ _ _ _)
      | (with_reducible exact ih2 _ _ _ _ _ _ _ _ _ _ _ _ _ _)
      | (with_reducible exact LeO.refl _)
      | (with_reducible exact LeO.none _)
      | (with_reducible refine LeO.ite ?_ ?_)
      | (with_reducible refine LeO.bind ?_ (fun _ => ?_))
      | exact ih0 _ _ _ _ _
      | exact ih1 _ _ _ _ _ _ _ _ _ _ _
      | exact ih2 _ _ _ _ _ _ _ _ _ _ _ _ _ _
      | exact LeO.none _
      | refine LeO.ite ?_ ?_
      | refine LeO.bind ?_ (fun _ => ?_)
    · intro y0 y1 y2 y3 y4 y5 y6 y7 y8 y9 y10 y11 y12 y13
      unfold span_Less.j2
      repeat' first
      | (with_reducible exact ih0 _ _ _ _ _)
      | (with_reducible exact ih1 _ _ _ _ _ _ _ _ _ _ _)
      | (with_reducible exact ih2 _ _ _ _ _ _ _ _ _ _ _ _ _ _)
      | (with_reducible exact LeO.refl _)
      | (with_reducible exact LeO.none _)
      | (with_reducible refine LeO.ite ?_ ?_)
      | (with_reducible refine LeO.bind ?_ (fun _ => ?_))
      | exact ih0 _ _ _ _ _
      | exact ih1 _ _ _ _ _ _ _ _ _ _ _
      | exact ih2 _ _ _ _ _ _ _ _ _ _ _ _ _ _
      | exact LeO.none _
      | refine LeO.ite ?_ ?_
      | refine LeO.bind ?_ (fun _ => ?_)
theorem span_Less.mono : ∀ a0 a1 k, LeO (span_Less.f k a0 a1) (span_Less.f (k + 1) a0 a1) := by
  intro a0 a1 k
  obtain ⟨ih0, ih1, ih2⟩ := span_Less.mono_l k
  unfold span_Less.f
  repeat' first
      | (with_reducible exact ih0 _ _ _ _ _)
      | (with_reducible exact ih1 _ _ _ _ _ _ _ _ _ _ _)
      | (with_reducible exact ih2 _ _ _ _ _ _ _ _ _ _ _ _ _ _)
      | (with_reducible exact LeO.refl _)
      | (with_reducible exact LeO.none _)
      | (with_reducible refine LeO.ite ?_ ?_)
      | (with_reducible refine LeO.bind ?_ (fun _ => ?_))
      | exact ih0 _ _ _ _ _
      | exact ih1 _ _ _ _ _ _ _ _ _ _ _
      | exact ih2 _ _ _ _ _ _ _ _ _ _ _ _ _ _
      | exact LeO.none _
      | refine LeO.ite ?_ ?_
      | refine LeO.bind ?_ (fun _ => ?_)
set_option maxHeartbeats 8000000 in
set_option maxRecDepth 100000 in
theorem span_Less.calls (k : Nat) (A0 : Option Addr) (c0 : Nat) (l0 : List (S34)) (A1 : Option Addr) (c1 : Nat) (l1 : List (S34)) (r : List (S34)) (w : World) (hr0 : Kd.C k34 w A0 l0.length l0) (hc0 : l0.length ≤ c0) (hr1 : Kd.C k34 w A1 l1.length l1) (hc1 : l1.length ≤ c1) (h : span_Less.f k l0 l1 = some r) :
    Calls Try.prog 18 #[.slice A0 l0.length c0, .slice A1 l1.length c1] w fun e w' => ∃ v0_ : Value, e = .returned (v0_) ∧ Kd.R k34 34 w' w.heap.size (fun _ => True) v0_ r ∧ Below w.heap.size w w' := by
  have hu34 := Try.underlying34
  have HR0 := Aside0.mk hr0
  have HC0 := Aside0.mk hc0
  clear hr0 hc0
  have HR1 := Aside0.mk hr1
  have HC1 := Aside0.mk hc1
  clear hr1 hc1
  have HB := Aside0.mk (Below.refl w.heap.size w)
  have H : (span_Less.l0 k l1 ([] : List (S34)) l0 (l0.length : Int) 0) = some r := h
  clear h
  have H' := Aside0.mk H
  clear H
  go_enter Try.func18, Try.ntmps18
  go_wp2
  go_loopg [4, 13] k (fun kq v4 v13 w' => ∃ (x4_1 : List (S34)) (x13_1 : Int), v13 = .int .i64 x13_1 ∧ Aside0 (span_Less.l0 kq l1 x4_1 l0 (l0.length : Int) x13_1 = some r) ∧ Aside0 (kq ≤ k) ∧ Aside0 (Kd.R k34 34 w' w.heap.size (fun _ => True) v4 x4_1) ∧ Aside0 (Below w.heap.size w w'))
  case atStart => exact ⟨(([] : List (S34))), (0), (by first | rfl | (simp; done) | (simp [*]; done)), H', ⟨Nat.le_refl _⟩, ⟨by first | exact Kd.R_nil _ _ _ _ _ | exact Kd.N_nil _ _ _ _ _ | exact Kd.V_nil _ _ _ _ _ | exact Kd.Q_nil _ _ _ _ _ | exact Kd.S_nil _ _ _ _ _⟩, ⟨by repeat (first | (with_reducible first | exact HB.out | apply below_alloc | apply pw_below_drewN | apply below_drew1) | exact HB.out)⟩⟩
  case round =>
    clear H'
    try clear c1
    try clear p2
    obtain ⟨x4_1, x13_1, rfl, HA, HK1, HO_4, HB⟩ := hrel
    cases gk with
    | zero => exact absurd HA.out (by simp [span_Less.l0])
    | succ k1 =>
      have H := HA.out
      clear HA
      simp only [span_Less.l0] at H
      by_cases c3 : x13_1 < (l0.length : Int)
      · rw [if_pos c3] at H
        have c3b0 : decide (x13_1 < (l0.length : Int)) = true := decide_eq_true c3
        clear c3
        by_cases c4 : 0 ≤ x13_1
        · rw [if_pos c4] at H
          have c4b0 : decide (0 ≤ x13_1) = true := decide_eq_true c4
          clear c4
          by_cases c5 : x13_1 < (l0.length : Int)
          · rw [if_pos c5] at H
            have c5b0 : decide (x13_1 < (l0.length : Int)) = true := decide_eq_true c5
            clear c5
            have H' := Aside0.mk H
            clear H
            have p106 : 0 ≤ (x13_1 : Int) := of_decide_eq_true (by first | (with_reducible assumption) | assumption)
            have q106 : x13_1 < (l0.length : Int) := of_decide_eq_true (by first | (with_reducible assumption) | assumption)
            obtain ⟨ad106, e106, hx106_0, hx106_1⟩ := at_T34 HR0.out x13_1 p106 q106
            cases e106
            replace hx106_0 := (HB.out.cell (World.block_lt_of_cell? w _ hx106_0)).trans hx106_0
            replace hx106_1 := (HB.out.cell (World.block_lt_of_cell? w _ hx106_1)).trans hx106_1
            replace p106 := eq_true p106
            replace q106 := eq_true q106
            go_wp2_with (first | ((with_reducible refine gate_dst (N := 6) rfl ?_); refine box_event ?hg (N := 6) ?hd (cs := #[.string (⟨#[]⟩ : ByteArray), .string (⟨#[]⟩ : ByteArray)]) (t := 34) ?hr ?_; (case hd => rfl); (case hg => rfl); (case hr => first | (go_simp; done) | (go_simp; rfl)); intro gb107 hg w6 hbox hb; replace HO_4 := Aside0.mk (Kd.R_below (Kd.R_elderB (uR HO_4) gb107 (Nat.le_of_eq hg.symm)) hb); have BK107 := Aside0.mk (hbox); have GW107 := Aside0.mk ((by rw [hg]; exact (below_size (uB HB)) : w.heap.size ≤ gb107)); have GE107 := Aside0.mk ((by rw [hg]; exact (below_size (uB HB)) : w.heap.size ≤ gb107)); replace HB := sB HB hb; clear hb hbox hg; have hcz7_0 : w6.cell? ⟨gb107, 0, none⟩ = some (.string (⟨#[]⟩ : ByteArray)) := (blk_cell BK107.out 0).trans rfl; have hcz7_1 : w6.cell? ⟨gb107, 1, none⟩ = some (.string (⟨#[]⟩ : ByteArray)) := (blk_cell BK107.out 1).trans rfl; have hfz7_0 := blk_frozen BK107.out 0; have hfz7_1 := blk_frozen BK107.out 1) | ((with_reducible refine gate_dst (N := 7) rfl ?_); refine box_event ?hg (N := 7) ?hd (cs := #[.string (⟨#[]⟩ : ByteArray), .string (⟨#[]⟩ : ByteArray)]) (t := 34) ?hr ?_; (case hd => rfl); (case hg => rfl); (case hr => first | (go_simp; done) | (go_simp; rfl)); intro gb108 hg w8 hbox hb; replace HO_4 := Aside0.mk (Kd.R_below (Kd.R_elderB (by (with_reducible repeat (first | apply Kd.R_alloc | apply Kd.R_drewN | apply Kd.R_drew)); exact (Kd.R_mono (Kd.R_far (p := ⟨gb107, 1, none⟩) (Kd.R_far (p := ⟨gb107, 0, none⟩) (Kd.R_mono HO_4.out (fun k_ hk => (⟨hk, hk.2⟩ : _ ∧ k_ ≠ gb107))) (fun _ hk => hk.2) (.string ((rd_T34 l0 x13_1).f0))) (fun _ hk => hk.2) (.string ((rd_T34 l0 x13_1).f1))) (fun _ h_ => h_.1))) gb108 (Nat.le_of_eq hg.symm)) hb); have BK108 := Aside0.mk (hbox); have GW108 := Aside0.mk ((by rw [hg]; exact (below_size (by repeat (first | (with_reducible first | exact HB.out | apply below_alloc | apply pw_below_drewN | apply below_drew1 | refine below_set ?_ GE107.out) | exact HB.out))) : w.heap.size ≤ gb108)); have GE108 := Aside0.mk ((by rw [hg]; exact (below_size (by repeat (first | (with_reducible first | exact HB.out | apply below_alloc | apply pw_below_drewN | apply below_drew1 | refine below_set ?_ GE107.out) | exact HB.out))) : w.heap.size ≤ gb108)); replace HB := Aside0.mk (below_step (by repeat (first | (with_reducible first | exact HB.out | apply below_alloc | apply pw_below_drewN | apply below_drew1 | refine below_set ?_ GE107.out) | exact HB.out)) hb); have NB107_108 := Aside0.mk ((by rw [hg]; exact Nat.ne_of_lt (blk_lt (g := gb107) (o := .cells #[.string ((rd_T34 l0 x13_1).f0), .string ((rd_T34 l0 x13_1).f1)] 34 (0, 0)) (by (with_reducible repeat (first | refine blk_drewN ?_ _ | refine blk_drew ?_ | refine blk_alloc ?_ _)); refine blk_put (cs := #[.string ((rd_T34 l0 x13_1).f0), .string (⟨#[]⟩ : ByteArray)]) ?_ 1 _ rfl; (with_reducible repeat (first | refine blk_drewN ?_ _ | refine blk_drew ?_ | refine blk_alloc ?_ _)); refine blk_put (cs := #[.string (⟨#[]⟩ : ByteArray), .string (⟨#[]⟩ : ByteArray)]) ?_ 0 _ rfl; (with_reducible repeat (first | refine blk_drewN ?_ _ | refine blk_drew ?_ | refine blk_alloc ?_ _)); exact BK107.out)) : gb107 ≠ gb108)); have NB108_107 := Aside0.mk ((by rw [hg]; exact Nat.ne_of_gt (blk_lt (g := gb107) (o := .cells #[.string ((rd_T34 l0 x13_1).f0), .string ((rd_T34 l0 x13_1).f1)] 34 (0, 0)) (by (with_reducible repeat (first | refine blk_drewN ?_ _ | refine blk_drew ?_ | refine blk_alloc ?_ _)); refine blk_put (cs := #[.string ((rd_T34 l0 x13_1).f0), .string (⟨#[]⟩ : ByteArray)]) ?_ 1 _ rfl; (with_reducible repeat (first | refine blk_drewN ?_ _ | refine blk_drew ?_ | refine blk_alloc ?_ _)); refine blk_put (cs := #[.string (⟨#[]⟩ : ByteArray), .string (⟨#[]⟩ : ByteArray)]) ?_ 0 _ rfl; (with_reducible repeat (first | refine blk_drewN ?_ _ | refine blk_drew ?_ | refine blk_alloc ?_ _)); exact BK107.out)) : gb108 ≠ gb107)); replace BK107 := Aside0.mk (blk_below (g := gb107) (o := .cells #[.string ((rd_T34 l0 x13_1).f0), .string ((rd_T34 l0 x13_1).f1)] 34 (0, 0)) (by (with_reducible repeat (first | refine blk_drewN ?_ _ | refine blk_drew ?_ | refine blk_alloc ?_ _)); refine blk_put (cs := #[.string ((rd_T34 l0 x13_1).f0), .string (⟨#[]⟩ : ByteArray)]) ?_ 1 _ rfl; (with_reducible repeat (first | refine blk_drewN ?_ _ | refine blk_drew ?_ | refine blk_alloc ?_ _)); refine blk_put (cs := #[.string (⟨#[]⟩ : ByteArray), .string (⟨#[]⟩ : ByteArray)]) ?_ 0 _ rfl; (with_reducible repeat (first | refine blk_drewN ?_ _ | refine blk_drew ?_ | refine blk_alloc ?_ _)); exact BK107.out) hb); clear hb hbox hg; have hnb9 := NB108_107.out; have hnc9 := NB107_108.out; have hcz10_0 : w8.cell? ⟨gb108, 0, none⟩ = some (.string (⟨#[]⟩ : ByteArray)) := (blk_cell BK108.out 0).trans rfl; have hcz10_1 : w8.cell? ⟨gb108, 1, none⟩ = some (.string (⟨#[]⟩ : ByteArray)) := (blk_cell BK108.out 1).trans rfl; have hfz10_0 := blk_frozen BK108.out 0; have hfz10_1 := blk_frozen BK108.out 1))
            go_loopg [4, 8, 20] k1 (fun kq v4 v8 v20 w' => ∃ (x4_2 : List (S34)) (x8_2 : Bool) (x20_2 : Int) (x109000_2 : ByteArray), v8 = .bool x8_2 ∧ v20 = .int .i64 x20_2 ∧ Aside0 (span_Less.l1 kq l1 x4_2 x8_2 l0 (l0.length : Int) x13_1 l1 (l1.length : Int) x20_2 x109000_2 ((rd_T34 l0 x13_1).f1) = some r) ∧ Aside0 (kq ≤ k1) ∧ Aside0 (Kd.R k34 34 w' w.heap.size (fun k_ => k_ ≠ gb107 ∧ k_ ≠ gb108) v4 x4_2) ∧ Aside0 (w'.heap[gb107]? = some (.cells #[.string ((rd_T34 l0 x13_1).f0), .string ((rd_T34 l0 x13_1).f1)] 34 (0, 0))) ∧ Aside0 (w'.heap[gb108]? = some (.cells #[.string x109000_2, .string ((rd_T34 l0 x13_1).f1)] 34 (0, 0))) ∧ Aside0 (Below w.heap.size w w'))
            case atStart => exact ⟨(x4_1), (true), (0), ((rd_T34 l0 x13_1).f0), (by first | rfl | (simp; done) | (simp [*]; done)), (by first | rfl | (simp; done) | (simp [*]; done)), H', ⟨Nat.le_refl _⟩, ⟨by (with_reducible repeat (first | apply Kd.R_alloc | apply Kd.R_drewN | apply Kd.R_drew)); exact Kd.R_mono (Kd.R_far (p := ⟨gb108, 1, none⟩) (Kd.R_far (p := ⟨gb108, 0, none⟩) (Kd.R_mono HO_4.out (fun k_ hk => (⟨hk, hk.2⟩ : _ ∧ k_ ≠ gb108))) (fun _ hk => hk.2) (.string ((rd_T34 l0 x13_1).f0))) (fun _ hk => hk.2) (.string ((rd_T34 l0 x13_1).f1))) (fun _ hk => ⟨hk.1.1.2, hk.1.2⟩)⟩, ⟨by (with_reducible repeat (first | refine blk_drewN ?_ _ | refine blk_drew ?_ | refine blk_alloc ?_ _)); refine blk_far ?_ NB107_108.out _; (with_reducible repeat (first | refine blk_drewN ?_ _ | refine blk_drew ?_ | refine blk_alloc ?_ _)); refine blk_far ?_ NB107_108.out _; (with_reducible repeat (first | refine blk_drewN ?_ _ | refine blk_drew ?_ | refine blk_alloc ?_ _)); exact BK107.out⟩, ⟨by (with_reducible repeat (first | refine blk_drewN ?_ _ | refine blk_drew ?_ | refine blk_alloc ?_ _)); refine blk_put (cs := #[.string ((rd_T34 l0 x13_1).f0), .string (⟨#[]⟩ : ByteArray)]) ?_ 1 _ rfl; (with_reducible repeat (first | refine blk_drewN ?_ _ | refine blk_drew ?_ | refine blk_alloc ?_ _)); refine blk_put (cs := #[.string (⟨#[]⟩ : ByteArray), .string (⟨#[]⟩ : ByteArray)]) ?_ 0 _ rfl; (with_reducible repeat (first | refine blk_drewN ?_ _ | refine blk_drew ?_ | refine blk_alloc ?_ _)); exact BK108.out⟩, ⟨by repeat (first | (with_reducible first | exact HB.out | apply below_alloc | apply pw_below_drewN | apply below_drew1 | refine below_set ?_ GE107.out | refine below_set ?_ GE108.out) | exact HB.out)⟩⟩
            case round =>
              clear H'
              try clear c1
              try clear p1
              try clear q1
              try clear hx1
              try clear p2
              try clear c3
              try clear c3b0
              try clear c4
              try clear c4b0
              try clear c5
              try clear c5b0
              try clear c9
              try clear p10
              try clear q10
              try clear hx10
              try clear hcz10_0
              try clear hcz10_1
              try clear hcz7_0
              try clear hcz7_1
              try clear hfz10_0
              try clear hfz10_1
              try clear hfz7_0
              try clear hfz7_1
              try clear hx106_0
              try clear hx106_1
              try clear p106
              try clear p2
              try clear q106
              obtain ⟨x4_2, x8_2, x20_2, x109000_2, rfl, rfl, HA, HK2, HO_4, BK107, BK108, HB⟩ := hrel
              cases gk with
              | zero => exact absurd HA.out (by simp [span_Less.l1])
              | succ k2 =>
                have H := HA.out
                clear HA
                simp only [span_Less.l1] at H
                by_cases c11 : x20_2 < (l1.length : Int)
                · rw [if_pos c11] at H
                  have c11b0 : decide (x20_2 < (l1.length : Int)) = true := decide_eq_true c11
                  clear c11
                  by_cases c12 : 0 ≤ x20_2
                  · rw [if_pos c12] at H
                    have c12b0 : decide (0 ≤ x20_2) = true := decide_eq_true c12
                    clear c12
                    by_cases c13 : x20_2 < (l1.length : Int)
                    · rw [if_pos c13] at H
                      have c13b0 : decide (x20_2 < (l1.length : Int)) = true := decide_eq_true c13
                      clear c13
                      have HC14 := Aside0.mk H
                      clear H
                      have p112 : 0 ≤ (x20_2 : Int) := of_decide_eq_true (by first | (with_reducible assumption) | assumption)
                      have q112 : x20_2 < (l1.length : Int) := of_decide_eq_true (by first | (with_reducible assumption) | assumption)
                      obtain ⟨ad112, e112, hx112_0, hx112_1⟩ := at_T34 HR1.out x20_2 p112 q112
                      cases e112
                      replace hx112_0 := (HB.out.cell (World.block_lt_of_cell? w _ hx112_0)).trans hx112_0
                      replace hx112_1 := (HB.out.cell (World.block_lt_of_cell? w _ hx112_1)).trans hx112_1
                      replace p112 := eq_true p112
                      replace q112 := eq_true q112
                      go_upto_region 8 with (first | ((with_reducible refine gate_dst (N := 10) rfl ?_); refine box_event ?hg (N := 10) ?hd (cs := #[.string (⟨#[]⟩ : ByteArray), .string (⟨#[]⟩ : ByteArray)]) (t := 34) ?hr ?_; (case hd => rfl); (case hg => rfl); (case hr => first | (go_simp; done) | (go_simp; rfl)); intro gb113 hg w15 hbox hb; replace HO_4 := Aside0.mk (Kd.R_below (Kd.R_elderB (uR HO_4) gb113 (Nat.le_of_eq hg.symm)) hb); have BK113 := Aside0.mk (hbox); have GW113 := Aside0.mk ((by rw [hg]; exact (below_size (by repeat (first | (with_reducible first | exact HB.out | apply below_alloc | apply pw_below_drewN | apply below_drew1 | refine below_set ?_ GE107.out | refine below_set ?_ GE108.out) | exact HB.out))) : w.heap.size ≤ gb113)); have GE113 := Aside0.mk ((by rw [hg]; exact (below_size (by repeat (first | (with_reducible first | exact HB.out | apply below_alloc | apply pw_below_drewN | apply below_drew1 | refine below_set ?_ GE107.out | refine below_set ?_ GE108.out) | exact HB.out))) : w.heap.size ≤ gb113)); replace HB := Aside0.mk (below_step (by repeat (first | (with_reducible first | exact HB.out | apply below_alloc | apply pw_below_drewN | apply below_drew1 | refine below_set ?_ GE107.out | refine below_set ?_ GE108.out) | exact HB.out)) hb); have NB107_113 := Aside0.mk ((by rw [hg]; exact Nat.ne_of_lt (blk_lt (g := gb107) (o := .cells #[.string ((rd_T34 l0 x13_1).f0), .string ((rd_T34 l0 x13_1).f1)] 34 (0, 0)) (by (with_reducible repeat (first | refine blk_drewN ?_ _ | refine blk_drew ?_ | refine blk_alloc ?_ _)); exact BK107.out)) : gb107 ≠ gb113)); have NB113_107 := Aside0.mk ((by rw [hg]; exact Nat.ne_of_gt (blk_lt (g := gb107) (o := .cells #[.string ((rd_T34 l0 x13_1).f0), .string ((rd_T34 l0 x13_1).f1)] 34 (0, 0)) (by (with_reducible repeat (first | refine blk_drewN ?_ _ | refine blk_drew ?_ | refine blk_alloc ?_ _)); exact BK107.out)) : gb113 ≠ gb107)); replace BK107 := Aside0.mk (blk_below (g := gb107) (o := .cells #[.string ((rd_T34 l0 x13_1).f0), .string ((rd_T34 l0 x13_1).f1)] 34 (0, 0)) (by (with_reducible repeat (first | refine blk_drewN ?_ _ | refine blk_drew ?_ | refine blk_alloc ?_ _)); exact BK107.out) hb); have NB108_113 := Aside0.mk ((by rw [hg]; exact Nat.ne_of_lt (blk_lt (g := gb108) (o := .cells #[.string x109000_2, .string ((rd_T34 l0 x13_1).f1)] 34 (0, 0)) (by (with_reducible repeat (first | refine blk_drewN ?_ _ | refine blk_drew ?_ | refine blk_alloc ?_ _)); exact BK108.out)) : gb108 ≠ gb113)); have NB113_108 := Aside0.mk ((by rw [hg]; exact Nat.ne_of_gt (blk_lt (g := gb108) (o := .cells #[.string x109000_2, .string ((rd_T34 l0 x13_1).f1)] 34 (0, 0)) (by (with_reducible repeat (first | refine blk_drewN ?_ _ | refine blk_drew ?_ | refine blk_alloc ?_ _)); exact BK108.out)) : gb113 ≠ gb108)); replace BK108 := Aside0.mk (blk_below (g := gb108) (o := .cells #[.string x109000_2, .string ((rd_T34 l0 x13_1).f1)] 34 (0, 0)) (by (with_reducible repeat (first | refine blk_drewN ?_ _ | refine blk_drew ?_ | refine blk_alloc ?_ _)); exact BK108.out) hb); clear hb hbox hg; have hnb16 := NB113_107.out; have hnc16 := NB107_113.out; have hnb17 := NB113_108.out; have hnc17 := NB108_113.out; have hcz18_0 : w15.cell? ⟨gb113, 0, none⟩ = some (.string (⟨#[]⟩ : ByteArray)) := (blk_cell BK113.out 0).trans rfl; have hcz18_1 : w15.cell? ⟨gb113, 1, none⟩ = some (.string (⟨#[]⟩ : ByteArray)) := (blk_cell BK113.out 1).trans rfl; have hfz18_0 := blk_frozen BK113.out 0; have hfz18_1 := blk_frozen BK113.out 1))
                      (try simp only [Act.put, List.setIfInBounds_toArray, List.set_cons_zero, List.set_cons_succ])
                      go_cut [32] (fun v32 wc => ∃ (kq : Nat) (x32_13 : Bool), v32 = .bool x32_13 ∧ Aside0 (span_Less.j2 kq l1 x4_2 x8_2 l0 (l0.length : Int) x13_1 l1 (l1.length : Int) x20_2 x32_13 x109000_2 ((rd_T34 l0 x13_1).f1) ((rd_T34 l1 x20_2).f0) ((rd_T34 l1 x20_2).f1) = some r) ∧ Aside0 (kq ≤ k2) ∧ Aside0 (Kd.R k34 34 wc w.heap.size (fun k_ => k_ ≠ gb107 ∧ k_ ≠ gb108 ∧ k_ ≠ gb113) u4 x4_2) ∧ Aside0 (wc.heap[gb107]? = some (.cells #[.string ((rd_T34 l0 x13_1).f0), .string ((rd_T34 l0 x13_1).f1)] 34 (0, 0))) ∧ Aside0 (wc.heap[gb108]? = some (.cells #[.string x109000_2, .string ((rd_T34 l0 x13_1).f1)] 34 (0, 0))) ∧ Aside0 (wc.heap[gb113]? = some (.cells #[.string ((rd_T34 l1 x20_2).f0), .string ((rd_T34 l1 x20_2).f1)] 34 (0, 0))) ∧ Aside0 (Below w.heap.size w wc))
                      case first =>
                        have H := HC14.out
                        clear HC14
                        by_cases c19 : x8_2 = true
                        · subst c19
                          have H1 : ((span_end_before.f ((rd_T34 l1 x20_2).f1) x109000_2).bind fun t114 => (span_Less.j2 k2 l1 x4_2 true l0 (l0.length : Int) x13_1 l1 (l1.length : Int) x20_2 t114 x109000_2 ((rd_T34 l0 x13_1).f1) ((rd_T34 l1 x20_2).f0) ((rd_T34 l1 x20_2).f1))) = some r := by rw [if_pos rfl] at H; exact H
                          clear H
                          have H := H1
                          clear H1
                          replace H := Option.bind_eq_some_iff.mp H
                          obtain ⟨t114, A200, H⟩ := H
                          replace H : (span_Less.j2 k2 l1 x4_2 true l0 (l0.length : Int) x13_1 l1 (l1.length : Int) x20_2 t114 x109000_2 ((rd_T34 l0 x13_1).f1) ((rd_T34 l1 x20_2).f0) ((rd_T34 l1 x20_2).f1)) = some r := H
                          have A20 := Aside0.mk A200
                          clear A200
                          have H' := Aside0.mk H
                          clear H
                          have hnb21 := NB113_107.out
                          have hnc21 := NB107_113.out
                          have hnb22 := NB113_108.out
                          have hnc22 := NB108_113.out
                          have hcz23_0 : w15.cell? ⟨gb113, 0, none⟩ = some (.string (⟨#[]⟩ : ByteArray)) := (blk_cell BK113.out 0).trans rfl
                          have hcz23_1 : w15.cell? ⟨gb113, 1, none⟩ = some (.string (⟨#[]⟩ : ByteArray)) := (blk_cell BK113.out 1).trans rfl
                          have hfz23_0 := blk_frozen BK113.out 0
                          have hfz23_1 := blk_frozen BK113.out 1
                          have hnb24 := NB108_107.out
                          have hnc24 := NB107_108.out
                          have hcz25_0 : w15.cell? ⟨gb108, 0, none⟩ = some (.string x109000_2) := (blk_cell BK108.out 0).trans rfl
                          have hcz25_1 : w15.cell? ⟨gb108, 1, none⟩ = some (.string ((rd_T34 l0 x13_1).f1)) := (blk_cell BK108.out 1).trans rfl
                          have hfz25_0 := blk_frozen BK108.out 0
                          have hfz25_1 := blk_frozen BK108.out 1
                          go_wp2_with (first | (go_at_call 39; (with_reducible refine (span_end_before.calls ((rd_T34 l1 x20_2).f1) x109000_2 t114 _ A20.out).mono ?_); rintro e w26 ⟨rfl, hb⟩; replace HO_4 := Aside0.mk (Kd.R_below (by (with_reducible repeat (first | apply Kd.R_alloc | apply Kd.R_drewN | apply Kd.R_drew)); exact (Kd.R_mono (Kd.R_far (p := ⟨gb113, 1, none⟩) (Kd.R_far (p := ⟨gb113, 0, none⟩) (Kd.R_mono HO_4.out (fun k_ hk => (⟨hk, hk.2⟩ : _ ∧ k_ ≠ gb113))) (fun _ hk => hk.2) (.string ((rd_T34 l1 x20_2).f0))) (fun _ hk => hk.2) (.string ((rd_T34 l1 x20_2).f1))) (fun _ h_ => h_.1))) hb); replace BK107 := Aside0.mk (blk_below (g := gb107) (o := .cells #[.string ((rd_T34 l0 x13_1).f0), .string ((rd_T34 l0 x13_1).f1)] 34 (0, 0)) (by (with_reducible repeat (first | refine blk_drewN ?_ _ | refine blk_drew ?_ | refine blk_alloc ?_ _)); refine blk_far ?_ NB107_113.out _; (with_reducible repeat (first | refine blk_drewN ?_ _ | refine blk_drew ?_ | refine blk_alloc ?_ _)); refine blk_far ?_ NB107_113.out _; (with_reducible repeat (first | refine blk_drewN ?_ _ | refine blk_drew ?_ | refine blk_alloc ?_ _)); exact BK107.out) hb); replace BK108 := Aside0.mk (blk_below (g := gb108) (o := .cells #[.string x109000_2, .string ((rd_T34 l0 x13_1).f1)] 34 (0, 0)) (by (with_reducible repeat (first | refine blk_drewN ?_ _ | refine blk_drew ?_ | refine blk_alloc ?_ _)); refine blk_far ?_ NB108_113.out _; (with_reducible repeat (first | refine blk_drewN ?_ _ | refine blk_drew ?_ | refine blk_alloc ?_ _)); refine blk_far ?_ NB108_113.out _; (with_reducible repeat (first | refine blk_drewN ?_ _ | refine blk_drew ?_ | refine blk_alloc ?_ _)); exact BK108.out) hb); replace BK113 := Aside0.mk (blk_below (g := gb113) (o := .cells #[.string ((rd_T34 l1 x20_2).f0), .string ((rd_T34 l1 x20_2).f1)] 34 (0, 0)) (by (with_reducible repeat (first | refine blk_drewN ?_ _ | refine blk_drew ?_ | refine blk_alloc ?_ _)); refine blk_put (cs := #[.string ((rd_T34 l1 x20_2).f0), .string (⟨#[]⟩ : ByteArray)]) ?_ 1 _ rfl; (with_reducible repeat (first | refine blk_drewN ?_ _ | refine blk_drew ?_ | refine blk_alloc ?_ _)); refine blk_put (cs := #[.string (⟨#[]⟩ : ByteArray), .string (⟨#[]⟩ : ByteArray)]) ?_ 0 _ rfl; (with_reducible repeat (first | refine blk_drewN ?_ _ | refine blk_drew ?_ | refine blk_alloc ?_ _)); exact BK113.out) hb); replace HB := Aside0.mk (below_step (by repeat (first | (with_reducible first | exact HB.out | apply below_alloc | apply pw_below_drewN | apply below_drew1 | refine below_set ?_ GE107.out | refine below_set ?_ GE108.out | refine below_set ?_ GE113.out) | exact HB.out)) hb); (try clear hb); (try clear hb2); (try clear hk); (try clear hi)))
                          go_meet
                          case rel => exact ⟨_, (t114), (by first | rfl | (simp; done) | (simp [*]; done)), H', ⟨by have := HK1.out; have := HK2.out; first | omega | exact Nat.le_refl _⟩, ⟨by (with_reducible repeat (first | apply Kd.R_alloc | apply Kd.R_drewN | apply Kd.R_drew)); exact Kd.R_mono HO_4.out (fun _ hk => ⟨hk.1.1, ⟨hk.1.2, hk.2⟩⟩)⟩, ⟨by (with_reducible repeat (first | refine blk_drewN ?_ _ | refine blk_drew ?_ | refine blk_alloc ?_ _)); exact BK107.out⟩, ⟨by (with_reducible repeat (first | refine blk_drewN ?_ _ | refine blk_drew ?_ | refine blk_alloc ?_ _)); exact BK108.out⟩, ⟨by (with_reducible repeat (first | refine blk_drewN ?_ _ | refine blk_drew ?_ | refine blk_alloc ?_ _)); exact BK113.out⟩, ⟨by repeat (first | (with_reducible first | exact HB.out | apply below_alloc | apply pw_below_drewN | apply below_drew1 | refine below_set ?_ GE107.out | refine below_set ?_ GE108.out | refine below_set ?_ GE113.out) | exact HB.out)⟩⟩
                        · replace c19 := Bool.eq_false_iff.mpr c19
                          subst c19
                          have H1 : (span_Less.j2 k2 l1 x4_2 false l0 (l0.length : Int) x13_1 l1 (l1.length : Int) x20_2 true x109000_2 ((rd_T34 l0 x13_1).f1) ((rd_T34 l1 x20_2).f0) ((rd_T34 l1 x20_2).f1)) = some r := by rw [if_neg (show ¬ (false = true) by decide)] at H; exact H
                          clear H
                          have H := H1
                          clear H1
                          have H' := Aside0.mk H
                          clear H
                          go_wp2
                          go_meet
                          case rel => exact ⟨_, (true), (by first | rfl | (simp; done) | (simp [*]; done)), H', ⟨by have := HK1.out; have := HK2.out; first | omega | exact Nat.le_refl _⟩, ⟨by (with_reducible repeat (first | apply Kd.R_alloc | apply Kd.R_drewN | apply Kd.R_drew)); exact Kd.R_mono (Kd.R_far (p := ⟨gb113, 1, none⟩) (Kd.R_far (p := ⟨gb113, 0, none⟩) (Kd.R_mono HO_4.out (fun k_ hk => (⟨hk, hk.2⟩ : _ ∧ k_ ≠ gb113))) (fun _ hk => hk.2) (.string ((rd_T34 l1 x20_2).f0))) (fun _ hk => hk.2) (.string ((rd_T34 l1 x20_2).f1))) (fun _ hk => ⟨hk.1.1.1, ⟨hk.1.1.2, hk.1.2⟩⟩)⟩, ⟨by (with_reducible repeat (first | refine blk_drewN ?_ _ | refine blk_drew ?_ | refine blk_alloc ?_ _)); refine blk_far ?_ NB107_113.out _; (with_reducible repeat (first | refine blk_drewN ?_ _ | refine blk_drew ?_ | refine blk_alloc ?_ _)); refine blk_far ?_ NB107_113.out _; (with_reducible repeat (first | refine blk_drewN ?_ _ | refine blk_drew ?_ | refine blk_alloc ?_ _)); exact BK107.out⟩, ⟨by (with_reducible repeat (first | refine blk_drewN ?_ _ | refine blk_drew ?_ | refine blk_alloc ?_ _)); refine blk_far ?_ NB108_113.out _; (with_reducible repeat (first | refine blk_drewN ?_ _ | refine blk_drew ?_ | refine blk_alloc ?_ _)); refine blk_far ?_ NB108_113.out _; (with_reducible repeat (first | refine blk_drewN ?_ _ | refine blk_drew ?_ | refine blk_alloc ?_ _)); exact BK108.out⟩, ⟨by (with_reducible repeat (first | refine blk_drewN ?_ _ | refine blk_drew ?_ | refine blk_alloc ?_ _)); refine blk_put (cs := #[.string ((rd_T34 l1 x20_2).f0), .string (⟨#[]⟩ : ByteArray)]) ?_ 1 _ rfl; (with_reducible repeat (first | refine blk_drewN ?_ _ | refine blk_drew ?_ | refine blk_alloc ?_ _)); refine blk_put (cs := #[.string (⟨#[]⟩ : ByteArray), .string (⟨#[]⟩ : ByteArray)]) ?_ 0 _ rfl; (with_reducible repeat (first | refine blk_drewN ?_ _ | refine blk_drew ?_ | refine blk_alloc ?_ _)); exact BK113.out⟩, ⟨by repeat (first | (with_reducible first | exact HB.out | apply below_alloc | apply pw_below_drewN | apply below_drew1 | refine below_set ?_ GE107.out | refine below_set ?_ GE108.out | refine below_set ?_ GE113.out) | exact HB.out)⟩⟩
                      case rest =>
                        clear HC14
                        try clear c1
                        try clear p1
                        try clear q1
                        try clear hx1
                        try clear c2
                        try clear p2
                        try clear c3
                        try clear c3b0
                        try clear c4
                        try clear c4b0
                        try clear c5
                        try clear c5b0
                        try clear c9
                        try clear p10
                        try clear q10
                        try clear hx10
                        try clear c11
                        try clear c11b0
                        try clear p11
                        try clear q11
                        try clear hx11
                        try clear c12
                        try clear c12b0
                        try clear c13
                        try clear c13b0
                        try clear c16
                        try clear c17
                        try clear c18
                        try clear c19
                        try clear c21
                        try clear c22
                        try clear c24
                        try clear hcz10_0
                        try clear hcz10_1
                        try clear hcz18_0
                        try clear hcz18_1
                        try clear hcz23_0
                        try clear hcz23_1
                        try clear hcz25_0
                        try clear hcz25_1
                        try clear hcz7_0
                        try clear hcz7_1
                        try clear hfz10_0
                        try clear hfz10_1
                        try clear hfz18_0
                        try clear hfz18_1
                        try clear hfz23_0
                        try clear hfz23_1
                        try clear hfz25_0
                        try clear hfz25_1
                        try clear hfz7_0
                        try clear hfz7_1
                        try clear hx106_0
                        try clear hx106_1
                        try clear hx112_0
                        try clear hx112_1
                        try clear p1
                        try clear p10
                        try clear p106
                        try clear p112
                        try clear p2
                        try clear q1
                        try clear q10
                        try clear q106
                        try clear q112
                        obtain ⟨kq, x32_13, rfl, HA, HJ13, HO_4, BK107, BK108, BK113, HB⟩ := hcut
                        cases kq with
                        | zero => exact absurd HA.out (by simp [span_Less.j2])
                        | succ kj13 =>
                          have H := HA.out
                          clear HA
                          simp only [span_Less.j2] at H
                          by_cases c27 : x32_13 = true
                          · subst c27
                            have H1 : (span_Less.l1 kj13 l1 x4_2 x8_2 l0 (l0.length : Int) x13_1 l1 (l1.length : Int) (wrap64 (x20_2 + 1)) x109000_2 ((rd_T34 l0 x13_1).f1)) = some r := by rw [if_pos rfl] at H; exact H
                            clear H
                            have H := H1
                            clear H1
                            have H' := Aside0.mk H
                            clear H
                            go_wp2
                            go_roundg kj13
                            case measure => have := HK1.out; have := HK2.out; have := HJ13.out; omega
                            case rel => exact ⟨(x4_2), (x8_2), (wrap64 (x20_2 + 1)), (x109000_2), (by first | rfl | (simp; done) | (simp [*]; done)), (by first | rfl | (simp; done) | (simp [*]; done)), H', ⟨by have := HK1.out; have := HK2.out; have := HJ13.out; omega⟩, ⟨by (with_reducible repeat (first | apply Kd.R_alloc | apply Kd.R_drewN | apply Kd.R_drew)); exact Kd.R_mono HO_4.out (fun _ hk => ⟨hk.1, hk.2.1⟩)⟩, ⟨by (with_reducible repeat (first | refine blk_drewN ?_ _ | refine blk_drew ?_ | refine blk_alloc ?_ _)); exact BK107.out⟩, ⟨by (with_reducible repeat (first | refine blk_drewN ?_ _ | refine blk_drew ?_ | refine blk_alloc ?_ _)); exact BK108.out⟩, ⟨by repeat (first | (with_reducible first | exact HB.out | apply below_alloc | apply pw_below_drewN | apply below_drew1 | refine below_set ?_ GE107.out | refine below_set ?_ GE108.out | refine below_set ?_ GE113.out) | exact HB.out)⟩⟩
                          · replace c27 := Bool.eq_false_iff.mpr c27
                            subst c27
                            have H1 : ((span_end_before.f ((rd_T34 l0 x13_1).f1) ((rd_T34 l1 x20_2).f0)).bind fun t115 => (if t115 = true then (if x8_2 = true then (if x4_2.length < 4398046511104 then (span_Less.l0 kj13 l1 (x4_2 ++ [(⟨x109000_2, ((rd_T34 l0 x13_1).f1)⟩ : S34)]) l0 (l0.length : Int) (wrap64 (x13_1 + 1))) else (none)) else (span_Less.l0 kj13 l1 x4_2 l0 (l0.length : Int) (wrap64 (x13_1 + 1)))) else (if (Op.bytesLess x109000_2.toList ((rd_T34 l1 x20_2).f0).toList) = true then (if x4_2.length < 4398046511104 then ((some (x4_2 ++ [(⟨x109000_2, ((rd_T34 l1 x20_2).f0)⟩ : S34)] : List (S34))).bind fun y119 => (if ((rd_T34 l1 x20_2).f1).toList = ([] : List UInt8) then (span_Less.l1 kj13 l1 y119 false l0 (l0.length : Int) x13_1 l1 (l1.length : Int) (wrap64 (x20_2 + 1)) ((rd_T34 l1 x20_2).f1) ((rd_T34 l0 x13_1).f1)) else (if ((rd_T34 l0 x13_1).f1).toList = ([] : List UInt8) then (span_Less.l1 kj13 l1 y119 true l0 (l0.length : Int) x13_1 l1 (l1.length : Int) (wrap64 (x20_2 + 1)) ((rd_T34 l1 x20_2).f1) ((rd_T34 l0 x13_1).f1)) else (span_Less.l1 kj13 l1 y119 (Op.bytesLess ((rd_T34 l1 x20_2).f1).toList ((rd_T34 l0 x13_1).f1).toList) l0 (l0.length : Int) x13_1 l1 (l1.length : Int) (wrap64 (x20_2 + 1)) ((rd_T34 l1 x20_2).f1) ((rd_T34 l0 x13_1).f1))))) else (none)) else (if ((rd_T34 l1 x20_2).f1).toList = ([] : List UInt8) then (span_Less.l1 kj13 l1 x4_2 false l0 (l0.length : Int) x13_1 l1 (l1.length : Int) (wrap64 (x20_2 + 1)) ((rd_T34 l1 x20_2).f1) ((rd_T34 l0 x13_1).f1)) else (if ((rd_T34 l0 x13_1).f1).toList = ([] : List UInt8) then (span_Less.l1 kj13 l1 x4_2 true l0 (l0.length : Int) x13_1 l1 (l1.length : Int) (wrap64 (x20_2 + 1)) ((rd_T34 l1 x20_2).f1) ((rd_T34 l0 x13_1).f1)) else (span_Less.l1 kj13 l1 x4_2 (Op.bytesLess ((rd_T34 l1 x20_2).f1).toList ((rd_T34 l0 x13_1).f1).toList) l0 (l0.length : Int) x13_1 l1 (l1.length : Int) (wrap64 (x20_2 + 1)) ((rd_T34 l1 x20_2).f1) ((rd_T34 l0 x13_1).f1))))))) = some r := by rw [if_neg (show ¬ (false = true) by decide)] at H; exact H
                            clear H
                            have H := H1
                            clear H1
                            replace H := Option.bind_eq_some_iff.mp H
                            obtain ⟨t115, A280, H⟩ := H
                            replace H : (if t115 = true then (if x8_2 = true then (if x4_2.length < 4398046511104 then (span_Less.l0 kj13 l1 (x4_2 ++ [(⟨x109000_2, ((rd_T34 l0 x13_1).f1)⟩ : S34)]) l0 (l0.length : Int) (wrap64 (x13_1 + 1))) else (none)) else (span_Less.l0 kj13 l1 x4_2 l0 (l0.length : Int) (wrap64 (x13_1 + 1)))) else (if (Op.bytesLess x109000_2.toList ((rd_T34 l1 x20_2).f0).toList) = true then (if x4_2.length < 4398046511104 then ((some (x4_2 ++ [(⟨x109000_2, ((rd_T34 l1 x20_2).f0)⟩ : S34)] : List (S34))).bind fun y119 => (if ((rd_T34 l1 x20_2).f1).toList = ([] : List UInt8) then (span_Less.l1 kj13 l1 y119 false l0 (l0.length : Int) x13_1 l1 (l1.length : Int) (wrap64 (x20_2 + 1)) ((rd_T34 l1 x20_2).f1) ((rd_T34 l0 x13_1).f1)) else (if ((rd_T34 l0 x13_1).f1).toList = ([] : List UInt8) then (span_Less.l1 kj13 l1 y119 true l0 (l0.length : Int) x13_1 l1 (l1.length : Int) (wrap64 (x20_2 + 1)) ((rd_T34 l1 x20_2).f1) ((rd_T34 l0 x13_1).f1)) else (span_Less.l1 kj13 l1 y119 (Op.bytesLess ((rd_T34 l1 x20_2).f1).toList ((rd_T34 l0 x13_1).f1).toList) l0 (l0.length : Int) x13_1 l1 (l1.length : Int) (wrap64 (x20_2 + 1)) ((rd_T34 l1 x20_2).f1) ((rd_T34 l0 x13_1).f1))))) else (none)) else (if ((rd_T34 l1 x20_2).f1).toList = ([] : List UInt8) then (span_Less.l1 kj13 l1 x4_2 false l0 (l0.length : Int) x13_1 l1 (l1.length : Int) (wrap64 (x20_2 + 1)) ((rd_T34 l1 x20_2).f1) ((rd_T34 l0 x13_1).f1)) else (if ((rd_T34 l0 x13_1).f1).toList = ([] : List UInt8) then (span_Less.l1 kj13 l1 x4_2 true l0 (l0.length : Int) x13_1 l1 (l1.length : Int) (wrap64 (x20_2 + 1)) ((rd_T34 l1 x20_2).f1) ((rd_T34 l0 x13_1).f1)) else (span_Less.l1 kj13 l1 x4_2 (Op.bytesLess ((rd_T34 l1 x20_2).f1).toList ((rd_T34 l0 x13_1).f1).toList) l0 (l0.length : Int) x13_1 l1 (l1.length : Int) (wrap64 (x20_2 + 1)) ((rd_T34 l1 x20_2).f1) ((rd_T34 l0 x13_1).f1)))))) = some r := H
                            have A28 := Aside0.mk A280
                            clear A280
                            by_cases c29 : t115 = true
                            · subst c29
                              have H1 : (if x8_2 = true then (if x4_2.length < 4398046511104 then (span_Less.l0 kj13 l1 (x4_2 ++ [(⟨x109000_2, ((rd_T34 l0 x13_1).f1)⟩ : S34)]) l0 (l0.length : Int) (wrap64 (x13_1 + 1))) else (none)) else (span_Less.l0 kj13 l1 x4_2 l0 (l0.length : Int) (wrap64 (x13_1 + 1)))) = some r := by rw [if_pos rfl] at H; exact H
                              clear H
                              have H := H1
                              clear H1
                              by_cases c30 : x8_2 = true
                              · subst c30
                                have H1 : (if x4_2.length < 4398046511104 then (span_Less.l0 kj13 l1 (x4_2 ++ [(⟨x109000_2, ((rd_T34 l0 x13_1).f1)⟩ : S34)]) l0 (l0.length : Int) (wrap64 (x13_1 + 1))) else (none)) = some r := by rw [if_pos rfl] at H; exact H
                                clear H
                                have H := H1
                                clear H1
                                by_cases c31 : x4_2.length < 4398046511104
                                · rw [if_pos c31] at H
                                  have LMc31 := Aside0.mk c31
                                  clear c31
                                  obtain ⟨y116, hy116⟩ : ∃ y_ : List (S34), y_ = (x4_2 ++ [(⟨x109000_2, ((rd_T34 l0 x13_1).f1)⟩ : S34)]) := ⟨_, rfl⟩
                                  replace H : (span_Less.l0 kj13 l1 y116 l0 (l0.length : Int) (wrap64 (x13_1 + 1))) = some r := by first | (rw [hy116]; with_reducible exact H) | (have H2_ := (Option.bind_some _ _).symm.trans H; rw [hy116]; with_reducible exact H2_) | (have H2_ := (Option.bind_some _ _).symm.trans H; with_reducible exact H2_) | with_reducible exact H | (rw [hy116]; exact H) | exact H
                                  have Ny116 := Aside0.mk hy116
                                  clear hy116
                                  have H' := Aside0.mk H
                                  clear H
                                  have hnb32 := NB108_107.out
                                  have hnc32 := NB107_108.out
                                  have hnb33 := NB108_113.out
                                  have hnc33 := NB113_108.out
                                  have hcz34_0 : wc.cell? ⟨gb108, 0, none⟩ = some (.string x109000_2) := (blk_cell BK108.out 0).trans rfl
                                  have hcz34_1 : wc.cell? ⟨gb108, 1, none⟩ = some (.string ((rd_T34 l0 x13_1).f1)) := (blk_cell BK108.out 1).trans rfl
                                  have hfz34_0 := blk_frozen BK108.out 0
                                  have hfz34_1 := blk_frozen BK108.out 1
                                  have hnb35 := NB113_107.out
                                  have hnc35 := NB107_113.out
                                  have hcz36_0 : wc.cell? ⟨gb113, 0, none⟩ = some (.string ((rd_T34 l1 x20_2).f0)) := (blk_cell BK113.out 0).trans rfl
                                  have hcz36_1 : wc.cell? ⟨gb113, 1, none⟩ = some (.string ((rd_T34 l1 x20_2).f1)) := (blk_cell BK113.out 1).trans rfl
                                  have hfz36_0 := blk_frozen BK113.out 0
                                  have hfz36_1 := blk_frozen BK113.out 1
                                  go_wp2_with (first | ((with_reducible refine gate_callee (f := 39) rfl ?_); refine goesL_ (some 37) rfl rfl Try.func39 (by kernel_rfl) rfl #[.string ((rd_T34 l0 x13_1).f1), .string ((rd_T34 l1 x20_2).f0)] rfl (by (try simp only [List.map_toArray, List.map_cons, List.map_nil]); first | done | rfl | (simp only [List.length_drop, List.length_take]; rfl)) ?_; (with_reducible refine (span_end_before.calls ((rd_T34 l0 x13_1).f1) ((rd_T34 l1 x20_2).f0) true _ A28.out).mono ?_); rintro e w37 ⟨rfl, hb⟩; refine ⟨_, rfl, ?_⟩; replace HO_4 := bR HO_4 hb; replace BK107 := Aside0.mk (blk_below (g := gb107) (o := .cells #[.string ((rd_T34 l0 x13_1).f0), .string ((rd_T34 l0 x13_1).f1)] 34 (0, 0)) (by (with_reducible repeat (first | refine blk_drewN ?_ _ | refine blk_drew ?_ | refine blk_alloc ?_ _)); exact BK107.out) hb); replace BK108 := Aside0.mk (blk_below (g := gb108) (o := .cells #[.string x109000_2, .string ((rd_T34 l0 x13_1).f1)] 34 (0, 0)) (by (with_reducible repeat (first | refine blk_drewN ?_ _ | refine blk_drew ?_ | refine blk_alloc ?_ _)); exact BK108.out) hb); replace BK113 := Aside0.mk (blk_below (g := gb113) (o := .cells #[.string ((rd_T34 l1 x20_2).f0), .string ((rd_T34 l1 x20_2).f1)] 34 (0, 0)) (by (with_reducible repeat (first | refine blk_drewN ?_ _ | refine blk_drew ?_ | refine blk_alloc ?_ _)); exact BK113.out) hb); replace HB := Aside0.mk (below_step (by repeat (first | (with_reducible first | exact HB.out | apply below_alloc | apply pw_below_drewN | apply below_drew1 | refine below_set ?_ GE107.out | refine below_set ?_ GE108.out | refine below_set ?_ GE113.out) | exact HB.out)) hb); (try clear hb); (try clear hb2); (try clear hk); (try clear hi); have hcz38_0 : w37.cell? ⟨gb108, 0, none⟩ = some (.string x109000_2) := (blk_cell BK108.out 0).trans rfl; have hcz38_1 : w37.cell? ⟨gb108, 1, none⟩ = some (.string ((rd_T34 l0 x13_1).f1)) := (blk_cell BK108.out 1).trans rfl; have hfz38_0 := blk_frozen BK108.out 0; have hfz38_1 := blk_frozen BK108.out 1) | ((with_reducible refine gate_builtin (b := .append) (xs := #[.tmp 71, .tmp 73]) rfl ?_); at_builtin; refine Kd.R_append k34 (w0 := w) w.heap.size rfl (.tmp 71) (.tmp 73) 22 34 (.agg #[(.string ⟨#[]⟩), (.string ⟨#[]⟩)]) 32 rfl Try.underlying22 info34 rfl (by decide) (by omega) u4 x4_2 (⟨x109000_2, ((rd_T34 l0 x13_1).f1)⟩ : S34) [.string x109000_2, .string ((rd_T34 l0 x13_1).f1)] (fun k_ => k_ ≠ gb107 ∧ k_ ≠ gb108 ∧ k_ ≠ gb113) (fun _ => False) rfl rfl ?aP (fun _ hk => hk.elim) ?aF ?aO ?aB ?aS ?aL ?_; (case aP => exact k34_mkM _ _ _ (⟨x109000_2, ((rd_T34 l0 x13_1).f1)⟩ : S34)); (case aB => exact (by repeat (first | (with_reducible first | exact HB.out | apply below_alloc | apply pw_below_drewN | apply below_drew1 | refine below_set ?_ GE107.out | refine below_set ?_ GE108.out | refine below_set ?_ GE113.out) | exact HB.out))); (case aF => exact (fun k_ hk => ⟨Kd.freshB (g := gb107) (o := .cells #[.string ((rd_T34 l0 x13_1).f0), .string ((rd_T34 l0 x13_1).f1)] 34 (0, 0)) (by (with_reducible repeat (first | refine blk_drewN ?_ _ | refine blk_drew ?_ | refine blk_alloc ?_ _)); exact BK107.out) k_ hk, Kd.freshB (g := gb108) (o := .cells #[.string x109000_2, .string ((rd_T34 l0 x13_1).f1)] 34 (0, 0)) (by (with_reducible repeat (first | refine blk_drewN ?_ _ | refine blk_drew ?_ | refine blk_alloc ?_ _)); exact BK108.out) k_ hk, Kd.freshB (g := gb113) (o := .cells #[.string ((rd_T34 l1 x20_2).f0), .string ((rd_T34 l1 x20_2).f1)] 34 (0, 0)) (by (with_reducible repeat (first | refine blk_drewN ?_ _ | refine blk_drew ?_ | refine blk_alloc ?_ _)); exact BK113.out) k_ hk⟩)); (case aO => exact (uR HO_4)); (case aS => exact (below_size (by repeat (first | (with_reducible first | exact HB.out | apply below_alloc | apply pw_below_drewN | apply below_drew1 | refine below_set ?_ GE107.out | refine below_set ?_ GE108.out | refine below_set ?_ GE113.out) | exact HB.out)))); (case aL => have := LMc31.out; omega); intro v117 w39 ho hb hg hat; rw [← Ny116.out] at ho; have n0_ := Aside0.mk (blk_grown (g := gb107) (o := .cells #[.string ((rd_T34 l0 x13_1).f0), .string ((rd_T34 l0 x13_1).f1)] 34 (0, 0)) (by (with_reducible repeat (first | refine blk_drewN ?_ _ | refine blk_drew ?_ | refine blk_alloc ?_ _)); exact BK107.out) hg (Kd.R_away HO_4.out (fun _ hk => hk.1))); have n1_ := Aside0.mk (blk_grown (g := gb108) (o := .cells #[.string x109000_2, .string ((rd_T34 l0 x13_1).f1)] 34 (0, 0)) (by (with_reducible repeat (first | refine blk_drewN ?_ _ | refine blk_drew ?_ | refine blk_alloc ?_ _)); exact BK108.out) hg (Kd.R_away HO_4.out (fun _ hk => hk.2.1))); have n2_ := Aside0.mk (blk_grown (g := gb113) (o := .cells #[.string ((rd_T34 l1 x20_2).f0), .string ((rd_T34 l1 x20_2).f1)] 34 (0, 0)) (by (with_reducible repeat (first | refine blk_drewN ?_ _ | refine blk_drew ?_ | refine blk_alloc ?_ _)); exact BK113.out) hg (Kd.R_away HO_4.out (fun _ hk => hk.2.2))); have n3_ := Aside0.mk (hb); have n4_ := Aside0.mk (ho); clear BK107; clear BK108; clear BK113; clear HB; clear HO_4; have BK107 := n0_; have BK108 := n1_; have BK113 := n2_; have HB := n3_; have HO118 := n4_; clear n0_ n1_ n2_ n3_ n4_; clear ho hb hg hat))
                                  go_roundg kj13
                                  case measure => have := HK1.out; have := HK2.out; have := HJ13.out; omega
                                  case rel => exact ⟨(y116), (wrap64 (x13_1 + 1)), (by first | rfl | (simp; done) | (simp [*]; done)), H', ⟨by have := HK1.out; have := HK2.out; have := HJ13.out; omega⟩, ⟨by (with_reducible repeat (first | apply Kd.R_alloc | apply Kd.R_drewN | apply Kd.R_drew)); exact Kd.R_mono HO118.out (fun _ hk => trivial)⟩, ⟨by repeat (first | (with_reducible first | exact HB.out | apply below_alloc | apply pw_below_drewN | apply below_drew1 | refine below_set ?_ GE107.out | refine below_set ?_ GE108.out | refine below_set ?_ GE113.out) | exact HB.out)⟩⟩
                                · rw [if_neg c31] at H
                                  exact absurd H (by simp)
                              · replace c30 := Bool.eq_false_iff.mpr c30
                                subst c30
                                have H1 : (span_Less.l0 kj13 l1 x4_2 l0 (l0.length : Int) (wrap64 (x13_1 + 1))) = some r := by rw [if_neg (show ¬ (false = true) by decide)] at H; exact H
                                clear H
                                have H := H1
                                clear H1
                                have H' := Aside0.mk H
                                clear H
                                have hnb40 := NB108_107.out
                                have hnc40 := NB107_108.out
                                have hnb41 := NB108_113.out
                                have hnc41 := NB113_108.out
                                have hcz42_0 : wc.cell? ⟨gb108, 0, none⟩ = some (.string x109000_2) := (blk_cell BK108.out 0).trans rfl
                                have hcz42_1 : wc.cell? ⟨gb108, 1, none⟩ = some (.string ((rd_T34 l0 x13_1).f1)) := (blk_cell BK108.out 1).trans rfl
                                have hfz42_0 := blk_frozen BK108.out 0
                                have hfz42_1 := blk_frozen BK108.out 1
                                have hnb43 := NB113_107.out
                                have hnc43 := NB107_113.out
                                have hcz44_0 : wc.cell? ⟨gb113, 0, none⟩ = some (.string ((rd_T34 l1 x20_2).f0)) := (blk_cell BK113.out 0).trans rfl
                                have hcz44_1 : wc.cell? ⟨gb113, 1, none⟩ = some (.string ((rd_T34 l1 x20_2).f1)) := (blk_cell BK113.out 1).trans rfl
                                have hfz44_0 := blk_frozen BK113.out 0
                                have hfz44_1 := blk_frozen BK113.out 1
                                go_wp2_with (first | ((with_reducible refine gate_callee (f := 39) rfl ?_); refine goesL_ (some 37) rfl rfl Try.func39 (by kernel_rfl) rfl #[.string ((rd_T34 l0 x13_1).f1), .string ((rd_T34 l1 x20_2).f0)] rfl (by (try simp only [List.map_toArray, List.map_cons, List.map_nil]); first | done | rfl | (simp only [List.length_drop, List.length_take]; rfl)) ?_; (with_reducible refine (span_end_before.calls ((rd_T34 l0 x13_1).f1) ((rd_T34 l1 x20_2).f0) true _ A28.out).mono ?_); rintro e w45 ⟨rfl, hb⟩; refine ⟨_, rfl, ?_⟩; replace HO_4 := bR HO_4 hb; replace BK107 := Aside0.mk (blk_below (g := gb107) (o := .cells #[.string ((rd_T34 l0 x13_1).f0), .string ((rd_T34 l0 x13_1).f1)] 34 (0, 0)) (by (with_reducible repeat (first | refine blk_drewN ?_ _ | refine blk_drew ?_ | refine blk_alloc ?_ _)); exact BK107.out) hb); replace BK108 := Aside0.mk (blk_below (g := gb108) (o := .cells #[.string x109000_2, .string ((rd_T34 l0 x13_1).f1)] 34 (0, 0)) (by (with_reducible repeat (first | refine blk_drewN ?_ _ | refine blk_drew ?_ | refine blk_alloc ?_ _)); exact BK108.out) hb); replace BK113 := Aside0.mk (blk_below (g := gb113) (o := .cells #[.string ((rd_T34 l1 x20_2).f0), .string ((rd_T34 l1 x20_2).f1)] 34 (0, 0)) (by (with_reducible repeat (first | refine blk_drewN ?_ _ | refine blk_drew ?_ | refine blk_alloc ?_ _)); exact BK113.out) hb); replace HB := Aside0.mk (below_step (by repeat (first | (with_reducible first | exact HB.out | apply below_alloc | apply pw_below_drewN | apply below_drew1 | refine below_set ?_ GE107.out | refine below_set ?_ GE108.out | refine below_set ?_ GE113.out) | exact HB.out)) hb); (try clear hb); (try clear hb2); (try clear hk); (try clear hi)))
                                go_roundg kj13
                                case measure => have := HK1.out; have := HK2.out; have := HJ13.out; omega
                                case rel => exact ⟨(x4_2), (wrap64 (x13_1 + 1)), (by first | rfl | (simp; done) | (simp [*]; done)), H', ⟨by have := HK1.out; have := HK2.out; have := HJ13.out; omega⟩, ⟨by (with_reducible repeat (first | apply Kd.R_alloc | apply Kd.R_drewN | apply Kd.R_drew)); exact Kd.R_mono HO_4.out (fun _ hk => trivial)⟩, ⟨by repeat (first | (with_reducible first | exact HB.out | apply below_alloc | apply pw_below_drewN | apply below_drew1 | refine below_set ?_ GE107.out | refine below_set ?_ GE108.out | refine below_set ?_ GE113.out) | exact HB.out)⟩⟩
                            · replace c29 := Bool.eq_false_iff.mpr c29
                              subst c29
                              have H1 : (if (Op.bytesLess x109000_2.toList ((rd_T34 l1 x20_2).f0).toList) = true then (if x4_2.length < 4398046511104 then ((some (x4_2 ++ [(⟨x109000_2, ((rd_T34 l1 x20_2).f0)⟩ : S34)] : List (S34))).bind fun y119 => (if ((rd_T34 l1 x20_2).f1).toList = ([] : List UInt8) then (span_Less.l1 kj13 l1 y119 false l0 (l0.length : Int) x13_1 l1 (l1.length : Int) (wrap64 (x20_2 + 1)) ((rd_T34 l1 x20_2).f1) ((rd_T34 l0 x13_1).f1)) else (if ((rd_T34 l0 x13_1).f1).toList = ([] : List UInt8) then (span_Less.l1 kj13 l1 y119 true l0 (l0.length : Int) x13_1 l1 (l1.length : Int) (wrap64 (x20_2 + 1)) ((rd_T34 l1 x20_2).f1) ((rd_T34 l0 x13_1).f1)) else (span_Less.l1 kj13 l1 y119 (Op.bytesLess ((rd_T34 l1 x20_2).f1).toList ((rd_T34 l0 x13_1).f1).toList) l0 (l0.length : Int) x13_1 l1 (l1.length : Int) (wrap64 (x20_2 + 1)) ((rd_T34 l1 x20_2).f1) ((rd_T34 l0 x13_1).f1))))) else (none)) else (if ((rd_T34 l1 x20_2).f1).toList = ([] : List UInt8) then (span_Less.l1 kj13 l1 x4_2 false l0 (l0.length : Int) x13_1 l1 (l1.length : Int) (wrap64 (x20_2 + 1)) ((rd_T34 l1 x20_2).f1) ((rd_T34 l0 x13_1).f1)) else (if ((rd_T34 l0 x13_1).f1).toList = ([] : List UInt8) then (span_Less.l1 kj13 l1 x4_2 true l0 (l0.length : Int) x13_1 l1 (l1.length : Int) (wrap64 (x20_2 + 1)) ((rd_T34 l1 x20_2).f1) ((rd_T34 l0 x13_1).f1)) else (span_Less.l1 kj13 l1 x4_2 (Op.bytesLess ((rd_T34 l1 x20_2).f1).toList ((rd_T34 l0 x13_1).f1).toList) l0 (l0.length : Int) x13_1 l1 (l1.length : Int) (wrap64 (x20_2 + 1)) ((rd_T34 l1 x20_2).f1) ((rd_T34 l0 x13_1).f1))))) = some r := by rw [if_neg (show ¬ (false = true) by decide)] at H; exact H
                              clear H
                              have H := H1
                              clear H1
                              by_cases c46 : (Op.bytesLess x109000_2.toList ((rd_T34 l1 x20_2).f0).toList) = true
                              · rw [if_pos c46] at H
                                have c46b0 : (Op.bytesLess x109000_2.toList ((rd_T34 l1 x20_2).f0).toList) = true := c46
                                clear c46
                                by_cases c47 : x4_2.length < 4398046511104
                                · rw [if_pos c47] at H
                                  have LMc47 := Aside0.mk c47
                                  clear c47
                                  obtain ⟨y119, hy119⟩ : ∃ y_ : List (S34), y_ = (x4_2 ++ [(⟨x109000_2, ((rd_T34 l1 x20_2).f0)⟩ : S34)]) := ⟨_, rfl⟩
                                  replace H : (if ((rd_T34 l1 x20_2).f1).toList = ([] : List UInt8) then (span_Less.l1 kj13 l1 y119 false l0 (l0.length : Int) x13_1 l1 (l1.length : Int) (wrap64 (x20_2 + 1)) ((rd_T34 l1 x20_2).f1) ((rd_T34 l0 x13_1).f1)) else (if ((rd_T34 l0 x13_1).f1).toList = ([] : List UInt8) then (span_Less.l1 kj13 l1 y119 true l0 (l0.length : Int) x13_1 l1 (l1.length : Int) (wrap64 (x20_2 + 1)) ((rd_T34 l1 x20_2).f1) ((rd_T34 l0 x13_1).f1)) else (span_Less.l1 kj13 l1 y119 (Op.bytesLess ((rd_T34 l1 x20_2).f1).toList ((rd_T34 l0 x13_1).f1).toList) l0 (l0.length : Int) x13_1 l1 (l1.length : Int) (wrap64 (x20_2 + 1)) ((rd_T34 l1 x20_2).f1) ((rd_T34 l0 x13_1).f1)))) = some r := by first | (rw [hy119]; with_reducible exact H) | (have H2_ := (Option.bind_some _ _).symm.trans H; rw [hy119]; with_reducible exact H2_) | (have H2_ := (Option.bind_some _ _).symm.trans H; with_reducible exact H2_) | with_reducible exact H | (rw [hy119]; exact H) | exact H
                                  have Ny119 := Aside0.mk hy119
                                  clear hy119
                                  by_cases c48 : ((rd_T34 l1 x20_2).f1).toList = ([] : List UInt8)
                                  · rw [if_pos c48] at H
                                    have c48b0 : (((rd_T34 l1 x20_2).f1).toList == ([] : List UInt8)) = true := beq_iff_eq.mpr c48
                                    have c48b1 : (((rd_T34 l1 x20_2).f1).toList != ([] : List UInt8)) = false := bne_eq_false_iff_eq.mpr c48
                                    clear c48
                                    have H' := Aside0.mk H
                                    clear H
                                    have hnb49 := NB108_107.out
                                    have hnc49 := NB107_108.out
                                    have hnb50 := NB108_113.out
                                    have hnc50 := NB113_108.out
                                    have hcz51_0 : wc.cell? ⟨gb108, 0, none⟩ = some (.string x109000_2) := (blk_cell BK108.out 0).trans rfl
                                    have hcz51_1 : wc.cell? ⟨gb108, 1, none⟩ = some (.string ((rd_T34 l0 x13_1).f1)) := (blk_cell BK108.out 1).trans rfl
                                    have hfz51_0 := blk_frozen BK108.out 0
                                    have hfz51_1 := blk_frozen BK108.out 1
                                    have hnb52 := NB113_107.out
                                    have hnc52 := NB107_113.out
                                    have hcz53_0 : wc.cell? ⟨gb113, 0, none⟩ = some (.string ((rd_T34 l1 x20_2).f0)) := (blk_cell BK113.out 0).trans rfl
                                    have hcz53_1 : wc.cell? ⟨gb113, 1, none⟩ = some (.string ((rd_T34 l1 x20_2).f1)) := (blk_cell BK113.out 1).trans rfl
                                    have hfz53_0 := blk_frozen BK113.out 0
                                    have hfz53_1 := blk_frozen BK113.out 1
                                    go_wp2_with (first | ((with_reducible refine gate_callee (f := 39) rfl ?_); refine goesL_ (some 37) rfl rfl Try.func39 (by kernel_rfl) rfl #[.string ((rd_T34 l0 x13_1).f1), .string ((rd_T34 l1 x20_2).f0)] rfl (by (try simp only [List.map_toArray, List.map_cons, List.map_nil]); first | done | rfl | (simp only [List.length_drop, List.length_take]; rfl)) ?_; (with_reducible refine (span_end_before.calls ((rd_T34 l0 x13_1).f1) ((rd_T34 l1 x20_2).f0) false _ A28.out).mono ?_); rintro e w54 ⟨rfl, hb⟩; refine ⟨_, rfl, ?_⟩; replace HO_4 := bR HO_4 hb; replace BK107 := Aside0.mk (blk_below (g := gb107) (o := .cells #[.string ((rd_T34 l0 x13_1).f0), .string ((rd_T34 l0 x13_1).f1)] 34 (0, 0)) (by (with_reducible repeat (first | refine blk_drewN ?_ _ | refine blk_drew ?_ | refine blk_alloc ?_ _)); exact BK107.out) hb); replace BK108 := Aside0.mk (blk_below (g := gb108) (o := .cells #[.string x109000_2, .string ((rd_T34 l0 x13_1).f1)] 34 (0, 0)) (by (with_reducible repeat (first | refine blk_drewN ?_ _ | refine blk_drew ?_ | refine blk_alloc ?_ _)); exact BK108.out) hb); replace BK113 := Aside0.mk (blk_below (g := gb113) (o := .cells #[.string ((rd_T34 l1 x20_2).f0), .string ((rd_T34 l1 x20_2).f1)] 34 (0, 0)) (by (with_reducible repeat (first | refine blk_drewN ?_ _ | refine blk_drew ?_ | refine blk_alloc ?_ _)); exact BK113.out) hb); replace HB := Aside0.mk (below_step (by repeat (first | (with_reducible first | exact HB.out | apply below_alloc | apply pw_below_drewN | apply below_drew1 | refine below_set ?_ GE107.out | refine below_set ?_ GE108.out | refine below_set ?_ GE113.out) | exact HB.out)) hb); (try clear hb); (try clear hb2); (try clear hk); (try clear hi); have hcz55_0 : w54.cell? ⟨gb108, 0, none⟩ = some (.string x109000_2) := (blk_cell BK108.out 0).trans rfl; have hcz55_1 : w54.cell? ⟨gb108, 1, none⟩ = some (.string ((rd_T34 l0 x13_1).f1)) := (blk_cell BK108.out 1).trans rfl; have hfz55_0 := blk_frozen BK108.out 0; have hfz55_1 := blk_frozen BK108.out 1; have hcz56_0 : w54.cell? ⟨gb113, 0, none⟩ = some (.string ((rd_T34 l1 x20_2).f0)) := (blk_cell BK113.out 0).trans rfl; have hcz56_1 : w54.cell? ⟨gb113, 1, none⟩ = some (.string ((rd_T34 l1 x20_2).f1)) := (blk_cell BK113.out 1).trans rfl; have hfz56_0 := blk_frozen BK113.out 0; have hfz56_1 := blk_frozen BK113.out 1) | ((with_reducible refine gate_builtin (b := .append) (xs := #[.tmp 43, .tmp 49]) rfl ?_); at_builtin; refine Kd.R_append k34 (w0 := w) w.heap.size rfl (.tmp 43) (.tmp 49) 22 34 (.agg #[(.string ⟨#[]⟩), (.string ⟨#[]⟩)]) 32 rfl Try.underlying22 info34 rfl (by decide) (by omega) u4 x4_2 (⟨x109000_2, ((rd_T34 l1 x20_2).f0)⟩ : S34) [.string x109000_2, .string ((rd_T34 l1 x20_2).f0)] (fun k_ => k_ ≠ gb107 ∧ k_ ≠ gb108 ∧ k_ ≠ gb113) (fun _ => False) rfl rfl ?aP (fun _ hk => hk.elim) ?aF ?aO ?aB ?aS ?aL ?_; (case aP => exact k34_mkM _ _ _ (⟨x109000_2, ((rd_T34 l1 x20_2).f0)⟩ : S34)); (case aB => exact (by repeat (first | (with_reducible first | exact HB.out | apply below_alloc | apply pw_below_drewN | apply below_drew1 | refine below_set ?_ GE107.out | refine below_set ?_ GE108.out | refine below_set ?_ GE113.out) | exact HB.out))); (case aF => exact (fun k_ hk => ⟨Kd.freshB (g := gb107) (o := .cells #[.string ((rd_T34 l0 x13_1).f0), .string ((rd_T34 l0 x13_1).f1)] 34 (0, 0)) (by (with_reducible repeat (first | refine blk_drewN ?_ _ | refine blk_drew ?_ | refine blk_alloc ?_ _)); exact BK107.out) k_ hk, Kd.freshB (g := gb108) (o := .cells #[.string x109000_2, .string ((rd_T34 l0 x13_1).f1)] 34 (0, 0)) (by (with_reducible repeat (first | refine blk_drewN ?_ _ | refine blk_drew ?_ | refine blk_alloc ?_ _)); exact BK108.out) k_ hk, Kd.freshB (g := gb113) (o := .cells #[.string ((rd_T34 l1 x20_2).f0), .string ((rd_T34 l1 x20_2).f1)] 34 (0, 0)) (by (with_reducible repeat (first | refine blk_drewN ?_ _ | refine blk_drew ?_ | refine blk_alloc ?_ _)); exact BK113.out) k_ hk⟩)); (case aO => exact (uR HO_4)); (case aS => exact (below_size (by repeat (first | (with_reducible first | exact HB.out | apply below_alloc | apply pw_below_drewN | apply below_drew1 | refine below_set ?_ GE107.out | refine below_set ?_ GE108.out | refine below_set ?_ GE113.out) | exact HB.out)))); (case aL => have := LMc47.out; omega); intro v120 w57 ho hb hg hat; rw [← Ny119.out] at ho; have n0_ := Aside0.mk (blk_grown (g := gb107) (o := .cells #[.string ((rd_T34 l0 x13_1).f0), .string ((rd_T34 l0 x13_1).f1)] 34 (0, 0)) (by (with_reducible repeat (first | refine blk_drewN ?_ _ | refine blk_drew ?_ | refine blk_alloc ?_ _)); exact BK107.out) hg (Kd.R_away HO_4.out (fun _ hk => hk.1))); have n1_ := Aside0.mk (blk_grown (g := gb108) (o := .cells #[.string x109000_2, .string ((rd_T34 l0 x13_1).f1)] 34 (0, 0)) (by (with_reducible repeat (first | refine blk_drewN ?_ _ | refine blk_drew ?_ | refine blk_alloc ?_ _)); exact BK108.out) hg (Kd.R_away HO_4.out (fun _ hk => hk.2.1))); have n2_ := Aside0.mk (blk_grown (g := gb113) (o := .cells #[.string ((rd_T34 l1 x20_2).f0), .string ((rd_T34 l1 x20_2).f1)] 34 (0, 0)) (by (with_reducible repeat (first | refine blk_drewN ?_ _ | refine blk_drew ?_ | refine blk_alloc ?_ _)); exact BK113.out) hg (Kd.R_away HO_4.out (fun _ hk => hk.2.2))); have n3_ := Aside0.mk (hb); have n4_ := Aside0.mk (ho); clear BK107; clear BK108; clear BK113; clear HB; clear HO_4; have BK107 := n0_; have BK108 := n1_; have BK113 := n2_; have HB := n3_; have HO121 := n4_; clear n0_ n1_ n2_ n3_ n4_; clear ho hb hg hat; have hcz58_0 : w57.cell? ⟨gb113, 0, none⟩ = some (.string ((rd_T34 l1 x20_2).f0)) := (blk_cell BK113.out 0).trans rfl; have hcz58_1 : w57.cell? ⟨gb113, 1, none⟩ = some (.string ((rd_T34 l1 x20_2).f1)) := (blk_cell BK113.out 1).trans rfl; have hfz58_0 := blk_frozen BK113.out 0; have hfz58_1 := blk_frozen BK113.out 1; have hcz59_0 : w57.cell? ⟨gb108, 0, none⟩ = some (.string x109000_2) := (blk_cell BK108.out 0).trans rfl; have hcz59_1 : w57.cell? ⟨gb108, 1, none⟩ = some (.string ((rd_T34 l0 x13_1).f1)) := (blk_cell BK108.out 1).trans rfl; have hfz59_0 := blk_frozen BK108.out 0; have hfz59_1 := blk_frozen BK108.out 1))
                                    go_roundg kj13
                                    case measure => have := HK1.out; have := HK2.out; have := HJ13.out; omega
                                    case rel => exact ⟨(y119), (false), (wrap64 (x20_2 + 1)), (((rd_T34 l1 x20_2).f1)), (by first | rfl | (simp; done) | (simp [*]; done)), (by first | rfl | (simp; done) | (simp [*]; done)), H', ⟨by have := HK1.out; have := HK2.out; have := HJ13.out; omega⟩, ⟨by (with_reducible repeat (first | apply Kd.R_alloc | apply Kd.R_drewN | apply Kd.R_drew)); exact Kd.R_mono (Kd.R_far (p := ⟨gb108, 0, none⟩) (Kd.R_mono HO121.out (fun k_ hk => (⟨hk, hk.2.1⟩ : _ ∧ k_ ≠ gb108))) (fun _ hk => hk.2) (.string ((rd_T34 l1 x20_2).f1))) (fun _ hk => ⟨hk.1.1, hk.1.2.1⟩)⟩, ⟨by (with_reducible repeat (first | refine blk_drewN ?_ _ | refine blk_drew ?_ | refine blk_alloc ?_ _)); refine blk_far ?_ NB107_108.out _; (with_reducible repeat (first | refine blk_drewN ?_ _ | refine blk_drew ?_ | refine blk_alloc ?_ _)); exact BK107.out⟩, ⟨by (with_reducible repeat (first | refine blk_drewN ?_ _ | refine blk_drew ?_ | refine blk_alloc ?_ _)); refine blk_put (cs := #[.string x109000_2, .string ((rd_T34 l0 x13_1).f1)]) ?_ 0 _ rfl; (with_reducible repeat (first | refine blk_drewN ?_ _ | refine blk_drew ?_ | refine blk_alloc ?_ _)); exact BK108.out⟩, ⟨by repeat (first | (with_reducible first | exact HB.out | apply below_alloc | apply pw_below_drewN | apply below_drew1 | refine below_set ?_ GE107.out | refine below_set ?_ GE108.out | refine below_set ?_ GE113.out) | exact HB.out)⟩⟩
                                  · rw [if_neg c48] at H
                                    have c48b0 : (((rd_T34 l1 x20_2).f1).toList == ([] : List UInt8)) = false := beq_eq_false_iff_ne.mpr c48
                                    have c48b1 : (((rd_T34 l1 x20_2).f1).toList != ([] : List UInt8)) = true := bne_iff_ne.mpr c48
                                    by_cases c60 : ((rd_T34 l0 x13_1).f1).toList = ([] : List UInt8)
                                    · rw [if_pos c60] at H
                                      have c60b0 : (((rd_T34 l0 x13_1).f1).toList == ([] : List UInt8)) = true := beq_iff_eq.mpr c60
                                      have c60b1 : (((rd_T34 l0 x13_1).f1).toList != ([] : List UInt8)) = false := bne_eq_false_iff_eq.mpr c60
                                      clear c60
                                      have H' := Aside0.mk H
                                      clear H
                                      have hnb61 := NB108_107.out
                                      have hnc61 := NB107_108.out
                                      have hnb62 := NB108_113.out
                                      have hnc62 := NB113_108.out
                                      have hcz63_0 : wc.cell? ⟨gb108, 0, none⟩ = some (.string x109000_2) := (blk_cell BK108.out 0).trans rfl
                                      have hcz63_1 : wc.cell? ⟨gb108, 1, none⟩ = some (.string ((rd_T34 l0 x13_1).f1)) := (blk_cell BK108.out 1).trans rfl
                                      have hfz63_0 := blk_frozen BK108.out 0
                                      have hfz63_1 := blk_frozen BK108.out 1
                                      have hnb64 := NB113_107.out
                                      have hnc64 := NB107_113.out
                                      have hcz65_0 : wc.cell? ⟨gb113, 0, none⟩ = some (.string ((rd_T34 l1 x20_2).f0)) := (blk_cell BK113.out 0).trans rfl
                                      have hcz65_1 : wc.cell? ⟨gb113, 1, none⟩ = some (.string ((rd_T34 l1 x20_2).f1)) := (blk_cell BK113.out 1).trans rfl
                                      have hfz65_0 := blk_frozen BK113.out 0
                                      have hfz65_1 := blk_frozen BK113.out 1
                                      go_wp2_with (first | ((with_reducible refine gate_callee (f := 39) rfl ?_); refine goesL_ (some 37) rfl rfl Try.func39 (by kernel_rfl) rfl #[.string ((rd_T34 l0 x13_1).f1), .string ((rd_T34 l1 x20_2).f0)] rfl (by (try simp only [List.map_toArray, List.map_cons, List.map_nil]); first | done | rfl | (simp only [List.length_drop, List.length_take]; rfl)) ?_; (with_reducible refine (span_end_before.calls ((rd_T34 l0 x13_1).f1) ((rd_T34 l1 x20_2).f0) false _ A28.out).mono ?_); rintro e w66 ⟨rfl, hb⟩; refine ⟨_, rfl, ?_⟩; replace HO_4 := bR HO_4 hb; replace BK107 := Aside0.mk (blk_below (g := gb107) (o := .cells #[.string ((rd_T34 l0 x13_1).f0), .string ((rd_T34 l0 x13_1).f1)] 34 (0, 0)) (by (with_reducible repeat (first | refine blk_drewN ?_ _ | refine blk_drew ?_ | refine blk_alloc ?_ _)); exact BK107.out) hb); replace BK108 := Aside0.mk (blk_below (g := gb108) (o := .cells #[.string x109000_2, .string ((rd_T34 l0 x13_1).f1)] 34 (0, 0)) (by (with_reducible repeat (first | refine blk_drewN ?_ _ | refine blk_drew ?_ | refine blk_alloc ?_ _)); exact BK108.out) hb); replace BK113 := Aside0.mk (blk_below (g := gb113) (o := .cells #[.string ((rd_T34 l1 x20_2).f0), .string ((rd_T34 l1 x20_2).f1)] 34 (0, 0)) (by (with_reducible repeat (first | refine blk_drewN ?_ _ | refine blk_drew ?_ | refine blk_alloc ?_ _)); exact BK113.out) hb); replace HB := Aside0.mk (below_step (by repeat (first | (with_reducible first | exact HB.out | apply below_alloc | apply pw_below_drewN | apply below_drew1 | refine below_set ?_ GE107.out | refine below_set ?_ GE108.out | refine below_set ?_ GE113.out) | exact HB.out)) hb); (try clear hb); (try clear hb2); (try clear hk); (try clear hi); have hcz67_0 : w66.cell? ⟨gb108, 0, none⟩ = some (.string x109000_2) := (blk_cell BK108.out 0).trans rfl; have hcz67_1 : w66.cell? ⟨gb108, 1, none⟩ = some (.string ((rd_T34 l0 x13_1).f1)) := (blk_cell BK108.out 1).trans rfl; have hfz67_0 := blk_frozen BK108.out 0; have hfz67_1 := blk_frozen BK108.out 1; have hcz68_0 : w66.cell? ⟨gb113, 0, none⟩ = some (.string ((rd_T34 l1 x20_2).f0)) := (blk_cell BK113.out 0).trans rfl; have hcz68_1 : w66.cell? ⟨gb113, 1, none⟩ = some (.string ((rd_T34 l1 x20_2).f1)) := (blk_cell BK113.out 1).trans rfl; have hfz68_0 := blk_frozen BK113.out 0; have hfz68_1 := blk_frozen BK113.out 1) | ((with_reducible refine gate_builtin (b := .append) (xs := #[.tmp 43, .tmp 49]) rfl ?_); at_builtin; refine Kd.R_append k34 (w0 := w) w.heap.size rfl (.tmp 43) (.tmp 49) 22 34 (.agg #[(.string ⟨#[]⟩), (.string ⟨#[]⟩)]) 32 rfl Try.underlying22 info34 rfl (by decide) (by omega) u4 x4_2 (⟨x109000_2, ((rd_T34 l1 x20_2).f0)⟩ : S34) [.string x109000_2, .string ((rd_T34 l1 x20_2).f0)] (fun k_ => k_ ≠ gb107 ∧ k_ ≠ gb108 ∧ k_ ≠ gb113) (fun _ => False) rfl rfl ?aP (fun _ hk => hk.elim) ?aF ?aO ?aB ?aS ?aL ?_; (case aP => exact k34_mkM _ _ _ (⟨x109000_2, ((rd_T34 l1 x20_2).f0)⟩ : S34)); (case aB => exact (by repeat (first | (with_reducible first | exact HB.out | apply below_alloc | apply pw_below_drewN | apply below_drew1 | refine below_set ?_ GE107.out | refine below_set ?_ GE108.out | refine below_set ?_ GE113.out) | exact HB.out))); (case aF => exact (fun k_ hk => ⟨Kd.freshB (g := gb107) (o := .cells #[.string ((rd_T34 l0 x13_1).f0), .string ((rd_T34 l0 x13_1).f1)] 34 (0, 0)) (by (with_reducible repeat (first | refine blk_drewN ?_ _ | refine blk_drew ?_ | refine blk_alloc ?_ _)); exact BK107.out) k_ hk, Kd.freshB (g := gb108) (o := .cells #[.string x109000_2, .string ((rd_T34 l0 x13_1).f1)] 34 (0, 0)) (by (with_reducible repeat (first | refine blk_drewN ?_ _ | refine blk_drew ?_ | refine blk_alloc ?_ _)); exact BK108.out) k_ hk, Kd.freshB (g := gb113) (o := .cells #[.string ((rd_T34 l1 x20_2).f0), .string ((rd_T34 l1 x20_2).f1)] 34 (0, 0)) (by (with_reducible repeat (first | refine blk_drewN ?_ _ | refine blk_drew ?_ | refine blk_alloc ?_ _)); exact BK113.out) k_ hk⟩)); (case aO => exact (uR HO_4)); (case aS => exact (below_size (by repeat (first | (with_reducible first | exact HB.out | apply below_alloc | apply pw_below_drewN | apply below_drew1 | refine below_set ?_ GE107.out | refine below_set ?_ GE108.out | refine below_set ?_ GE113.out) | exact HB.out)))); (case aL => have := LMc47.out; omega); intro v120 w69 ho hb hg hat; rw [← Ny119.out] at ho; have n0_ := Aside0.mk (blk_grown (g := gb107) (o := .cells #[.string ((rd_T34 l0 x13_1).f0), .string ((rd_T34 l0 x13_1).f1)] 34 (0, 0)) (by (with_reducible repeat (first | refine blk_drewN ?_ _ | refine blk_drew ?_ | refine blk_alloc ?_ _)); exact BK107.out) hg (Kd.R_away HO_4.out (fun _ hk => hk.1))); have n1_ := Aside0.mk (blk_grown (g := gb108) (o := .cells #[.string x109000_2, .string ((rd_T34 l0 x13_1).f1)] 34 (0, 0)) (by (with_reducible repeat (first | refine blk_drewN ?_ _ | refine blk_drew ?_ | refine blk_alloc ?_ _)); exact BK108.out) hg (Kd.R_away HO_4.out (fun _ hk => hk.2.1))); have n2_ := Aside0.mk (blk_grown (g := gb113) (o := .cells #[.string ((rd_T34 l1 x20_2).f0), .string ((rd_T34 l1 x20_2).f1)] 34 (0, 0)) (by (with_reducible repeat (first | refine blk_drewN ?_ _ | refine blk_drew ?_ | refine blk_alloc ?_ _)); exact BK113.out) hg (Kd.R_away HO_4.out (fun _ hk => hk.2.2))); have n3_ := Aside0.mk (hb); have n4_ := Aside0.mk (ho); clear BK107; clear BK108; clear BK113; clear HB; clear HO_4; have BK107 := n0_; have BK108 := n1_; have BK113 := n2_; have HB := n3_; have HO121 := n4_; clear n0_ n1_ n2_ n3_ n4_; clear ho hb hg hat; have hcz70_0 : w69.cell? ⟨gb113, 0, none⟩ = some (.string ((rd_T34 l1 x20_2).f0)) := (blk_cell BK113.out 0).trans rfl; have hcz70_1 : w69.cell? ⟨gb113, 1, none⟩ = some (.string ((rd_T34 l1 x20_2).f1)) := (blk_cell BK113.out 1).trans rfl; have hfz70_0 := blk_frozen BK113.out 0; have hfz70_1 := blk_frozen BK113.out 1; have hcz71_0 : w69.cell? ⟨gb108, 0, none⟩ = some (.string x109000_2) := (blk_cell BK108.out 0).trans rfl; have hcz71_1 : w69.cell? ⟨gb108, 1, none⟩ = some (.string ((rd_T34 l0 x13_1).f1)) := (blk_cell BK108.out 1).trans rfl; have hfz71_0 := blk_frozen BK108.out 0; have hfz71_1 := blk_frozen BK108.out 1))
                                      go_roundg kj13
                                      case measure => have := HK1.out; have := HK2.out; have := HJ13.out; omega
                                      case rel => exact ⟨(y119), (true), (wrap64 (x20_2 + 1)), (((rd_T34 l1 x20_2).f1)), (by first | rfl | (simp; done) | (simp [*]; done)), (by first | rfl | (simp; done) | (simp [*]; done)), H', ⟨by have := HK1.out; have := HK2.out; have := HJ13.out; omega⟩, ⟨by (with_reducible repeat (first | apply Kd.R_alloc | apply Kd.R_drewN | apply Kd.R_drew)); exact Kd.R_mono (Kd.R_far (p := ⟨gb108, 0, none⟩) (Kd.R_mono HO121.out (fun k_ hk => (⟨hk, hk.2.1⟩ : _ ∧ k_ ≠ gb108))) (fun _ hk => hk.2) (.string ((rd_T34 l1 x20_2).f1))) (fun _ hk => ⟨hk.1.1, hk.1.2.1⟩)⟩, ⟨by (with_reducible repeat (first | refine blk_drewN ?_ _ | refine blk_drew ?_ | refine blk_alloc ?_ _)); refine blk_far ?_ NB107_108.out _; (with_reducible repeat (first | refine blk_drewN ?_ _ | refine blk_drew ?_ | refine blk_alloc ?_ _)); exact BK107.out⟩, ⟨by (with_reducible repeat (first | refine blk_drewN ?_ _ | refine blk_drew ?_ | refine blk_alloc ?_ _)); refine blk_put (cs := #[.string x109000_2, .string ((rd_T34 l0 x13_1).f1)]) ?_ 0 _ rfl; (with_reducible repeat (first | refine blk_drewN ?_ _ | refine blk_drew ?_ | refine blk_alloc ?_ _)); exact BK108.out⟩, ⟨by repeat (first | (with_reducible first | exact HB.out | apply below_alloc | apply pw_below_drewN | apply below_drew1 | refine below_set ?_ GE107.out | refine below_set ?_ GE108.out | refine below_set ?_ GE113.out) | exact HB.out)⟩⟩
                                    · rw [if_neg c60] at H
                                      have c60b0 : (((rd_T34 l0 x13_1).f1).toList == ([] : List UInt8)) = false := beq_eq_false_iff_ne.mpr c60
                                      have c60b1 : (((rd_T34 l0 x13_1).f1).toList != ([] : List UInt8)) = true := bne_iff_ne.mpr c60
                                      have H' := Aside0.mk H
                                      clear H
                                      have hnb72 := NB108_107.out
                                      have hnc72 := NB107_108.out
                                      have hnb73 := NB108_113.out
                                      have hnc73 := NB113_108.out
                                      have hcz74_0 : wc.cell? ⟨gb108, 0, none⟩ = some (.string x109000_2) := (blk_cell BK108.out 0).trans rfl
                                      have hcz74_1 : wc.cell? ⟨gb108, 1, none⟩ = some (.string ((rd_T34 l0 x13_1).f1)) := (blk_cell BK108.out 1).trans rfl
                                      have hfz74_0 := blk_frozen BK108.out 0
                                      have hfz74_1 := blk_frozen BK108.out 1
                                      have hnb75 := NB113_107.out
                                      have hnc75 := NB107_113.out
                                      have hcz76_0 : wc.cell? ⟨gb113, 0, none⟩ = some (.string ((rd_T34 l1 x20_2).f0)) := (blk_cell BK113.out 0).trans rfl
                                      have hcz76_1 : wc.cell? ⟨gb113, 1, none⟩ = some (.string ((rd_T34 l1 x20_2).f1)) := (blk_cell BK113.out 1).trans rfl
                                      have hfz76_0 := blk_frozen BK113.out 0
                                      have hfz76_1 := blk_frozen BK113.out 1
                                      go_wp2_with (first | ((with_reducible refine gate_callee (f := 39) rfl ?_); refine goesL_ (some 37) rfl rfl Try.func39 (by kernel_rfl) rfl #[.string ((rd_T34 l0 x13_1).f1), .string ((rd_T34 l1 x20_2).f0)] rfl (by (try simp only [List.map_toArray, List.map_cons, List.map_nil]); first | done | rfl | (simp only [List.length_drop, List.length_take]; rfl)) ?_; (with_reducible refine (span_end_before.calls ((rd_T34 l0 x13_1).f1) ((rd_T34 l1 x20_2).f0) false _ A28.out).mono ?_); rintro e w77 ⟨rfl, hb⟩; refine ⟨_, rfl, ?_⟩; replace HO_4 := bR HO_4 hb; replace BK107 := Aside0.mk (blk_below (g := gb107) (o := .cells #[.string ((rd_T34 l0 x13_1).f0), .string ((rd_T34 l0 x13_1).f1)] 34 (0, 0)) (by (with_reducible repeat (first | refine blk_drewN ?_ _ | refine blk_drew ?_ | refine blk_alloc ?_ _)); exact BK107.out) hb); replace BK108 := Aside0.mk (blk_below (g := gb108) (o := .cells #[.string x109000_2, .string ((rd_T34 l0 x13_1).f1)] 34 (0, 0)) (by (with_reducible repeat (first | refine blk_drewN ?_ _ | refine blk_drew ?_ | refine blk_alloc ?_ _)); exact BK108.out) hb); replace BK113 := Aside0.mk (blk_below (g := gb113) (o := .cells #[.string ((rd_T34 l1 x20_2).f0), .string ((rd_T34 l1 x20_2).f1)] 34 (0, 0)) (by (with_reducible repeat (first | refine blk_drewN ?_ _ | refine blk_drew ?_ | refine blk_alloc ?_ _)); exact BK113.out) hb); replace HB := Aside0.mk (below_step (by repeat (first | (with_reducible first | exact HB.out | apply below_alloc | apply pw_below_drewN | apply below_drew1 | refine below_set ?_ GE107.out | refine below_set ?_ GE108.out | refine below_set ?_ GE113.out) | exact HB.out)) hb); (try clear hb); (try clear hb2); (try clear hk); (try clear hi); have hcz78_0 : w77.cell? ⟨gb108, 0, none⟩ = some (.string x109000_2) := (blk_cell BK108.out 0).trans rfl; have hcz78_1 : w77.cell? ⟨gb108, 1, none⟩ = some (.string ((rd_T34 l0 x13_1).f1)) := (blk_cell BK108.out 1).trans rfl; have hfz78_0 := blk_frozen BK108.out 0; have hfz78_1 := blk_frozen BK108.out 1; have hcz79_0 : w77.cell? ⟨gb113, 0, none⟩ = some (.string ((rd_T34 l1 x20_2).f0)) := (blk_cell BK113.out 0).trans rfl; have hcz79_1 : w77.cell? ⟨gb113, 1, none⟩ = some (.string ((rd_T34 l1 x20_2).f1)) := (blk_cell BK113.out 1).trans rfl; have hfz79_0 := blk_frozen BK113.out 0; have hfz79_1 := blk_frozen BK113.out 1) | ((with_reducible refine gate_builtin (b := .append) (xs := #[.tmp 43, .tmp 49]) rfl ?_); at_builtin; refine Kd.R_append k34 (w0 := w) w.heap.size rfl (.tmp 43) (.tmp 49) 22 34 (.agg #[(.string ⟨#[]⟩), (.string ⟨#[]⟩)]) 32 rfl Try.underlying22 info34 rfl (by decide) (by omega) u4 x4_2 (⟨x109000_2, ((rd_T34 l1 x20_2).f0)⟩ : S34) [.string x109000_2, .string ((rd_T34 l1 x20_2).f0)] (fun k_ => k_ ≠ gb107 ∧ k_ ≠ gb108 ∧ k_ ≠ gb113) (fun _ => False) rfl rfl ?aP (fun _ hk => hk.elim) ?aF ?aO ?aB ?aS ?aL ?_; (case aP => exact k34_mkM _ _ _ (⟨x109000_2, ((rd_T34 l1 x20_2).f0)⟩ : S34)); (case aB => exact (by repeat (first | (with_reducible first | exact HB.out | apply below_alloc | apply pw_below_drewN | apply below_drew1 | refine below_set ?_ GE107.out | refine below_set ?_ GE108.out | refine below_set ?_ GE113.out) | exact HB.out))); (case aF => exact (fun k_ hk => ⟨Kd.freshB (g := gb107) (o := .cells #[.string ((rd_T34 l0 x13_1).f0), .string ((rd_T34 l0 x13_1).f1)] 34 (0, 0)) (by (with_reducible repeat (first | refine blk_drewN ?_ _ | refine blk_drew ?_ | refine blk_alloc ?_ _)); exact BK107.out) k_ hk, Kd.freshB (g := gb108) (o := .cells #[.string x109000_2, .string ((rd_T34 l0 x13_1).f1)] 34 (0, 0)) (by (with_reducible repeat (first | refine blk_drewN ?_ _ | refine blk_drew ?_ | refine blk_alloc ?_ _)); exact BK108.out) k_ hk, Kd.freshB (g := gb113) (o := .cells #[.string ((rd_T34 l1 x20_2).f0), .string ((rd_T34 l1 x20_2).f1)] 34 (0, 0)) (by (with_reducible repeat (first | refine blk_drewN ?_ _ | refine blk_drew ?_ | refine blk_alloc ?_ _)); exact BK113.out) k_ hk⟩)); (case aO => exact (uR HO_4)); (case aS => exact (below_size (by repeat (first | (with_reducible first | exact HB.out | apply below_alloc | apply pw_below_drewN | apply below_drew1 | refine below_set ?_ GE107.out | refine below_set ?_ GE108.out | refine below_set ?_ GE113.out) | exact HB.out)))); (case aL => have := LMc47.out; omega); intro v120 w80 ho hb hg hat; rw [← Ny119.out] at ho; have n0_ := Aside0.mk (blk_grown (g := gb107) (o := .cells #[.string ((rd_T34 l0 x13_1).f0), .string ((rd_T34 l0 x13_1).f1)] 34 (0, 0)) (by (with_reducible repeat (first | refine blk_drewN ?_ _ | refine blk_drew ?_ | refine blk_alloc ?_ _)); exact BK107.out) hg (Kd.R_away HO_4.out (fun _ hk => hk.1))); have n1_ := Aside0.mk (blk_grown (g := gb108) (o := .cells #[.string x109000_2, .string ((rd_T34 l0 x13_1).f1)] 34 (0, 0)) (by (with_reducible repeat (first | refine blk_drewN ?_ _ | refine blk_drew ?_ | refine blk_alloc ?_ _)); exact BK108.out) hg (Kd.R_away HO_4.out (fun _ hk => hk.2.1))); have n2_ := Aside0.mk (blk_grown (g := gb113) (o := .cells #[.string ((rd_T34 l1 x20_2).f0), .string ((rd_T34 l1 x20_2).f1)] 34 (0, 0)) (by (with_reducible repeat (first | refine blk_drewN ?_ _ | refine blk_drew ?_ | refine blk_alloc ?_ _)); exact BK113.out) hg (Kd.R_away HO_4.out (fun _ hk => hk.2.2))); have n3_ := Aside0.mk (hb); have n4_ := Aside0.mk (ho); clear BK107; clear BK108; clear BK113; clear HB; clear HO_4; have BK107 := n0_; have BK108 := n1_; have BK113 := n2_; have HB := n3_; have HO121 := n4_; clear n0_ n1_ n2_ n3_ n4_; clear ho hb hg hat; have hcz81_0 : w80.cell? ⟨gb113, 0, none⟩ = some (.string ((rd_T34 l1 x20_2).f0)) := (blk_cell BK113.out 0).trans rfl; have hcz81_1 : w80.cell? ⟨gb113, 1, none⟩ = some (.string ((rd_T34 l1 x20_2).f1)) := (blk_cell BK113.out 1).trans rfl; have hfz81_0 := blk_frozen BK113.out 0; have hfz81_1 := blk_frozen BK113.out 1; have hcz82_0 : w80.cell? ⟨gb108, 0, none⟩ = some (.string x109000_2) := (blk_cell BK108.out 0).trans rfl; have hcz82_1 : w80.cell? ⟨gb108, 1, none⟩ = some (.string ((rd_T34 l0 x13_1).f1)) := (blk_cell BK108.out 1).trans rfl; have hfz82_0 := blk_frozen BK108.out 0; have hfz82_1 := blk_frozen BK108.out 1))
                                      go_roundg kj13
                                      case measure => have := HK1.out; have := HK2.out; have := HJ13.out; omega
                                      case rel => exact ⟨(y119), ((Op.bytesLess ((rd_T34 l1 x20_2).f1).toList ((rd_T34 l0 x13_1).f1).toList)), (wrap64 (x20_2 + 1)), (((rd_T34 l1 x20_2).f1)), (by first | rfl | (simp; done) | (simp [*]; done)), (by first | rfl | (simp; done) | (simp [*]; done)), H', ⟨by have := HK1.out; have := HK2.out; have := HJ13.out; omega⟩, ⟨by (with_reducible repeat (first | apply Kd.R_alloc | apply Kd.R_drewN | apply Kd.R_drew)); exact Kd.R_mono (Kd.R_far (p := ⟨gb108, 0, none⟩) (Kd.R_mono HO121.out (fun k_ hk => (⟨hk, hk.2.1⟩ : _ ∧ k_ ≠ gb108))) (fun _ hk => hk.2) (.string ((rd_T34 l1 x20_2).f1))) (fun _ hk => ⟨hk.1.1, hk.1.2.1⟩)⟩, ⟨by (with_reducible repeat (first | refine blk_drewN ?_ _ | refine blk_drew ?_ | refine blk_alloc ?_ _)); refine blk_far ?_ NB107_108.out _; (with_reducible repeat (first | refine blk_drewN ?_ _ | refine blk_drew ?_ | refine blk_alloc ?_ _)); exact BK107.out⟩, ⟨by (with_reducible repeat (first | refine blk_drewN ?_ _ | refine blk_drew ?_ | refine blk_alloc ?_ _)); refine blk_put (cs := #[.string x109000_2, .string ((rd_T34 l0 x13_1).f1)]) ?_ 0 _ rfl; (with_reducible repeat (first | refine blk_drewN ?_ _ | refine blk_drew ?_ | refine blk_alloc ?_ _)); exact BK108.out⟩, ⟨by repeat (first | (with_reducible first | exact HB.out | apply below_alloc | apply pw_below_drewN | apply below_drew1 | refine below_set ?_ GE107.out | refine below_set ?_ GE108.out | refine below_set ?_ GE113.out) | exact HB.out)⟩⟩
                                · rw [if_neg c47] at H
                                  exact absurd H (by simp)
                              · rw [if_neg c46] at H
                                have c46b0 : (Op.bytesLess x109000_2.toList ((rd_T34 l1 x20_2).f0).toList) = false := by simpa using c46
                                clear c46
                                by_cases c83 : ((rd_T34 l1 x20_2).f1).toList = ([] : List UInt8)
                                · rw [if_pos c83] at H
                                  have c83b0 : (((rd_T34 l1 x20_2).f1).toList == ([] : List UInt8)) = true := beq_iff_eq.mpr c83
                                  have c83b1 : (((rd_T34 l1 x20_2).f1).toList != ([] : List UInt8)) = false := bne_eq_false_iff_eq.mpr c83
                                  clear c83
                                  have H' := Aside0.mk H
                                  clear H
                                  have hnb84 := NB108_107.out
                                  have hnc84 := NB107_108.out
                                  have hnb85 := NB108_113.out
                                  have hnc85 := NB113_108.out
                                  have hcz86_0 : wc.cell? ⟨gb108, 0, none⟩ = some (.string x109000_2) := (blk_cell BK108.out 0).trans rfl
                                  have hcz86_1 : wc.cell? ⟨gb108, 1, none⟩ = some (.string ((rd_T34 l0 x13_1).f1)) := (blk_cell BK108.out 1).trans rfl
                                  have hfz86_0 := blk_frozen BK108.out 0
                                  have hfz86_1 := blk_frozen BK108.out 1
                                  have hnb87 := NB113_107.out
                                  have hnc87 := NB107_113.out
                                  have hcz88_0 : wc.cell? ⟨gb113, 0, none⟩ = some (.string ((rd_T34 l1 x20_2).f0)) := (blk_cell BK113.out 0).trans rfl
                                  have hcz88_1 : wc.cell? ⟨gb113, 1, none⟩ = some (.string ((rd_T34 l1 x20_2).f1)) := (blk_cell BK113.out 1).trans rfl
                                  have hfz88_0 := blk_frozen BK113.out 0
                                  have hfz88_1 := blk_frozen BK113.out 1
                                  go_wp2_with (first | ((with_reducible refine gate_callee (f := 39) rfl ?_); refine goesL_ (some 37) rfl rfl Try.func39 (by kernel_rfl) rfl #[.string ((rd_T34 l0 x13_1).f1), .string ((rd_T34 l1 x20_2).f0)] rfl (by (try simp only [List.map_toArray, List.map_cons, List.map_nil]); first | done | rfl | (simp only [List.length_drop, List.length_take]; rfl)) ?_; (with_reducible refine (span_end_before.calls ((rd_T34 l0 x13_1).f1) ((rd_T34 l1 x20_2).f0) false _ A28.out).mono ?_); rintro e w89 ⟨rfl, hb⟩; refine ⟨_, rfl, ?_⟩; replace HO_4 := bR HO_4 hb; replace BK107 := Aside0.mk (blk_below (g := gb107) (o := .cells #[.string ((rd_T34 l0 x13_1).f0), .string ((rd_T34 l0 x13_1).f1)] 34 (0, 0)) (by (with_reducible repeat (first | refine blk_drewN ?_ _ | refine blk_drew ?_ | refine blk_alloc ?_ _)); exact BK107.out) hb); replace BK108 := Aside0.mk (blk_below (g := gb108) (o := .cells #[.string x109000_2, .string ((rd_T34 l0 x13_1).f1)] 34 (0, 0)) (by (with_reducible repeat (first | refine blk_drewN ?_ _ | refine blk_drew ?_ | refine blk_alloc ?_ _)); exact BK108.out) hb); replace BK113 := Aside0.mk (blk_below (g := gb113) (o := .cells #[.string ((rd_T34 l1 x20_2).f0), .string ((rd_T34 l1 x20_2).f1)] 34 (0, 0)) (by (with_reducible repeat (first | refine blk_drewN ?_ _ | refine blk_drew ?_ | refine blk_alloc ?_ _)); exact BK113.out) hb); replace HB := Aside0.mk (below_step (by repeat (first | (with_reducible first | exact HB.out | apply below_alloc | apply pw_below_drewN | apply below_drew1 | refine below_set ?_ GE107.out | refine below_set ?_ GE108.out | refine below_set ?_ GE113.out) | exact HB.out)) hb); (try clear hb); (try clear hb2); (try clear hk); (try clear hi); have hcz90_0 : w89.cell? ⟨gb108, 0, none⟩ = some (.string x109000_2) := (blk_cell BK108.out 0).trans rfl; have hcz90_1 : w89.cell? ⟨gb108, 1, none⟩ = some (.string ((rd_T34 l0 x13_1).f1)) := (blk_cell BK108.out 1).trans rfl; have hfz90_0 := blk_frozen BK108.out 0; have hfz90_1 := blk_frozen BK108.out 1; have hcz91_0 : w89.cell? ⟨gb113, 0, none⟩ = some (.string ((rd_T34 l1 x20_2).f0)) := (blk_cell BK113.out 0).trans rfl; have hcz91_1 : w89.cell? ⟨gb113, 1, none⟩ = some (.string ((rd_T34 l1 x20_2).f1)) := (blk_cell BK113.out 1).trans rfl; have hfz91_0 := blk_frozen BK113.out 0; have hfz91_1 := blk_frozen BK113.out 1))
                                  go_roundg kj13
                                  case measure => have := HK1.out; have := HK2.out; have := HJ13.out; omega
                                  case rel => exact ⟨(x4_2), (false), (wrap64 (x20_2 + 1)), (((rd_T34 l1 x20_2).f1)), (by first | rfl | (simp; done) | (simp [*]; done)), (by first | rfl | (simp; done) | (simp [*]; done)), H', ⟨by have := HK1.out; have := HK2.out; have := HJ13.out; omega⟩, ⟨by (with_reducible repeat (first | apply Kd.R_alloc | apply Kd.R_drewN | apply Kd.R_drew)); exact Kd.R_mono (Kd.R_far (p := ⟨gb108, 0, none⟩) (Kd.R_mono HO_4.out (fun k_ hk => (⟨hk, hk.2.1⟩ : _ ∧ k_ ≠ gb108))) (fun _ hk => hk.2) (.string ((rd_T34 l1 x20_2).f1))) (fun _ hk => ⟨hk.1.1, hk.1.2.1⟩)⟩, ⟨by (with_reducible repeat (first | refine blk_drewN ?_ _ | refine blk_drew ?_ | refine blk_alloc ?_ _)); refine blk_far ?_ NB107_108.out _; (with_reducible repeat (first | refine blk_drewN ?_ _ | refine blk_drew ?_ | refine blk_alloc ?_ _)); exact BK107.out⟩, ⟨by (with_reducible repeat (first | refine blk_drewN ?_ _ | refine blk_drew ?_ | refine blk_alloc ?_ _)); refine blk_put (cs := #[.string x109000_2, .string ((rd_T34 l0 x13_1).f1)]) ?_ 0 _ rfl; (with_reducible repeat (first | refine blk_drewN ?_ _ | refine blk_drew ?_ | refine blk_alloc ?_ _)); exact BK108.out⟩, ⟨by repeat (first | (with_reducible first | exact HB.out | apply below_alloc | apply pw_below_drewN | apply below_drew1 | refine below_set ?_ GE107.out | refine below_set ?_ GE108.out | refine below_set ?_ GE113.out) | exact HB.out)⟩⟩
                                · rw [if_neg c83] at H
                                  have c83b0 : (((rd_T34 l1 x20_2).f1).toList == ([] : List UInt8)) = false := beq_eq_false_iff_ne.mpr c83
                                  have c83b1 : (((rd_T34 l1 x20_2).f1).toList != ([] : List UInt8)) = true := bne_iff_ne.mpr c83
                                  by_cases c92 : ((rd_T34 l0 x13_1).f1).toList = ([] : List UInt8)
                                  · rw [if_pos c92] at H
                                    have c92b0 : (((rd_T34 l0 x13_1).f1).toList == ([] : List UInt8)) = true := beq_iff_eq.mpr c92
                                    have c92b1 : (((rd_T34 l0 x13_1).f1).toList != ([] : List UInt8)) = false := bne_eq_false_iff_eq.mpr c92
                                    clear c92
                                    have H' := Aside0.mk H
                                    clear H
                                    have hnb93 := NB108_107.out
                                    have hnc93 := NB107_108.out
                                    have hnb94 := NB108_113.out
                                    have hnc94 := NB113_108.out
                                    have hcz95_0 : wc.cell? ⟨gb108, 0, none⟩ = some (.string x109000_2) := (blk_cell BK108.out 0).trans rfl
                                    have hcz95_1 : wc.cell? ⟨gb108, 1, none⟩ = some (.string ((rd_T34 l0 x13_1).f1)) := (blk_cell BK108.out 1).trans rfl
                                    have hfz95_0 := blk_frozen BK108.out 0
                                    have hfz95_1 := blk_frozen BK108.out 1
                                    have hnb96 := NB113_107.out
                                    have hnc96 := NB107_113.out
                                    have hcz97_0 : wc.cell? ⟨gb113, 0, none⟩ = some (.string ((rd_T34 l1 x20_2).f0)) := (blk_cell BK113.out 0).trans rfl
                                    have hcz97_1 : wc.cell? ⟨gb113, 1, none⟩ = some (.string ((rd_T34 l1 x20_2).f1)) := (blk_cell BK113.out 1).trans rfl
                                    have hfz97_0 := blk_frozen BK113.out 0
                                    have hfz97_1 := blk_frozen BK113.out 1
                                    go_wp2_with (first | ((with_reducible refine gate_callee (f := 39) rfl ?_); refine goesL_ (some 37) rfl rfl Try.func39 (by kernel_rfl) rfl #[.string ((rd_T34 l0 x13_1).f1), .string ((rd_T34 l1 x20_2).f0)] rfl (by (try simp only [List.map_toArray, List.map_cons, List.map_nil]); first | done | rfl | (simp only [List.length_drop, List.length_take]; rfl)) ?_; (with_reducible refine (span_end_before.calls ((rd_T34 l0 x13_1).f1) ((rd_T34 l1 x20_2).f0) false _ A28.out).mono ?_); rintro e w98 ⟨rfl, hb⟩; refine ⟨_, rfl, ?_⟩; replace HO_4 := bR HO_4 hb; replace BK107 := Aside0.mk (blk_below (g := gb107) (o := .cells #[.string ((rd_T34 l0 x13_1).f0), .string ((rd_T34 l0 x13_1).f1)] 34 (0, 0)) (by (with_reducible repeat (first | refine blk_drewN ?_ _ | refine blk_drew ?_ | refine blk_alloc ?_ _)); exact BK107.out) hb); replace BK108 := Aside0.mk (blk_below (g := gb108) (o := .cells #[.string x109000_2, .string ((rd_T34 l0 x13_1).f1)] 34 (0, 0)) (by (with_reducible repeat (first | refine blk_drewN ?_ _ | refine blk_drew ?_ | refine blk_alloc ?_ _)); exact BK108.out) hb); replace BK113 := Aside0.mk (blk_below (g := gb113) (o := .cells #[.string ((rd_T34 l1 x20_2).f0), .string ((rd_T34 l1 x20_2).f1)] 34 (0, 0)) (by (with_reducible repeat (first | refine blk_drewN ?_ _ | refine blk_drew ?_ | refine blk_alloc ?_ _)); exact BK113.out) hb); replace HB := Aside0.mk (below_step (by repeat (first | (with_reducible first | exact HB.out | apply below_alloc | apply pw_below_drewN | apply below_drew1 | refine below_set ?_ GE107.out | refine below_set ?_ GE108.out | refine below_set ?_ GE113.out) | exact HB.out)) hb); (try clear hb); (try clear hb2); (try clear hk); (try clear hi); have hcz99_0 : w98.cell? ⟨gb108, 0, none⟩ = some (.string x109000_2) := (blk_cell BK108.out 0).trans rfl; have hcz99_1 : w98.cell? ⟨gb108, 1, none⟩ = some (.string ((rd_T34 l0 x13_1).f1)) := (blk_cell BK108.out 1).trans rfl; have hfz99_0 := blk_frozen BK108.out 0; have hfz99_1 := blk_frozen BK108.out 1; have hcz100_0 : w98.cell? ⟨gb113, 0, none⟩ = some (.string ((rd_T34 l1 x20_2).f0)) := (blk_cell BK113.out 0).trans rfl; have hcz100_1 : w98.cell? ⟨gb113, 1, none⟩ = some (.string ((rd_T34 l1 x20_2).f1)) := (blk_cell BK113.out 1).trans rfl; have hfz100_0 := blk_frozen BK113.out 0; have hfz100_1 := blk_frozen BK113.out 1))
                                    go_roundg kj13
                                    case measure => have := HK1.out; have := HK2.out; have := HJ13.out; omega
                                    case rel => exact ⟨(x4_2), (true), (wrap64 (x20_2 + 1)), (((rd_T34 l1 x20_2).f1)), (by first | rfl | (simp; done) | (simp [*]; done)), (by first | rfl | (simp; done) | (simp [*]; done)), H', ⟨by have := HK1.out; have := HK2.out; have := HJ13.out; omega⟩, ⟨by (with_reducible repeat (first | apply Kd.R_alloc | apply Kd.R_drewN | apply Kd.R_drew)); exact Kd.R_mono (Kd.R_far (p := ⟨gb108, 0, none⟩) (Kd.R_mono HO_4.out (fun k_ hk => (⟨hk, hk.2.1⟩ : _ ∧ k_ ≠ gb108))) (fun _ hk => hk.2) (.string ((rd_T34 l1 x20_2).f1))) (fun _ hk => ⟨hk.1.1, hk.1.2.1⟩)⟩, ⟨by (with_reducible repeat (first | refine blk_drewN ?_ _ | refine blk_drew ?_ | refine blk_alloc ?_ _)); refine blk_far ?_ NB107_108.out _; (with_reducible repeat (first | refine blk_drewN ?_ _ | refine blk_drew ?_ | refine blk_alloc ?_ _)); exact BK107.out⟩, ⟨by (with_reducible repeat (first | refine blk_drewN ?_ _ | refine blk_drew ?_ | refine blk_alloc ?_ _)); refine blk_put (cs := #[.string x109000_2, .string ((rd_T34 l0 x13_1).f1)]) ?_ 0 _ rfl; (with_reducible repeat (first | refine blk_drewN ?_ _ | refine blk_drew ?_ | refine blk_alloc ?_ _)); exact BK108.out⟩, ⟨by repeat (first | (with_reducible first | exact HB.out | apply below_alloc | apply pw_below_drewN | apply below_drew1 | refine below_set ?_ GE107.out | refine below_set ?_ GE108.out | refine below_set ?_ GE113.out) | exact HB.out)⟩⟩
                                  · rw [if_neg c92] at H
                                    have c92b0 : (((rd_T34 l0 x13_1).f1).toList == ([] : List UInt8)) = false := beq_eq_false_iff_ne.mpr c92
                                    have c92b1 : (((rd_T34 l0 x13_1).f1).toList != ([] : List UInt8)) = true := bne_iff_ne.mpr c92
                                    have H' := Aside0.mk H
                                    clear H
                                    have hnb101 := NB108_107.out
                                    have hnc101 := NB107_108.out
                                    have hnb102 := NB108_113.out
                                    have hnc102 := NB113_108.out
                                    have hcz103_0 : wc.cell? ⟨gb108, 0, none⟩ = some (.string x109000_2) := (blk_cell BK108.out 0).trans rfl
                                    have hcz103_1 : wc.cell? ⟨gb108, 1, none⟩ = some (.string ((rd_T34 l0 x13_1).f1)) := (blk_cell BK108.out 1).trans rfl
                                    have hfz103_0 := blk_frozen BK108.out 0
                                    have hfz103_1 := blk_frozen BK108.out 1
                                    have hnb104 := NB113_107.out
                                    have hnc104 := NB107_113.out
                                    have hcz105_0 : wc.cell? ⟨gb113, 0, none⟩ = some (.string ((rd_T34 l1 x20_2).f0)) := (blk_cell BK113.out 0).trans rfl
                                    have hcz105_1 : wc.cell? ⟨gb113, 1, none⟩ = some (.string ((rd_T34 l1 x20_2).f1)) := (blk_cell BK113.out 1).trans rfl
                                    have hfz105_0 := blk_frozen BK113.out 0
                                    have hfz105_1 := blk_frozen BK113.out 1
                                    go_wp2_with (first | ((with_reducible refine gate_callee (f := 39) rfl ?_); refine goesL_ (some 37) rfl rfl Try.func39 (by kernel_rfl) rfl #[.string ((rd_T34 l0 x13_1).f1), .string ((rd_T34 l1 x20_2).f0)] rfl (by (try simp only [List.map_toArray, List.map_cons, List.map_nil]); first | done | rfl | (simp only [List.length_drop, List.length_take]; rfl)) ?_; (with_reducible refine (span_end_before.calls ((rd_T34 l0 x13_1).f1) ((rd_T34 l1 x20_2).f0) false _ A28.out).mono ?_); rintro e w106 ⟨rfl, hb⟩; refine ⟨_, rfl, ?_⟩; replace HO_4 := bR HO_4 hb; replace BK107 := Aside0.mk (blk_below (g := gb107) (o := .cells #[.string ((rd_T34 l0 x13_1).f0), .string ((rd_T34 l0 x13_1).f1)] 34 (0, 0)) (by (with_reducible repeat (first | refine blk_drewN ?_ _ | refine blk_drew ?_ | refine blk_alloc ?_ _)); exact BK107.out) hb); replace BK108 := Aside0.mk (blk_below (g := gb108) (o := .cells #[.string x109000_2, .string ((rd_T34 l0 x13_1).f1)] 34 (0, 0)) (by (with_reducible repeat (first | refine blk_drewN ?_ _ | refine blk_drew ?_ | refine blk_alloc ?_ _)); exact BK108.out) hb); replace BK113 := Aside0.mk (blk_below (g := gb113) (o := .cells #[.string ((rd_T34 l1 x20_2).f0), .string ((rd_T34 l1 x20_2).f1)] 34 (0, 0)) (by (with_reducible repeat (first | refine blk_drewN ?_ _ | refine blk_drew ?_ | refine blk_alloc ?_ _)); exact BK113.out) hb); replace HB := Aside0.mk (below_step (by repeat (first | (with_reducible first | exact HB.out | apply below_alloc | apply pw_below_drewN | apply below_drew1 | refine below_set ?_ GE107.out | refine below_set ?_ GE108.out | refine below_set ?_ GE113.out) | exact HB.out)) hb); (try clear hb); (try clear hb2); (try clear hk); (try clear hi); have hcz107_0 : w106.cell? ⟨gb108, 0, none⟩ = some (.string x109000_2) := (blk_cell BK108.out 0).trans rfl; have hcz107_1 : w106.cell? ⟨gb108, 1, none⟩ = some (.string ((rd_T34 l0 x13_1).f1)) := (blk_cell BK108.out 1).trans rfl; have hfz107_0 := blk_frozen BK108.out 0; have hfz107_1 := blk_frozen BK108.out 1; have hcz108_0 : w106.cell? ⟨gb113, 0, none⟩ = some (.string ((rd_T34 l1 x20_2).f0)) := (blk_cell BK113.out 0).trans rfl; have hcz108_1 : w106.cell? ⟨gb113, 1, none⟩ = some (.string ((rd_T34 l1 x20_2).f1)) := (blk_cell BK113.out 1).trans rfl; have hfz108_0 := blk_frozen BK113.out 0; have hfz108_1 := blk_frozen BK113.out 1))
                                    go_roundg kj13
                                    case measure => have := HK1.out; have := HK2.out; have := HJ13.out; omega
                                    case rel => exact ⟨(x4_2), ((Op.bytesLess ((rd_T34 l1 x20_2).f1).toList ((rd_T34 l0 x13_1).f1).toList)), (wrap64 (x20_2 + 1)), (((rd_T34 l1 x20_2).f1)), (by first | rfl | (simp; done) | (simp [*]; done)), (by first | rfl | (simp; done) | (simp [*]; done)), H', ⟨by have := HK1.out; have := HK2.out; have := HJ13.out; omega⟩, ⟨by (with_reducible repeat (first | apply Kd.R_alloc | apply Kd.R_drewN | apply Kd.R_drew)); exact Kd.R_mono (Kd.R_far (p := ⟨gb108, 0, none⟩) (Kd.R_mono HO_4.out (fun k_ hk => (⟨hk, hk.2.1⟩ : _ ∧ k_ ≠ gb108))) (fun _ hk => hk.2) (.string ((rd_T34 l1 x20_2).f1))) (fun _ hk => ⟨hk.1.1, hk.1.2.1⟩)⟩, ⟨by (with_reducible repeat (first | refine blk_drewN ?_ _ | refine blk_drew ?_ | refine blk_alloc ?_ _)); refine blk_far ?_ NB107_108.out _; (with_reducible repeat (first | refine blk_drewN ?_ _ | refine blk_drew ?_ | refine blk_alloc ?_ _)); exact BK107.out⟩, ⟨by (with_reducible repeat (first | refine blk_drewN ?_ _ | refine blk_drew ?_ | refine blk_alloc ?_ _)); refine blk_put (cs := #[.string x109000_2, .string ((rd_T34 l0 x13_1).f1)]) ?_ 0 _ rfl; (with_reducible repeat (first | refine blk_drewN ?_ _ | refine blk_drew ?_ | refine blk_alloc ?_ _)); exact BK108.out⟩, ⟨by repeat (first | (with_reducible first | exact HB.out | apply below_alloc | apply pw_below_drewN | apply below_drew1 | refine below_set ?_ GE107.out | refine below_set ?_ GE108.out | refine below_set ?_ GE113.out) | exact HB.out)⟩⟩
                    · rw [if_neg c13] at H
                      exact absurd H (by simp)
                  · rw [if_neg c12] at H
                    exact absurd H (by simp)
                · rw [if_neg c11] at H
                  have c11b0 : decide (x20_2 < (l1.length : Int)) = false := decide_eq_false c11
                  clear c11
                  by_cases c109 : x8_2 = true
                  · subst c109
                    have H1 : (if x4_2.length < 4398046511104 then (span_Less.l0 k2 l1 (x4_2 ++ [(⟨x109000_2, ((rd_T34 l0 x13_1).f1)⟩ : S34)]) l0 (l0.length : Int) (wrap64 (x13_1 + 1))) else (none)) = some r := by rw [if_pos rfl] at H; exact H
                    clear H
                    have H := H1
                    clear H1
                    by_cases c110 : x4_2.length < 4398046511104
                    · rw [if_pos c110] at H
                      have LMc110 := Aside0.mk c110
                      clear c110
                      obtain ⟨y109, hy109⟩ : ∃ y_ : List (S34), y_ = (x4_2 ++ [(⟨x109000_2, ((rd_T34 l0 x13_1).f1)⟩ : S34)]) := ⟨_, rfl⟩
                      replace H : (span_Less.l0 k2 l1 y109 l0 (l0.length : Int) (wrap64 (x13_1 + 1))) = some r := by first | (rw [hy109]; with_reducible exact H) | (have H2_ := (Option.bind_some _ _).symm.trans H; rw [hy109]; with_reducible exact H2_) | (have H2_ := (Option.bind_some _ _).symm.trans H; with_reducible exact H2_) | with_reducible exact H | (rw [hy109]; exact H) | exact H
                      have Ny109 := Aside0.mk hy109
                      clear hy109
                      have H' := Aside0.mk H
                      clear H
                      have hnb111 := NB108_107.out
                      have hnc111 := NB107_108.out
                      have hcz112_0 : wr.cell? ⟨gb108, 0, none⟩ = some (.string x109000_2) := (blk_cell BK108.out 0).trans rfl
                      have hcz112_1 : wr.cell? ⟨gb108, 1, none⟩ = some (.string ((rd_T34 l0 x13_1).f1)) := (blk_cell BK108.out 1).trans rfl
                      have hfz112_0 := blk_frozen BK108.out 0
                      have hfz112_1 := blk_frozen BK108.out 1
                      go_wp2_with (first | ((with_reducible refine gate_builtin (b := .append) (xs := #[.tmp 71, .tmp 73]) rfl ?_); at_builtin; refine Kd.R_append k34 (w0 := w) w.heap.size rfl (.tmp 71) (.tmp 73) 22 34 (.agg #[(.string ⟨#[]⟩), (.string ⟨#[]⟩)]) 32 rfl Try.underlying22 info34 rfl (by decide) (by omega) u4 x4_2 (⟨x109000_2, ((rd_T34 l0 x13_1).f1)⟩ : S34) [.string x109000_2, .string ((rd_T34 l0 x13_1).f1)] (fun k_ => k_ ≠ gb107 ∧ k_ ≠ gb108) (fun _ => False) rfl rfl ?aP (fun _ hk => hk.elim) ?aF ?aO ?aB ?aS ?aL ?_; (case aP => exact k34_mkM _ _ _ (⟨x109000_2, ((rd_T34 l0 x13_1).f1)⟩ : S34)); (case aB => exact (by repeat (first | (with_reducible first | exact HB.out | apply below_alloc | apply pw_below_drewN | apply below_drew1 | refine below_set ?_ GE107.out | refine below_set ?_ GE108.out) | exact HB.out))); (case aF => exact (fun k_ hk => ⟨Kd.freshB (g := gb107) (o := .cells #[.string ((rd_T34 l0 x13_1).f0), .string ((rd_T34 l0 x13_1).f1)] 34 (0, 0)) (by (with_reducible repeat (first | refine blk_drewN ?_ _ | refine blk_drew ?_ | refine blk_alloc ?_ _)); exact BK107.out) k_ hk, Kd.freshB (g := gb108) (o := .cells #[.string x109000_2, .string ((rd_T34 l0 x13_1).f1)] 34 (0, 0)) (by (with_reducible repeat (first | refine blk_drewN ?_ _ | refine blk_drew ?_ | refine blk_alloc ?_ _)); exact BK108.out) k_ hk⟩)); (case aO => exact (uR HO_4)); (case aS => exact (below_size (by repeat (first | (with_reducible first | exact HB.out | apply below_alloc | apply pw_below_drewN | apply below_drew1 | refine below_set ?_ GE107.out | refine below_set ?_ GE108.out) | exact HB.out)))); (case aL => have := LMc110.out; omega); intro v110 w113 ho hb hg hat; rw [← Ny109.out] at ho; have n0_ := Aside0.mk (blk_grown (g := gb107) (o := .cells #[.string ((rd_T34 l0 x13_1).f0), .string ((rd_T34 l0 x13_1).f1)] 34 (0, 0)) (by (with_reducible repeat (first | refine blk_drewN ?_ _ | refine blk_drew ?_ | refine blk_alloc ?_ _)); exact BK107.out) hg (Kd.R_away HO_4.out (fun _ hk => hk.1))); have n1_ := Aside0.mk (blk_grown (g := gb108) (o := .cells #[.string x109000_2, .string ((rd_T34 l0 x13_1).f1)] 34 (0, 0)) (by (with_reducible repeat (first | refine blk_drewN ?_ _ | refine blk_drew ?_ | refine blk_alloc ?_ _)); exact BK108.out) hg (Kd.R_away HO_4.out (fun _ hk => hk.2))); have n2_ := Aside0.mk (hb); have n3_ := Aside0.mk (ho); clear BK107; clear BK108; clear HB; clear HO_4; have BK107 := n0_; have BK108 := n1_; have HB := n2_; have HO111 := n3_; clear n0_ n1_ n2_ n3_; clear ho hb hg hat))
                      go_roundg k2
                      case measure => have := HK1.out; have := HK2.out; omega
                      case rel => exact ⟨(y109), (wrap64 (x13_1 + 1)), (by first | rfl | (simp; done) | (simp [*]; done)), H', ⟨by have := HK1.out; have := HK2.out; omega⟩, ⟨by (with_reducible repeat (first | apply Kd.R_alloc | apply Kd.R_drewN | apply Kd.R_drew)); exact Kd.R_mono HO111.out (fun _ hk => trivial)⟩, ⟨by repeat (first | (with_reducible first | exact HB.out | apply below_alloc | apply pw_below_drewN | apply below_drew1 | refine below_set ?_ GE107.out | refine below_set ?_ GE108.out) | exact HB.out)⟩⟩
                    · rw [if_neg c110] at H
                      exact absurd H (by simp)
                  · replace c109 := Bool.eq_false_iff.mpr c109
                    subst c109
                    have H1 : (span_Less.l0 k2 l1 x4_2 l0 (l0.length : Int) (wrap64 (x13_1 + 1))) = some r := by rw [if_neg (show ¬ (false = true) by decide)] at H; exact H
                    clear H
                    have H := H1
                    clear H1
                    have H' := Aside0.mk H
                    clear H
                    go_wp2
                    go_roundg k2
                    case measure => have := HK1.out; have := HK2.out; omega
                    case rel => exact ⟨(x4_2), (wrap64 (x13_1 + 1)), (by first | rfl | (simp; done) | (simp [*]; done)), H', ⟨by have := HK1.out; have := HK2.out; omega⟩, ⟨by (with_reducible repeat (first | apply Kd.R_alloc | apply Kd.R_drewN | apply Kd.R_drew)); exact Kd.R_mono HO_4.out (fun _ hk => trivial)⟩, ⟨by repeat (first | (with_reducible first | exact HB.out | apply below_alloc | apply pw_below_drewN | apply below_drew1 | refine below_set ?_ GE107.out | refine below_set ?_ GE108.out) | exact HB.out)⟩⟩
          · rw [if_neg c5] at H
            exact absurd H (by simp)
        · rw [if_neg c4] at H
          exact absurd H (by simp)
      · rw [if_neg c3] at H
        have c3b0 : decide (x13_1 < (l0.length : Int)) = false := decide_eq_false c3
        clear c3
        obtain rfl := Option.some.inj H
        go_wp2
        go_ret
        exact ⟨_, by first | rfl | (simp [errW_none, errW_some] <;> rfl) | (simp [*, errW_none, errW_some] <;> rfl), by (with_reducible repeat (first | apply Kd.R_alloc | apply Kd.R_drewN | apply Kd.R_drew)); exact HO_4.out, by repeat (first | (with_reducible first | exact HB.out | apply below_alloc | apply pw_below_drewN | apply below_drew1) | exact HB.out)⟩

end Go.Proofs.Ytjimijpkhmpilaa.P
