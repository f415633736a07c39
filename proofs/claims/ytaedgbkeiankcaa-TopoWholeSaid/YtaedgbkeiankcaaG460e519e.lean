/- Texts of the proofs of TopoChecks, TopoOnce, TopoTells, TopoWhole, merged (Pxfmref04Check). -/
import Derived.Test.YtaedgbkeiankcaaGe915ef09
import Derived.Test.YtaedgbkeiankcaaG22679f8d
-- printed by a program of this session (wip/hp.py over the kit's print)
namespace Go.Proofs.Ytaedgbkeiankcaa.P
open Go.RowKit Go.Proofs.YtaedgbkeiankcaaW.PrintWords Go.Proofs.YtaedgbkeiankcaaW.PrintLast Go.Proofs.YtaedgbkeiankcaaW.PrintMore
attribute [local go_sem] str_leq str_gtr str_geq max2_str max2_int min2_int max_two min_two max_three min_three max_four min_four   -- for this text's walks alone
set_option linter.unusedVariables false
set_option linter.unusedSimpArgs false

/-! ### folkmootref04_Check: function 13 -/
mutual
def folkmootref04_Check.j0 : Nat → List (S37) → Bool → Option (Int)
  | 0, _, _ => none
  | k + 1, x0, x16 => if x16 = true then (some 40) else (folkmootref04_Check.l0 k x0 (⟨#[]⟩ : ByteArray) 0)
def folkmootref04_Check.l0 : Nat → List (S37) → ByteArray → Int → Option (Int)
  | 0, _, _, _ => none
  | k + 1, x0, x3, x4 => if x4 < (x0.length : Int) then (if 0 ≤ x4 then (if ((rd_T37 x0 x4).f0.f0).toList = x3.toList then (if x4 = (wrap64 ((x0.length : Int) - 1)) then (if ((rd_T37 x0 x4).f0.f1).toList = ([] : List UInt8) then (if (x4 = (wrap64 ((x0.length : Int) - 1))) then (folkmootref04_Check.j2 k x0 x4 false ((rd_T37 x0 x4).f0.f0) ((rd_T37 x0 x4).f0.f1)) else (if ((Op.bytesLess (((rd_T37 x0 x4).f0.f0).toList) (((rd_T37 x0 x4).f0.f1).toList)) = true) then (folkmootref04_Check.j2 k x0 x4 (decide ((((rd_T37 x0 x4).f0.f1).size : Int) > 16)) ((rd_T37 x0 x4).f0.f0) ((rd_T37 x0 x4).f0.f1)) else (folkmootref04_Check.j2 k x0 x4 true ((rd_T37 x0 x4).f0.f0) ((rd_T37 x0 x4).f0.f1)))) else (folkmootref04_Check.j2 k x0 x4 true ((rd_T37 x0 x4).f0.f0) ((rd_T37 x0 x4).f0.f1))) else (if (x4 = (wrap64 ((x0.length : Int) - 1))) then (folkmootref04_Check.j2 k x0 x4 false ((rd_T37 x0 x4).f0.f0) ((rd_T37 x0 x4).f0.f1)) else (if ((Op.bytesLess (((rd_T37 x0 x4).f0.f0).toList) (((rd_T37 x0 x4).f0.f1).toList)) = true) then (folkmootref04_Check.j2 k x0 x4 (decide ((((rd_T37 x0 x4).f0.f1).size : Int) > 16)) ((rd_T37 x0 x4).f0.f0) ((rd_T37 x0 x4).f0.f1)) else (folkmootref04_Check.j2 k x0 x4 true ((rd_T37 x0 x4).f0.f0) ((rd_T37 x0 x4).f0.f1))))) else (folkmootref04_Check.j2 k x0 x4 true ((rd_T37 x0 x4).f0.f0) ((rd_T37 x0 x4).f0.f1))) else (none)) else (some 0)
def folkmootref04_Check.j2 : Nat → List (S37) → Int → Bool → ByteArray → ByteArray → Option (Int)
  | 0, _, _, _, _, _ => none
  | k + 1, x0, x4, x61, x183000, x183001 => if x61 = true then (some 40) else (if 0 ≤ x4 then (if x4 < (x0.length : Int) then (if (((rd_T37 x0 x4).f1).length : Int) < 1 then (folkmootref04_Check.j3 k x0 x183001 x4 ((rd_T37 x0 x4).f1) true) else (folkmootref04_Check.j3 k x0 x183001 x4 ((rd_T37 x0 x4).f1) (decide ((((rd_T37 x0 x4).f1).length : Int) > 5)))) else (none)) else (none))
def folkmootref04_Check.j3 : Nat → List (S37) → ByteArray → Int → List Int → Bool → Option (Int)
  | 0, _, _, _, _, _ => none
  | k + 1, x0, x3, x4, x7, x76 => if x76 = true then (some 40) else (folkmootref04_Check.l1 k x0 x3 x4 x7 0)
def folkmootref04_Check.l1 : Nat → List (S37) → ByteArray → Int → List Int → Int → Option (Int)
  | 0, _, _, _, _, _ => none
  | k + 1, x0, x3, x4, x7, x8 => if x8 < (x7.length : Int) then (if 0 ≤ x8 then (if (rd x7 x8) < 1 then (some 40) else (if (rd x7 x8) > 7 then (some 40) else (if x8 > 0 then (if 0 ≤ (wrap64 (x8 - 1)) then (if (wrap64 (x8 - 1)) < (x7.length : Int) then (if (rd x7 x8) ≤ (rd x7 (wrap64 (x8 - 1))) then (some 40) else (folkmootref04_Check.l1 k x0 x3 x4 x7 (wrap64 (x8 + 1)))) else (none)) else (none)) else (folkmootref04_Check.l1 k x0 x3 x4 x7 (wrap64 (x8 + 1)))))) else (none)) else (folkmootref04_Check.l0 k x0 x3 (wrap64 (x4 + 1)))
end
def folkmootref04_Check.f (k : Nat) (l0 : List (S37)) : Option (Int) := if (l0.length : Int) < 1 then (folkmootref04_Check.j0 k l0 true) else (folkmootref04_Check.j0 k l0 (decide ((l0.length : Int) > 8)))
theorem folkmootref04_Check.mono_l : ∀ k, (∀ y0 y1, LeO (folkmootref04_Check.j0 k y0 y1) (folkmootref04_Check.j0 (k + 1) y0 y1)) ∧ (∀ y0 y1 y2, LeO (folkmootref04_Check.l0 k y0 y1 y2) (folkmootref04_Check.l0 (k + 1) y0 y1 y2)) ∧ (∀ y0 y1 y2 y3 y4, LeO (folkmootref04_Check.j2 k y0 y1 y2 y3 y4) (folkmootref04_Check.j2 (k + 1) y0 y1 y2 y3 y4)) ∧ (∀ y0 y1 y2 y3 y4, LeO (folkmootref04_Check.j3 k y0 y1 y2 y3 y4) (folkmootref04_Check.j3 (k + 1) y0 y1 y2 y3 y4)) ∧ (∀ y0 y1 y2 y3 y4, LeO (folkmootref04_Check.l1 k y0 y1 y2 y3 y4) (folkmootref04_Check.l1 (k + 1) y0 y1 y2 y3 y4))
  | 0 => ⟨fun _ _ r h => by simp [folkmootref04_Check.j0] at h, fun _ _ _ r h => by simp [folkmootref04_Check.l0] at h, fun _ _ _ _ _ r h => by simp [folkmootref04_Check.j2] at h, fun _ _ _ _ _ r h => by simp [folkmootref04_Check.j3] at h, fun _ _ _ _ _ r h => by simp [folkmootref04_Check.l1] at h⟩
  | k + 1 => by
    obtain ⟨ih0, ih1, ih2, ih3, ih4⟩ := folkmootref04_Check.mono_l k
    refine ⟨?_, ?_, ?_, ?_, ?_⟩
    · intro y0 y1
      unfold folkmootref04_Check.j0
      repeat' first
      | (with_reducible exact ih0 _ _)
      | (with_reducible exact ih1 _ _ _)
      | (with_reducible exact ih2 _ _ _ _ _)
      | (with_reducible exact ih3 _ _ _ _ _)
      | (with_reducible exact ih4 _ _ _ _ _)
      | (with_reducible exact LeO.refl _)
      | (with_reducible exact LeO.none _)
      | (with_reducible refine LeO.ite ?_ ?_)
      | (with_reducible refine LeO.bind ?_ (fun _ => ?_))
      | exact ih0 _ _
      | exact ih1 _ _ _
      | exact ih2 _ _ _ _ _
      | exact ih3 _ _ _ _ _
      | exact ih4 _ _ _ _ _
      | exact LeO.none _
      | refine LeO.ite ?_ ?_
      | refine LeO.bind ?_ (fun _ => ?_)
    · intro y0 y1 y2
      unfold folkmootref04_Check.l0
      repeat' first
      | (with_reducible exact ih0 _ _)
      | (with_reducible exact ih1 _ _ _)
      | (with_reducible exact ih2 _ _ _ _ _)
      | (with_reducible exact ih3 _ _ _ _ _)
      | (with_reducible exact ih4 _ _ _ _ _)
      | (with_reducible exact LeO.refl _)
      | (with_reducible exact LeO.none _)
      | (with_reducible refine LeO.ite ?_ ?_)
      | (with_reducible refine LeO.bind ?_ (fun _ => ?_))
      | exact ih0 _ _
      | exact ih1 _ _ _
      | exact ih2 _ _ _ _ _
      | exact ih3 _ _ _ _ _
      | exact ih4 _ _ _ _ _
      | exact LeO.none _
      | refine LeO.ite ?_ ?_
      | refine LeO.bind ?_ (fun _ => ?_)
    · intro y0 y1 y2 y3 y4
      unfold folkmootref04_Check.j2
      repeat' first
      | (with_reducible exact ih0 _ _)
      | (with_reducible exact ih1 _ _ _)
      | (with_reducible exact ih2 _ _ _ _ _)
      | (with_reducible exact ih3 _ _ _ _ _)
      | (with_reducible exact ih4 _ _ _ _ _)
      | (with_reducible exact LeO.refl _)
      | (with_reducible exact LeO.none _)
      | (with_reducible refine LeO.ite ?_ ?_)
      | (with_reducible refine LeO.bind ?_ (fun _ => ?_))
      | exact ih0 _ _
      | exact ih1 _ _ _
      | exact ih2 _ _ _ _ _
      | exact ih3 _ _ _ _ _
      | exact ih4 _ _ _ _ _
      | exact LeO.none _
      | refine LeO.ite ?_ ?_
      | refine LeO.bind ?_ (fun _ => ?_)
    · intro y0 y1 y2 y3 y4
      unfold folkmootref04_Check.j3
      repeat' first
      | (with_reducible exact ih0 _ _)
      | (with_reducible exact ih1 _ _ _)
      | (with_reducible exact ih2 _ _ _ _ _)
      | (with_reducible exact ih3 _ _ _ _ _)
      | (with_reducible exact ih4 _ _ _ _ _)
      | (with_reducible exact LeO.refl _)
      | (with_reducible exact LeO.none _)
      | (with_reducible refine LeO.ite ?_ ?_)
      | (with_reducible refine LeO.bind ?_ (fun _ => ?_))
      | exact ih0 _ _
      | exact ih1 _ _ _
      | exact ih2 _ _ _ _ _
      | exact ih3 _ _ _ _ _
      | exact ih4 _ _ _ _ _
      | exact LeO.none _
      | refine LeO.ite ?_ ?_
      | refine LeO.bind ?_ (fun _ => ?_)
    · intro y0 y1 y2 y3 y4
      unfold folkmootref04_Check.l1
      repeat' first
      | (with_reducible exact ih0 _ _)
      | (with_reducible exact ih1 _ _ _)
      | (with_reducible exact ih2 _ _ _ _ _)
      | (with_reducible exact ih3 _ _ _ _ _)
      | (with_reducible exact ih4 _ _ _ _ _)
      | (with_reducible exact LeO.refl _)
      | (with_reducible exact LeO.none _)
      | (with_reducible refine LeO.ite ?_ ?_)
      | (with_reducible refine LeO.bind ?_ (fun _ => ?_))
      | exact ih0 _ _
      | exact ih1 _ _ _
      | exact ih2 _ _ _ _ _
      | exact ih3 _ _ _ _ _
      | exact ih4 _ _ _ _ _
      | exact LeO.none _
      | refine LeO.ite ?_ ?_
      | refine LeO.bind ?_ (fun _ => ?_)
theorem folkmootref04_Check.mono : ∀ a0 k, LeO (folkmootref04_Check.f k a0) (folkmootref04_Check.f (k + 1) a0) := by
  intro a0 k
  obtain ⟨ih0, ih1, ih2, ih3, ih4⟩ := folkmootref04_Check.mono_l k
  unfold folkmootref04_Check.f
  repeat' first
      | (with_reducible exact ih0 _ _)
      | (with_reducible exact ih1 _ _ _)
      | (with_reducible exact ih2 _ _ _ _ _)
      | (with_reducible exact ih3 _ _ _ _ _)
      | (with_reducible exact ih4 _ _ _ _ _)
      | (with_reducible exact LeO.refl _)
      | (with_reducible exact LeO.none _)
      | (with_reducible refine LeO.ite ?_ ?_)
      | (with_reducible refine LeO.bind ?_ (fun _ => ?_))
      | exact ih0 _ _
      | exact ih1 _ _ _
      | exact ih2 _ _ _ _ _
      | exact ih3 _ _ _ _ _
      | exact ih4 _ _ _ _ _
      | exact LeO.none _
      | refine LeO.ite ?_ ?_
      | refine LeO.bind ?_ (fun _ => ?_)
set_option maxHeartbeats 8000000 in
set_option maxRecDepth 100000 in
theorem folkmootref04_Check.calls (k : Nat) (A0 : Option Addr) (c0 : Nat) (l0 : List (S37)) (r : Int) (w : World) (hr0 : Kd.C k37 w A0 l0.length l0) (hc0 : l0.length ≤ c0) (h : folkmootref04_Check.f k l0 = some r) :
    Calls Try.prog 13 #[.slice A0 l0.length c0] w fun e w' => e = .returned (.int .i64 r) ∧ Below w.heap.size w w' := by
  have hu35 := Try.underlying35
  have HR0 := Aside0.mk hr0
  have HC0 := Aside0.mk hc0
  clear hr0 hc0
  have HB := Aside0.mk (Below.refl w.heap.size w)
  have H : (if (l0.length : Int) < 1 then (folkmootref04_Check.j0 k l0 true) else (folkmootref04_Check.j0 k l0 (decide ((l0.length : Int) > 8)))) = some r := h
  clear h
  have HC2 := Aside0.mk H
  clear H
  go_enter Try.func13, Try.ntmps13
  go_upto_region 1 with (fail)
  repeat (go_quiet (fail); go_upto_region 1 with (fail))
  (try (generalize hb_q0 : (x4_2 == (wrap64 ((l0.length : Int) - 1))) = b_q0))
  go_cut [16] (fun v16 wc => ∃ (kq : Nat) (x16_1 : Bool), v16 = .bool x16_1 ∧ Aside0 (folkmootref04_Check.j0 kq l0 x16_1 = some r) ∧ Aside0 (kq ≤ k) ∧ Aside0 (Below w.heap.size w wc))
  case first =>
    have H := HC2.out
    clear HC2
    by_cases c3 : (l0.length : Int) < 1
    · rw [if_pos c3] at H
      have c3b0 : decide ((l0.length : Int) < 1) = true := decide_eq_true c3
      have c3b1 : decide (l0.length < 1) = true := decide_eq_true (by omega)
      clear c3
      (first | rw [c3b0] | (simp only [i64_w, i32_w]; rw [c3b0]) | skip)
      have H' := Aside0.mk H
      clear H
      go_wp2
      repeat (go_quiet (fail); try go_wp2)
      go_meet
      case rel => exact ⟨_, (true), (by first | rfl | (simp; done) | (simp [*]; done)), H', ⟨by first | omega | exact Nat.le_refl _⟩, ⟨by repeat (first | (with_reducible first | exact HB.out | apply below_alloc | apply pw_below_drewN | apply below_drew1) | exact HB.out)⟩⟩
    · rw [if_neg c3] at H
      have c3b0 : decide ((l0.length : Int) < 1) = false := decide_eq_false c3
      have c3b1 : decide (l0.length < 1) = false := decide_eq_false (by omega)
      clear c3
      (first | rw [c3b0] | (simp only [i64_w, i32_w]; rw [c3b0]) | skip)
      have H' := Aside0.mk H
      clear H
      go_wp2
      repeat (go_quiet (fail); try go_wp2)
      go_meet
      case rel => exact ⟨_, (decide ((l0.length : Int) > 8)), (by first | rfl | (simp; done) | (simp [*]; done)), H', ⟨by first | omega | exact Nat.le_refl _⟩, ⟨by repeat (first | (with_reducible first | exact HB.out | apply below_alloc | apply pw_below_drewN | apply below_drew1) | exact HB.out)⟩⟩
  case rest =>
    clear HC2
    try clear c1
    try clear p2
    try clear c3
    try clear c3b0
    try clear c3b1
    obtain ⟨kq, x16_1, rfl, HA, HJ1, HB⟩ := hcut
    cases kq with
    | zero => exact absurd HA.out (by simp [folkmootref04_Check.j0])
    | succ kj1 =>
      have H := HA.out
      clear HA
      simp only [folkmootref04_Check.j0] at H
      by_cases c4 : x16_1 = true
      · subst c4
        have H1 : (some 40) = some r := by rw [if_pos rfl] at H; exact H
        clear H
        have H := H1
        clear H1
        obtain rfl := Option.some.inj H
        go_wp2
        repeat (go_quiet (fail); try go_wp2)
        go_ret
        exact ⟨by first | rfl | (simp [errW_none, errW_some] <;> rfl) | (simp [*, errW_none, errW_some] <;> rfl), by repeat (first | (with_reducible first | exact HB.out | apply below_alloc | apply pw_below_drewN | apply below_drew1) | exact HB.out)⟩
      · replace c4 := Bool.eq_false_iff.mpr c4
        subst c4
        have H1 : (folkmootref04_Check.l0 kj1 l0 (⟨#[]⟩ : ByteArray) 0) = some r := by rw [if_neg (show ¬ (false = true) by decide)] at H; exact H
        clear H
        have H := H1
        clear H1
        have H' := Aside0.mk H
        clear H
        go_wp2
        repeat (go_quiet (fail); try go_wp2)
        go_loopg [3, 4] kj1 (fun kq v3 v4 w' => ∃ (x3_2 : ByteArray) (x4_2 : Int), v3 = .string x3_2 ∧ v4 = .int .i64 x4_2 ∧ Aside0 (folkmootref04_Check.l0 kq l0 x3_2 x4_2 = some r) ∧ Aside0 (kq ≤ kj1) ∧ Aside0 (Below w.heap.size w w'))
        case atStart => exact ⟨((⟨#[]⟩ : ByteArray)), (0), (by first | rfl | (simp; done) | (simp [*]; done)), (by first | rfl | (simp; done) | (simp [*]; done)), H', ⟨Nat.le_refl _⟩, ⟨by repeat (first | (with_reducible first | exact HB.out | apply below_alloc | apply pw_below_drewN | apply below_drew1) | exact HB.out)⟩⟩
        case round =>
          clear H'
          try clear c1
          try clear p2
          try clear c3
          try clear c3b0
          try clear c3b1
          try clear c4
          try clear p2
          obtain ⟨x3_2, x4_2, rfl, rfl, HA, HK2, HB⟩ := hrel
          cases gk with
          | zero => exact absurd HA.out (by simp [folkmootref04_Check.l0])
          | succ k2 =>
            have H := HA.out
            clear HA
            simp only [folkmootref04_Check.l0] at H
            by_cases c5 : x4_2 < (l0.length : Int)
            · rw [if_pos c5] at H
              have c5b0 : decide (x4_2 < (l0.length : Int)) = true := decide_eq_true c5
              clear c5
              by_cases c6 : 0 ≤ x4_2
              · rw [if_pos c6] at H
                have c6b0 : decide (0 ≤ x4_2) = true := decide_eq_true c6
                clear c6
                have HC7 := Aside0.mk H
                clear H
                have p181 : 0 ≤ (x4_2 : Int) := of_decide_eq_true (by first | (with_reducible assumption) | assumption)
                have q181 : x4_2 < (l0.length : Int) := of_decide_eq_true (by first | (with_reducible assumption) | assumption)
                obtain ⟨ad181, A181_2, c181_2, e181, hx181_0, hx181_1, hx181_2, hl181_2, hi181_2⟩ := at_T37 HR0.out x4_2 p181 q181
                cases e181
                replace hx181_0 := (HB.out.cell (World.block_lt_of_cell? w _ hx181_0)).trans hx181_0
                replace hx181_1 := (HB.out.cell (World.block_lt_of_cell? w _ hx181_1)).trans hx181_1
                replace hx181_2 := (HB.out.cell (World.block_lt_of_cell? w _ hx181_2)).trans hx181_2
                have HR181_2 := Aside0.mk hi181_2
                have HC181_2 := Aside0.mk hl181_2
                clear hi181_2 hl181_2
                replace p181 := eq_true p181
                replace q181 := eq_true q181
                go_upto_region 9 with (first | ((with_reducible refine gate_dst (N := 5) rfl ?_); (try (refine gate_guard (by rfl) ?_; dsimp only)); refine box_event ?hg (N := 5) ?hd (cs := #[.string (⟨#[]⟩ : ByteArray), .string (⟨#[]⟩ : ByteArray)]) (t := 35) ?hr ?_; (case hd => rfl); (case hg => rfl); (case hr => first | (go_simp; done) | (go_simp; rfl)); intro gb182 hg w8 hbox hb; have BK182 := Aside0.mk (hbox); have GW182 := Aside0.mk ((by rw [hg]; exact (below_size (uB HB)) : w.heap.size ≤ gb182)); have GE182 := Aside0.mk ((by rw [hg]; exact (below_size (uB HB)) : w.heap.size ≤ gb182)); replace HB := sB HB hb; clear hb hbox hg; have hcz9_0 : w8.cell? ⟨gb182, 0, none⟩ = some (.string (⟨#[]⟩ : ByteArray)) := (blk_cell BK182.out 0).trans rfl; have hcz9_1 : w8.cell? ⟨gb182, 1, none⟩ = some (.string (⟨#[]⟩ : ByteArray)) := (blk_cell BK182.out 1).trans rfl; have hfz9_0 := blk_frozen BK182.out 0; have hfz9_1 := blk_frozen BK182.out 1))
                repeat (go_quiet (first | ((with_reducible refine gate_dst (N := 5) rfl ?_); (try (refine gate_guard (by rfl) ?_; dsimp only)); refine box_event ?hg (N := 5) ?hd (cs := #[.string (⟨#[]⟩ : ByteArray), .string (⟨#[]⟩ : ByteArray)]) (t := 35) ?hr ?_; (case hd => rfl); (case hg => rfl); (case hr => first | (go_simp; done) | (go_simp; rfl)); intro gb182 hg w8 hbox hb; have BK182 := Aside0.mk (hbox); have GW182 := Aside0.mk ((by rw [hg]; exact (below_size (uB HB)) : w.heap.size ≤ gb182)); have GE182 := Aside0.mk ((by rw [hg]; exact (below_size (uB HB)) : w.heap.size ≤ gb182)); replace HB := sB HB hb; clear hb hbox hg; have hcz9_0 : w8.cell? ⟨gb182, 0, none⟩ = some (.string (⟨#[]⟩ : ByteArray)) := (blk_cell BK182.out 0).trans rfl; have hcz9_1 : w8.cell? ⟨gb182, 1, none⟩ = some (.string (⟨#[]⟩ : ByteArray)) := (blk_cell BK182.out 1).trans rfl; have hfz9_0 := blk_frozen BK182.out 0; have hfz9_1 := blk_frozen BK182.out 1)); go_upto_region 9 with (first | ((with_reducible refine gate_dst (N := 5) rfl ?_); (try (refine gate_guard (by rfl) ?_; dsimp only)); refine box_event ?hg (N := 5) ?hd (cs := #[.string (⟨#[]⟩ : ByteArray), .string (⟨#[]⟩ : ByteArray)]) (t := 35) ?hr ?_; (case hd => rfl); (case hg => rfl); (case hr => first | (go_simp; done) | (go_simp; rfl)); intro gb182 hg w8 hbox hb; have BK182 := Aside0.mk (hbox); have GW182 := Aside0.mk ((by rw [hg]; exact (below_size (uB HB)) : w.heap.size ≤ gb182)); have GE182 := Aside0.mk ((by rw [hg]; exact (below_size (uB HB)) : w.heap.size ≤ gb182)); replace HB := sB HB hb; clear hb hbox hg; have hcz9_0 : w8.cell? ⟨gb182, 0, none⟩ = some (.string (⟨#[]⟩ : ByteArray)) := (blk_cell BK182.out 0).trans rfl; have hcz9_1 : w8.cell? ⟨gb182, 1, none⟩ = some (.string (⟨#[]⟩ : ByteArray)) := (blk_cell BK182.out 1).trans rfl; have hfz9_0 := blk_frozen BK182.out 0; have hfz9_1 := blk_frozen BK182.out 1)))
                (try simp only [Act.put, List.setIfInBounds_toArray, List.set_cons_zero, List.set_cons_succ])
                (try (generalize hb_q0 : (x4_2 == (wrap64 ((l0.length : Int) - 1))) = b_q0))
                go_cut [61] (fun v61 wc => ∃ (kq : Nat) (x61_6 : Bool), v61 = .bool x61_6 ∧ Aside0 (folkmootref04_Check.j2 kq l0 x4_2 x61_6 ((rd_T37 l0 x4_2).f0.f0) ((rd_T37 l0 x4_2).f0.f1) = some r) ∧ Aside0 (kq ≤ k2) ∧ Aside0 (wc.heap[gb182]? = some (.cells #[.string ((rd_T37 l0 x4_2).f0.f0), .string ((rd_T37 l0 x4_2).f0.f1)] 35 (0, 0))) ∧ Aside0 (Below w.heap.size w wc))
                case first =>
                  have H := HC7.out
                  clear HC7
                  by_cases c10 : ((rd_T37 l0 x4_2).f0.f0).toList = x3_2.toList
                  · rw [if_pos c10] at H
                    have c10b0 : (((rd_T37 l0 x4_2).f0.f0).toList == x3_2.toList) = true := beq_iff_eq.mpr c10
                    have c10b1 : (((rd_T37 l0 x4_2).f0.f0).toList != x3_2.toList) = false := bne_eq_false_iff_eq.mpr c10
                    clear c10
                    (first | rw [c10b0] | (simp only [i64_w, i32_w]; rw [c10b0]) | skip)
                    by_cases c11 : x4_2 = (wrap64 ((l0.length : Int) - 1))
                    · rw [if_pos c11] at H
                      have c11b0 : (x4_2 == (wrap64 ((l0.length : Int) - 1))) = true := beq_iff_eq.mpr c11
                      have ck_c11b0 := Aside0.mk c11b0
                      (try (rw [hb_q0] at c11b0; subst c11b0))
                      have c11b1 : (x4_2 != (wrap64 ((l0.length : Int) - 1))) = false := bne_eq_false_iff_eq.mpr c11
                      clear c11
                      by_cases c12 : ((rd_T37 l0 x4_2).f0.f1).toList = ([] : List UInt8)
                      · rw [if_pos c12] at H
                        have c12b0 : (((rd_T37 l0 x4_2).f0.f1).toList == ([] : List UInt8)) = true := beq_iff_eq.mpr c12
                        have c12b1 : (((rd_T37 l0 x4_2).f0.f1).toList != ([] : List UInt8)) = false := bne_eq_false_iff_eq.mpr c12
                        clear c12
                        by_cases c13 : (x4_2 = (wrap64 ((l0.length : Int) - 1)))
                        · rw [if_pos c13] at H
                          have c13b0 : (x4_2 == (wrap64 ((l0.length : Int) - 1))) = true := beq_iff_eq.mpr c13
                          have c13b1 : (x4_2 != (wrap64 ((l0.length : Int) - 1))) = false := bne_eq_false_iff_eq.mpr c13
                          clear c13
                          have H' := Aside0.mk H
                          clear H
                          have hcz14_0 : w8.cell? ⟨gb182, 0, none⟩ = some (.string (⟨#[]⟩ : ByteArray)) := (blk_cell BK182.out 0).trans rfl
                          have hcz14_1 : w8.cell? ⟨gb182, 1, none⟩ = some (.string (⟨#[]⟩ : ByteArray)) := (blk_cell BK182.out 1).trans rfl
                          have hfz14_0 := blk_frozen BK182.out 0
                          have hfz14_1 := blk_frozen BK182.out 1
                          go_wp2
                          repeat (go_quiet (fail); try go_wp2)
                          go_meet
                          case rel => exact ⟨_, (false), (by first | rfl | (simp; done) | (simp [*]; done)), H', ⟨by have := HJ1.out; have := HK2.out; first | omega | exact Nat.le_refl _⟩, ⟨by (with_reducible repeat (first | refine blk_drewN ?_ _ | refine blk_drew ?_ | refine blk_alloc ?_ _)); refine blk_put (cs := #[.string ((rd_T37 l0 x4_2).f0.f0), .string (⟨#[]⟩ : ByteArray)]) ?_ 1 _ rfl; (with_reducible repeat (first | refine blk_drewN ?_ _ | refine blk_drew ?_ | refine blk_alloc ?_ _)); refine blk_put (cs := #[.string (⟨#[]⟩ : ByteArray), .string (⟨#[]⟩ : ByteArray)]) ?_ 0 _ rfl; (with_reducible repeat (first | refine blk_drewN ?_ _ | refine blk_drew ?_ | refine blk_alloc ?_ _)); exact BK182.out⟩, ⟨by repeat (first | (with_reducible first | exact HB.out | apply below_alloc | apply pw_below_drewN | apply below_drew1 | refine below_set ?_ GE182.out) | exact HB.out)⟩⟩
                        · rw [if_neg c13] at H
                          have c13b0 : (x4_2 == (wrap64 ((l0.length : Int) - 1))) = false := beq_eq_false_iff_ne.mpr c13
                          exact absurd (c13b0.symm.trans ck_c11b0.out) (by decide)
                      · rw [if_neg c12] at H
                        have c12b0 : (((rd_T37 l0 x4_2).f0.f1).toList == ([] : List UInt8)) = false := beq_eq_false_iff_ne.mpr c12
                        have c12b1 : (((rd_T37 l0 x4_2).f0.f1).toList != ([] : List UInt8)) = true := bne_iff_ne.mpr c12
                        have H' := Aside0.mk H
                        clear H
                        have hcz18_0 : w8.cell? ⟨gb182, 0, none⟩ = some (.string (⟨#[]⟩ : ByteArray)) := (blk_cell BK182.out 0).trans rfl
                        have hcz18_1 : w8.cell? ⟨gb182, 1, none⟩ = some (.string (⟨#[]⟩ : ByteArray)) := (blk_cell BK182.out 1).trans rfl
                        have hfz18_0 := blk_frozen BK182.out 0
                        have hfz18_1 := blk_frozen BK182.out 1
                        go_wp2
                        repeat (go_quiet (fail); try go_wp2)
                        go_meet
                        case rel => exact ⟨_, (true), (by first | rfl | (simp; done) | (simp [*]; done)), H', ⟨by have := HJ1.out; have := HK2.out; first | omega | exact Nat.le_refl _⟩, ⟨by (with_reducible repeat (first | refine blk_drewN ?_ _ | refine blk_drew ?_ | refine blk_alloc ?_ _)); refine blk_put (cs := #[.string ((rd_T37 l0 x4_2).f0.f0), .string (⟨#[]⟩ : ByteArray)]) ?_ 1 _ rfl; (with_reducible repeat (first | refine blk_drewN ?_ _ | refine blk_drew ?_ | refine blk_alloc ?_ _)); refine blk_put (cs := #[.string (⟨#[]⟩ : ByteArray), .string (⟨#[]⟩ : ByteArray)]) ?_ 0 _ rfl; (with_reducible repeat (first | refine blk_drewN ?_ _ | refine blk_drew ?_ | refine blk_alloc ?_ _)); exact BK182.out⟩, ⟨by repeat (first | (with_reducible first | exact HB.out | apply below_alloc | apply pw_below_drewN | apply below_drew1 | refine below_set ?_ GE182.out) | exact HB.out)⟩⟩
                    · rw [if_neg c11] at H
                      have c11b0 : (x4_2 == (wrap64 ((l0.length : Int) - 1))) = false := beq_eq_false_iff_ne.mpr c11
                      have ck_c11b0 := Aside0.mk c11b0
                      (try (rw [hb_q0] at c11b0; subst c11b0))
                      have c11b1 : (x4_2 != (wrap64 ((l0.length : Int) - 1))) = true := bne_iff_ne.mpr c11
                      by_cases c19 : (x4_2 = (wrap64 ((l0.length : Int) - 1)))
                      · rw [if_pos c19] at H
                        have c19b0 : (x4_2 == (wrap64 ((l0.length : Int) - 1))) = true := beq_iff_eq.mpr c19
                        exact absurd (c19b0.symm.trans ck_c11b0.out) (by decide)
                      · rw [if_neg c19] at H
                        have c19b0 : (x4_2 == (wrap64 ((l0.length : Int) - 1))) = false := beq_eq_false_iff_ne.mpr c19
                        have c19b1 : (x4_2 != (wrap64 ((l0.length : Int) - 1))) = true := bne_iff_ne.mpr c19
                        by_cases c21 : ((Op.bytesLess (((rd_T37 l0 x4_2).f0.f0).toList) (((rd_T37 l0 x4_2).f0.f1).toList)) = true)
                        · rw [if_pos c21] at H
                          have c21b0 : (Op.bytesLess (((rd_T37 l0 x4_2).f0.f0).toList) (((rd_T37 l0 x4_2).f0.f1).toList)) = true := c21
                          clear c21
                          have H' := Aside0.mk H
                          clear H
                          have hcz22_0 : w8.cell? ⟨gb182, 0, none⟩ = some (.string (⟨#[]⟩ : ByteArray)) := (blk_cell BK182.out 0).trans rfl
                          have hcz22_1 : w8.cell? ⟨gb182, 1, none⟩ = some (.string (⟨#[]⟩ : ByteArray)) := (blk_cell BK182.out 1).trans rfl
                          have hfz22_0 := blk_frozen BK182.out 0
                          have hfz22_1 := blk_frozen BK182.out 1
                          go_wp2
                          repeat (go_quiet (fail); try go_wp2)
                          go_meet
                          case rel => exact ⟨_, (decide ((((rd_T37 l0 x4_2).f0.f1).size : Int) > 16)), (by first | rfl | (simp; done) | (simp [*]; done)), H', ⟨by have := HJ1.out; have := HK2.out; first | omega | exact Nat.le_refl _⟩, ⟨by (with_reducible repeat (first | refine blk_drewN ?_ _ | refine blk_drew ?_ | refine blk_alloc ?_ _)); refine blk_put (cs := #[.string ((rd_T37 l0 x4_2).f0.f0), .string (⟨#[]⟩ : ByteArray)]) ?_ 1 _ rfl; (with_reducible repeat (first | refine blk_drewN ?_ _ | refine blk_drew ?_ | refine blk_alloc ?_ _)); refine blk_put (cs := #[.string (⟨#[]⟩ : ByteArray), .string (⟨#[]⟩ : ByteArray)]) ?_ 0 _ rfl; (with_reducible repeat (first | refine blk_drewN ?_ _ | refine blk_drew ?_ | refine blk_alloc ?_ _)); exact BK182.out⟩, ⟨by repeat (first | (with_reducible first | exact HB.out | apply below_alloc | apply pw_below_drewN | apply below_drew1 | refine below_set ?_ GE182.out) | exact HB.out)⟩⟩
                        · rw [if_neg c21] at H
                          have c21b0 : (Op.bytesLess (((rd_T37 l0 x4_2).f0.f0).toList) (((rd_T37 l0 x4_2).f0.f1).toList)) = false := by simpa using c21
                          clear c21
                          have H' := Aside0.mk H
                          clear H
                          have hcz23_0 : w8.cell? ⟨gb182, 0, none⟩ = some (.string (⟨#[]⟩ : ByteArray)) := (blk_cell BK182.out 0).trans rfl
                          have hcz23_1 : w8.cell? ⟨gb182, 1, none⟩ = some (.string (⟨#[]⟩ : ByteArray)) := (blk_cell BK182.out 1).trans rfl
                          have hfz23_0 := blk_frozen BK182.out 0
                          have hfz23_1 := blk_frozen BK182.out 1
                          go_wp2
                          repeat (go_quiet (fail); try go_wp2)
                          go_meet
                          case rel => exact ⟨_, (true), (by first | rfl | (simp; done) | (simp [*]; done)), H', ⟨by have := HJ1.out; have := HK2.out; first | omega | exact Nat.le_refl _⟩, ⟨by (with_reducible repeat (first | refine blk_drewN ?_ _ | refine blk_drew ?_ | refine blk_alloc ?_ _)); refine blk_put (cs := #[.string ((rd_T37 l0 x4_2).f0.f0), .string (⟨#[]⟩ : ByteArray)]) ?_ 1 _ rfl; (with_reducible repeat (first | refine blk_drewN ?_ _ | refine blk_drew ?_ | refine blk_alloc ?_ _)); refine blk_put (cs := #[.string (⟨#[]⟩ : ByteArray), .string (⟨#[]⟩ : ByteArray)]) ?_ 0 _ rfl; (with_reducible repeat (first | refine blk_drewN ?_ _ | refine blk_drew ?_ | refine blk_alloc ?_ _)); exact BK182.out⟩, ⟨by repeat (first | (with_reducible first | exact HB.out | apply below_alloc | apply pw_below_drewN | apply below_drew1 | refine below_set ?_ GE182.out) | exact HB.out)⟩⟩
                  · rw [if_neg c10] at H
                    have c10b0 : (((rd_T37 l0 x4_2).f0.f0).toList == x3_2.toList) = false := beq_eq_false_iff_ne.mpr c10
                    have c10b1 : (((rd_T37 l0 x4_2).f0.f0).toList != x3_2.toList) = true := bne_iff_ne.mpr c10
                    (first | rw [c10b0] | (simp only [i64_w, i32_w]; rw [c10b0]) | skip)
                    have H' := Aside0.mk H
                    clear H
                    have hcz24_0 : w8.cell? ⟨gb182, 0, none⟩ = some (.string (⟨#[]⟩ : ByteArray)) := (blk_cell BK182.out 0).trans rfl
                    have hcz24_1 : w8.cell? ⟨gb182, 1, none⟩ = some (.string (⟨#[]⟩ : ByteArray)) := (blk_cell BK182.out 1).trans rfl
                    have hfz24_0 := blk_frozen BK182.out 0
                    have hfz24_1 := blk_frozen BK182.out 1
                    go_wp2
                    repeat (go_quiet (fail); try go_wp2)
                    go_meet
                    case rel => exact ⟨_, (true), (by first | rfl | (simp; done) | (simp [*]; done)), H', ⟨by have := HJ1.out; have := HK2.out; first | omega | exact Nat.le_refl _⟩, ⟨by (with_reducible repeat (first | refine blk_drewN ?_ _ | refine blk_drew ?_ | refine blk_alloc ?_ _)); refine blk_put (cs := #[.string ((rd_T37 l0 x4_2).f0.f0), .string (⟨#[]⟩ : ByteArray)]) ?_ 1 _ rfl; (with_reducible repeat (first | refine blk_drewN ?_ _ | refine blk_drew ?_ | refine blk_alloc ?_ _)); refine blk_put (cs := #[.string (⟨#[]⟩ : ByteArray), .string (⟨#[]⟩ : ByteArray)]) ?_ 0 _ rfl; (with_reducible repeat (first | refine blk_drewN ?_ _ | refine blk_drew ?_ | refine blk_alloc ?_ _)); exact BK182.out⟩, ⟨by repeat (first | (with_reducible first | exact HB.out | apply below_alloc | apply pw_below_drewN | apply below_drew1 | refine below_set ?_ GE182.out) | exact HB.out)⟩⟩
                case rest =>
                  clear HC7
                  try clear c1
                  try clear p1
                  try clear q1
                  try clear hx1
                  try clear c2
                  try clear p2
                  try clear c3
                  try clear c3b0
                  try clear c3b1
                  try clear c4
                  try clear c5
                  try clear c5b0
                  try clear c6
                  try clear c6b0
                  try clear p6
                  try clear c10
                  try clear c10b0
                  try clear c10b1
                  try clear c11
                  try clear c11b0
                  try clear c11b1
                  try clear c12
                  try clear c12b0
                  try clear c12b1
                  try clear c13
                  try clear c13b0
                  try clear c13b1
                  try clear c15
                  try clear c15b0
                  try clear c18
                  try clear p18
                  try clear q18
                  try clear hx18
                  try clear c19
                  try clear c19b0
                  try clear c19b1
                  try clear c21
                  try clear c21b0
                  try clear hcz14_0
                  try clear hcz14_1
                  try clear hcz16_0
                  try clear hcz16_1
                  try clear hcz17_0
                  try clear hcz17_1
                  try clear hcz18_0
                  try clear hcz18_1
                  try clear hcz20_0
                  try clear hcz20_1
                  try clear hcz22_0
                  try clear hcz22_1
                  try clear hcz23_0
                  try clear hcz23_1
                  try clear hcz24_0
                  try clear hcz24_1
                  try clear hcz9_0
                  try clear hcz9_1
                  try clear hfz14_0
                  try clear hfz14_1
                  try clear hfz16_0
                  try clear hfz16_1
                  try clear hfz17_0
                  try clear hfz17_1
                  try clear hfz18_0
                  try clear hfz18_1
                  try clear hfz20_0
                  try clear hfz20_1
                  try clear hfz22_0
                  try clear hfz22_1
                  try clear hfz23_0
                  try clear hfz23_1
                  try clear hfz24_0
                  try clear hfz24_1
                  try clear hfz9_0
                  try clear hfz9_1
                  try clear hx181_0
                  try clear hx181_1
                  try clear hx181_2
                  try clear p181
                  try clear p2
                  try clear q181
                  obtain ⟨kq, x61_6, rfl, HA, HJ6, BK182, HB⟩ := hcut
                  cases kq with
                  | zero => exact absurd HA.out (by simp [folkmootref04_Check.j2])
                  | succ kj6 =>
                    have H := HA.out
                    clear HA
                    simp only [folkmootref04_Check.j2] at H
                    by_cases c25 : x61_6 = true
                    · subst c25
                      have H1 : (some 40) = some r := by rw [if_pos rfl] at H; exact H
                      clear H
                      have H := H1
                      clear H1
                      obtain rfl := Option.some.inj H
                      go_wp2
                      repeat (go_quiet (fail); try go_wp2)
                      go_ret
                      exact ⟨by first | rfl | (simp [errW_none, errW_some] <;> rfl) | (simp [*, errW_none, errW_some] <;> rfl), by repeat (first | (with_reducible first | exact HB.out | apply below_alloc | apply pw_below_drewN | apply below_drew1 | refine below_set ?_ GE182.out) | exact HB.out)⟩
                    · replace c25 := Bool.eq_false_iff.mpr c25
                      subst c25
                      have H1 : (if 0 ≤ x4_2 then (if x4_2 < (l0.length : Int) then (if (((rd_T37 l0 x4_2).f1).length : Int) < 1 then (folkmootref04_Check.j3 kj6 l0 ((rd_T37 l0 x4_2).f0.f1) x4_2 ((rd_T37 l0 x4_2).f1) true) else (folkmootref04_Check.j3 kj6 l0 ((rd_T37 l0 x4_2).f0.f1) x4_2 ((rd_T37 l0 x4_2).f1) (decide ((((rd_T37 l0 x4_2).f1).length : Int) > 5)))) else (none)) else (none)) = some r := by rw [if_neg (show ¬ (false = true) by decide)] at H; exact H
                      clear H
                      have H := H1
                      clear H1
                      by_cases c26 : 0 ≤ x4_2
                      · rw [if_pos c26] at H
                        have c26b0 : decide (0 ≤ x4_2) = true := decide_eq_true c26
                        clear c26
                        by_cases c27 : x4_2 < (l0.length : Int)
                        · rw [if_pos c27] at H
                          have c27b0 : decide (x4_2 < (l0.length : Int)) = true := decide_eq_true c27
                          clear c27
                          have HC28 := Aside0.mk H
                          clear H
                          have hcz29_0 : wc.cell? ⟨gb182, 0, none⟩ = some (.string ((rd_T37 l0 x4_2).f0.f0)) := (blk_cell BK182.out 0).trans rfl
                          have hcz29_1 : wc.cell? ⟨gb182, 1, none⟩ = some (.string ((rd_T37 l0 x4_2).f0.f1)) := (blk_cell BK182.out 1).trans rfl
                          have hfz29_0 := blk_frozen BK182.out 0
                          have hfz29_1 := blk_frozen BK182.out 1
                          have p183 : 0 ≤ (x4_2 : Int) := of_decide_eq_true (by first | (with_reducible assumption) | assumption)
                          have q183 : x4_2 < (l0.length : Int) := of_decide_eq_true (by first | (with_reducible assumption) | assumption)
                          obtain ⟨ad183, A183_2, c183_2, e183, hx183_0, hx183_1, hx183_2, hl183_2, hi183_2⟩ := at_T37 HR0.out x4_2 p183 q183
                          obtain rfl : ad181 = ad183 := (by injection e183)
                          replace hx183_0 := (HB.out.cell (World.block_lt_of_cell? w _ hx183_0)).trans hx183_0
                          replace hx183_1 := (HB.out.cell (World.block_lt_of_cell? w _ hx183_1)).trans hx183_1
                          replace hx183_2 := (HB.out.cell (World.block_lt_of_cell? w _ hx183_2)).trans hx183_2
                          have HR183_2 := Aside0.mk hi183_2
                          have HC183_2 := Aside0.mk hl183_2
                          clear hi183_2 hl183_2
                          replace p183 := eq_true p183
                          replace q183 := eq_true q183
                          go_upto_region 13 with (fail)
                          repeat (go_quiet (fail); go_upto_region 13 with (fail))
                          go_cut [76] (fun v76 wc => ∃ (kq : Nat) (x76_27 : Bool), v76 = .bool x76_27 ∧ Aside0 (folkmootref04_Check.j3 kq l0 ((rd_T37 l0 x4_2).f0.f1) x4_2 ((rd_T37 l0 x4_2).f1) x76_27 = some r) ∧ Aside0 (kq ≤ kj6) ∧ Aside0 (wc.heap[gb182]? = some (.cells #[.string ((rd_T37 l0 x4_2).f0.f0), .string ((rd_T37 l0 x4_2).f0.f1)] 35 (0, 0))) ∧ Aside0 (Below w.heap.size w wc))
                          case first =>
                            have H := HC28.out
                            clear HC28
                            by_cases c30 : (((rd_T37 l0 x4_2).f1).length : Int) < 1
                            · rw [if_pos c30] at H
                              have c30b0 : decide ((((rd_T37 l0 x4_2).f1).length : Int) < 1) = true := decide_eq_true c30
                              have c30b1 : decide (((rd_T37 l0 x4_2).f1).length < 1) = true := decide_eq_true (by omega)
                              clear c30
                              (first | rw [c30b0] | (simp only [i64_w, i32_w]; rw [c30b0]) | skip)
                              have H' := Aside0.mk H
                              clear H
                              go_wp2
                              repeat (go_quiet (fail); try go_wp2)
                              go_meet
                              case rel => exact ⟨_, (true), (by first | rfl | (simp; done) | (simp [*]; done)), H', ⟨by have := HJ1.out; have := HK2.out; have := HJ6.out; first | omega | exact Nat.le_refl _⟩, ⟨by (with_reducible repeat (first | refine blk_drewN ?_ _ | refine blk_drew ?_ | refine blk_alloc ?_ _)); exact BK182.out⟩, ⟨by repeat (first | (with_reducible first | exact HB.out | apply below_alloc | apply pw_below_drewN | apply below_drew1 | refine below_set ?_ GE182.out) | exact HB.out)⟩⟩
                            · rw [if_neg c30] at H
                              have c30b0 : decide ((((rd_T37 l0 x4_2).f1).length : Int) < 1) = false := decide_eq_false c30
                              have c30b1 : decide (((rd_T37 l0 x4_2).f1).length < 1) = false := decide_eq_false (by omega)
                              clear c30
                              (first | rw [c30b0] | (simp only [i64_w, i32_w]; rw [c30b0]) | skip)
                              have H' := Aside0.mk H
                              clear H
                              go_wp2
                              repeat (go_quiet (fail); try go_wp2)
                              go_meet
                              case rel => exact ⟨_, (decide ((((rd_T37 l0 x4_2).f1).length : Int) > 5)), (by first | rfl | (simp; done) | (simp [*]; done)), H', ⟨by have := HJ1.out; have := HK2.out; have := HJ6.out; first | omega | exact Nat.le_refl _⟩, ⟨by (with_reducible repeat (first | refine blk_drewN ?_ _ | refine blk_drew ?_ | refine blk_alloc ?_ _)); exact BK182.out⟩, ⟨by repeat (first | (with_reducible first | exact HB.out | apply below_alloc | apply pw_below_drewN | apply below_drew1 | refine below_set ?_ GE182.out) | exact HB.out)⟩⟩
                          case rest =>
                            clear HC28
                            try clear c1
                            try clear p1
                            try clear q1
                            try clear hx1
                            try clear c2
                            try clear p2
                            try clear c3
                            try clear c3b0
                            try clear c3b1
                            try clear c4
                            try clear c5
                            try clear c5b0
                            try clear c6
                            try clear c6b0
                            try clear p6
                            try clear c10
                            try clear c10b0
                            try clear c10b1
                            try clear c11
                            try clear c11b0
                            try clear c11b1
                            try clear c12
                            try clear c12b0
                            try clear c12b1
                            try clear c13
                            try clear c13b0
                            try clear c13b1
                            try clear c15
                            try clear c15b0
                            try clear c18
                            try clear p18
                            try clear q18
                            try clear hx18
                            try clear c19
                            try clear c19b0
                            try clear c19b1
                            try clear c21
                            try clear c21b0
                            try clear c25
                            try clear c26
                            try clear c26b0
                            try clear c27
                            try clear c27b0
                            try clear c30
                            try clear c30b0
                            try clear c30b1
                            try clear hcz14_0
                            try clear hcz14_1
                            try clear hcz16_0
                            try clear hcz16_1
                            try clear hcz17_0
                            try clear hcz17_1
                            try clear hcz18_0
                            try clear hcz18_1
                            try clear hcz20_0
                            try clear hcz20_1
                            try clear hcz22_0
                            try clear hcz22_1
                            try clear hcz23_0
                            try clear hcz23_1
                            try clear hcz24_0
                            try clear hcz24_1
                            try clear hcz29_0
                            try clear hcz29_1
                            try clear hcz9_0
                            try clear hcz9_1
                            try clear hfz14_0
                            try clear hfz14_1
                            try clear hfz16_0
                            try clear hfz16_1
                            try clear hfz17_0
                            try clear hfz17_1
                            try clear hfz18_0
                            try clear hfz18_1
                            try clear hfz20_0
                            try clear hfz20_1
                            try clear hfz22_0
                            try clear hfz22_1
                            try clear hfz23_0
                            try clear hfz23_1
                            try clear hfz24_0
                            try clear hfz24_1
                            try clear hfz29_0
                            try clear hfz29_1
                            try clear hfz9_0
                            try clear hfz9_1
                            try clear hx181_0
                            try clear hx181_1
                            try clear hx181_2
                            try clear hx183_0
                            try clear hx183_1
                            try clear hx183_2
                            try clear p1
                            try clear p18
                            try clear p181
                            try clear p183
                            try clear p2
                            try clear p6
                            try clear q1
                            try clear q18
                            try clear q181
                            try clear q183
                            obtain ⟨kq, x76_27, rfl, HA, HJ27, BK182, HB⟩ := hcut
                            cases kq with
                            | zero => exact absurd HA.out (by simp [folkmootref04_Check.j3])
                            | succ kj27 =>
                              have H := HA.out
                              clear HA
                              simp only [folkmootref04_Check.j3] at H
                              by_cases c31 : x76_27 = true
                              · subst c31
                                have H1 : (some 40) = some r := by rw [if_pos rfl] at H; exact H
                                clear H
                                have H := H1
                                clear H1
                                obtain rfl := Option.some.inj H
                                go_wp2
                                repeat (go_quiet (fail); try go_wp2)
                                go_ret
                                exact ⟨by first | rfl | (simp [errW_none, errW_some] <;> rfl) | (simp [*, errW_none, errW_some] <;> rfl), by repeat (first | (with_reducible first | exact HB.out | apply below_alloc | apply pw_below_drewN | apply below_drew1 | refine below_set ?_ GE182.out) | exact HB.out)⟩
                              · replace c31 := Bool.eq_false_iff.mpr c31
                                subst c31
                                have H1 : (folkmootref04_Check.l1 kj27 l0 ((rd_T37 l0 x4_2).f0.f1) x4_2 ((rd_T37 l0 x4_2).f1) 0) = some r := by rw [if_neg (show ¬ (false = true) by decide)] at H; exact H
                                clear H
                                have H := H1
                                clear H1
                                have H' := Aside0.mk H
                                clear H
                                go_wp2
                                repeat (go_quiet (fail); try go_wp2)
                                go_loopg [8] kj27 (fun kq v8 w' => ∃ (x8_5 : Int), v8 = .int .i64 x8_5 ∧ Aside0 (folkmootref04_Check.l1 kq l0 ((rd_T37 l0 x4_2).f0.f1) x4_2 ((rd_T37 l0 x4_2).f1) x8_5 = some r) ∧ Aside0 (kq ≤ kj27) ∧ Aside0 (w'.heap[gb182]? = some (.cells #[.string ((rd_T37 l0 x4_2).f0.f0), .string ((rd_T37 l0 x4_2).f0.f1)] 35 (0, 0))) ∧ Aside0 (Below w.heap.size w w'))
                                case atStart => exact ⟨(0), (by first | rfl | (simp; done) | (simp [*]; done)), H', ⟨Nat.le_refl _⟩, ⟨by (with_reducible repeat (first | refine blk_drewN ?_ _ | refine blk_drew ?_ | refine blk_alloc ?_ _)); exact BK182.out⟩, ⟨by repeat (first | (with_reducible first | exact HB.out | apply below_alloc | apply pw_below_drewN | apply below_drew1 | refine below_set ?_ GE182.out) | exact HB.out)⟩⟩
                                case round =>
                                  clear H'
                                  try clear c1
                                  try clear p1
                                  try clear q1
                                  try clear hx1
                                  try clear c2
                                  try clear p2
                                  try clear c3
                                  try clear c3b0
                                  try clear c3b1
                                  try clear c4
                                  try clear c5
                                  try clear c5b0
                                  try clear c6
                                  try clear c6b0
                                  try clear p6
                                  try clear c10
                                  try clear c10b0
                                  try clear c10b1
                                  try clear c11
                                  try clear c11b0
                                  try clear c11b1
                                  try clear c12
                                  try clear c12b0
                                  try clear c12b1
                                  try clear c13
                                  try clear c13b0
                                  try clear c13b1
                                  try clear c15
                                  try clear c15b0
                                  try clear c18
                                  try clear p18
                                  try clear q18
                                  try clear hx18
                                  try clear c19
                                  try clear c19b0
                                  try clear c19b1
                                  try clear c21
                                  try clear c21b0
                                  try clear c25
                                  try clear c26
                                  try clear c26b0
                                  try clear c27
                                  try clear c27b0
                                  try clear c30
                                  try clear c30b0
                                  try clear c30b1
                                  try clear c31
                                  try clear hcz14_0
                                  try clear hcz14_1
                                  try clear hcz16_0
                                  try clear hcz16_1
                                  try clear hcz17_0
                                  try clear hcz17_1
                                  try clear hcz18_0
                                  try clear hcz18_1
                                  try clear hcz20_0
                                  try clear hcz20_1
                                  try clear hcz22_0
                                  try clear hcz22_1
                                  try clear hcz23_0
                                  try clear hcz23_1
                                  try clear hcz24_0
                                  try clear hcz24_1
                                  try clear hcz29_0
                                  try clear hcz29_1
                                  try clear hcz9_0
                                  try clear hcz9_1
                                  try clear hfz14_0
                                  try clear hfz14_1
                                  try clear hfz16_0
                                  try clear hfz16_1
                                  try clear hfz17_0
                                  try clear hfz17_1
                                  try clear hfz18_0
                                  try clear hfz18_1
                                  try clear hfz20_0
                                  try clear hfz20_1
                                  try clear hfz22_0
                                  try clear hfz22_1
                                  try clear hfz23_0
                                  try clear hfz23_1
                                  try clear hfz24_0
                                  try clear hfz24_1
                                  try clear hfz29_0
                                  try clear hfz29_1
                                  try clear hfz9_0
                                  try clear hfz9_1
                                  try clear hx181_0
                                  try clear hx181_1
                                  try clear hx181_2
                                  try clear hx183_0
                                  try clear hx183_1
                                  try clear hx183_2
                                  try clear p1
                                  try clear p18
                                  try clear p181
                                  try clear p183
                                  try clear p2
                                  try clear p6
                                  try clear q1
                                  try clear q18
                                  try clear q181
                                  try clear q183
                                  obtain ⟨x8_5, rfl, HA, HK5, BK182, HB⟩ := hrel
                                  cases gk with
                                  | zero => exact absurd HA.out (by simp [folkmootref04_Check.l1])
                                  | succ k5 =>
                                    have H := HA.out
                                    clear HA
                                    simp only [folkmootref04_Check.l1] at H
                                    by_cases c32 : x8_5 < (((rd_T37 l0 x4_2).f1).length : Int)
                                    · rw [if_pos c32] at H
                                      have c32b0 : decide (x8_5 < (((rd_T37 l0 x4_2).f1).length : Int)) = true := decide_eq_true c32
                                      clear c32
                                      by_cases c33 : 0 ≤ x8_5
                                      · rw [if_pos c33] at H
                                        have c33b0 : decide (0 ≤ x8_5) = true := decide_eq_true c33
                                        clear c33
                                        by_cases c34 : (rd ((rd_T37 l0 x4_2).f1) x8_5) < 1
                                        · rw [if_pos c34] at H
                                          have c34b0 : decide ((rd ((rd_T37 l0 x4_2).f1) x8_5) < 1) = true := decide_eq_true c34
                                          clear c34
                                          obtain rfl := Option.some.inj H
                                          have p184 : 0 ≤ (x8_5 : Int) := of_decide_eq_true (by first | (with_reducible assumption) | assumption)
                                          have q184 : x8_5 < (((rd_T37 l0 x4_2).f1).length : Int) := of_decide_eq_true (by first | (with_reducible assumption) | assumption)
                                          obtain ⟨ad184, e184, hx184_0⟩ := Kd.at_int HR183_2.out x8_5 p184 q184
                                          cases e184
                                          replace hx184_0 := (HB.out.cell (World.block_lt_of_cell? w _ hx184_0)).trans hx184_0
                                          replace p184 := eq_true p184
                                          replace q184 := eq_true q184
                                          go_wp2
                                          repeat (go_quiet (fail); try go_wp2)
                                          go_ret
                                          exact ⟨by first | rfl | (simp [errW_none, errW_some] <;> rfl) | (simp [*, errW_none, errW_some] <;> rfl), by repeat (first | (with_reducible first | exact HB.out | apply below_alloc | apply pw_below_drewN | apply below_drew1 | refine below_set ?_ GE182.out) | exact HB.out)⟩
                                        · rw [if_neg c34] at H
                                          have c34b0 : decide ((rd ((rd_T37 l0 x4_2).f1) x8_5) < 1) = false := decide_eq_false c34
                                          clear c34
                                          by_cases c35 : (rd ((rd_T37 l0 x4_2).f1) x8_5) > 7
                                          · rw [if_pos c35] at H
                                            have c35b0 : decide (7 < (rd ((rd_T37 l0 x4_2).f1) x8_5)) = true := decide_eq_true c35
                                            clear c35
                                            obtain rfl := Option.some.inj H
                                            have p184 : 0 ≤ (x8_5 : Int) := of_decide_eq_true (by first | (with_reducible assumption) | assumption)
                                            have q184 : x8_5 < (((rd_T37 l0 x4_2).f1).length : Int) := of_decide_eq_true (by first | (with_reducible assumption) | assumption)
                                            obtain ⟨ad184, e184, hx184_0⟩ := Kd.at_int HR183_2.out x8_5 p184 q184
                                            cases e184
                                            replace hx184_0 := (HB.out.cell (World.block_lt_of_cell? w _ hx184_0)).trans hx184_0
                                            replace p184 := eq_true p184
                                            replace q184 := eq_true q184
                                            have p185 : 0 ≤ (x8_5 : Int) := of_decide_eq_true (by first | (with_reducible assumption) | assumption)
                                            have q185 : x8_5 < (((rd_T37 l0 x4_2).f1).length : Int) := of_decide_eq_true (by first | (with_reducible assumption) | assumption)
                                            obtain ⟨ad185, e185, hx185_0⟩ := Kd.at_int HR183_2.out x8_5 p185 q185
                                            obtain rfl : ad184 = ad185 := (by injection e185)
                                            replace hx185_0 := (HB.out.cell (World.block_lt_of_cell? w _ hx185_0)).trans hx185_0
                                            replace p185 := eq_true p185
                                            replace q185 := eq_true q185
                                            go_wp2
                                            repeat (go_quiet (fail); try go_wp2)
                                            go_ret
                                            exact ⟨by first | rfl | (simp [errW_none, errW_some] <;> rfl) | (simp [*, errW_none, errW_some] <;> rfl), by repeat (first | (with_reducible first | exact HB.out | apply below_alloc | apply pw_below_drewN | apply below_drew1 | refine below_set ?_ GE182.out) | exact HB.out)⟩
                                          · rw [if_neg c35] at H
                                            have c35b0 : decide (7 < (rd ((rd_T37 l0 x4_2).f1) x8_5)) = false := decide_eq_false c35
                                            clear c35
                                            by_cases c36 : x8_5 > 0
                                            · rw [if_pos c36] at H
                                              have c36b0 : decide (0 < x8_5) = true := decide_eq_true c36
                                              clear c36
                                              obtain ⟨ji37, hji37⟩ : ∃ j_ : Int, (wrap64 (x8_5 - 1)) = j_ := ⟨_, rfl⟩
                                              replace H : (if 0 ≤ (ji37) then (if (ji37) < (((rd_T37 l0 x4_2).f1).length : Int) then (if (rd ((rd_T37 l0 x4_2).f1) x8_5) ≤ (rd ((rd_T37 l0 x4_2).f1) (ji37)) then (some 40) else (folkmootref04_Check.l1 k5 l0 ((rd_T37 l0 x4_2).f0.f1) x4_2 ((rd_T37 l0 x4_2).f1) (wrap64 (x8_5 + 1)))) else (none)) else (none)) = some r := by first | (rw [hji37] at H; exact H) | (simp only [hji37] at H ⊢; exact H)
                                              have hji37w : (IntKind.i64.wrap (x8_5 - 1)) = ji37 := (i64_w _).trans hji37
                                              by_cases c38 : 0 ≤ (ji37)
                                              · rw [if_pos c38] at H
                                                have c38b0 : decide (0 ≤ (ji37)) = true := decide_eq_true c38
                                                clear c38
                                                by_cases c39 : (ji37) < (((rd_T37 l0 x4_2).f1).length : Int)
                                                · rw [if_pos c39] at H
                                                  have c39b0 : decide ((ji37) < (((rd_T37 l0 x4_2).f1).length : Int)) = true := decide_eq_true c39
                                                  clear c39
                                                  by_cases c40 : (rd ((rd_T37 l0 x4_2).f1) x8_5) ≤ (rd ((rd_T37 l0 x4_2).f1) (ji37))
                                                  · rw [if_pos c40] at H
                                                    have c40b0 : decide ((rd ((rd_T37 l0 x4_2).f1) x8_5) ≤ (rd ((rd_T37 l0 x4_2).f1) (ji37))) = true := decide_eq_true c40
                                                    clear c40
                                                    obtain rfl := Option.some.inj H
                                                    have p184 : 0 ≤ (x8_5 : Int) := of_decide_eq_true (by first | (with_reducible assumption) | assumption)
                                                    have q184 : x8_5 < (((rd_T37 l0 x4_2).f1).length : Int) := of_decide_eq_true (by first | (with_reducible assumption) | assumption)
                                                    obtain ⟨ad184, e184, hx184_0⟩ := Kd.at_int HR183_2.out x8_5 p184 q184
                                                    cases e184
                                                    replace hx184_0 := (HB.out.cell (World.block_lt_of_cell? w _ hx184_0)).trans hx184_0
                                                    replace p184 := eq_true p184
                                                    replace q184 := eq_true q184
                                                    have p185 : 0 ≤ (x8_5 : Int) := of_decide_eq_true (by first | (with_reducible assumption) | assumption)
                                                    have q185 : x8_5 < (((rd_T37 l0 x4_2).f1).length : Int) := of_decide_eq_true (by first | (with_reducible assumption) | assumption)
                                                    obtain ⟨ad185, e185, hx185_0⟩ := Kd.at_int HR183_2.out x8_5 p185 q185
                                                    obtain rfl : ad184 = ad185 := (by injection e185)
                                                    replace hx185_0 := (HB.out.cell (World.block_lt_of_cell? w _ hx185_0)).trans hx185_0
                                                    replace p185 := eq_true p185
                                                    replace q185 := eq_true q185
                                                    have p186 : 0 ≤ (x8_5 : Int) := of_decide_eq_true (by first | (with_reducible assumption) | assumption)
                                                    have q186 : x8_5 < (((rd_T37 l0 x4_2).f1).length : Int) := of_decide_eq_true (by first | (with_reducible assumption) | assumption)
                                                    obtain ⟨ad186, e186, hx186_0⟩ := Kd.at_int HR183_2.out x8_5 p186 q186
                                                    obtain rfl : ad184 = ad186 := (by injection e186)
                                                    replace hx186_0 := (HB.out.cell (World.block_lt_of_cell? w _ hx186_0)).trans hx186_0
                                                    replace p186 := eq_true p186
                                                    replace q186 := eq_true q186
                                                    have p187 : 0 ≤ ((ji37) : Int) := of_decide_eq_true (by first | (with_reducible assumption) | assumption)
                                                    have q187 : (ji37) < (((rd_T37 l0 x4_2).f1).length : Int) := of_decide_eq_true (by first | (with_reducible assumption) | assumption)
                                                    obtain ⟨ad187, e187, hx187_0⟩ := Kd.at_int HR183_2.out (ji37) p187 q187
                                                    obtain rfl : ad184 = ad187 := (by injection e187)
                                                    replace hx187_0 := (HB.out.cell (World.block_lt_of_cell? w _ hx187_0)).trans hx187_0
                                                    replace p187 := eq_true p187
                                                    replace q187 := eq_true q187
                                                    go_wp2
                                                    repeat (go_quiet (fail); try go_wp2)
                                                    go_ret
                                                    exact ⟨by first | rfl | (simp [errW_none, errW_some] <;> rfl) | (simp only [← hji37]; first | rfl | (simp [errW_none, errW_some] <;> rfl)) | (simp [*, errW_none, errW_some] <;> rfl), by repeat (first | (with_reducible first | exact HB.out | apply below_alloc | apply pw_below_drewN | apply below_drew1 | refine below_set ?_ GE182.out) | exact HB.out)⟩
                                                  · rw [if_neg c40] at H
                                                    have c40b0 : decide ((rd ((rd_T37 l0 x4_2).f1) x8_5) ≤ (rd ((rd_T37 l0 x4_2).f1) (ji37))) = false := decide_eq_false c40
                                                    clear c40
                                                    have H' := Aside0.mk H
                                                    clear H
                                                    have p184 : 0 ≤ (x8_5 : Int) := of_decide_eq_true (by first | (with_reducible assumption) | assumption)
                                                    have q184 : x8_5 < (((rd_T37 l0 x4_2).f1).length : Int) := of_decide_eq_true (by first | (with_reducible assumption) | assumption)
                                                    obtain ⟨ad184, e184, hx184_0⟩ := Kd.at_int HR183_2.out x8_5 p184 q184
                                                    cases e184
                                                    replace hx184_0 := (HB.out.cell (World.block_lt_of_cell? w _ hx184_0)).trans hx184_0
                                                    replace p184 := eq_true p184
                                                    replace q184 := eq_true q184
                                                    have p185 : 0 ≤ (x8_5 : Int) := of_decide_eq_true (by first | (with_reducible assumption) | assumption)
                                                    have q185 : x8_5 < (((rd_T37 l0 x4_2).f1).length : Int) := of_decide_eq_true (by first | (with_reducible assumption) | assumption)
                                                    obtain ⟨ad185, e185, hx185_0⟩ := Kd.at_int HR183_2.out x8_5 p185 q185
                                                    obtain rfl : ad184 = ad185 := (by injection e185)
                                                    replace hx185_0 := (HB.out.cell (World.block_lt_of_cell? w _ hx185_0)).trans hx185_0
                                                    replace p185 := eq_true p185
                                                    replace q185 := eq_true q185
                                                    have p186 : 0 ≤ (x8_5 : Int) := of_decide_eq_true (by first | (with_reducible assumption) | assumption)
                                                    have q186 : x8_5 < (((rd_T37 l0 x4_2).f1).length : Int) := of_decide_eq_true (by first | (with_reducible assumption) | assumption)
                                                    obtain ⟨ad186, e186, hx186_0⟩ := Kd.at_int HR183_2.out x8_5 p186 q186
                                                    obtain rfl : ad184 = ad186 := (by injection e186)
                                                    replace hx186_0 := (HB.out.cell (World.block_lt_of_cell? w _ hx186_0)).trans hx186_0
                                                    replace p186 := eq_true p186
                                                    replace q186 := eq_true q186
                                                    have p187 : 0 ≤ ((ji37) : Int) := of_decide_eq_true (by first | (with_reducible assumption) | assumption)
                                                    have q187 : (ji37) < (((rd_T37 l0 x4_2).f1).length : Int) := of_decide_eq_true (by first | (with_reducible assumption) | assumption)
                                                    obtain ⟨ad187, e187, hx187_0⟩ := Kd.at_int HR183_2.out (ji37) p187 q187
                                                    obtain rfl : ad184 = ad187 := (by injection e187)
                                                    replace hx187_0 := (HB.out.cell (World.block_lt_of_cell? w _ hx187_0)).trans hx187_0
                                                    replace p187 := eq_true p187
                                                    replace q187 := eq_true q187
                                                    go_wp2
                                                    repeat (go_quiet (fail); try go_wp2)
                                                    go_roundg k5
                                                    case measure => have := HJ1.out; have := HK2.out; have := HJ6.out; have := HJ27.out; have := HK5.out; omega
                                                    case rel => exact ⟨(wrap64 (x8_5 + 1)), (by first | rfl | (simp; done) | (simp [*]; done)), H', ⟨by have := HJ1.out; have := HK2.out; have := HJ6.out; have := HJ27.out; have := HK5.out; omega⟩, ⟨by (with_reducible repeat (first | refine blk_drewN ?_ _ | refine blk_drew ?_ | refine blk_alloc ?_ _)); exact BK182.out⟩, ⟨by repeat (first | (with_reducible first | exact HB.out | apply below_alloc | apply pw_below_drewN | apply below_drew1 | refine below_set ?_ GE182.out) | exact HB.out)⟩⟩
                                                · rw [if_neg c39] at H
                                                  exact absurd H (by simp)
                                              · rw [if_neg c38] at H
                                                exact absurd H (by simp)
                                            · rw [if_neg c36] at H
                                              have c36b0 : decide (0 < x8_5) = false := decide_eq_false c36
                                              clear c36
                                              have H' := Aside0.mk H
                                              clear H
                                              have p184 : 0 ≤ (x8_5 : Int) := of_decide_eq_true (by first | (with_reducible assumption) | assumption)
                                              have q184 : x8_5 < (((rd_T37 l0 x4_2).f1).length : Int) := of_decide_eq_true (by first | (with_reducible assumption) | assumption)
                                              obtain ⟨ad184, e184, hx184_0⟩ := Kd.at_int HR183_2.out x8_5 p184 q184
                                              cases e184
                                              replace hx184_0 := (HB.out.cell (World.block_lt_of_cell? w _ hx184_0)).trans hx184_0
                                              replace p184 := eq_true p184
                                              replace q184 := eq_true q184
                                              have p185 : 0 ≤ (x8_5 : Int) := of_decide_eq_true (by first | (with_reducible assumption) | assumption)
                                              have q185 : x8_5 < (((rd_T37 l0 x4_2).f1).length : Int) := of_decide_eq_true (by first | (with_reducible assumption) | assumption)
                                              obtain ⟨ad185, e185, hx185_0⟩ := Kd.at_int HR183_2.out x8_5 p185 q185
                                              obtain rfl : ad184 = ad185 := (by injection e185)
                                              replace hx185_0 := (HB.out.cell (World.block_lt_of_cell? w _ hx185_0)).trans hx185_0
                                              replace p185 := eq_true p185
                                              replace q185 := eq_true q185
                                              go_wp2
                                              repeat (go_quiet (fail); try go_wp2)
                                              go_roundg k5
                                              case measure => have := HJ1.out; have := HK2.out; have := HJ6.out; have := HJ27.out; have := HK5.out; omega
                                              case rel => exact ⟨(wrap64 (x8_5 + 1)), (by first | rfl | (simp; done) | (simp [*]; done)), H', ⟨by have := HJ1.out; have := HK2.out; have := HJ6.out; have := HJ27.out; have := HK5.out; omega⟩, ⟨by (with_reducible repeat (first | refine blk_drewN ?_ _ | refine blk_drew ?_ | refine blk_alloc ?_ _)); exact BK182.out⟩, ⟨by repeat (first | (with_reducible first | exact HB.out | apply below_alloc | apply pw_below_drewN | apply below_drew1 | refine below_set ?_ GE182.out) | exact HB.out)⟩⟩
                                      · rw [if_neg c33] at H
                                        exact absurd H (by simp)
                                    · rw [if_neg c32] at H
                                      have c32b0 : decide (x8_5 < (((rd_T37 l0 x4_2).f1).length : Int)) = false := decide_eq_false c32
                                      clear c32
                                      have H' := Aside0.mk H
                                      clear H
                                      go_wp2
                                      repeat (go_quiet (fail); try go_wp2)
                                      go_roundg k5
                                      case measure => have := HJ1.out; have := HK2.out; have := HJ6.out; have := HJ27.out; have := HK5.out; omega
                                      case rel => exact ⟨(((rd_T37 l0 x4_2).f0.f1)), (wrap64 (x4_2 + 1)), (by first | rfl | (simp; done) | (simp [*]; done)), (by first | rfl | (simp; done) | (simp [*]; done)), H', ⟨by have := HJ1.out; have := HK2.out; have := HJ6.out; have := HJ27.out; have := HK5.out; omega⟩, ⟨by repeat (first | (with_reducible first | exact HB.out | apply below_alloc | apply pw_below_drewN | apply below_drew1 | refine below_set ?_ GE182.out) | exact HB.out)⟩⟩
                        · rw [if_neg c27] at H
                          exact absurd H (by simp)
                      · rw [if_neg c26] at H
                        exact absurd H (by simp)
              · rw [if_neg c6] at H
                exact absurd H (by simp)
            · rw [if_neg c5] at H
              have c5b0 : decide (x4_2 < (l0.length : Int)) = false := decide_eq_false c5
              clear c5
              obtain rfl := Option.some.inj H
              go_wp2
              repeat (go_quiet (fail); try go_wp2)
              go_ret
              exact ⟨by first | rfl | (simp [errW_none, errW_some] <;> rfl) | (simp [*, errW_none, errW_some] <;> rfl), by repeat (first | (with_reducible first | exact HB.out | apply below_alloc | apply pw_below_drewN | apply below_drew1) | exact HB.out)⟩

end Go.Proofs.Ytaedgbkeiankcaa.P
