/- Texts of the proofs of TopoOnce, TopoTells, TopoWhole, merged (Pxfmlaw04TopoWhole, PToW). -/
import Derived.Test.YtaedgbkeiankcaaGe915ef09
import Derived.Test.YtaedgbkeiankcaaG704dbd53
import Derived.Test.YtaedgbkeiankcaaG5918b891
import Derived.Test.YtaedgbkeiankcaaG4a61e4b4
import Derived.Test.YtaedgbkeiankcaaG22679f8d
import Derived.Test.YtaedgbkeiankcaaGe52063d6
-- printed by a program of this session (wip/hp.py over the kit's print)
namespace Go.Proofs.Ytaedgbkeiankcaa.P
open Go.RowKit Go.Proofs.YtaedgbkeiankcaaW.PrintWords Go.Proofs.YtaedgbkeiankcaaW.PrintLast Go.Proofs.YtaedgbkeiankcaaW.PrintMore
attribute [local go_sem] str_leq str_gtr str_geq max2_str max2_int min2_int max_two min_two max_three min_three max_four min_four   -- for this text's walks alone
set_option linter.unusedVariables false
set_option linter.unusedSimpArgs false

/-! ### folkmootlaw04_TopoWhole: function 4 -/
mutual
def folkmootlaw04_TopoWhole.j0 : Nat → List (S37) → Int → Bool → Option (Bool)
  | 0, _, _, _ => none
  | k + 1, x0, x1, x18 => if x18 = true then ((folkmootlaw04_live.f k).bind fun t362 => (some t362)) else (folkmootlaw04_TopoWhole.l0 k x0 x1 ([] : List (S35)) 1)
def folkmootlaw04_TopoWhole.l0 : Nat → List (S37) → Int → List (S35) → Int → Option (Bool)
  | 0, _, _, _, _ => none
  | k + 1, x0, x1, x5, x6 => if x6 ≤ 7 then ((topo_Owned.f k x0 x6).bind fun t363 => (if x5.length + t363.length < 4398046511104 then (folkmootlaw04_TopoWhole.l0 k x0 x1 (x5 ++ t363) (wrap64 (x6 + 1))) else (none))) else ((topo_Of.f x0 x1).bind fun t369 => (folkmootlaw04_TopoWhole.l1 k x0 x1 x5 ([] : List (S35)) t369 0))
def folkmootlaw04_TopoWhole.l1 : Nat → List (S37) → Int → List (S35) → List (S35) → List Int → Int → Option (Bool)
  | 0, _, _, _, _, _, _ => none
  | k + 1, x0, x1, x5, x7, x8, x9 => if x9 < (x8.length : Int) then (if 0 ≤ x9 then (if (rd x8 x9) < 0 then (some false) else (if (rd x8 x9) ≥ (x0.length : Int) then (some false) else (if 0 ≤ (rd x8 x9) then (if (rd x8 x9) < (x0.length : Int) then (if x7.length < 4398046511104 then (folkmootlaw04_TopoWhole.l1 k x0 x1 x5 (x7 ++ [(⟨(rd_T37 x0 (rd x8 x9)).f0.f0, (rd_T37 x0 (rd x8 x9)).f0.f1⟩ : S35)]) x8 (wrap64 (x9 + 1))) else (none)) else (none)) else (none)))) else (none)) else ((folkmootref03_Union.f k x5).bind fun t379 => ((folkmootref03_Same.f k t379 (([(⟨(⟨#[]⟩ : ByteArray), (⟨#[]⟩ : ByteArray)⟩ : S35)] : List (S35)))).bind fun t385 => (if t385 = true then ((folkmootref03_Union.f k x7).bind fun t386 => ((topo_Owned.f k x0 x1).bind fun t389 => ((folkmootref03_Same.f k t386 t389).bind fun t392 => (if t392 = true then ((folkmootlaw04_live.f k).bind fun t393 => (some t393)) else (some false))))) else (some false))))
end
def folkmootlaw04_TopoWhole.f (k : Nat) (l0 : List (S37)) (a1 : Int) : Option (Bool) := (folkmootlaw04_small.f k l0 ([] : List (S35))).bind fun t359 => (if t359 = true then ((topo_Check.f l0).bind fun t360 => ((folkmootlaw04_num.f t360).bind fun t361 => (folkmootlaw04_TopoWhole.j0 k l0 a1 (t361 != 0)))) else (folkmootlaw04_TopoWhole.j0 k l0 a1 true))
theorem folkmootlaw04_TopoWhole.mono_l : ∀ k, (∀ y0 y1 y2, LeO (folkmootlaw04_TopoWhole.j0 k y0 y1 y2) (folkmootlaw04_TopoWhole.j0 (k + 1) y0 y1 y2)) ∧ (∀ y0 y1 y2 y3, LeO (folkmootlaw04_TopoWhole.l0 k y0 y1 y2 y3) (folkmootlaw04_TopoWhole.l0 (k + 1) y0 y1 y2 y3)) ∧ (∀ y0 y1 y2 y3 y4 y5, LeO (folkmootlaw04_TopoWhole.l1 k y0 y1 y2 y3 y4 y5) (folkmootlaw04_TopoWhole.l1 (k + 1) y0 y1 y2 y3 y4 y5))
  | 0 => ⟨fun _ _ _ r h => by simp [folkmootlaw04_TopoWhole.j0] at h, fun _ _ _ _ r h => by simp [folkmootlaw04_TopoWhole.l0] at h, fun _ _ _ _ _ _ r h => by simp [folkmootlaw04_TopoWhole.l1] at h⟩
  | k + 1 => by
    obtain ⟨ih0, ih1, ih2⟩ := folkmootlaw04_TopoWhole.mono_l k
    refine ⟨?_, ?_, ?_⟩
    · intro y0 y1 y2
      unfold folkmootlaw04_TopoWhole.j0
      repeat' first
      | (with_reducible exact ih0 _ _ _)
      | (with_reducible exact ih1 _ _ _ _)
      | (with_reducible exact ih2 _ _ _ _ _ _)
      | (with_reducible exact folkmootlaw04_live.mono _)
      | (with_reducible exact folkmootlaw04_small.mono _ _ _)
      | (with_reducible exact folkmootref03_Same.mono _ _ _)
      | (with_reducible exact folkmootref03_Union.mono _ _)
      | (with_reducible exact topo_Owned.mono _ _ _)
      | (with_reducible exact LeO.refl _)
      | (with_reducible exact LeO.none _)
      | (with_reducible refine LeO.ite ?_ ?_)
      | (with_reducible refine LeO.bind ?_ (fun _ => ?_))
      | exact ih0 _ _ _
      | exact ih1 _ _ _ _
      | exact ih2 _ _ _ _ _ _
      | exact folkmootlaw04_live.mono _
      | exact folkmootlaw04_small.mono _ _ _
      | exact folkmootref03_Same.mono _ _ _
      | exact folkmootref03_Union.mono _ _
      | exact topo_Owned.mono _ _ _
      | exact LeO.none _
      | refine LeO.ite ?_ ?_
      | refine LeO.bind ?_ (fun _ => ?_)
    · intro y0 y1 y2 y3
      unfold folkmootlaw04_TopoWhole.l0
      repeat' first
      | (with_reducible exact ih0 _ _ _)
      | (with_reducible exact ih1 _ _ _ _)
      | (with_reducible exact ih2 _ _ _ _ _ _)
      | (with_reducible exact folkmootlaw04_live.mono _)
      | (with_reducible exact folkmootlaw04_small.mono _ _ _)
      | (with_reducible exact folkmootref03_Same.mono _ _ _)
      | (with_reducible exact folkmootref03_Union.mono _ _)
      | (with_reducible exact topo_Owned.mono _ _ _)
      | (with_reducible exact LeO.refl _)
      | (with_reducible exact LeO.none _)
      | (with_reducible refine LeO.ite ?_ ?_)
      | (with_reducible refine LeO.bind ?_ (fun _ => ?_))
      | exact ih0 _ _ _
      | exact ih1 _ _ _ _
      | exact ih2 _ _ _ _ _ _
      | exact folkmootlaw04_live.mono _
      | exact folkmootlaw04_small.mono _ _ _
      | exact folkmootref03_Same.mono _ _ _
      | exact folkmootref03_Union.mono _ _
      | exact topo_Owned.mono _ _ _
      | exact LeO.none _
      | refine LeO.ite ?_ ?_
      | refine LeO.bind ?_ (fun _ => ?_)
    · intro y0 y1 y2 y3 y4 y5
      unfold folkmootlaw04_TopoWhole.l1
      repeat' first
      | (with_reducible exact ih0 _ _ _)
      | (with_reducible exact ih1 _ _ _ _)
      | (with_reducible exact ih2 _ _ _ _ _ _)
      | (with_reducible exact folkmootlaw04_live.mono _)
      | (with_reducible exact folkmootlaw04_small.mono _ _ _)
      | (with_reducible exact folkmootref03_Same.mono _ _ _)
      | (with_reducible exact folkmootref03_Union.mono _ _)
      | (with_reducible exact topo_Owned.mono _ _ _)
      | (with_reducible exact LeO.refl _)
      | (with_reducible exact LeO.none _)
      | (with_reducible refine LeO.ite ?_ ?_)
      | (with_reducible refine LeO.bind ?_ (fun _ => ?_))
      | exact ih0 _ _ _
      | exact ih1 _ _ _ _
      | exact ih2 _ _ _ _ _ _
      | exact folkmootlaw04_live.mono _
      | exact folkmootlaw04_small.mono _ _ _
      | exact folkmootref03_Same.mono _ _ _
      | exact folkmootref03_Union.mono _ _
      | exact topo_Owned.mono _ _ _
      | exact LeO.none _
      | refine LeO.ite ?_ ?_
      | refine LeO.bind ?_ (fun _ => ?_)
theorem folkmootlaw04_TopoWhole.mono : ∀ a0 a1 k, LeO (folkmootlaw04_TopoWhole.f k a0 a1) (folkmootlaw04_TopoWhole.f (k + 1) a0 a1) := by
  intro a0 a1 k
  obtain ⟨ih0, ih1, ih2⟩ := folkmootlaw04_TopoWhole.mono_l k
  unfold folkmootlaw04_TopoWhole.f
  repeat' first
      | (with_reducible exact ih0 _ _ _)
      | (with_reducible exact ih1 _ _ _ _)
      | (with_reducible exact ih2 _ _ _ _ _ _)
      | (with_reducible exact folkmootlaw04_live.mono _)
      | (with_reducible exact folkmootlaw04_small.mono _ _ _)
      | (with_reducible exact folkmootref03_Same.mono _ _ _)
      | (with_reducible exact folkmootref03_Union.mono _ _)
      | (with_reducible exact topo_Owned.mono _ _ _)
      | (with_reducible exact LeO.refl _)
      | (with_reducible exact LeO.none _)
      | (with_reducible refine LeO.ite ?_ ?_)
      | (with_reducible refine LeO.bind ?_ (fun _ => ?_))
      | exact ih0 _ _ _
      | exact ih1 _ _ _ _
      | exact ih2 _ _ _ _ _ _
      | exact folkmootlaw04_live.mono _
      | exact folkmootlaw04_small.mono _ _ _
      | exact folkmootref03_Same.mono _ _ _
      | exact folkmootref03_Union.mono _ _
      | exact topo_Owned.mono _ _ _
      | exact LeO.none _
      | refine LeO.ite ?_ ?_
      | refine LeO.bind ?_ (fun _ => ?_)
set_option maxHeartbeats 8000000 in
set_option maxRecDepth 100000 in
theorem folkmootlaw04_TopoWhole.calls (k : Nat) (A0 : Option Addr) (c0 : Nat) (l0 : List (S37)) (a1 : Int) (r : Bool) (w : World) (hr0 : Kd.C k37 w A0 l0.length l0) (hc0 : l0.length ≤ c0) (h : folkmootlaw04_TopoWhole.f k l0 a1 = some r) (hrt_ : r = true := by rfl) :
    Calls Try.prog 4 #[.slice A0 l0.length c0, .int .i64 a1] w fun e w' => e = .returned (.bool r) ∧ Below w.heap.size w w' := by
  subst hrt_
  have hu35 := Try.underlying35
  have HR0 := Aside0.mk hr0
  have HC0 := Aside0.mk hc0
  clear hr0 hc0
  have HB := Aside0.mk (Below.refl w.heap.size w)
  have H : ((folkmootlaw04_small.f k l0 ([] : List (S35))).bind fun t359 => (if t359 = true then ((topo_Check.f l0).bind fun t360 => ((folkmootlaw04_num.f t360).bind fun t361 => (folkmootlaw04_TopoWhole.j0 k l0 a1 (t361 != 0)))) else (folkmootlaw04_TopoWhole.j0 k l0 a1 true))) = some true := h
  clear h
  have HC3 := Aside0.mk H
  clear H
  go_enter Try.func4, Try.ntmps4
  go_upto_region 1 with (fail)
  go_cut [18] (fun v18 wc => ∃ (kq : Nat) (x18_2 : Bool), v18 = .bool x18_2 ∧ Aside0 (folkmootlaw04_TopoWhole.j0 kq l0 a1 x18_2 = some true) ∧ Aside0 (kq ≤ k) ∧ Aside0 (Below w.heap.size w wc))
  case first =>
    have H := HC3.out
    clear HC3
    replace H := Option.bind_eq_some_iff.mp H
    obtain ⟨t359, A40, H⟩ := H
    replace H : (if t359 = true then ((topo_Check.f l0).bind fun t360 => ((folkmootlaw04_num.f t360).bind fun t361 => (folkmootlaw04_TopoWhole.j0 k l0 a1 (t361 != 0)))) else (folkmootlaw04_TopoWhole.j0 k l0 a1 true)) = some true := H
    have A4 := Aside0.mk A40
    clear A40
    by_cases c5 : t359 = true
    · subst c5
      have H1 : ((topo_Check.f l0).bind fun t360 => ((folkmootlaw04_num.f t360).bind fun t361 => (folkmootlaw04_TopoWhole.j0 k l0 a1 (t361 != 0)))) = some true := by rw [if_pos rfl] at H; exact H
      clear H
      have H := H1
      clear H1
      replace H := Option.bind_eq_some_iff.mp H
      obtain ⟨t360, A60, H⟩ := H
      replace H : ((folkmootlaw04_num.f t360).bind fun t361 => (folkmootlaw04_TopoWhole.j0 k l0 a1 (t361 != 0))) = some true := H
      have A6 := Aside0.mk A60
      clear A60
      replace H := Option.bind_eq_some_iff.mp H
      obtain ⟨t361, A70, H⟩ := H
      replace H : (folkmootlaw04_TopoWhole.j0 k l0 a1 (t361 != 0)) = some true := H
      have A7 := Aside0.mk A70
      clear A70
      have H' := Aside0.mk H
      clear H
      go_wp2_with (first | ((with_reducible refine gate_callee (f := 9) rfl ?_); refine goesL_ (some 11) rfl rfl Try.func9 (by kernel_rfl) rfl #[.slice A0 l0.length c0, .slice none 0 0] rfl (by (try simp only [List.map_toArray, List.map_cons, List.map_nil]); first | done | rfl | (simp only [List.length_drop, List.length_take]; rfl)) ?_; (refine (folkmootlaw04_small.calls k _ _ l0 _ _ ([] : List (S35)) true _ ?side1 ?side2 ?side3 ?side4 A4.out).mono ?_); (case side1 => exact uC (Kd.C_below HR0.out HB.out)); (case side2 => exact HC0.out); (case side3 => exact Kd.C_nil _ _); (case side4 => exact Nat.le_refl _); rintro e w' ⟨rfl, ⟨nd, rfl⟩⟩; refine ⟨_, rfl, ?_⟩) | (go_at_call 12; (with_reducible refine (topo_Check.calls _ _ l0 t360 _ ?side1 ?side2 A6.out).mono ?_); (case side1 => exact (Kd.C_below HR0.out (uB HB))); (case side2 => exact HC0.out); rintro e w8 ⟨rfl, hb⟩; replace HB := sB HB hb; (try clear hb); (try clear hb2); (try clear hk); (try clear hi)) | (go_at_call 11; (with_reducible refine (folkmootlaw04_num.calls t360 t361 _ A7.out).mono ?_); rintro e w' ⟨rfl, ⟨nd, rfl⟩⟩))
      go_meet
      case rel => exact ⟨_, ((t361 != 0)), (by first | rfl | (simp; done) | (simp [*]; done)), H', ⟨by first | omega | exact Nat.le_refl _⟩, ⟨by repeat (first | (with_reducible first | exact HB.out | apply below_alloc | apply pw_below_drewN | apply below_drew1) | exact HB.out)⟩⟩
    · replace c5 := Bool.eq_false_iff.mpr c5
      subst c5
      have H1 : (folkmootlaw04_TopoWhole.j0 k l0 a1 true) = some true := by rw [if_neg (show ¬ (false = true) by decide)] at H; exact H
      clear H
      have H := H1
      clear H1
      have H' := Aside0.mk H
      clear H
      go_wp2_with (first | ((with_reducible refine gate_callee (f := 9) rfl ?_); refine goesL_ (some 11) rfl rfl Try.func9 (by kernel_rfl) rfl #[.slice A0 l0.length c0, .slice none 0 0] rfl (by (try simp only [List.map_toArray, List.map_cons, List.map_nil]); first | done | rfl | (simp only [List.length_drop, List.length_take]; rfl)) ?_; (refine (folkmootlaw04_small.calls k _ _ l0 _ _ ([] : List (S35)) false _ ?side1 ?side2 ?side3 ?side4 A4.out).mono ?_); (case side1 => exact uC (Kd.C_below HR0.out HB.out)); (case side2 => exact HC0.out); (case side3 => exact Kd.C_nil _ _); (case side4 => exact Nat.le_refl _); rintro e w' ⟨rfl, ⟨nd, rfl⟩⟩; refine ⟨_, rfl, ?_⟩))
      go_meet
      case rel => exact ⟨_, (true), (by first | rfl | (simp; done) | (simp [*]; done)), H', ⟨by first | omega | exact Nat.le_refl _⟩, ⟨by repeat (first | (with_reducible first | exact HB.out | apply below_alloc | apply pw_below_drewN | apply below_drew1) | exact HB.out)⟩⟩
  case rest =>
    clear HC3
    try clear p2
    try clear c4
    try clear c5
    obtain ⟨kq, x18_2, rfl, HA, HJ2, HB⟩ := hcut
    cases kq with
    | zero => exact absurd HA.out (by simp [folkmootlaw04_TopoWhole.j0])
    | succ kj2 =>
      have H := HA.out
      clear HA
      simp only [folkmootlaw04_TopoWhole.j0] at H
      by_cases c9 : x18_2 = true
      · subst c9
        have H1 : ((folkmootlaw04_live.f kj2).bind fun t362 => (some t362)) = some true := by rw [if_pos rfl] at H; exact H
        clear H
        have H := H1
        clear H1
        replace H := Option.bind_eq_some_iff.mp H
        obtain ⟨t362, A100, H⟩ := H
        replace H : (some t362) = some true := H
        have A10 := Aside0.mk A100
        clear A100
        have hrt_ := Aside0.mk (Option.some.inj H)
        clear H
        go_wp2_with (first | ((with_reducible refine gate_callee (f := 10) rfl ?_); refine goesL_ (some 19) rfl rfl Try.func10 (by kernel_rfl) rfl #[] rfl (by (try simp only [List.map_toArray, List.map_cons, List.map_nil]); first | done | rfl | (simp only [List.length_drop, List.length_take]; rfl)) ?_; (with_reducible refine (folkmootlaw04_live.calls kj2  t362 _ A10.out).mono ?_); rintro e w11 ⟨rfl, hb⟩; refine ⟨_, rfl, ?_⟩; replace HB := sB HB hb; (try clear hb); (try clear hb2); (try clear hk); (try clear hi)))
        go_ret
        exact ⟨by first | rfl | (exact congrArg (fun b_ => Ending.returned (Value.bool b_)) hrt_.out) | (simp [errW_none, errW_some] <;> rfl) | (simp [*, errW_none, errW_some] <;> rfl), by repeat (first | (with_reducible first | exact HB.out | apply below_alloc | apply pw_below_drewN | apply below_drew1) | exact HB.out)⟩
      · replace c9 := Bool.eq_false_iff.mpr c9
        subst c9
        have H1 : (folkmootlaw04_TopoWhole.l0 kj2 l0 a1 ([] : List (S35)) 1) = some true := by rw [if_neg (show ¬ (false = true) by decide)] at H; exact H
        clear H
        have H := H1
        clear H1
        have H' := Aside0.mk H
        clear H
        go_wp2
        go_loopg [5, 6] kj2 (fun kq v5 v6 w' => ∃ (x5_2 : List (S35)) (x6_2 : Int), v6 = .int .i64 x6_2 ∧ Aside0 (folkmootlaw04_TopoWhole.l0 kq l0 a1 x5_2 x6_2 = some true) ∧ Aside0 (kq ≤ kj2) ∧ Aside0 (Kd.R k35 35 w' w.heap.size (fun _ => True) v5 x5_2) ∧ Aside0 (Below w.heap.size w w'))
        case atStart => exact ⟨(([] : List (S35))), (1), (by first | rfl | (simp; done) | (simp [*]; done)), H', ⟨Nat.le_refl _⟩, ⟨by first | exact Kd.R_nil _ _ _ _ _ | exact Kd.N_nil _ _ _ _ _ | exact Kd.V_nil _ _ _ _ _ | exact Kd.Q_nil _ _ _ _ _ | exact Kd.S_nil _ _ _ _ _⟩, ⟨by repeat (first | (with_reducible first | exact HB.out | apply below_alloc | apply pw_below_drewN | apply below_drew1) | exact HB.out)⟩⟩
        case round =>
          clear H'
          try clear c1
          try clear p2
          try clear c4
          try clear c5
          try clear c9
          try clear c10
          try clear p2
          obtain ⟨x5_2, x6_2, rfl, HA, HK2, HO_5, HB⟩ := hrel
          cases gk with
          | zero => exact absurd HA.out (by simp [folkmootlaw04_TopoWhole.l0])
          | succ k2 =>
            have H := HA.out
            clear HA
            simp only [folkmootlaw04_TopoWhole.l0] at H
            by_cases c12 : x6_2 ≤ 7
            · rw [if_pos c12] at H
              have c12b0 : decide (x6_2 ≤ 7) = true := decide_eq_true c12
              clear c12
              replace H := Option.bind_eq_some_iff.mp H
              obtain ⟨t363, A130, H⟩ := H
              replace H : (if x5_2.length + t363.length < 4398046511104 then (folkmootlaw04_TopoWhole.l0 k2 l0 a1 (x5_2 ++ t363) (wrap64 (x6_2 + 1))) else (none)) = some true := H
              have A13 := Aside0.mk A130
              clear A130
              by_cases c14 : x5_2.length + t363.length < 4398046511104
              · rw [if_pos c14] at H
                have LMc14 := Aside0.mk c14
                clear c14
                obtain ⟨y366, hy366⟩ : ∃ y_ : List (S35), y_ = (x5_2 ++ t363) := ⟨_, rfl⟩
                replace H : (folkmootlaw04_TopoWhole.l0 k2 l0 a1 y366 (wrap64 (x6_2 + 1))) = some true := by first | (rw [hy366]; with_reducible exact H) | (have H2_ := (Option.bind_some _ _).symm.trans H; rw [hy366]; with_reducible exact H2_) | (have H2_ := (Option.bind_some _ _).symm.trans H; with_reducible exact H2_) | with_reducible exact H | (rw [hy366]; exact H) | exact H
                have Ny366 := Aside0.mk hy366
                clear hy366
                have H' := Aside0.mk H
                clear H
                go_wp2_with (first | ((with_reducible refine gate_callee (f := 14) rfl ?_); refine goesL_ (some 27) rfl rfl Try.func14 (by kernel_rfl) rfl #[.slice A0 l0.length c0, .int .i64 x6_2] rfl (by (try simp only [List.map_toArray, List.map_cons, List.map_nil]); first | done | rfl | (simp only [List.length_drop, List.length_take]; rfl)) ?_; (with_reducible refine (topo_Owned.calls k2 _ _ l0 x6_2 t363 _ ?side1 ?side2 A13.out).mono ?_); (case side1 => exact uC (Kd.C_below HR0.out HB.out)); (case side2 => exact HC0.out); rintro e w15 ⟨v364, rfl, ho0, hb⟩; refine ⟨_, rfl, ?_⟩; have HO365 := lR (nR ho0 HO_5) HB; replace HO_5 := eR HO_5 ho0 hb; replace HB := sB HB hb; (try clear hb); (try clear hb2); (try clear hk); (try clear hi); (try clear ho0); obtain ⟨Ao17, co17, eo17⟩ := Kd.R_slice HO365.out; subst eo17) | ((with_reducible refine gate_builtin (b := .append) (xs := #[.tmp 24, .tmp 27]) rfl ?_); (try (refine gate_guard (by rfl) ?_; dsimp only)); at_builtin; refine Kd.R_append_rows k35 (w0 := w) w.heap.size rfl (.tmp 24) (.tmp 27) 30 35 (.agg #[(.string ⟨#[]⟩), (.string ⟨#[]⟩)]) 32 rfl Try.underlying30 info35 rfl (by decide) (by omega) u5 x5_2 t363 _ _ _ (fun k_ => some k_ ≠ (.slice Ao17 t363.length co17 : Value).ownBlock) (fun _ => False) rfl rfl ?aO ?aR (fun _ _ h => h) (fun _ h => h.elim) ?aF ?aB ?aS ?aL ?_; (case aR => exact uC (Kd.R_reads' HO365.out).2.2); (case aB => exact (uB HB)); (case aF => exact (fun k_ hk => Kd.fresh' (Kd.R_lt (uR HO365)) k_ hk)); (case aO => exact (by (with_reducible repeat (first | apply Kd.R_alloc | apply Kd.R_drewN | apply Kd.R_drew)); exact Kd.R_mono HO_5.out (fun _ hk => hk.2))); (case aS => exact (below_size (uB HB))); (case aL => have := LMc14.out; omega); intro v367 w16 ho hb hg hat; rw [← Ny366.out] at ho; have n0_ := Aside0.mk (Kd.R_after (ok := (fun _ => True)) (uR HO365) hg hat); have n1_ := Aside0.mk (hb); have n2_ := Aside0.mk (ho); clear HO365; clear HB; clear HO_5; have HO365 := n0_; have HB := n1_; have HO368 := n2_; clear n0_ n1_ n2_; clear ho hb hg hat))
                go_roundg k2
                case measure => have := HJ2.out; have := HK2.out; omega
                case rel => exact ⟨(y366), (wrap64 (x6_2 + 1)), (by first | rfl | (simp; done) | (simp [*]; done)), H', ⟨by have := HJ2.out; have := HK2.out; omega⟩, ⟨by (with_reducible repeat (first | apply Kd.R_alloc | apply Kd.R_drewN | apply Kd.R_drew)); exact Kd.R_mono HO368.out (fun _ hk => trivial)⟩, ⟨by repeat (first | (with_reducible first | exact HB.out | apply below_alloc | apply pw_below_drewN | apply below_drew1) | exact HB.out)⟩⟩
              · rw [if_neg c14] at H
                exact absurd H (by simp)
            · rw [if_neg c12] at H
              have c12b0 : decide (x6_2 ≤ 7) = false := decide_eq_false c12
              clear c12
              replace H := Option.bind_eq_some_iff.mp H
              obtain ⟨t369, A180, H⟩ := H
              replace H : (folkmootlaw04_TopoWhole.l1 k2 l0 a1 x5_2 ([] : List (S35)) t369 0) = some true := H
              have A18 := Aside0.mk A180
              clear A180
              have H' := Aside0.mk H
              clear H
              go_wp2_with (first | ((with_reducible refine gate_callee (f := 15) rfl ?_); refine goesL_ (some 31) rfl rfl Try.func15 (by kernel_rfl) rfl #[.slice A0 l0.length c0, .int .i64 a1] rfl (by (try simp only [List.map_toArray, List.map_cons, List.map_nil]); first | done | rfl | (simp only [List.length_drop, List.length_take]; rfl)) ?_; (with_reducible refine (topo_Of.calls _ _ l0 a1 t369 _ ?side1 ?side2 A18.out).mono ?_); (case side1 => exact uC (Kd.C_below HR0.out HB.out)); (case side2 => exact HC0.out); rintro e w19 ⟨v370, rfl, ho0, hb⟩; refine ⟨_, rfl, ?_⟩; replace HO_5 := bR HO_5 hb; have HO371 := lR ho0 HB; replace HB := sB HB hb; (try clear hb); (try clear hb2); (try clear hk); (try clear hi); (try clear ho0)))
              go_loopg [7, 9] k2 (fun kq v7 v9 w' => ∃ (x7_3 : List (S35)) (x9_3 : Int), v9 = .int .i64 x9_3 ∧ Aside0 (folkmootlaw04_TopoWhole.l1 kq l0 a1 x5_2 x7_3 t369 x9_3 = some true) ∧ Aside0 (kq ≤ k2) ∧ Aside0 (Kd.R k35 35 w' w.heap.size (fun k_ => some k_ ≠ (v7 : Value).ownBlock) u5 x5_2) ∧ Aside0 (Kd.R k35 35 w' w.heap.size (fun k_ => some k_ ≠ (u5 : Value).ownBlock) v7 x7_3) ∧ Aside0 (Kd.R (Kd.int .i64) 3 w' w.heap.size (fun _ => True) v370 t369) ∧ Aside0 (Below w.heap.size w w'))
              case atStart => exact ⟨(([] : List (S35))), (0), (by first | rfl | (simp; done) | (simp [*]; done)), H', ⟨Nat.le_refl _⟩, ⟨by (with_reducible repeat (first | apply Kd.R_alloc | apply Kd.R_drewN | apply Kd.R_drew)); exact Kd.R_mono HO_5.out (fun _ hk => (by simp [Value.ownBlock]))⟩, ⟨by first | exact Kd.R_nil _ _ _ _ _ | exact Kd.N_nil _ _ _ _ _ | exact Kd.V_nil _ _ _ _ _ | exact Kd.Q_nil _ _ _ _ _ | exact Kd.S_nil _ _ _ _ _⟩, ⟨by (with_reducible repeat (first | apply Kd.R_alloc | apply Kd.R_drewN | apply Kd.R_drew)); exact HO371.out⟩, ⟨by repeat (first | (with_reducible first | exact HB.out | apply below_alloc | apply pw_below_drewN | apply below_drew1) | exact HB.out)⟩⟩
              case round =>
                clear H'
                try clear c1
                try clear p2
                try clear c4
                try clear c5
                try clear p6
                try clear c9
                try clear c10
                try clear c12
                try clear c12b0
                try clear c14
                try clear c15
                try clear p2
                obtain ⟨x7_3, x9_3, rfl, HA, HK3, HO_5, HO_7, HO_8, HB⟩ := hrel
                cases gk with
                | zero => exact absurd HA.out (by simp [folkmootlaw04_TopoWhole.l1])
                | succ k3 =>
                  have H := HA.out
                  clear HA
                  simp only [folkmootlaw04_TopoWhole.l1] at H
                  by_cases c20 : x9_3 < (t369.length : Int)
                  · rw [if_pos c20] at H
                    have c20b0 : decide (x9_3 < (t369.length : Int)) = true := decide_eq_true c20
                    clear c20
                    by_cases c21 : 0 ≤ x9_3
                    · rw [if_pos c21] at H
                      have c21b0 : decide (0 ≤ x9_3) = true := decide_eq_true c21
                      clear c21
                      by_cases c22 : (rd t369 x9_3) < 0
                      · rw [if_pos c22] at H
                        have c22b0 : decide ((rd t369 x9_3) < 0) = true := decide_eq_true c22
                        clear c22
                        have hrt_ := Aside0.mk (Option.some.inj H)
                        clear H
                        obtain ⟨Ao23, co23, eo23⟩ := Kd.R_slice HO_8.out
                        subst eo23
                        have p372 : 0 ≤ (x9_3 : Int) := of_decide_eq_true (by first | (with_reducible assumption) | assumption)
                        have q372 : x9_3 < (t369.length : Int) := of_decide_eq_true (by first | (with_reducible assumption) | assumption)
                        obtain ⟨ad372, e372, hx372_0⟩ := Kd.at_int (Kd.R_reads' HO_8.out).2.2 x9_3 p372 q372
                        cases e372
                        replace p372 := eq_true p372
                        replace q372 := eq_true q372
                        go_wp2
                        go_ret
                        exact ⟨by first | rfl | (exact congrArg (fun b_ => Ending.returned (Value.bool b_)) hrt_.out) | (simp [errW_none, errW_some] <;> rfl) | (simp [*, errW_none, errW_some] <;> rfl), by repeat (first | (with_reducible first | exact HB.out | apply below_alloc | apply pw_below_drewN | apply below_drew1) | exact HB.out)⟩
                      · rw [if_neg c22] at H
                        have c22b0 : decide ((rd t369 x9_3) < 0) = false := decide_eq_false c22
                        clear c22
                        by_cases c24 : (rd t369 x9_3) ≥ (l0.length : Int)
                        · rw [if_pos c24] at H
                          have c24b0 : decide ((l0.length : Int) ≤ (rd t369 x9_3)) = true := decide_eq_true c24
                          clear c24
                          have hrt_ := Aside0.mk (Option.some.inj H)
                          clear H
                          obtain ⟨Ao25, co25, eo25⟩ := Kd.R_slice HO_8.out
                          subst eo25
                          have p372 : 0 ≤ (x9_3 : Int) := of_decide_eq_true (by first | (with_reducible assumption) | assumption)
                          have q372 : x9_3 < (t369.length : Int) := of_decide_eq_true (by first | (with_reducible assumption) | assumption)
                          obtain ⟨ad372, e372, hx372_0⟩ := Kd.at_int (Kd.R_reads' HO_8.out).2.2 x9_3 p372 q372
                          cases e372
                          replace p372 := eq_true p372
                          replace q372 := eq_true q372
                          have p373 : 0 ≤ (x9_3 : Int) := of_decide_eq_true (by first | (with_reducible assumption) | assumption)
                          have q373 : x9_3 < (t369.length : Int) := of_decide_eq_true (by first | (with_reducible assumption) | assumption)
                          obtain ⟨ad373, e373, hx373_0⟩ := Kd.at_int (Kd.R_reads' HO_8.out).2.2 x9_3 p373 q373
                          obtain rfl : ad372 = ad373 := (by injection e373)
                          replace p373 := eq_true p373
                          replace q373 := eq_true q373
                          go_wp2
                          go_ret
                          exact ⟨by first | rfl | (exact congrArg (fun b_ => Ending.returned (Value.bool b_)) hrt_.out) | (simp [errW_none, errW_some] <;> rfl) | (simp [*, errW_none, errW_some] <;> rfl), by repeat (first | (with_reducible first | exact HB.out | apply below_alloc | apply pw_below_drewN | apply below_drew1) | exact HB.out)⟩
                        · rw [if_neg c24] at H
                          have c24b0 : decide ((l0.length : Int) ≤ (rd t369 x9_3)) = false := decide_eq_false c24
                          clear c24
                          by_cases c26 : 0 ≤ (rd t369 x9_3)
                          · rw [if_pos c26] at H
                            have c26b0 : decide (0 ≤ (rd t369 x9_3)) = true := decide_eq_true c26
                            clear c26
                            by_cases c27 : (rd t369 x9_3) < (l0.length : Int)
                            · rw [if_pos c27] at H
                              have c27b0 : decide ((rd t369 x9_3) < (l0.length : Int)) = true := decide_eq_true c27
                              clear c27
                              by_cases c28 : x7_3.length < 4398046511104
                              · rw [if_pos c28] at H
                                have LMc28 := Aside0.mk c28
                                clear c28
                                obtain ⟨y376, hy376⟩ : ∃ y_ : List (S35), y_ = (x7_3 ++ [(⟨(rd_T37 l0 (rd t369 x9_3)).f0.f0, (rd_T37 l0 (rd t369 x9_3)).f0.f1⟩ : S35)]) := ⟨_, rfl⟩
                                replace H : (folkmootlaw04_TopoWhole.l1 k3 l0 a1 x5_2 y376 t369 (wrap64 (x9_3 + 1))) = some true := by first | (rw [hy376]; with_reducible exact H) | (have H2_ := (Option.bind_some _ _).symm.trans H; rw [hy376]; with_reducible exact H2_) | (have H2_ := (Option.bind_some _ _).symm.trans H; with_reducible exact H2_) | with_reducible exact H | (rw [hy376]; exact H) | exact H
                                have Ny376 := Aside0.mk hy376
                                clear hy376
                                have H' := Aside0.mk H
                                clear H
                                obtain ⟨Ao29, co29, eo29⟩ := Kd.R_slice HO_8.out
                                subst eo29
                                have p372 : 0 ≤ (x9_3 : Int) := of_decide_eq_true (by first | (with_reducible assumption) | assumption)
                                have q372 : x9_3 < (t369.length : Int) := of_decide_eq_true (by first | (with_reducible assumption) | assumption)
                                obtain ⟨ad372, e372, hx372_0⟩ := Kd.at_int (Kd.R_reads' HO_8.out).2.2 x9_3 p372 q372
                                cases e372
                                replace p372 := eq_true p372
                                replace q372 := eq_true q372
                                have p373 : 0 ≤ (x9_3 : Int) := of_decide_eq_true (by first | (with_reducible assumption) | assumption)
                                have q373 : x9_3 < (t369.length : Int) := of_decide_eq_true (by first | (with_reducible assumption) | assumption)
                                obtain ⟨ad373, e373, hx373_0⟩ := Kd.at_int (Kd.R_reads' HO_8.out).2.2 x9_3 p373 q373
                                obtain rfl : ad372 = ad373 := (by injection e373)
                                replace p373 := eq_true p373
                                replace q373 := eq_true q373
                                have p374 : 0 ≤ (x9_3 : Int) := of_decide_eq_true (by first | (with_reducible assumption) | assumption)
                                have q374 : x9_3 < (t369.length : Int) := of_decide_eq_true (by first | (with_reducible assumption) | assumption)
                                obtain ⟨ad374, e374, hx374_0⟩ := Kd.at_int (Kd.R_reads' HO_8.out).2.2 x9_3 p374 q374
                                obtain rfl : ad372 = ad374 := (by injection e374)
                                replace p374 := eq_true p374
                                replace q374 := eq_true q374
                                have p375 : 0 ≤ ((rd t369 x9_3) : Int) := of_decide_eq_true (by first | (with_reducible assumption) | assumption)
                                have q375 : (rd t369 x9_3) < (l0.length : Int) := of_decide_eq_true (by first | (with_reducible assumption) | assumption)
                                obtain ⟨ad375, A375_2, c375_2, e375, hx375_0, hx375_1, hx375_2, hl375_2, hi375_2⟩ := at_T37 HR0.out (rd t369 x9_3) p375 q375
                                cases e375
                                replace hx375_0 := (HB.out.cell (World.block_lt_of_cell? w _ hx375_0)).trans hx375_0
                                replace hx375_1 := (HB.out.cell (World.block_lt_of_cell? w _ hx375_1)).trans hx375_1
                                replace hx375_2 := (HB.out.cell (World.block_lt_of_cell? w _ hx375_2)).trans hx375_2
                                have HR375_2 := Aside0.mk hi375_2
                                have HC375_2 := Aside0.mk hl375_2
                                clear hi375_2 hl375_2
                                replace p375 := eq_true p375
                                replace q375 := eq_true q375
                                go_wp2_with (first | ((with_reducible refine gate_builtin (b := .append) (xs := #[.tmp 52, .tmp 61]) rfl ?_); (try (refine gate_guard (by rfl) ?_; dsimp only)); at_builtin; refine Kd.R_append k35 (w0 := w) w.heap.size rfl (.tmp 52) (.tmp 61) 30 35 (.agg #[(.string ⟨#[]⟩), (.string ⟨#[]⟩)]) 32 rfl Try.underlying30 info35 rfl (by decide) (by omega) u7 x7_3 (⟨(rd_T37 l0 (rd t369 x9_3)).f0.f0, (rd_T37 l0 (rd t369 x9_3)).f0.f1⟩ : S35) [.string ((rd_T37 l0 (rd t369 x9_3)).f0.f0), .string ((rd_T37 l0 (rd t369 x9_3)).f0.f1)] (fun k_ => some k_ ≠ (u5 : Value).ownBlock) (fun _ => False) rfl rfl ?aP (fun _ hk => hk.elim) ?aF ?aO ?aB ?aS ?aL ?_; (case aP => exact k35_mkM _ _ _ (⟨(rd_T37 l0 (rd t369 x9_3)).f0.f0, (rd_T37 l0 (rd t369 x9_3)).f0.f1⟩ : S35)); (case aB => exact (uB HB)); (case aF => exact (fun k_ hk => Kd.fresh' (Kd.R_lt (uR HO_5)) k_ hk)); (case aO => exact (uR HO_7)); (case aS => exact (below_size (uB HB))); (case aL => have := LMc28.out; omega); intro v377 w30 ho hb hg hat; rw [← Ny376.out] at ho; have n0_ := Aside0.mk (Kd.R_after (ok := (fun _ => True)) (by (with_reducible repeat (first | apply Kd.R_alloc | apply Kd.R_drewN | apply Kd.R_drew)); exact Kd.R_mono HO_5.out (fun _ hk => ⟨trivial, hk⟩)) hg hat); have n1_ := Aside0.mk (Kd.R_over' (uR HO_8) (Kd.R_typed (uR HO_7)) (by decide) hg); have n2_ := Aside0.mk (hb); have n3_ := Aside0.mk (ho); clear HO_5; clear HO_8; clear HB; clear HO_7; have HO_5 := n0_; have HO_8 := n1_; have HB := n2_; have HO378 := n3_; clear n0_ n1_ n2_ n3_; clear ho hb hg hat))
                                go_roundg k3
                                case measure => have := HJ2.out; have := HK2.out; have := HK3.out; omega
                                case rel => exact ⟨(y376), (wrap64 (x9_3 + 1)), (by first | rfl | (simp; done) | (simp [*]; done)), H', ⟨by have := HJ2.out; have := HK2.out; have := HK3.out; omega⟩, ⟨by (with_reducible repeat (first | apply Kd.R_alloc | apply Kd.R_drewN | apply Kd.R_drew)); exact Kd.R_mono HO_5.out (fun _ hk => hk.2)⟩, ⟨by (with_reducible repeat (first | apply Kd.R_alloc | apply Kd.R_drewN | apply Kd.R_drew)); exact HO378.out⟩, ⟨by (with_reducible repeat (first | apply Kd.R_alloc | apply Kd.R_drewN | apply Kd.R_drew)); exact HO_8.out⟩, ⟨by repeat (first | (with_reducible first | exact HB.out | apply below_alloc | apply pw_below_drewN | apply below_drew1) | exact HB.out)⟩⟩
                              · rw [if_neg c28] at H
                                exact absurd H (by simp)
                            · rw [if_neg c27] at H
                              exact absurd H (by simp)
                          · rw [if_neg c26] at H
                            exact absurd H (by simp)
                    · rw [if_neg c21] at H
                      exact absurd H (by simp)
                  · rw [if_neg c20] at H
                    have c20b0 : decide (x9_3 < (t369.length : Int)) = false := decide_eq_false c20
                    clear c20
                    replace H := Option.bind_eq_some_iff.mp H
                    obtain ⟨t379, A310, H⟩ := H
                    replace H : ((folkmootref03_Same.f k3 t379 (([(⟨(⟨#[]⟩ : ByteArray), (⟨#[]⟩ : ByteArray)⟩ : S35)] : List (S35)))).bind fun t385 => (if t385 = true then ((folkmootref03_Union.f k3 x7_3).bind fun t386 => ((topo_Owned.f k3 l0 a1).bind fun t389 => ((folkmootref03_Same.f k3 t386 t389).bind fun t392 => (if t392 = true then ((folkmootlaw04_live.f k3).bind fun t393 => (some t393)) else (some false))))) else (some false))) = some true := H
                    have A31 := Aside0.mk A310
                    clear A310
                    obtain ⟨y382, hy382⟩ : ∃ y_ : List (S35), y_ = (([(⟨(⟨#[]⟩ : ByteArray), (⟨#[]⟩ : ByteArray)⟩ : S35)] : List (S35))) := ⟨_, rfl⟩
                    replace H : ((folkmootref03_Same.f k3 t379 y382).bind fun t385 => (if t385 = true then ((folkmootref03_Union.f k3 x7_3).bind fun t386 => ((topo_Owned.f k3 l0 a1).bind fun t389 => ((folkmootref03_Same.f k3 t386 t389).bind fun t392 => (if t392 = true then ((folkmootlaw04_live.f k3).bind fun t393 => (some t393)) else (some false))))) else (some false))) = some true := by first | (rw [hy382]; with_reducible exact H) | (have H2_ := (Option.bind_some _ _).symm.trans H; rw [hy382]; with_reducible exact H2_) | (have H2_ := (Option.bind_some _ _).symm.trans H; with_reducible exact H2_) | with_reducible exact H | (rw [hy382]; exact H) | exact H
                    have Ny382 := Aside0.mk hy382
                    clear hy382
                    replace H := Option.bind_eq_some_iff.mp H
                    obtain ⟨t385, A320, H⟩ := H
                    replace H : (if t385 = true then ((folkmootref03_Union.f k3 x7_3).bind fun t386 => ((topo_Owned.f k3 l0 a1).bind fun t389 => ((folkmootref03_Same.f k3 t386 t389).bind fun t392 => (if t392 = true then ((folkmootlaw04_live.f k3).bind fun t393 => (some t393)) else (some false))))) else (some false)) = some true := H
                    have A32 := Aside0.mk A320
                    clear A320
                    by_cases c33 : t385 = true
                    · subst c33
                      have H1 : ((folkmootref03_Union.f k3 x7_3).bind fun t386 => ((topo_Owned.f k3 l0 a1).bind fun t389 => ((folkmootref03_Same.f k3 t386 t389).bind fun t392 => (if t392 = true then ((folkmootlaw04_live.f k3).bind fun t393 => (some t393)) else (some false))))) = some true := by rw [if_pos rfl] at H; exact H
                      clear H
                      have H := H1
                      clear H1
                      replace H := Option.bind_eq_some_iff.mp H
                      obtain ⟨t386, A340, H⟩ := H
                      replace H : ((topo_Owned.f k3 l0 a1).bind fun t389 => ((folkmootref03_Same.f k3 t386 t389).bind fun t392 => (if t392 = true then ((folkmootlaw04_live.f k3).bind fun t393 => (some t393)) else (some false)))) = some true := H
                      have A34 := Aside0.mk A340
                      clear A340
                      replace H := Option.bind_eq_some_iff.mp H
                      obtain ⟨t389, A350, H⟩ := H
                      replace H : ((folkmootref03_Same.f k3 t386 t389).bind fun t392 => (if t392 = true then ((folkmootlaw04_live.f k3).bind fun t393 => (some t393)) else (some false))) = some true := H
                      have A35 := Aside0.mk A350
                      clear A350
                      replace H := Option.bind_eq_some_iff.mp H
                      obtain ⟨t392, A360, H⟩ := H
                      replace H : (if t392 = true then ((folkmootlaw04_live.f k3).bind fun t393 => (some t393)) else (some false)) = some true := H
                      have A36 := Aside0.mk A360
                      clear A360
                      by_cases c37 : t392 = true
                      · subst c37
                        have H1 : ((folkmootlaw04_live.f k3).bind fun t393 => (some t393)) = some true := by rw [if_pos rfl] at H; exact H
                        clear H
                        have H := H1
                        clear H1
                        replace H := Option.bind_eq_some_iff.mp H
                        obtain ⟨t393, A380, H⟩ := H
                        replace H : (some t393) = some true := H
                        have A38 := Aside0.mk A380
                        clear A380
                        have hrt_ := Aside0.mk (Option.some.inj H)
                        clear H
                        obtain ⟨Ao39, co39, eo39⟩ := Kd.R_slice HO_8.out
                        subst eo39
                        obtain ⟨Ao40, co40, eo40⟩ := Kd.R_slice HO_5.out
                        subst eo40
                        go_wp2_with (first | ((with_reducible refine gate_callee (f := 17) rfl ?_); refine goesL_ (some 64) rfl rfl Try.func17 (by kernel_rfl) rfl #[.slice Ao40 x5_2.length co40] rfl (by (try simp only [List.map_toArray, List.map_cons, List.map_nil]); first | done | rfl | (simp only [List.length_drop, List.length_take]; rfl)) ?_; (with_reducible refine (folkmootref03_Union.calls k3 _ _ x5_2 t379 _ ?side1 ?side2 A31.out).mono ?_); (case side1 => exact uC (Kd.R_reads' HO_5.out).2.2); (case side2 => exact (Kd.R_reads' HO_5.out).2.1); rintro e w41 ⟨v380, rfl, ho0, hb⟩; refine ⟨_, rfl, ?_⟩; replace HO_8 := bR HO_8 hb; have HO381 := lR (nR (nR ho0 HO_5) HO_7) HB; replace HO_5 := eR HO_5 ho0 hb; replace HO_7 := eR HO_7 ho0 hb; replace HB := sB HB hb; (try clear hb); (try clear hb2); (try clear hk); (try clear hi); (try clear ho0)) | ((with_reducible refine gate_dst (N := 66) rfl ?_); (try (refine gate_guard (by rfl) ?_; dsimp only)); refine Kd.R_lit k35 _ 35 ?hg (N := 66) ?hd (xs := ([(⟨(⟨#[]⟩ : ByteArray), (⟨#[]⟩ : ByteArray)⟩ : S35)] : List (S35))) (inner := [.string (⟨#[]⟩ : ByteArray), .string (⟨#[]⟩ : ByteArray)]) (ok := fun _ => True) (okp := fun _ => True) ?hr ?hp (fun _ hk => hk) trivial (Below.refl _ _) (Nat.le_refl _) (by simp) ?_; (case hd => rfl); (case hg => rfl); (case hr => first | (go_simp; done) | (go_simp; rfl)); (case hp => exact (Reps.c2 (show Kd.M k35 _ _ _ (⟨(⟨#[]⟩ : ByteArray), (⟨#[]⟩ : ByteArray)⟩ : S35) [.string (⟨#[]⟩ : ByteArray), .string (⟨#[]⟩ : ByteArray)] from (k35_mkM _ _ _ (⟨(⟨#[]⟩ : ByteArray), (⟨#[]⟩ : ByteArray)⟩ : S35) )) (Reps.none _ _))); intro v383 w42 ho43 hb hg_ hnew_; clear hg_ hnew_; (first | rw [← Ny382.out] at ho43 | (simp only [Int.reduceToNat] at ho43; rw [← Ny382.out] at ho43)); replace HO_8 := bR HO_8 hb; have HO384 := lR (nR (nR (nR ho43 HO_5) HO_7) HO381) HB; replace HO_5 := eR HO_5 ho43 hb; replace HO_7 := eR HO_7 ho43 hb; replace HO381 := eR HO381 ho43 hb; replace HB := sB HB hb; clear hb ho43; obtain ⟨Ao44, co44, eo44⟩ := Kd.R_slice HO381.out; subst eo44; obtain ⟨Ao45, co45, eo45⟩ := Kd.R_slice HO384.out; subst eo45) | ((with_reducible refine gate_callee (f := 16) rfl ?_); refine goesL_ (some 67) rfl rfl Try.func16 (by kernel_rfl) rfl #[.slice Ao44 t379.length co44, .slice Ao45 y382.length co45] rfl (by (try simp only [List.map_toArray, List.map_cons, List.map_nil]); first | done | rfl | (simp only [List.length_drop, List.length_take]; rfl)) ?_; (with_reducible refine (folkmootref03_Same.calls k3 _ _ t379 _ _ y382 true _ ?side1 ?side2 ?side3 ?side4 A32.out).mono ?_); (case side1 => exact uC (Kd.R_reads' HO381.out).2.2); (case side2 => exact (Kd.R_reads' HO381.out).2.1); (case side3 => exact uC (Kd.R_reads' HO384.out).2.2); (case side4 => exact (Kd.R_reads' HO384.out).2.1); rintro e w' ⟨rfl, ⟨nd, rfl⟩⟩; refine ⟨_, rfl, ?_⟩; obtain ⟨Ao46, co46, eo46⟩ := Kd.R_slice HO_7.out; subst eo46) | (go_at_call 17; (with_reducible refine (folkmootref03_Union.calls k3 _ _ x7_3 t386 _ ?side1 ?side2 A34.out).mono ?_); (case side1 => exact uC (Kd.R_reads' HO_7.out).2.2); (case side2 => exact (Kd.R_reads' HO_7.out).2.1); rintro e w47 ⟨v387, rfl, ho0, hb⟩; replace HO_8 := bR HO_8 hb; have HO388 := lR (Kd.R_new' (nR (nR (nR ho0 HO_5) HO_7) HO381) (Kd.R_lt (uR HO384))) HB; replace HO_5 := eR HO_5 ho0 hb; replace HO_7 := eR HO_7 ho0 hb; replace HO381 := eR HO381 ho0 hb; replace HO384 := eR HO384 ho0 hb; replace HB := sB HB hb; (try clear hb); (try clear hb2); (try clear hk); (try clear hi); (try clear ho0)) | (go_at_call 14; (with_reducible refine (topo_Owned.calls k3 _ _ l0 a1 t389 _ ?side1 ?side2 A35.out).mono ?_); (case side1 => exact uC (Kd.C_below HR0.out HB.out)); (case side2 => exact HC0.out); rintro e w48 ⟨v390, rfl, ho0, hb⟩; replace HO_8 := bR HO_8 hb; have HO391 := lR (Kd.R_new' (Kd.R_new' (nR (nR (nR ho0 HO_5) HO_7) HO381) (Kd.R_lt (uR HO384))) (Kd.R_lt (uR HO388))) HB; replace HO_5 := eR HO_5 ho0 hb; replace HO_7 := eR HO_7 ho0 hb; replace HO381 := eR HO381 ho0 hb; replace HO384 := eR HO384 ho0 hb; replace HO388 := eR HO388 ho0 hb; replace HB := sB HB hb; (try clear hb); (try clear hb2); (try clear hk); (try clear hi); (try clear ho0); obtain ⟨Ao49, co49, eo49⟩ := Kd.R_slice HO388.out; subst eo49; obtain ⟨Ao50, co50, eo50⟩ := Kd.R_slice HO391.out; subst eo50) | (go_at_call 16; (with_reducible refine (folkmootref03_Same.calls k3 _ _ t386 _ _ t389 true _ ?side1 ?side2 ?side3 ?side4 A36.out).mono ?_); (case side1 => exact uC (Kd.R_reads' HO388.out).2.2); (case side2 => exact (Kd.R_reads' HO388.out).2.1); (case side3 => exact uC (Kd.R_reads' HO391.out).2.2); (case side4 => exact (Kd.R_reads' HO391.out).2.1); rintro e w' ⟨rfl, ⟨nd, rfl⟩⟩) | (go_at_call 10; (with_reducible refine (folkmootlaw04_live.calls k3  t393 _ A38.out).mono ?_); rintro e w51 ⟨rfl, hb⟩; replace HO_5 := bR HO_5 hb; replace HO_7 := bR HO_7 hb; replace HO_8 := bR HO_8 hb; replace HO381 := bR HO381 hb; replace HO384 := bR HO384 hb; replace HO388 := bR HO388 hb; replace HO391 := bR HO391 hb; replace HB := sB HB hb; (try clear hb); (try clear hb2); (try clear hk); (try clear hi)))
                        go_ret
                        exact ⟨by first | rfl | (exact congrArg (fun b_ => Ending.returned (Value.bool b_)) hrt_.out) | (simp [errW_none, errW_some] <;> rfl) | (simp [*, errW_none, errW_some] <;> rfl), by repeat (first | (with_reducible first | exact HB.out | apply below_alloc | apply pw_below_drewN | apply below_drew1) | exact HB.out)⟩
                      · replace c37 := Bool.eq_false_iff.mpr c37
                        subst c37
                        have H1 : (some false) = some true := by rw [if_neg (show ¬ (false = true) by decide)] at H; exact H
                        exact absurd H1 (by simp)
                    · replace c33 := Bool.eq_false_iff.mpr c33
                      subst c33
                      have H1 : (some false) = some true := by rw [if_neg (show ¬ (false = true) by decide)] at H; exact H
                      exact absurd H1 (by simp)
end Go.Proofs.Ytaedgbkeiankcaa.P
/- Plain: every key lies in a shard; the printed law TopoWhole comes to true. -/
namespace Go.Proofs.Ytaedgbkeiankcaa.P
open Go.RowKit Go.Proofs.YtaedgbkeiankcaaW.PrintWords
set_option linter.unusedVariables false
set_option linter.unusedSimpArgs false

theorem topo_cover (l : List Shd) (h : topoB l = true) (k : Txt) : ∃ i, ∃ hi : i < l.length, Sp.inn k (toSp l[i].f0) := by
  obtain ⟨h0, h8, _⟩ := topoB_iff l h
  have key : ∀ d i (hi : i < l.length), l.length - i = d + 1 → (toSp l[i].f0).f ≤ k → ∃ j, ∃ hj : j < l.length, Sp.inn k (toSp l[j].f0) := by
    intro d
    induction d with
    | zero =>
      intro i hi hd hf
      obtain ⟨h1, h2⟩ := topo_span l h i hi
      rcases h2 with ⟨_, h2⟩ | ⟨h3, _, _⟩
      · exact ⟨i, hi, hf, .inl h2⟩
      · omega
    | succ d ih =>
      intro i hi hd hf
      obtain ⟨h1, h2⟩ := topo_span l h i hi
      rcases h2 with ⟨h3, h2⟩ | ⟨h3, h4, h5⟩
      · exact ⟨i, hi, hf, .inl h2⟩
      · by_cases hk : k < (toSp l[i].f0).t
        · exact ⟨i, hi, hf, .inr hk⟩
        · refine ih (i + 1) h3 (by omega) ?_
          rw [(topo_span l h (i + 1) h3).1, beg_succ l i hi]
          exact Std.not_lt.1 hk
  refine key (l.length - 1) 0 (by omega) (by omega) ?_
  rw [(topo_span l h 0 (by omega)).1]
  rw [show tx (beg l 0) = Txt.nil from (tx_nil _).2 nil_list]
  exact Txt.nil_le _
/-- the spans of shards -/
def spnL (l : List Shd) (is : List Int) : List Spn := is.map fun i => (rd_T37 l i).f0
theorem spnL_len (l : List Shd) (is : List Int) : (spnL l is).length = is.length := List.length_map _
def ofL (l : List Shd) (n : Int) : List Int := placesL (fun x => x.f1.contains n) l
theorem ofL_len (l : List Shd) (n : Int) : (ofL l n).length ≤ l.length := by unfold ofL placesL; exact placesN_len _ _ _ _
theorem tof_f (l : List Shd) (n : Int) (hl : l.length < 4398046511104) : topo_Of.f l n = some (ofL l n) := by unfold topo_Of.f; rw [if_pos hl]; rfl
theorem ofL_at (l : List Shd) (n : Int) (v : Int) (h : v ∈ ofL l n) : ∃ j : Nat, v = (j : Int) ∧ ∃ hj : j < l.length, l[j].f1.contains n = true := by
  unfold ofL placesL at h
  obtain ⟨j, rfl, h1, h2⟩ := (places_mem _ _ _ _ _).1 h
  rw [show l.getD j z37 = l[j] by simp [List.getD_eq_getElem?_getD, h1]] at h2
  exact ⟨j, rfl, h1, h2⟩
def ownL (l : List Shd) (n : Int) : List Spn := unionL (spnL l (ofL l n))
theorem owned_l0 (l : List Shd) (is : List Int) (hl : l.length ≤ 30) (hi : is.length ≤ 30) (hm : ∀ v ∈ is, ∃ j : Nat, v = (j : Int) ∧ j < l.length) : ∀ (d i : Nat), i ≤ is.length → is.length - i = d →
    Ev (fun k => topo_Owned.l0 k l (spnL l (is.take i)) is (is.length : Int) (i : Int)) (unionL (spnL l is)) := by
  intro d
  induction d with
  | zero =>
    intro i hi2 hd
    have h1 : ¬ (i : Int) < (is.length : Int) := by omega
    rw [List.take_of_length_le (by omega)]
    have e : span_Union.f (spnL l is) = some (unionL (spnL l is)) := by unfold span_Union.f; rw [if_pos (by rw [spnL_len]; omega)]
    exact Ev.step (fun k => by simp only [topo_Owned.l0, if_neg h1, e, Option.bind_some] <;> rfl) (Ev.val _)
  | succ d ih =>
    intro i hi2 hd
    have h1 : (i : Int) < (is.length : Int) := by omega
    have h0 : (0 : Int) ≤ (i : Int) := by omega
    have hil : i < is.length := by omega
    have hw : wrap64 ((i : Int) + 1) = ((i + 1 : Nat) : Int) := by rw [wrap_in] <;> omega
    have hr := rdI_at is i hil
    obtain ⟨j, hj, hjl⟩ := hm _ (List.getElem_mem hil)
    have hn := ih (i + 1) (by omega) (by omega)
    have ht : spnL l (is.take (i + 1)) = spnL l (is.take i) ++ [(⟨(rd_T37 l is[i]).f0.f0, (rd_T37 l is[i]).f0.f1⟩ : Spn)] := by
      unfold spnL
      rw [List.take_succ_eq_append_getElem hil, List.map_append]
      rfl
    rw [ht] at hn
    have hlen : (spnL l (is.take i)).length < 4398046511104 := by rw [spnL_len, List.length_take]; omega
    have h2 : (0 : Int) ≤ is[i] := by omega
    have h3 : is[i] < (l.length : Int) := by omega
    exact Ev.step (fun k => by simp only [topo_Owned.l0, if_pos h1, if_pos h0, hr, if_pos h2, if_pos h3, if_pos hlen, hw] <;> rfl) hn
theorem owned_ev (l : List Shd) (n : Int) (hl : l.length ≤ 30) : Ev (fun k => topo_Owned.f k l n) (ownL l n) := by
  have h := ofL_len l n
  exact Ev.congr (fun k => by simp only [topo_Owned.f, tof_f l n (by omega), Option.bind_some] <;> rfl) (owned_l0 l (ofL l n) hl (by omega) (fun v hv => by obtain ⟨j, h1, h2, _⟩ := ofL_at l n v hv; exact ⟨j, h1, h2⟩) _ 0 (Nat.zero_le _) rfl)
theorem ownL_len (l : List Shd) (n : Int) : (ownL l n).length ≤ l.length := by
  have h1 := union_len (spnL l (ofL l n))
  rw [spnL_len] at h1
  have := ofL_len l n
  unfold ownL
  omega
theorem own_has (l : List Shd) (n : Int) (k : ByteArray) : (ownL l n).any (inSp k) = l.any fun x => x.f1.contains n && inSp k x.f0 := by
  unfold ownL
  rw [union_any, Bool.eq_iff_iff, List.any_eq_true, List.any_eq_true]
  constructor
  · rintro ⟨s, hs, h⟩
    obtain ⟨v, hv, rfl⟩ := List.mem_map.1 hs
    obtain ⟨j, rfl, hj, hc⟩ := ofL_at l n v hv
    have e : rd_T37 l (j : Int) = l[j] := by simp [rd_T37, List.getD_eq_getElem?_getD, hj]
    rw [e] at h
    exact ⟨l[j], List.getElem_mem hj, by rw [hc, h]; rfl⟩
  · rintro ⟨x, hx, h⟩
    obtain ⟨j, hj, rfl⟩ := List.getElem_of_mem hx
    rw [Bool.and_eq_true] at h
    have hm : (j : Int) ∈ ofL l n := by
      unfold ofL placesL
      exact (places_mem _ _ _ _ _).2 ⟨j, rfl, hj, by rw [show l.getD j z37 = l[j] by simp [List.getD_eq_getElem?_getD, hj]]; exact h.1⟩
    refine ⟨l[j].f0, List.mem_map.2 ⟨(j : Int), hm, ?_⟩, h.2⟩
    simp [rd_T37, List.getD_eq_getElem?_getD, hj]
theorem node_range (ns : List Int) (h : nodesB ns = true) (v : Int) (hv : v ∈ ns) : 1 ≤ v ∧ v ≤ 7 := by
  rw [nodesB_ok, Bool.and_eq_true, okR_iff] at h
  obtain ⟨j, hj, rfl⟩ := List.getElem_of_mem hv
  have := h.2 j (Nat.zero_le _) (by omega)
  unfold okN at this
  rw [Bool.and_eq_true, Bool.and_eq_true, decide_eq_true_iff, decide_eq_true_iff] at this
  have e : ns.getD j 0 = ns[j] := by simp [List.getD_eq_getElem?_getD, hj]
  rw [e] at this
  exact this.1
/-- what the nodes 1 to n own -/
def allL (l : List Shd) : Nat → List Spn
  | 0 => []
  | n + 1 => allL l n ++ ownL l ((n + 1 : Nat) : Int)
theorem allL_len (l : List Shd) : ∀ n, (allL l n).length ≤ n * l.length
  | 0 => by simp [allL]
  | n + 1 => by
    have h1 := allL_len l n
    have h2 := ownL_len l ((n + 1 : Nat) : Int)
    rw [allL, List.length_append, Nat.add_mul]
    omega
theorem allL_has (l : List Shd) (k : ByteArray) : ∀ n, (allL l n).any (inSp k) = true ↔ ∃ m : Nat, 1 ≤ m ∧ m ≤ n ∧ (ownL l (m : Int)).any (inSp k) = true
  | 0 => by
    constructor
    · intro h; simp [allL] at h
    · rintro ⟨m, h1, h2, _⟩; omega
  | n + 1 => by
    rw [allL, List.any_append, Bool.or_eq_true, allL_has l k n]
    constructor
    · rintro (⟨m, h1, h2, h3⟩ | h)
      · exact ⟨m, h1, by omega, h3⟩
      · exact ⟨n + 1, by omega, Nat.le_refl _, h⟩
    · rintro ⟨m, h1, h2, h3⟩
      by_cases e : m = n + 1
      · subst e; exact .inr h3
      · exact .inl ⟨m, h1, by omega, h3⟩
theorem all_union (l : List Shd) (h : topoB l = true) : unionL (allL l 7) = [(⟨(⟨#[]⟩ : ByteArray), (⟨#[]⟩ : ByteArray)⟩ : Spn)] := by
  have hw : Sp.full (toSp (⟨(⟨#[]⟩ : ByteArray), (⟨#[]⟩ : ByteArray)⟩ : Spn)) := .inl ((tx_nil _).2 nil_list)
  refine eq_of_any (union_can _) (can_one hw) fun k => ?_
  have h1 : [(⟨(⟨#[]⟩ : ByteArray), (⟨#[]⟩ : ByteArray)⟩ : Spn)].any (inSp k) = true := by
    rw [List.any_cons, Bool.or_eq_true]
    refine .inl ((inSp_iff _ _).2 ⟨?_, .inl ((tx_nil _).2 nil_list)⟩)
    rw [show (toSp (⟨(⟨#[]⟩ : ByteArray), (⟨#[]⟩ : ByteArray)⟩ : Spn)).f = Txt.nil from (tx_nil _).2 nil_list]
    exact Txt.nil_le _
  rw [h1, union_any, allL_has]
  obtain ⟨i, hi, hk⟩ := topo_cover l h (tx k)
  have hnb := (topoB_iff l h).2.2.2.2 l[i] (List.getElem_mem hi)
  have hne : l[i].f1.length ≠ 0 := by
    have := hnb
    rw [nodesB_ok, Bool.and_eq_true, decide_eq_true_iff] at this
    exact this.1.1
  have hr := node_range _ hnb (l[i].f1[0]'(by omega)) (List.getElem_mem _)
  generalize hv : l[i].f1[0]'(by omega) = v at hr
  have hmem : l[i].f1.contains v = true := by rw [List.contains_iff_mem, ← hv]; exact List.getElem_mem _
  refine ⟨v.toNat, by omega, by omega, ?_⟩
  rw [show ((v.toNat : Nat) : Int) = v from by omega, own_has, List.any_eq_true]
  exact ⟨l[i], List.getElem_mem hi, by rw [hmem, (inSp_iff _ _).2 hk]; rfl⟩
theorem whole_l1 (l : List Shd) (n : Int) (h : topoB l = true) (hl : l.length ≤ 30) : ∀ (d i : Nat), i ≤ (ofL l n).length → (ofL l n).length - i = d →
    Ev (fun k => folkmootlaw04_TopoWhole.l1 k l n (allL l 7) (spnL l ((ofL l n).take i)) (ofL l n) (i : Int)) true := by
  have hlen := allL_len l 7
  have hof := ofL_len l n
  have hol := ownL_len l n
  intro d
  induction d with
  | zero =>
    intro i hi hd
    have h1 : ¬ (i : Int) < ((ofL l n).length : Int) := by omega
    rw [List.take_of_length_le (by omega)]
    have u1 := refUnion_ev (allL l 7) (by omega)
    rw [all_union l h] at u1
    refine Ev.step (fun k => by simp only [folkmootlaw04_TopoWhole.l1, if_neg h1] <;> rfl) (Ev.bind u1 (Ev.bind (same_ev [(⟨(⟨#[]⟩ : ByteArray), (⟨#[]⟩ : ByteArray)⟩ : Spn)] (by simp)) ?_))
    simp only [if_true]
    refine Ev.bind (refUnion_ev (spnL l (ofL l n)) (by rw [spnL_len]; omega)) (Ev.bind (owned_ev l n hl) (Ev.bind (same_ev (ownL l n) (by omega)) ?_))
    simp only [if_true]
    exact Ev.bind tlive_ev (Ev.val _)
  | succ d ih =>
    intro i hi hd
    have h1 : (i : Int) < ((ofL l n).length : Int) := by omega
    have h0 : (0 : Int) ≤ (i : Int) := by omega
    have hil : i < (ofL l n).length := by omega
    have hw : wrap64 ((i : Int) + 1) = ((i + 1 : Nat) : Int) := by rw [wrap_in] <;> omega
    have hr := rdI_at (ofL l n) i hil
    obtain ⟨j, hj, hjl, _⟩ := ofL_at l n _ (List.getElem_mem hil)
    have hn := ih (i + 1) (by omega) (by omega)
    have ht : spnL l ((ofL l n).take (i + 1)) = spnL l ((ofL l n).take i) ++ [(⟨(rd_T37 l (ofL l n)[i]).f0.f0, (rd_T37 l (ofL l n)[i]).f0.f1⟩ : Spn)] := by
      unfold spnL
      rw [List.take_succ_eq_append_getElem hil, List.map_append]
      rfl
    rw [ht] at hn
    have hlen2 : (spnL l ((ofL l n).take i)).length < 4398046511104 := by rw [spnL_len, List.length_take]; omega
    generalize (ofL l n)[i] = v at hr hj hn
    subst hj
    have c1 : ¬ (j : Int) < 0 := by omega
    have c2 : ¬ (j : Int) ≥ (l.length : Int) := by omega
    have c3 : (0 : Int) ≤ (j : Int) := by omega
    have c4 : (j : Int) < (l.length : Int) := by omega
    exact Ev.step (fun k => by simp only [folkmootlaw04_TopoWhole.l1, if_pos h1, if_pos h0, hr, if_neg c1, if_neg c2, if_pos c3, if_pos c4, if_pos hlen2, hw] <;> rfl) hn
theorem whole_l0 (l : List Shd) (n : Int) (h : topoB l = true) (hl : l.length ≤ 30) : ∀ (d m : Nat), m ≤ 7 → 7 - m = d → Ev (fun k => folkmootlaw04_TopoWhole.l0 k l n (allL l m) ((m + 1 : Nat) : Int)) true := by
  intro d
  induction d with
  | zero =>
    intro m hm hd
    obtain rfl : m = 7 := by omega
    have h1 : ¬ ((7 + 1 : Nat) : Int) ≤ 7 := by omega
    exact Ev.step (fun k => by simp only [folkmootlaw04_TopoWhole.l0, if_neg h1, tof_f l n (by omega), Option.bind_some] <;> rfl) (whole_l1 l n h hl _ 0 (Nat.zero_le _) rfl)
  | succ d ih =>
    intro m hm hd
    have h1 : ((m + 1 : Nat) : Int) ≤ 7 := by omega
    have hw : wrap64 (((m + 1 : Nat) : Int) + 1) = ((m + 1 + 1 : Nat) : Int) := by rw [wrap_in] <;> omega
    have hlen := allL_len l m
    have hmm : m * l.length ≤ 7 * 30 := Nat.mul_le_mul (by omega) hl
    have hol := ownL_len l ((m + 1 : Nat) : Int)
    have h2 : (allL l m).length + (ownL l ((m + 1 : Nat) : Int)).length < 4398046511104 := by omega
    refine Ev.step (fun k => by simp only [folkmootlaw04_TopoWhole.l0, if_pos h1] <;> rfl) (Ev.bind (owned_ev l ((m + 1 : Nat) : Int) hl) ?_)
    simp only [if_pos h2, hw]
    exact ih (m + 1) (by omega) (by omega)
theorem whole_j0 (l : List Shd) (n : Int) (c : Bool) (h : c = false → l.length ≤ 30 ∧ topoB l = true) : Ev (fun k => folkmootlaw04_TopoWhole.j0 k l n c) true := by
  cases c with
  | true => exact Ev.step (fun k => by simp only [folkmootlaw04_TopoWhole.j0, if_true] <;> rfl) (Ev.bind tlive_ev (Ev.val _))
  | false =>
    obtain ⟨h1, h2⟩ := h rfl
    exact Ev.step (fun k => by simp only [folkmootlaw04_TopoWhole.j0, Bool.false_eq_true, if_false] <;> rfl) (whole_l0 l n h2 h1 7 0 (by omega) rfl)
theorem topoWhole_pure (l : List Shd) (n : Int) (hl : l.length ≤ 140737488351232) (hn : (Lit.int .i64 n).wf = true) : ∃ k, folkmootlaw04_TopoWhole.f k l n = some true := by
  obtain ⟨b, hb, hs⟩ := tsmall_ev l [] (by omega) (by simp)
  refine Ev.rounds (g := fun k => folkmootlaw04_TopoWhole.f k l n) (Ev.bind hb ?_)
  cases b with
  | false =>
    simp only [Bool.false_eq_true, if_false]
    exact whole_j0 l n true (fun h => by cases h)
  | true =>
    simp only [if_true, tcheck_f, tnum_f, Option.bind_some]
    refine whole_j0 l n _ (fun h => ⟨(hs rfl).1, ?_⟩)
    cases e : topoB l with
    | true => rfl
    | false => rw [e] at h; simp at h
end Go.Proofs.Ytaedgbkeiankcaa.P
