/- Texts of the proofs of SpanEach, merged (Pxfmlaw03SpanEach, PEach). -/
import Derived.Test.YtjimijpkhmpilaaGa0d5d060
import Derived.Test.YtjimijpkhmpilaaGdf599b72
import Derived.Test.YtjimijpkhmpilaaG9a93296c
import Derived.Test.YtjimijpkhmpilaaG5dc59ff8
import Derived.Test.YtjimijpkhmpilaaG9a2a2aa9
import Derived.Test.YtjimijpkhmpilaaG4db347a2
import Derived.Test.YtjimijpkhmpilaaGac77b561
import Derived.Test.YtjimijpkhmpilaaG92c3f165
-- printed by a program of this session (wip/hp.py over the kit's print)
namespace Go.Proofs.Ytjimijpkhmpilaa.P
open Go.RowKit Go.Proofs.YtjimijpkhmpilaaW.PrintWords Go.Proofs.YtjimijpkhmpilaaW.PrintLast Go.Proofs.YtjimijpkhmpilaaW.PrintMore
attribute [local go_sem] str_leq str_gtr str_geq max2_str max2_int min2_int max_two min_two max_three min_three max_four min_four   -- for this text's walks alone
set_option linter.unusedVariables false
set_option linter.unusedSimpArgs false

theorem bool_bne_t {a b : Bool} (h : (a != b) = true) : ¬ (a = b) := by cases a <;> cases b <;> simp_all
theorem bool_bne_f {a b : Bool} (h : ¬ (a != b) = true) : a = b := by cases a <;> cases b <;> simp_all

/-! ### folkmootlaw03_SpanEach: function 4 -/
mutual
def folkmootlaw03_SpanEach.j0 : Nat → List (S34) → List (S34) → List ByteArray → Bool → Option (Bool)
  | 0, _, _, _, _ => none
  | k + 1, x0, x1, x2, x27 => if x27 = true then ((folkmootlaw03_live.f k).bind fun t255 => (some t255)) else ((span_Union.f x0).bind fun t256 => ((span_Union.f x1).bind fun t259 => ((span_Cut.f t256 t259).bind fun t262 => ((span_Less.f k t256 t259).bind fun t265 => ((folkmootlaw03_own.f x0).bind fun t268 => (if t268.length + x1.length < 4398046511104 then ((span_Union.f (t268 ++ x1)).bind fun t274 => (folkmootlaw03_SpanEach.l0 k x0 x2 t256 t259 t262 t265 t274 0)) else (none)))))))
def folkmootlaw03_SpanEach.l0 : Nat → List (S34) → List ByteArray → List (S34) → List (S34) → List (S34) → List (S34) → List (S34) → Int → Option (Bool)
  | 0, _, _, _, _, _, _, _, _ => none
  | k + 1, x0, x2, x7, x8, x9, x10, x11, x12 => if x12 < (x2.length : Int) then (if 0 ≤ x12 then (if ((rdOf ByteArray.empty x2 x12).size : Int) > 4000 then ((folkmootlaw03_live.f k).bind fun t280 => (some t280)) else ((span_Has.f x7 (rdOf ByteArray.empty x2 x12)).bind fun t282 => ((span_Has.f x8 (rdOf ByteArray.empty x2 x12)).bind fun t284 => ((span_Has.f x9 (rdOf ByteArray.empty x2 x12)).bind fun t286 => (if t282 = true then (if (t286 != t284) = true then (some false) else ((span_Has.f x10 (rdOf ByteArray.empty x2 x12)).bind fun t288 => (if (t288 != (!t284)) = true then (some false) else ((span_Has.f x11 (rdOf ByteArray.empty x2 x12)).bind fun t290 => (if (t290 != true) = true then (some false) else ((folkmootref03_Has.f k x0 (rdOf ByteArray.empty x2 x12)).bind fun t292 => (if (t282 != t292) = true then (some false) else (folkmootlaw03_SpanEach.l0 k x0 x2 x7 x8 x9 x10 x11 (wrap64 (x12 + 1)))))))))) else (if (t286 != false) = true then (some false) else ((span_Has.f x10 (rdOf ByteArray.empty x2 x12)).bind fun t294 => (if (t294 != false) = true then (some false) else ((span_Has.f x11 (rdOf ByteArray.empty x2 x12)).bind fun t296 => (if (t296 != t284) = true then (some false) else ((folkmootref03_Has.f k x0 (rdOf ByteArray.empty x2 x12)).bind fun t298 => (if (t282 != t298) = true then (some false) else (folkmootlaw03_SpanEach.l0 k x0 x2 x7 x8 x9 x10 x11 (wrap64 (x12 + 1))))))))))))))) else (none)) else ((span_Meet.f x7 x8).bind fun t277 => (if (t277 == (decide ((x9.length : Int) > 0))) = true then ((folkmootlaw03_live.f k).bind fun t278 => (some t278)) else (some false)))
end
def folkmootlaw03_SpanEach.f (k : Nat) (l0 : List (S34)) (l1 : List (S34)) (l2 : List ByteArray) : Option (Bool) := (folkmootlaw03_small.f k l0).bind fun t253 => (if t253 = true then ((folkmootlaw03_small.f k l1).bind fun t254 => (if t254 = true then (folkmootlaw03_SpanEach.j0 k l0 l1 l2 (decide ((l2.length : Int) > 30))) else (folkmootlaw03_SpanEach.j0 k l0 l1 l2 true))) else (folkmootlaw03_SpanEach.j0 k l0 l1 l2 true))
theorem folkmootlaw03_SpanEach.mono_l : ∀ k, (∀ y0 y1 y2 y3, LeO (folkmootlaw03_SpanEach.j0 k y0 y1 y2 y3) (folkmootlaw03_SpanEach.j0 (k + 1) y0 y1 y2 y3)) ∧ (∀ y0 y1 y2 y3 y4 y5 y6 y7, LeO (folkmootlaw03_SpanEach.l0 k y0 y1 y2 y3 y4 y5 y6 y7) (folkmootlaw03_SpanEach.l0 (k + 1) y0 y1 y2 y3 y4 y5 y6 y7))
  | 0 => ⟨fun _ _ _ _ r h => by simp [folkmootlaw03_SpanEach.j0] at h, fun _ _ _ _ _ _ _ _ r h => by simp [folkmootlaw03_SpanEach.l0] at h⟩
  | k + 1 => by
    obtain ⟨ih0, ih1⟩ := folkmootlaw03_SpanEach.mono_l k
    refine ⟨?_, ?_⟩
    · intro y0 y1 y2 y3
      unfold folkmootlaw03_SpanEach.j0
      repeat' first
      | (with_reducible exact ih0 _ _ _ _)
      | (with_reducible exact ih1 _ _ _ _ _ _ _ _)
      | (with_reducible exact folkmootlaw03_live.mono _)
      | (with_reducible exact folkmootlaw03_small.mono _ _)
      | (with_reducible exact folkmootref03_Has.mono _ _ _)
      | (with_reducible exact span_Less.mono _ _ _)
      | (with_reducible exact LeO.refl _)
      | (with_reducible exact LeO.none _)
      | (with_reducible refine LeO.ite ?_ ?_)
      | (with_reducible refine LeO.bind ?_ (fun _ => ?_))
      | exact ih0 _ _ _ _
      | exact ih1 _ _ _ _ _ _ _ _
      | exact folkmootlaw03_live.mono _
      | exact folkmootlaw03_small.mono _ _
      | exact folkmootref03_Has.mono _ _ _
      | exact span_Less.mono _ _ _
      | exact LeO.none _
      | refine LeO.ite ?_ ?_
      | refine LeO.bind ?_ (fun _ => ?_)
    · intro y0 y1 y2 y3 y4 y5 y6 y7
      unfold folkmootlaw03_SpanEach.l0
      repeat' first
      | (with_reducible exact ih0 _ _ _ _)
      | (with_reducible exact ih1 _ _ _ _ _ _ _ _)
      | (with_reducible exact folkmootlaw03_live.mono _)
      | (with_reducible exact folkmootlaw03_small.mono _ _)
      | (with_reducible exact folkmootref03_Has.mono _ _ _)
      | (with_reducible exact span_Less.mono _ _ _)
      | (with_reducible exact LeO.refl _)
      | (with_reducible exact LeO.none _)
      | (with_reducible refine LeO.ite ?_ ?_)
      | (with_reducible refine LeO.bind ?_ (fun _ => ?_))
      | exact ih0 _ _ _ _
      | exact ih1 _ _ _ _ _ _ _ _
      | exact folkmootlaw03_live.mono _
      | exact folkmootlaw03_small.mono _ _
      | exact folkmootref03_Has.mono _ _ _
      | exact span_Less.mono _ _ _
      | exact LeO.none _
      | refine LeO.ite ?_ ?_
      | refine LeO.bind ?_ (fun _ => ?_)
theorem folkmootlaw03_SpanEach.mono : ∀ a0 a1 a2 k, LeO (folkmootlaw03_SpanEach.f k a0 a1 a2) (folkmootlaw03_SpanEach.f (k + 1) a0 a1 a2) := by
  intro a0 a1 a2 k
  obtain ⟨ih0, ih1⟩ := folkmootlaw03_SpanEach.mono_l k
  unfold folkmootlaw03_SpanEach.f
  repeat' first
      | (with_reducible exact ih0 _ _ _ _)
      | (with_reducible exact ih1 _ _ _ _ _ _ _ _)
      | (with_reducible exact folkmootlaw03_live.mono _)
      | (with_reducible exact folkmootlaw03_small.mono _ _)
      | (with_reducible exact folkmootref03_Has.mono _ _ _)
      | (with_reducible exact span_Less.mono _ _ _)
      | (with_reducible exact LeO.refl _)
      | (with_reducible exact LeO.none _)
      | (with_reducible refine LeO.ite ?_ ?_)
      | (with_reducible refine LeO.bind ?_ (fun _ => ?_))
      | exact ih0 _ _ _ _
      | exact ih1 _ _ _ _ _ _ _ _
      | exact folkmootlaw03_live.mono _
      | exact folkmootlaw03_small.mono _ _
      | exact folkmootref03_Has.mono _ _ _
      | exact span_Less.mono _ _ _
      | exact LeO.none _
      | refine LeO.ite ?_ ?_
      | refine LeO.bind ?_ (fun _ => ?_)
def folkmootlaw03_SpanEach.T10 : Bool × List (List Nat × List Nat) := (true, [([], []), ([], []), ([], []), ([1, 2], [1, 2]), ([3], [3]), ([0, 4], [0, 4]), ([], []), ([], []), ([], []), ([7, 8], [7, 8]), ([9], [9]), ([6, 10, 5], [6, 10]), ([5, 11, 0, 1, 2, 3, 4, 5], [5]), ([11, 12, 0, 1, 2, 3, 4, 5, 6, 7, 8, 9, 10, 11, 12], [11])])
def folkmootlaw03_SpanEach.B10 : List Nat := [0, 0, 0, 6, 14, 31, 0, 0, 0, 384, 896, 2047, 4095, 8191]
theorem folkmootlaw03_SpanEach.tab10 : rtab .any (opsOf Try.f4 10) = folkmootlaw03_SpanEach.T10 := by kernel_rfl
theorem folkmootlaw03_SpanEach.bits10 : waitsOk folkmootlaw03_SpanEach.T10.2 folkmootlaw03_SpanEach.B10 = true := by kernel_rfl
set_option maxHeartbeats 8000000 in
set_option maxRecDepth 100000 in
theorem folkmootlaw03_SpanEach.calls (k : Nat) (A0 : Option Addr) (c0 : Nat) (l0 : List (S34)) (A1 : Option Addr) (c1 : Nat) (l1 : List (S34)) (A2 : Option Addr) (c2 : Nat) (l2 : List ByteArray) (r : Bool) (w : World) (hr0 : Kd.C k34 w A0 l0.length l0) (hc0 : l0.length ≤ c0) (hr1 : Kd.C k34 w A1 l1.length l1) (hc1 : l1.length ≤ c1) (hr2 : Kd.C Kd.string w A2 l2.length l2) (hc2 : l2.length ≤ c2) (h : folkmootlaw03_SpanEach.f k l0 l1 l2 = some r) :
    Calls Try.prog 4 #[.slice A0 l0.length c0, .slice A1 l1.length c1, .slice A2 l2.length c2] w fun e w' => e = .returned (.bool r) ∧ Below w.heap.size w w' := by
  have HR0 := Aside0.mk hr0
  have HC0 := Aside0.mk hc0
  clear hr0 hc0
  have HR1 := Aside0.mk hr1
  have HC1 := Aside0.mk hc1
  clear hr1 hc1
  have HR2 := Aside0.mk hr2
  have HC2 := Aside0.mk hc2
  clear hr2 hc2
  have HB := Aside0.mk (Below.refl w.heap.size w)
  have H : ((folkmootlaw03_small.f k l0).bind fun t253 => (if t253 = true then ((folkmootlaw03_small.f k l1).bind fun t254 => (if t254 = true then (folkmootlaw03_SpanEach.j0 k l0 l1 l2 (decide ((l2.length : Int) > 30))) else (folkmootlaw03_SpanEach.j0 k l0 l1 l2 true))) else (folkmootlaw03_SpanEach.j0 k l0 l1 l2 true))) = some r := h
  clear h
  have HC4 := Aside0.mk H
  clear H
  go_enter Try.func4, Try.ntmps4
  go_upto_region 1 with (fail)
  go_cut [27] (fun v27 wc => ∃ (kq : Nat) (x27_3 : Bool), v27 = .bool x27_3 ∧ Aside0 (folkmootlaw03_SpanEach.j0 kq l0 l1 l2 x27_3 = some r) ∧ Aside0 (kq ≤ k) ∧ Aside0 (Below w.heap.size w wc))
  case first =>
    have H := HC4.out
    clear HC4
    replace H := Option.bind_eq_some_iff.mp H
    obtain ⟨t253, A50, H⟩ := H
    replace H : (if t253 = true then ((folkmootlaw03_small.f k l1).bind fun t254 => (if t254 = true then (folkmootlaw03_SpanEach.j0 k l0 l1 l2 (decide ((l2.length : Int) > 30))) else (folkmootlaw03_SpanEach.j0 k l0 l1 l2 true))) else (folkmootlaw03_SpanEach.j0 k l0 l1 l2 true)) = some r := H
    have A5 := Aside0.mk A50
    clear A50
    by_cases c6 : t253 = true
    · subst c6
      have H1 : ((folkmootlaw03_small.f k l1).bind fun t254 => (if t254 = true then (folkmootlaw03_SpanEach.j0 k l0 l1 l2 (decide ((l2.length : Int) > 30))) else (folkmootlaw03_SpanEach.j0 k l0 l1 l2 true))) = some r := by rw [if_pos rfl] at H; exact H
      clear H
      have H := H1
      clear H1
      replace H := Option.bind_eq_some_iff.mp H
      obtain ⟨t254, A70, H⟩ := H
      replace H : (if t254 = true then (folkmootlaw03_SpanEach.j0 k l0 l1 l2 (decide ((l2.length : Int) > 30))) else (folkmootlaw03_SpanEach.j0 k l0 l1 l2 true)) = some r := H
      have A7 := Aside0.mk A70
      clear A70
      by_cases c8 : t254 = true
      · subst c8
        have H1 : (folkmootlaw03_SpanEach.j0 k l0 l1 l2 (decide ((l2.length : Int) > 30))) = some r := by rw [if_pos rfl] at H; exact H
        clear H
        have H := H1
        clear H1
        have H' := Aside0.mk H
        clear H
        go_wp2_with (first | ((with_reducible refine gate_callee (f := 10) rfl ?_); refine goesL_ (some 16) rfl rfl Try.func10 (by kernel_rfl) rfl #[.slice A0 l0.length c0] rfl (by (try simp only [List.map_toArray, List.map_cons, List.map_nil]); first | done | rfl | (simp only [List.length_drop, List.length_take]; rfl)) ?_; (with_reducible refine (folkmootlaw03_small.calls k _ _ l0 true _ ?side1 ?side2 A5.out).mono ?_); (case side1 => exact uC (Kd.C_below HR0.out HB.out)); (case side2 => exact HC0.out); rintro e w' ⟨rfl, ⟨nd, rfl⟩⟩; refine ⟨_, rfl, ?_⟩) | (go_at_call 10; (with_reducible refine (folkmootlaw03_small.calls k _ _ l1 true _ ?side1 ?side2 A7.out).mono ?_); (case side1 => exact (Kd.C_below HR1.out (uB HB))); (case side2 => exact HC1.out); rintro e w' ⟨rfl, ⟨nd, rfl⟩⟩))
        go_meet
        case rel => exact ⟨_, (decide ((l2.length : Int) > 30)), (by first | rfl | (simp; done) | (simp [*]; done)), H', ⟨by first | omega | exact Nat.le_refl _⟩, ⟨by repeat (first | (with_reducible first | exact HB.out | apply below_alloc | apply pw_below_drewN | apply below_drew1) | exact HB.out)⟩⟩
      · replace c8 := Bool.eq_false_iff.mpr c8
        subst c8
        have H1 : (folkmootlaw03_SpanEach.j0 k l0 l1 l2 true) = some r := by rw [if_neg (show ¬ (false = true) by decide)] at H; exact H
        clear H
        have H := H1
        clear H1
        have H' := Aside0.mk H
        clear H
        go_wp2_with (first | ((with_reducible refine gate_callee (f := 10) rfl ?_); refine goesL_ (some 16) rfl rfl Try.func10 (by kernel_rfl) rfl #[.slice A0 l0.length c0] rfl (by (try simp only [List.map_toArray, List.map_cons, List.map_nil]); first | done | rfl | (simp only [List.length_drop, List.length_take]; rfl)) ?_; (with_reducible refine (folkmootlaw03_small.calls k _ _ l0 true _ ?side1 ?side2 A5.out).mono ?_); (case side1 => exact uC (Kd.C_below HR0.out HB.out)); (case side2 => exact HC0.out); rintro e w' ⟨rfl, ⟨nd, rfl⟩⟩; refine ⟨_, rfl, ?_⟩) | (go_at_call 10; (with_reducible refine (folkmootlaw03_small.calls k _ _ l1 false _ ?side1 ?side2 A7.out).mono ?_); (case side1 => exact (Kd.C_below HR1.out (uB HB))); (case side2 => exact HC1.out); rintro e w' ⟨rfl, ⟨nd, rfl⟩⟩))
        go_meet
        case rel => exact ⟨_, (true), (by first | rfl | (simp; done) | (simp [*]; done)), H', ⟨by first | omega | exact Nat.le_refl _⟩, ⟨by repeat (first | (with_reducible first | exact HB.out | apply below_alloc | apply pw_below_drewN | apply below_drew1) | exact HB.out)⟩⟩
    · replace c6 := Bool.eq_false_iff.mpr c6
      subst c6
      have H1 : (folkmootlaw03_SpanEach.j0 k l0 l1 l2 true) = some r := by rw [if_neg (show ¬ (false = true) by decide)] at H; exact H
      clear H
      have H := H1
      clear H1
      have H' := Aside0.mk H
      clear H
      go_wp2_with (first | ((with_reducible refine gate_callee (f := 10) rfl ?_); refine goesL_ (some 16) rfl rfl Try.func10 (by kernel_rfl) rfl #[.slice A0 l0.length c0] rfl (by (try simp only [List.map_toArray, List.map_cons, List.map_nil]); first | done | rfl | (simp only [List.length_drop, List.length_take]; rfl)) ?_; (with_reducible refine (folkmootlaw03_small.calls k _ _ l0 false _ ?side1 ?side2 A5.out).mono ?_); (case side1 => exact uC (Kd.C_below HR0.out HB.out)); (case side2 => exact HC0.out); rintro e w' ⟨rfl, ⟨nd, rfl⟩⟩; refine ⟨_, rfl, ?_⟩))
      go_meet
      case rel => exact ⟨_, (true), (by first | rfl | (simp; done) | (simp [*]; done)), H', ⟨by first | omega | exact Nat.le_refl _⟩, ⟨by repeat (first | (with_reducible first | exact HB.out | apply below_alloc | apply pw_below_drewN | apply below_drew1) | exact HB.out)⟩⟩
  case rest =>
    clear HC4
    try clear c1
    try clear c2
    try clear p2
    try clear c4
    try clear c6
    try clear c8
    obtain ⟨kq, x27_3, rfl, HA, HJ3, HB⟩ := hcut
    cases kq with
    | zero => exact absurd HA.out (by simp [folkmootlaw03_SpanEach.j0])
    | succ kj3 =>
      have H := HA.out
      clear HA
      simp only [folkmootlaw03_SpanEach.j0] at H
      by_cases c9 : x27_3 = true
      · subst c9
        have H1 : ((folkmootlaw03_live.f kj3).bind fun t255 => (some t255)) = some r := by rw [if_pos rfl] at H; exact H
        clear H
        have H := H1
        clear H1
        replace H := Option.bind_eq_some_iff.mp H
        obtain ⟨t255, A100, H⟩ := H
        replace H : (some t255) = some r := H
        have A10 := Aside0.mk A100
        clear A100
        obtain rfl := Option.some.inj H
        go_wp2_with (first | ((with_reducible refine gate_callee (f := 11) rfl ?_); refine goesL_ (some 28) rfl rfl Try.func11 (by kernel_rfl) rfl #[] rfl (by (try simp only [List.map_toArray, List.map_cons, List.map_nil]); first | done | rfl | (simp only [List.length_drop, List.length_take]; rfl)) ?_; (with_reducible refine (folkmootlaw03_live.calls kj3  t255 _ A10.out).mono ?_); rintro e w11 ⟨rfl, hb⟩; refine ⟨_, rfl, ?_⟩; replace HB := sB HB hb; (try clear hb); (try clear hb2); (try clear hk); (try clear hi)))
        go_ret
        exact ⟨by first | rfl | (simp [errW_none, errW_some] <;> rfl) | (simp [*, errW_none, errW_some] <;> rfl), by repeat (first | (with_reducible first | exact HB.out | apply below_alloc | apply pw_below_drewN | apply below_drew1) | exact HB.out)⟩
      · replace c9 := Bool.eq_false_iff.mpr c9
        subst c9
        have H1 : ((span_Union.f l0).bind fun t256 => ((span_Union.f l1).bind fun t259 => ((span_Cut.f t256 t259).bind fun t262 => ((span_Less.f kj3 t256 t259).bind fun t265 => ((folkmootlaw03_own.f l0).bind fun t268 => (if t268.length + l1.length < 4398046511104 then ((span_Union.f (t268 ++ l1)).bind fun t274 => (folkmootlaw03_SpanEach.l0 kj3 l0 l2 t256 t259 t262 t265 t274 0)) else (none))))))) = some r := by rw [if_neg (show ¬ (false = true) by decide)] at H; exact H
        clear H
        have H := H1
        clear H1
        replace H := Option.bind_eq_some_iff.mp H
        obtain ⟨t256, A120, H⟩ := H
        replace H : ((span_Union.f l1).bind fun t259 => ((span_Cut.f t256 t259).bind fun t262 => ((span_Less.f kj3 t256 t259).bind fun t265 => ((folkmootlaw03_own.f l0).bind fun t268 => (if t268.length + l1.length < 4398046511104 then ((span_Union.f (t268 ++ l1)).bind fun t274 => (folkmootlaw03_SpanEach.l0 kj3 l0 l2 t256 t259 t262 t265 t274 0)) else (none)))))) = some r := H
        have A12 := Aside0.mk A120
        clear A120
        replace H := Option.bind_eq_some_iff.mp H
        obtain ⟨t259, A130, H⟩ := H
        replace H : ((span_Cut.f t256 t259).bind fun t262 => ((span_Less.f kj3 t256 t259).bind fun t265 => ((folkmootlaw03_own.f l0).bind fun t268 => (if t268.length + l1.length < 4398046511104 then ((span_Union.f (t268 ++ l1)).bind fun t274 => (folkmootlaw03_SpanEach.l0 kj3 l0 l2 t256 t259 t262 t265 t274 0)) else (none))))) = some r := H
        have A13 := Aside0.mk A130
        clear A130
        replace H := Option.bind_eq_some_iff.mp H
        obtain ⟨t262, A140, H⟩ := H
        replace H : ((span_Less.f kj3 t256 t259).bind fun t265 => ((folkmootlaw03_own.f l0).bind fun t268 => (if t268.length + l1.length < 4398046511104 then ((span_Union.f (t268 ++ l1)).bind fun t274 => (folkmootlaw03_SpanEach.l0 kj3 l0 l2 t256 t259 t262 t265 t274 0)) else (none)))) = some r := H
        have A14 := Aside0.mk A140
        clear A140
        replace H := Option.bind_eq_some_iff.mp H
        obtain ⟨t265, A150, H⟩ := H
        replace H : ((folkmootlaw03_own.f l0).bind fun t268 => (if t268.length + l1.length < 4398046511104 then ((span_Union.f (t268 ++ l1)).bind fun t274 => (folkmootlaw03_SpanEach.l0 kj3 l0 l2 t256 t259 t262 t265 t274 0)) else (none))) = some r := H
        have A15 := Aside0.mk A150
        clear A150
        replace H := Option.bind_eq_some_iff.mp H
        obtain ⟨t268, A160, H⟩ := H
        replace H : (if t268.length + l1.length < 4398046511104 then ((span_Union.f (t268 ++ l1)).bind fun t274 => (folkmootlaw03_SpanEach.l0 kj3 l0 l2 t256 t259 t262 t265 t274 0)) else (none)) = some r := H
        have A16 := Aside0.mk A160
        clear A160
        by_cases c17 : t268.length + l1.length < 4398046511104
        · rw [if_pos c17] at H
          have LMc17 := Aside0.mk c17
          clear c17
          obtain ⟨y271, hy271⟩ : ∃ y_ : List (S34), y_ = (t268 ++ l1) := ⟨_, rfl⟩
          replace H : ((span_Union.f y271).bind fun t274 => (folkmootlaw03_SpanEach.l0 kj3 l0 l2 t256 t259 t262 t265 t274 0)) = some r := by first | (rw [hy271]; with_reducible exact H) | (have H2_ := (Option.bind_some _ _).symm.trans H; rw [hy271]; with_reducible exact H2_) | (have H2_ := (Option.bind_some _ _).symm.trans H; with_reducible exact H2_) | with_reducible exact H | (rw [hy271]; exact H) | exact H
          have Ny271 := Aside0.mk hy271
          clear hy271
          replace H := Option.bind_eq_some_iff.mp H
          obtain ⟨t274, A180, H⟩ := H
          replace H : (folkmootlaw03_SpanEach.l0 kj3 l0 l2 t256 t259 t262 t265 t274 0) = some r := H
          have A18 := Aside0.mk A180
          clear A180
          have H' := Aside0.mk H
          clear H
          go_wp2_with (first | ((with_reducible refine gate_callee (f := 14) rfl ?_); refine goesL_ (some 30) rfl rfl Try.func14 (by kernel_rfl) rfl #[.slice A0 l0.length c0] rfl (by (try simp only [List.map_toArray, List.map_cons, List.map_nil]); first | done | rfl | (simp only [List.length_drop, List.length_take]; rfl)) ?_; (with_reducible refine (span_Union.calls _ _ l0 t256 _ ?side1 ?side2 A12.out).mono ?_); (case side1 => exact uC (Kd.C_below HR0.out HB.out)); (case side2 => exact HC0.out); rintro e w19 ⟨v257, rfl, ho0, hb⟩; refine ⟨_, rfl, ?_⟩; have HO258 := lR ho0 HB; replace HB := sB HB hb; (try clear hb); (try clear hb2); (try clear hk); (try clear hi); (try clear ho0)) | ((with_reducible refine gate_callee (f := 14) rfl ?_); refine goesL_ (some 32) rfl rfl Try.func14 (by kernel_rfl) rfl #[.slice A1 l1.length c1] rfl (by (try simp only [List.map_toArray, List.map_cons, List.map_nil]); first | done | rfl | (simp only [List.length_drop, List.length_take]; rfl)) ?_; (with_reducible refine (span_Union.calls _ _ l1 t259 _ ?side1 ?side2 A13.out).mono ?_); (case side1 => exact uC (Kd.C_below HR1.out HB.out)); (case side2 => exact HC1.out); rintro e w20 ⟨v260, rfl, ho0, hb⟩; refine ⟨_, rfl, ?_⟩; have HO261 := lR (nR ho0 HO258) HB; replace HO258 := eR HO258 ho0 hb; replace HB := sB HB hb; (try clear hb); (try clear hb2); (try clear hk); (try clear hi); (try clear ho0); obtain ⟨Ao21, co21, eo21⟩ := Kd.R_slice HO258.out; subst eo21; obtain ⟨Ao22, co22, eo22⟩ := Kd.R_slice HO261.out; subst eo22) | ((with_reducible refine gate_callee (f := 16) rfl ?_); refine goesL_ (some 35) rfl rfl Try.func16 (by kernel_rfl) rfl #[.slice Ao21 t256.length co21, .slice Ao22 t259.length co22] rfl (by (try simp only [List.map_toArray, List.map_cons, List.map_nil]); first | done | rfl | (simp only [List.length_drop, List.length_take]; rfl)) ?_; (with_reducible refine (span_Cut.calls _ _ t256 _ _ t259 t262 _ ?side1 ?side2 ?side3 ?side4 A14.out).mono ?_); (case side1 => exact uC (Kd.R_reads' HO258.out).2.2); (case side2 => exact (Kd.R_reads' HO258.out).2.1); (case side3 => exact uC (Kd.R_reads' HO261.out).2.2); (case side4 => exact (Kd.R_reads' HO261.out).2.1); rintro e w23 ⟨v263, rfl, ho0, hb⟩; refine ⟨_, rfl, ?_⟩; have HO264 := lR (nR (nR ho0 HO258) HO261) HB; replace HO258 := eR HO258 ho0 hb; replace HO261 := eR HO261 ho0 hb; replace HB := sB HB hb; (try clear hb); (try clear hb2); (try clear hk); (try clear hi); (try clear ho0)) | ((with_reducible refine gate_callee (f := 18) rfl ?_); refine goesL_ (some 38) rfl rfl Try.func18 (by kernel_rfl) rfl #[.slice Ao21 t256.length co21, .slice Ao22 t259.length co22] rfl (by (try simp only [List.map_toArray, List.map_cons, List.map_nil]); first | done | rfl | (simp only [List.length_drop, List.length_take]; rfl)) ?_; (with_reducible refine (span_Less.calls kj3 _ _ t256 _ _ t259 t265 _ ?side1 ?side2 ?side3 ?side4 A15.out).mono ?_); (case side1 => exact uC (Kd.R_reads' HO258.out).2.2); (case side2 => exact (Kd.R_reads' HO258.out).2.1); (case side3 => exact uC (Kd.R_reads' HO261.out).2.2); (case side4 => exact (Kd.R_reads' HO261.out).2.1); rintro e w24 ⟨v266, rfl, ho0, hb⟩; refine ⟨_, rfl, ?_⟩; have HO267 := lR (nR (nR (nR ho0 HO258) HO261) HO264) HB; replace HO258 := eR HO258 ho0 hb; replace HO261 := eR HO261 ho0 hb; replace HO264 := eR HO264 ho0 hb; replace HB := sB HB hb; (try clear hb); (try clear hb2); (try clear hk); (try clear hi); (try clear ho0)) | ((with_reducible refine gate_callee (f := 15) rfl ?_); refine goesL_ (some 40) rfl rfl Try.func15 (by kernel_rfl) rfl #[.slice A0 l0.length c0] rfl (by (try simp only [List.map_toArray, List.map_cons, List.map_nil]); first | done | rfl | (simp only [List.length_drop, List.length_take]; rfl)) ?_; (with_reducible refine (folkmootlaw03_own.calls _ _ l0 t268 _ ?side1 ?side2 A16.out).mono ?_); (case side1 => exact uC (Kd.C_below HR0.out HB.out)); (case side2 => exact HC0.out); rintro e w25 ⟨v269, rfl, ho0, hb⟩; refine ⟨_, rfl, ?_⟩; have HO270 := lR (Kd.R_new' (nR (nR (nR ho0 HO258) HO261) HO264) (Kd.R_lt (uR HO267))) HB; replace HO258 := eR HO258 ho0 hb; replace HO261 := eR HO261 ho0 hb; replace HO264 := eR HO264 ho0 hb; replace HO267 := eR HO267 ho0 hb; replace HB := sB HB hb; (try clear hb); (try clear hb2); (try clear hk); (try clear hi); (try clear ho0)) | ((with_reducible refine gate_builtin (b := .append) (xs := #[.tmp 40, .tmp 41]) rfl ?_); (try (refine gate_guard (by rfl) ?_; dsimp only)); at_builtin; refine Kd.R_append_rows k34 (w0 := w) w.heap.size rfl (.tmp 40) (.tmp 41) 22 34 (.agg #[(.string ⟨#[]⟩), (.string ⟨#[]⟩)]) 32 rfl Try.underlying22 info34 rfl (by decide) (by omega) v269 t268 l1 _ _ _ (fun k_ => some k_ ≠ (.slice Ao21 t256.length co21 : Value).ownBlock ∧ some k_ ≠ (.slice Ao22 t259.length co22 : Value).ownBlock ∧ some k_ ≠ (v263 : Value).ownBlock ∧ some k_ ≠ (v266 : Value).ownBlock) (fun _ => False) rfl rfl ?aO ?aR (fun _ _ h => h) (fun _ h => h.elim) ?aF ?aB ?aS ?aL ?_; (case aR => exact uC (Kd.C_below HR1.out HB.out)); (case aB => exact (uB HB)); (case aF => exact (fun k_ hk => ⟨Kd.fresh' (Kd.R_lt (uR HO258)) k_ hk, Kd.fresh' (Kd.R_lt (uR HO261)) k_ hk, Kd.fresh' (Kd.R_lt (uR HO264)) k_ hk, Kd.fresh' (Kd.R_lt (uR HO267)) k_ hk⟩)); (case aO => exact (by (with_reducible repeat (first | apply Kd.R_alloc | apply Kd.R_drewN | apply Kd.R_drew)); exact Kd.R_mono HO270.out (fun _ hk => ⟨hk.1.1.1.2, ⟨hk.1.1.2, ⟨hk.1.2, hk.2⟩⟩⟩))); (case aS => exact (below_size (uB HB))); (case aL => have := LMc17.out; omega); intro v272 w26 ho hb hg hat; rw [← Ny271.out] at ho; have n0_ := Aside0.mk (Kd.R_after (ok := (fun k_ => some k_ ≠ (.slice Ao22 t259.length co22 : Value).ownBlock ∧ some k_ ≠ (v263 : Value).ownBlock ∧ some k_ ≠ (v266 : Value).ownBlock)) (by (with_reducible repeat (first | apply Kd.R_alloc | apply Kd.R_drewN | apply Kd.R_drew)); exact Kd.R_mono HO258.out (fun _ hk => ⟨⟨hk.1.1.1.2, ⟨hk.1.1.2, hk.1.2⟩⟩, hk.2⟩)) hg hat); have n1_ := Aside0.mk (Kd.R_after (ok := (fun k_ => some k_ ≠ (.slice Ao21 t256.length co21 : Value).ownBlock ∧ some k_ ≠ (v263 : Value).ownBlock ∧ some k_ ≠ (v266 : Value).ownBlock)) (by (with_reducible repeat (first | apply Kd.R_alloc | apply Kd.R_drewN | apply Kd.R_drew)); exact Kd.R_mono HO261.out (fun _ hk => ⟨⟨hk.1.1.1.2, ⟨hk.1.1.2, hk.1.2⟩⟩, hk.2⟩)) hg hat); have n2_ := Aside0.mk (Kd.R_after (ok := (fun k_ => some k_ ≠ (.slice Ao21 t256.length co21 : Value).ownBlock ∧ some k_ ≠ (.slice Ao22 t259.length co22 : Value).ownBlock ∧ some k_ ≠ (v266 : Value).ownBlock)) (by (with_reducible repeat (first | apply Kd.R_alloc | apply Kd.R_drewN | apply Kd.R_drew)); exact Kd.R_mono HO264.out (fun _ hk => ⟨⟨hk.1.1.1.2, ⟨hk.1.1.2, hk.1.2⟩⟩, hk.2⟩)) hg hat); have n3_ := Aside0.mk (Kd.R_after (ok := (fun k_ => some k_ ≠ (.slice Ao21 t256.length co21 : Value).ownBlock ∧ some k_ ≠ (.slice Ao22 t259.length co22 : Value).ownBlock ∧ some k_ ≠ (v263 : Value).ownBlock)) (by (with_reducible repeat (first | apply Kd.R_alloc | apply Kd.R_drewN | apply Kd.R_drew)); exact Kd.R_mono HO267.out (fun _ hk => ⟨⟨hk.1.1.1.2, ⟨hk.1.1.2, hk.1.2⟩⟩, hk.2⟩)) hg hat); have n4_ := Aside0.mk (hb); have n5_ := Aside0.mk (ho); clear HO258; clear HO261; clear HO264; clear HO267; clear HB; clear HO270; have HO258 := n0_; have HO261 := n1_; have HO264 := n2_; have HO267 := n3_; have HB := n4_; have HO273 := n5_; clear n0_ n1_ n2_ n3_ n4_ n5_; clear ho hb hg hat; obtain ⟨Ao27, co27, eo27⟩ := Kd.R_slice HO273.out; subst eo27) | ((with_reducible refine gate_callee (f := 14) rfl ?_); refine goesL_ (some 43) rfl rfl Try.func14 (by kernel_rfl) rfl #[.slice Ao27 y271.length co27] rfl (by (try simp only [List.map_toArray, List.map_cons, List.map_nil]); first | done | rfl | (simp only [List.length_drop, List.length_take]; rfl)) ?_; (with_reducible refine (span_Union.calls _ _ y271 t274 _ ?side1 ?side2 A18.out).mono ?_); (case side1 => exact uC (Kd.R_reads' HO273.out).2.2); (case side2 => exact (Kd.R_reads' HO273.out).2.1); rintro e w28 ⟨v275, rfl, ho0, hb⟩; refine ⟨_, rfl, ?_⟩; have HO276 := lR (Kd.R_new' (Kd.R_new' (nR (nR (nR ho0 HO258) HO261) HO264) (Kd.R_lt (uR HO267))) (Kd.R_lt (uR HO273))) HB; replace HO258 := eR HO258 ho0 hb; replace HO261 := eR HO261 ho0 hb; replace HO264 := eR HO264 ho0 hb; replace HO267 := eR HO267 ho0 hb; replace HO273 := eR HO273 ho0 hb; replace HB := sB HB hb; (try clear hb); (try clear hb2); (try clear hk); (try clear hi); (try clear ho0)))
          go_loopg [12] kj3 (fun kq v12 w' => ∃ (x12_2 : Int), v12 = .int .i64 x12_2 ∧ Aside0 (folkmootlaw03_SpanEach.l0 kq l0 l2 t256 t259 t262 t265 t274 x12_2 = some r) ∧ Aside0 (kq ≤ kj3) ∧ Aside0 (Kd.R k34 34 w' w.heap.size (fun k_ => some k_ ≠ ((.slice Ao22 t259.length co22) : Value).ownBlock ∧ some k_ ≠ (v263 : Value).ownBlock ∧ some k_ ≠ (v266 : Value).ownBlock ∧ some k_ ≠ (v275 : Value).ownBlock) (.slice Ao21 t256.length co21) t256) ∧ Aside0 (Kd.R k34 34 w' w.heap.size (fun k_ => some k_ ≠ ((.slice Ao21 t256.length co21) : Value).ownBlock ∧ some k_ ≠ (v263 : Value).ownBlock ∧ some k_ ≠ (v266 : Value).ownBlock ∧ some k_ ≠ (v275 : Value).ownBlock) (.slice Ao22 t259.length co22) t259) ∧ Aside0 (Kd.R k34 34 w' w.heap.size (fun k_ => some k_ ≠ ((.slice Ao21 t256.length co21) : Value).ownBlock ∧ some k_ ≠ ((.slice Ao22 t259.length co22) : Value).ownBlock ∧ some k_ ≠ (v266 : Value).ownBlock ∧ some k_ ≠ (v275 : Value).ownBlock) v263 t262) ∧ Aside0 (Kd.R k34 34 w' w.heap.size (fun k_ => some k_ ≠ ((.slice Ao21 t256.length co21) : Value).ownBlock ∧ some k_ ≠ ((.slice Ao22 t259.length co22) : Value).ownBlock ∧ some k_ ≠ (v263 : Value).ownBlock ∧ some k_ ≠ (v275 : Value).ownBlock) v266 t265) ∧ Aside0 (Kd.R k34 34 w' w.heap.size (fun k_ => some k_ ≠ ((.slice Ao21 t256.length co21) : Value).ownBlock ∧ some k_ ≠ ((.slice Ao22 t259.length co22) : Value).ownBlock ∧ some k_ ≠ (v263 : Value).ownBlock ∧ some k_ ≠ (v266 : Value).ownBlock) v275 t274) ∧ Aside0 (Below w.heap.size w w'))
          case atStart => exact ⟨(0), (by first | rfl | (simp; done) | (simp [*]; done)), H', ⟨Nat.le_refl _⟩, ⟨by (with_reducible repeat (first | apply Kd.R_alloc | apply Kd.R_drewN | apply Kd.R_drew)); exact Kd.R_mono HO258.out (fun _ hk => ⟨hk.1.1.1, ⟨hk.1.1.2.1, ⟨hk.1.1.2.2, hk.2⟩⟩⟩)⟩, ⟨by (with_reducible repeat (first | apply Kd.R_alloc | apply Kd.R_drewN | apply Kd.R_drew)); exact Kd.R_mono HO261.out (fun _ hk => ⟨hk.1.1.1, ⟨hk.1.1.2.1, ⟨hk.1.1.2.2, hk.2⟩⟩⟩)⟩, ⟨by (with_reducible repeat (first | apply Kd.R_alloc | apply Kd.R_drewN | apply Kd.R_drew)); exact Kd.R_mono HO264.out (fun _ hk => ⟨hk.1.1.1, ⟨hk.1.1.2.1, ⟨hk.1.1.2.2, hk.2⟩⟩⟩)⟩, ⟨by (with_reducible repeat (first | apply Kd.R_alloc | apply Kd.R_drewN | apply Kd.R_drew)); exact Kd.R_mono HO267.out (fun _ hk => ⟨hk.1.1.1, ⟨hk.1.1.2.1, ⟨hk.1.1.2.2, hk.2⟩⟩⟩)⟩, ⟨by (with_reducible repeat (first | apply Kd.R_alloc | apply Kd.R_drewN | apply Kd.R_drew)); exact Kd.R_mono HO276.out (fun _ hk => ⟨hk.1.1.1.1.2, ⟨hk.1.1.1.2, ⟨hk.1.1.2, hk.1.2⟩⟩⟩)⟩, ⟨by repeat (first | (with_reducible first | exact HB.out | apply below_alloc | apply pw_below_drewN | apply below_drew1) | exact HB.out)⟩⟩
          case round =>
            clear H'
            try clear c1
            try clear c2
            try clear p2
            try clear c4
            try clear c6
            try clear c8
            try clear c9
            try clear c10
            try clear c11
            try clear c14
            try clear c15
            try clear c16
            try clear c17
            try clear c18
            try clear p2
            obtain ⟨x12_2, rfl, HA, HK2, HO_7, HO_8, HO_9, HO_10, HO_11, HB⟩ := hrel
            cases gk with
            | zero => exact absurd HA.out (by simp [folkmootlaw03_SpanEach.l0])
            | succ k2 =>
              have H := HA.out
              clear HA
              simp only [folkmootlaw03_SpanEach.l0] at H
              by_cases c29 : x12_2 < (l2.length : Int)
              · rw [if_pos c29] at H
                have c29b0 : decide (x12_2 < (l2.length : Int)) = true := decide_eq_true c29
                clear c29
                by_cases c30 : 0 ≤ x12_2
                · rw [if_pos c30] at H
                  have c30b0 : decide (0 ≤ x12_2) = true := decide_eq_true c30
                  clear c30
                  by_cases c31 : ((rdOf ByteArray.empty l2 x12_2).size : Int) > 4000
                  · rw [if_pos c31] at H
                    have c31b0 : decide (4000 < ((rdOf ByteArray.empty l2 x12_2).size : Int)) = true := decide_eq_true c31
                    have c31b1 : decide (4000 < (rdOf ByteArray.empty l2 x12_2).size) = true := decide_eq_true (by omega)
                    clear c31
                    replace H := Option.bind_eq_some_iff.mp H
                    obtain ⟨t280, A320, H⟩ := H
                    replace H : (some t280) = some r := H
                    have A32 := Aside0.mk A320
                    clear A320
                    obtain rfl := Option.some.inj H
                    have p279 : 0 ≤ (x12_2 : Int) := of_decide_eq_true (by first | (with_reducible assumption) | assumption)
                    have q279 : x12_2 < (l2.length : Int) := of_decide_eq_true (by first | (with_reducible assumption) | assumption)
                    obtain ⟨ad279, e279, hx279_0⟩ := Kd.at_string HR2.out x12_2 p279 q279
                    cases e279
                    replace hx279_0 := (HB.out.cell (World.block_lt_of_cell? w _ hx279_0)).trans hx279_0
                    replace p279 := eq_true p279
                    replace q279 := eq_true q279
                    go_wp2_with (first | ((with_reducible refine gate_callee (f := 11) rfl ?_); refine goesL_ (some 56) rfl rfl Try.func11 (by kernel_rfl) rfl #[] rfl (by (try simp only [List.map_toArray, List.map_cons, List.map_nil]); first | done | rfl | (simp only [List.length_drop, List.length_take]; rfl)) ?_; (with_reducible refine (folkmootlaw03_live.calls k2  t280 _ A32.out).mono ?_); rintro e w33 ⟨rfl, hb⟩; refine ⟨_, rfl, ?_⟩; replace HO_7 := bR HO_7 hb; replace HO_8 := bR HO_8 hb; replace HO_9 := bR HO_9 hb; replace HO_10 := bR HO_10 hb; replace HO_11 := bR HO_11 hb; replace HB := sB HB hb; (try clear hb); (try clear hb2); (try clear hk); (try clear hi)))
                    go_ret
                    exact ⟨by first | rfl | (simp [errW_none, errW_some] <;> rfl) | (simp [*, errW_none, errW_some] <;> rfl), by repeat (first | (with_reducible first | exact HB.out | apply below_alloc | apply pw_below_drewN | apply below_drew1) | exact HB.out)⟩
                  · rw [if_neg c31] at H
                    have c31b0 : decide (4000 < ((rdOf ByteArray.empty l2 x12_2).size : Int)) = false := decide_eq_false c31
                    have c31b1 : decide (4000 < (rdOf ByteArray.empty l2 x12_2).size) = false := decide_eq_false (by omega)
                    clear c31
                    replace H := Option.bind_eq_some_iff.mp H
                    obtain ⟨t282, A340, H⟩ := H
                    replace H : ((span_Has.f t259 (rdOf ByteArray.empty l2 x12_2)).bind fun t284 => ((span_Has.f t262 (rdOf ByteArray.empty l2 x12_2)).bind fun t286 => (if t282 = true then (if (t286 != t284) = true then (some false) else ((span_Has.f t265 (rdOf ByteArray.empty l2 x12_2)).bind fun t288 => (if (t288 != (!t284)) = true then (some false) else ((span_Has.f t274 (rdOf ByteArray.empty l2 x12_2)).bind fun t290 => (if (t290 != true) = true then (some false) else ((folkmootref03_Has.f k2 l0 (rdOf ByteArray.empty l2 x12_2)).bind fun t292 => (if (t282 != t292) = true then (some false) else (folkmootlaw03_SpanEach.l0 k2 l0 l2 t256 t259 t262 t265 t274 (wrap64 (x12_2 + 1)))))))))) else (if (t286 != false) = true then (some false) else ((span_Has.f t265 (rdOf ByteArray.empty l2 x12_2)).bind fun t294 => (if (t294 != false) = true then (some false) else ((span_Has.f t274 (rdOf ByteArray.empty l2 x12_2)).bind fun t296 => (if (t296 != t284) = true then (some false) else ((folkmootref03_Has.f k2 l0 (rdOf ByteArray.empty l2 x12_2)).bind fun t298 => (if (t282 != t298) = true then (some false) else (folkmootlaw03_SpanEach.l0 k2 l0 l2 t256 t259 t262 t265 t274 (wrap64 (x12_2 + 1))))))))))))) = some r := H
                    have A34 := Aside0.mk A340
                    clear A340
                    replace H := Option.bind_eq_some_iff.mp H
                    obtain ⟨t284, A350, H⟩ := H
                    replace H : ((span_Has.f t262 (rdOf ByteArray.empty l2 x12_2)).bind fun t286 => (if t282 = true then (if (t286 != t284) = true then (some false) else ((span_Has.f t265 (rdOf ByteArray.empty l2 x12_2)).bind fun t288 => (if (t288 != (!t284)) = true then (some false) else ((span_Has.f t274 (rdOf ByteArray.empty l2 x12_2)).bind fun t290 => (if (t290 != true) = true then (some false) else ((folkmootref03_Has.f k2 l0 (rdOf ByteArray.empty l2 x12_2)).bind fun t292 => (if (t282 != t292) = true then (some false) else (folkmootlaw03_SpanEach.l0 k2 l0 l2 t256 t259 t262 t265 t274 (wrap64 (x12_2 + 1)))))))))) else (if (t286 != false) = true then (some false) else ((span_Has.f t265 (rdOf ByteArray.empty l2 x12_2)).bind fun t294 => (if (t294 != false) = true then (some false) else ((span_Has.f t274 (rdOf ByteArray.empty l2 x12_2)).bind fun t296 => (if (t296 != t284) = true then (some false) else ((folkmootref03_Has.f k2 l0 (rdOf ByteArray.empty l2 x12_2)).bind fun t298 => (if (t282 != t298) = true then (some false) else (folkmootlaw03_SpanEach.l0 k2 l0 l2 t256 t259 t262 t265 t274 (wrap64 (x12_2 + 1)))))))))))) = some r := H
                    have A35 := Aside0.mk A350
                    clear A350
                    replace H := Option.bind_eq_some_iff.mp H
                    obtain ⟨t286, A360, H⟩ := H
                    replace H : (if t282 = true then (if (t286 != t284) = true then (some false) else ((span_Has.f t265 (rdOf ByteArray.empty l2 x12_2)).bind fun t288 => (if (t288 != (!t284)) = true then (some false) else ((span_Has.f t274 (rdOf ByteArray.empty l2 x12_2)).bind fun t290 => (if (t290 != true) = true then (some false) else ((folkmootref03_Has.f k2 l0 (rdOf ByteArray.empty l2 x12_2)).bind fun t292 => (if (t282 != t292) = true then (some false) else (folkmootlaw03_SpanEach.l0 k2 l0 l2 t256 t259 t262 t265 t274 (wrap64 (x12_2 + 1)))))))))) else (if (t286 != false) = true then (some false) else ((span_Has.f t265 (rdOf ByteArray.empty l2 x12_2)).bind fun t294 => (if (t294 != false) = true then (some false) else ((span_Has.f t274 (rdOf ByteArray.empty l2 x12_2)).bind fun t296 => (if (t296 != t284) = true then (some false) else ((folkmootref03_Has.f k2 l0 (rdOf ByteArray.empty l2 x12_2)).bind fun t298 => (if (t282 != t298) = true then (some false) else (folkmootlaw03_SpanEach.l0 k2 l0 l2 t256 t259 t262 t265 t274 (wrap64 (x12_2 + 1))))))))))) = some r := H
                    have A36 := Aside0.mk A360
                    clear A360
                    by_cases c37 : t282 = true
                    · subst c37
                      have H1 : (if (t286 != t284) = true then (some false) else ((span_Has.f t265 (rdOf ByteArray.empty l2 x12_2)).bind fun t288 => (if (t288 != (!t284)) = true then (some false) else ((span_Has.f t274 (rdOf ByteArray.empty l2 x12_2)).bind fun t290 => (if (t290 != true) = true then (some false) else ((folkmootref03_Has.f k2 l0 (rdOf ByteArray.empty l2 x12_2)).bind fun t292 => (if (true != t292) = true then (some false) else (folkmootlaw03_SpanEach.l0 k2 l0 l2 t256 t259 t262 t265 t274 (wrap64 (x12_2 + 1)))))))))) = some r := by rw [if_pos rfl] at H; exact H
                      clear H
                      have H := H1
                      clear H1
                      by_cases c38 : (t286 != t284) = true
                      · rw [if_pos c38] at H
                        have c38b0 : (t286 != t284) = true := c38
                        (try (have c38e := bool_bne_t c38))
                        (try (have c38b1 : decide (t286 = t284) = false := by simpa using c38))
                        (try (have c38b2 : (t286 == t284) = false := by simpa using c38))
                        (try (have c38b3 : ¬ (t286 = t284) := by simpa using c38))
                        clear c38
                        obtain rfl := Option.some.inj H
                        have p279 : 0 ≤ (x12_2 : Int) := of_decide_eq_true (by first | (with_reducible assumption) | assumption)
                        have q279 : x12_2 < (l2.length : Int) := of_decide_eq_true (by first | (with_reducible assumption) | assumption)
                        obtain ⟨ad279, e279, hx279_0⟩ := Kd.at_string HR2.out x12_2 p279 q279
                        cases e279
                        replace hx279_0 := (HB.out.cell (World.block_lt_of_cell? w _ hx279_0)).trans hx279_0
                        replace p279 := eq_true p279
                        replace q279 := eq_true q279
                        try go_wp2
                        replace HO_7 := Aside0.mk (Kd.R_drew HO_7.out)
                        replace HO_8 := Aside0.mk (Kd.R_drew HO_8.out)
                        replace HO_9 := Aside0.mk (Kd.R_drew HO_9.out)
                        replace HO_10 := Aside0.mk (Kd.R_drew HO_10.out)
                        replace HO_11 := Aside0.mk (Kd.R_drew HO_11.out)
                        replace HB := Aside0.mk (below_drew1 HB.out)
                        have p281 : 0 ≤ (x12_2 : Int) := of_decide_eq_true (by first | (with_reducible assumption) | assumption)
                        have q281 : x12_2 < (l2.length : Int) := of_decide_eq_true (by first | (with_reducible assumption) | assumption)
                        obtain ⟨ad281, e281, hx281_0⟩ := Kd.at_string HR2.out x12_2 p281 q281
                        have hw281_0 := hx281_0
                        obtain rfl : ad279 = ad281 := (by injection e281)
                        replace hx281_0 := (HB.out.cell (World.block_lt_of_cell? w _ hx281_0)).trans hx281_0
                        replace p281 := eq_true p281
                        replace q281 := eq_true q281
                        have p283 : 0 ≤ (x12_2 : Int) := of_decide_eq_true (by first | (with_reducible assumption) | assumption)
                        have q283 : x12_2 < (l2.length : Int) := of_decide_eq_true (by first | (with_reducible assumption) | assumption)
                        obtain ⟨ad283, e283, hx283_0⟩ := Kd.at_string HR2.out x12_2 p283 q283
                        have hw283_0 := hx283_0
                        obtain rfl : ad279 = ad283 := (by injection e283)
                        replace hx283_0 := (HB.out.cell (World.block_lt_of_cell? w _ hx283_0)).trans hx283_0
                        replace p283 := eq_true p283
                        replace q283 := eq_true q283
                        refine start_ (n := 14) (S := fun w' => w'.cell? (ad279.add (x12_2).toNat) = some (.string (rdOf ByteArray.empty l2 x12_2)) ∧ w'.cell? (ad279.add (x12_2).toNat) = some (.string (rdOf ByteArray.empty l2 x12_2))) (ds := []) #[false, false, false, false, false, false, false, false, false, false, false, false, false, false] (by kernel_rfl) rfl rfl ⟨((HB.out.cell (World.block_lt_of_cell? w _ hw281_0)).trans hw281_0), ((HB.out.cell (World.block_lt_of_cell? w _ hw283_0)).trans hw283_0)⟩ (fun hHeld => ?_); refine with_tabW folkmootlaw03_SpanEach.tab10 folkmootlaw03_SpanEach.bits10 (fun HT_ HW_ => ?_)
                        generalize wr.drew = w39 at HO_7 HO_8 HO_9 HO_10 HO_11 HB hx281_0 hx283_0 hHeld ⊢
                        refine pure_ (i := 0) (N := some 57) (v := ?_) (a' := ?_) #[true, false, false, false, false, false, false, false, false, false, false, false, false, false] rfl rfl (any_of HT_.out (by kernel_rfl)) (fun _ _ _ h => h) (Or.inl ⟨by rfl, ?_⟩) ?_ ?_
                        rotate_left
                        · intro w'
                          go_simp
                          with_reducible rfl
                        rotate_left
                        · simp only [Act.put, List.setIfInBounds_toArray, List.set_cons_zero, List.set_cons_succ, i64_w, i32_w]
                          rfl
                        refine pure_ (i := 1) (N := some 58) (v := ?_) (a' := ?_) #[true, true, false, false, false, false, false, false, false, false, false, false, false, false] rfl rfl (any_of HT_.out (by kernel_rfl)) (fun _ _ _ h => h) (Or.inl ⟨by rfl, ?_⟩) ?_ ?_
                        rotate_left
                        · intro w'
                          go_simp
                          with_reducible rfl
                        rotate_left
                        · simp only [Act.put, List.setIfInBounds_toArray, List.set_cons_zero, List.set_cons_succ, i64_w, i32_w]
                          rfl
                        refine pure_ (i := 2) (N := some 59) (v := ?_) (a' := ?_) #[true, true, true, false, false, false, false, false, false, false, false, false, false, false] rfl rfl (any_of HT_.out (by kernel_rfl)) (fun _ _ _ h => h) (Or.inl ⟨by rfl, ?_⟩) ?_ ?_
                        rotate_left
                        · intro w'
                          go_simp
                          with_reducible rfl
                        rotate_left
                        · simp only [Act.put, List.setIfInBounds_toArray, List.set_cons_zero, List.set_cons_succ, i64_w, i32_w]
                          rfl
                        refine pure_ (i := 3) (N := some 60) (v := ?_) (a' := ?_) #[true, true, true, true, false, false, false, false, false, false, false, false, false, false] rfl rfl (any_of HT_.out (by kernel_rfl)) (fun _ _ _ h => h) (Or.inl ⟨by rfl, ?_⟩) ?_ ?_
                        rotate_left
                        · intro w'
                          go_simp
                          with_reducible rfl
                        rotate_left
                        · simp only [Act.put, List.setIfInBounds_toArray, List.set_cons_zero, List.set_cons_succ, i64_w, i32_w]
                          rfl
                        refine pure_ (i := 6) (N := some 63) (v := ?_) (a' := ?_) #[true, true, true, true, false, false, true, false, false, false, false, false, false, false] rfl rfl (any_of HT_.out (by kernel_rfl)) (fun _ _ _ h => h) (Or.inl ⟨by rfl, ?_⟩) ?_ ?_
                        rotate_left
                        · intro w'
                          go_simp
                          with_reducible rfl
                        rotate_left
                        · simp only [Act.put, List.setIfInBounds_toArray, List.set_cons_zero, List.set_cons_succ, i64_w, i32_w]
                          rfl
                        refine pure_ (i := 7) (N := some 64) (v := ?_) (a' := ?_) #[true, true, true, true, false, false, true, true, false, false, false, false, false, false] rfl rfl (any_of HT_.out (by kernel_rfl)) (fun _ _ _ h => h) (Or.inl ⟨by rfl, ?_⟩) ?_ ?_
                        rotate_left
                        · intro w'
                          go_simp
                          with_reducible rfl
                        rotate_left
                        · simp only [Act.put, List.setIfInBounds_toArray, List.set_cons_zero, List.set_cons_succ, i64_w, i32_w]
                          rfl
                        refine pure_ (i := 8) (N := some 65) (v := ?_) (a' := ?_) #[true, true, true, true, false, false, true, true, true, false, false, false, false, false] rfl rfl (any_of HT_.out (by kernel_rfl)) (fun _ _ _ h => h) (Or.inl ⟨by rfl, ?_⟩) ?_ ?_
                        rotate_left
                        · intro w'
                          go_simp
                          with_reducible rfl
                        rotate_left
                        · simp only [Act.put, List.setIfInBounds_toArray, List.set_cons_zero, List.set_cons_succ, i64_w, i32_w]
                          rfl
                        refine pure_ (i := 9) (N := some 66) (v := ?_) (a' := ?_) #[true, true, true, true, false, false, true, true, true, true, false, false, false, false] rfl rfl (any_of HT_.out (by kernel_rfl)) (fun _ _ _ h => h) (Or.inl ⟨by rfl, ?_⟩) ?_ ?_
                        rotate_left
                        · intro w'
                          go_simp
                          with_reducible rfl
                        rotate_left
                        · simp only [Act.put, List.setIfInBounds_toArray, List.set_cons_zero, List.set_cons_succ, i64_w, i32_w]
                          rfl
                        refine take_ (i := 4) (N := some 61) (v := ?_) (a' := ?_) #[true, true, true, true, true, false, true, true, true, true, false, false, false, false] rfl rfl (take_ofW HT_.out HW_.out (by kernel_rfl)) (fun _ _ _ h => h) (Or.inl ⟨by rfl, ?_⟩) hHeld ?_ ?_
                        rotate_left
                        · rintro w' ⟨s0, s1⟩
                          go_simp
                          with_reducible rfl
                        rotate_left
                        · simp only [Act.put, List.setIfInBounds_toArray, List.set_cons_zero, List.set_cons_succ, i64_w, i32_w]
                          rfl
                        refine take_ (i := 10) (N := some 67) (v := ?_) (a' := ?_) #[true, true, true, true, true, false, true, true, true, true, true, false, false, false] rfl rfl (take_ofW HT_.out HW_.out (by kernel_rfl)) (fun _ _ _ h => h) (Or.inl ⟨by rfl, ?_⟩) hHeld ?_ ?_
                        rotate_left
                        · rintro w' ⟨s0, s1⟩
                          go_simp
                          with_reducible rfl
                        rotate_left
                        · simp only [Act.put, List.setIfInBounds_toArray, List.set_cons_zero, List.set_cons_succ, i64_w, i32_w]
                          rfl
                        refine one_ (i := 5) (N := some 62) #[true, true, true, true, true, true, true, true, true, true, true, false, false, false] rfl rfl (one_of HT_.out (by kernel_rfl)) (by decide) (fun K hK => ?_)
                        refine goes_ Try.func20 (by kernel_rfl) rfl #[.slice Ao21 t256.length co21, .string (rdOf ByteArray.empty l2 x12_2)] (by rfl) rfl rfl (by (try simp only [List.map_toArray, List.map_cons, List.map_nil]); first | done | rfl | (simp only [List.length_drop, List.length_take]; rfl)) ?_
                        with_reducible refine (span_Has.calls _ _ t256 (rdOf ByteArray.empty l2 x12_2) true _ ?side1 ?side2 A34.out).mono ?_
                        (case side1 => exact uC (Kd.R_reads' HO_7.out).2.2)
                        (case side2 => exact (Kd.R_reads' HO_7.out).2.1)
                        rintro e w40 ⟨rfl, hb⟩
                        refine ⟨_, rfl, ?_⟩
                        replace HO_7 := bR HO_7 hb
                        replace HO_8 := bR HO_8 hb
                        replace HO_9 := bR HO_9 hb
                        replace HO_10 := bR HO_10 hb
                        replace HO_11 := bR HO_11 hb
                        replace HB := sB HB hb
                        (try clear hb)
                        (try clear hb2)
                        (try clear hk)
                        (try clear hi)
                        refine hK.out _ _ ⟨((HB.out.cell (World.block_lt_of_cell? w _ hw281_0)).trans hw281_0), ((HB.out.cell (World.block_lt_of_cell? w _ hw283_0)).trans hw283_0)⟩ (fun hHeld => ?_)
                        clear hK K
                        refine norm_ (a' := ?_) ?_ ?_
                        rotate_left
                        · show Act.put _ (some 62) _ = _
                          simp only [Act.put, List.setIfInBounds_toArray, List.set_cons_zero, List.set_cons_succ, i64_w, i32_w]
                          rfl
                        refine one_ (i := 11) (N := some 68) #[true, true, true, true, true, true, true, true, true, true, true, true, false, false] rfl rfl (one_of HT_.out (by kernel_rfl)) (by decide) (fun K hK => ?_)
                        refine goes_ Try.func20 (by kernel_rfl) rfl #[.slice Ao22 t259.length co22, .string (rdOf ByteArray.empty l2 x12_2)] (by rfl) rfl rfl (by (try simp only [List.map_toArray, List.map_cons, List.map_nil]); first | done | rfl | (simp only [List.length_drop, List.length_take]; rfl)) ?_
                        with_reducible refine (span_Has.calls _ _ t259 (rdOf ByteArray.empty l2 x12_2) t284 _ ?side1 ?side2 A35.out).mono ?_
                        (case side1 => exact uC (Kd.R_reads' HO_8.out).2.2)
                        (case side2 => exact (Kd.R_reads' HO_8.out).2.1)
                        rintro e w41 ⟨rfl, hb⟩
                        refine ⟨_, rfl, ?_⟩
                        replace HO_7 := bR HO_7 hb
                        replace HO_8 := bR HO_8 hb
                        replace HO_9 := bR HO_9 hb
                        replace HO_10 := bR HO_10 hb
                        replace HO_11 := bR HO_11 hb
                        replace HB := sB HB hb
                        (try clear hb)
                        (try clear hb2)
                        (try clear hk)
                        (try clear hi)
                        refine hK.out _ _ ⟨((HB.out.cell (World.block_lt_of_cell? w _ hw281_0)).trans hw281_0), ((HB.out.cell (World.block_lt_of_cell? w _ hw283_0)).trans hw283_0)⟩ (fun hHeld => ?_)
                        clear hK K
                        refine norm_ (a' := ?_) ?_ ?_
                        rotate_left
                        · show Act.put _ (some 68) _ = _
                          simp only [Act.put, List.setIfInBounds_toArray, List.set_cons_zero, List.set_cons_succ, i64_w, i32_w]
                          rfl
                        refine pure_ (i := 12) (N := some 13) (v := ?_) (a' := ?_) #[true, true, true, true, true, true, true, true, true, true, true, true, true, false] rfl rfl (any_of HT_.out (by kernel_rfl)) (fun _ _ _ h => h) (Or.inl ⟨by rfl, ?_⟩) ?_ ?_
                        rotate_left
                        · intro w'
                          go_simp
                          with_reducible rfl
                        rotate_left
                        · simp only [Act.put, List.setIfInBounds_toArray, List.set_cons_zero, List.set_cons_succ, i64_w, i32_w]
                          rfl
                        refine pure_ (i := 13) (N := some 14) (v := ?_) (a' := ?_) #[true, true, true, true, true, true, true, true, true, true, true, true, true, true] rfl rfl (any_of HT_.out (by kernel_rfl)) (fun _ _ _ h => h) (Or.inl ⟨by rfl, ?_⟩) ?_ ?_
                        rotate_left
                        · intro w'
                          go_simp
                          with_reducible rfl
                        rotate_left
                        · simp only [Act.put, List.setIfInBounds_toArray, List.set_cons_zero, List.set_cons_succ, i64_w, i32_w]
                          rfl
                        refine done_ (done_of HT_.out (by kernel_rfl)) ?_
                        have p285 : 0 ≤ (x12_2 : Int) := of_decide_eq_true (by first | (with_reducible assumption) | assumption)
                        have q285 : x12_2 < (l2.length : Int) := of_decide_eq_true (by first | (with_reducible assumption) | assumption)
                        obtain ⟨ad285, e285, hx285_0⟩ := Kd.at_string HR2.out x12_2 p285 q285
                        obtain rfl : ad279 = ad285 := (by injection e285)
                        replace hx285_0 := (HB.out.cell (World.block_lt_of_cell? w _ hx285_0)).trans hx285_0
                        replace p285 := eq_true p285
                        replace q285 := eq_true q285
                        obtain ⟨Ao42, co42, eo42⟩ := Kd.R_slice HO_9.out
                        subst eo42
                        try go_wp2_with (first | ((with_reducible refine gate_callee (f := 20) rfl ?_); refine goesL_ (some 74) rfl rfl Try.func20 (by kernel_rfl) rfl #[.slice Ao42 t262.length co42, .string (rdOf ByteArray.empty l2 x12_2)] rfl (by (try simp only [List.map_toArray, List.map_cons, List.map_nil]); first | done | rfl | (simp only [List.length_drop, List.length_take]; rfl)) ?_; (with_reducible refine (span_Has.calls _ _ t262 (rdOf ByteArray.empty l2 x12_2) t286 _ ?side1 ?side2 A36.out).mono ?_); (case side1 => exact uC (Kd.R_reads' HO_9.out).2.2); (case side2 => exact (Kd.R_reads' HO_9.out).2.1); rintro e w43 ⟨rfl, hb⟩; refine ⟨_, rfl, ?_⟩; replace HO_7 := bR HO_7 hb; replace HO_8 := bR HO_8 hb; replace HO_9 := bR HO_9 hb; replace HO_10 := bR HO_10 hb; replace HO_11 := bR HO_11 hb; replace HB := sB HB hb; (try clear hb); (try clear hb2); (try clear hk); (try clear hi)))
                        go_ret
                        exact ⟨by first | rfl | (simp [errW_none, errW_some] <;> rfl) | (simp [*, errW_none, errW_some] <;> rfl), by repeat (first | (with_reducible first | exact HB.out | apply below_alloc | apply pw_below_drewN | apply below_drew1) | exact HB.out)⟩
                      · rw [if_neg c38] at H
                        have c38b0 : (t286 != t284) = false := by simpa using c38
                        (try (have c38e := bool_bne_f c38))
                        (try (have c38b1 : decide (t286 = t284) = true := by simpa using c38))
                        (try (have c38b2 : (t286 == t284) = true := by simpa using c38))
                        clear c38
                        replace H := Option.bind_eq_some_iff.mp H
                        obtain ⟨t288, A440, H⟩ := H
                        replace H : (if (t288 != (!t284)) = true then (some false) else ((span_Has.f t274 (rdOf ByteArray.empty l2 x12_2)).bind fun t290 => (if (t290 != true) = true then (some false) else ((folkmootref03_Has.f k2 l0 (rdOf ByteArray.empty l2 x12_2)).bind fun t292 => (if (true != t292) = true then (some false) else (folkmootlaw03_SpanEach.l0 k2 l0 l2 t256 t259 t262 t265 t274 (wrap64 (x12_2 + 1)))))))) = some r := H
                        have A44 := Aside0.mk A440
                        clear A440
                        by_cases c45 : (t288 != (!t284)) = true
                        · rw [if_pos c45] at H
                          have c45b0 : (t288 != (!t284)) = true := c45
                          (try (have c45e := bool_bne_t c45))
                          (try (have c45b1 : decide (t288 = (!t284)) = false := by simpa using c45))
                          (try (have c45b2 : (t288 == (!t284)) = false := by simpa using c45))
                          (try (have c45b3 : ¬ (t288 = (!t284)) := by simpa using c45))
                          clear c45
                          obtain rfl := Option.some.inj H
                          have p279 : 0 ≤ (x12_2 : Int) := of_decide_eq_true (by first | (with_reducible assumption) | assumption)
                          have q279 : x12_2 < (l2.length : Int) := of_decide_eq_true (by first | (with_reducible assumption) | assumption)
                          obtain ⟨ad279, e279, hx279_0⟩ := Kd.at_string HR2.out x12_2 p279 q279
                          cases e279
                          replace hx279_0 := (HB.out.cell (World.block_lt_of_cell? w _ hx279_0)).trans hx279_0
                          replace p279 := eq_true p279
                          replace q279 := eq_true q279
                          try go_wp2
                          replace HO_7 := Aside0.mk (Kd.R_drew HO_7.out)
                          replace HO_8 := Aside0.mk (Kd.R_drew HO_8.out)
                          replace HO_9 := Aside0.mk (Kd.R_drew HO_9.out)
                          replace HO_10 := Aside0.mk (Kd.R_drew HO_10.out)
                          replace HO_11 := Aside0.mk (Kd.R_drew HO_11.out)
                          replace HB := Aside0.mk (below_drew1 HB.out)
                          have p281 : 0 ≤ (x12_2 : Int) := of_decide_eq_true (by first | (with_reducible assumption) | assumption)
                          have q281 : x12_2 < (l2.length : Int) := of_decide_eq_true (by first | (with_reducible assumption) | assumption)
                          obtain ⟨ad281, e281, hx281_0⟩ := Kd.at_string HR2.out x12_2 p281 q281
                          have hw281_0 := hx281_0
                          obtain rfl : ad279 = ad281 := (by injection e281)
                          replace hx281_0 := (HB.out.cell (World.block_lt_of_cell? w _ hx281_0)).trans hx281_0
                          replace p281 := eq_true p281
                          replace q281 := eq_true q281
                          have p283 : 0 ≤ (x12_2 : Int) := of_decide_eq_true (by first | (with_reducible assumption) | assumption)
                          have q283 : x12_2 < (l2.length : Int) := of_decide_eq_true (by first | (with_reducible assumption) | assumption)
                          obtain ⟨ad283, e283, hx283_0⟩ := Kd.at_string HR2.out x12_2 p283 q283
                          have hw283_0 := hx283_0
                          obtain rfl : ad279 = ad283 := (by injection e283)
                          replace hx283_0 := (HB.out.cell (World.block_lt_of_cell? w _ hx283_0)).trans hx283_0
                          replace p283 := eq_true p283
                          replace q283 := eq_true q283
                          refine start_ (n := 14) (S := fun w' => w'.cell? (ad279.add (x12_2).toNat) = some (.string (rdOf ByteArray.empty l2 x12_2)) ∧ w'.cell? (ad279.add (x12_2).toNat) = some (.string (rdOf ByteArray.empty l2 x12_2))) (ds := []) #[false, false, false, false, false, false, false, false, false, false, false, false, false, false] (by kernel_rfl) rfl rfl ⟨((HB.out.cell (World.block_lt_of_cell? w _ hw281_0)).trans hw281_0), ((HB.out.cell (World.block_lt_of_cell? w _ hw283_0)).trans hw283_0)⟩ (fun hHeld => ?_); refine with_tabW folkmootlaw03_SpanEach.tab10 folkmootlaw03_SpanEach.bits10 (fun HT_ HW_ => ?_)
                          generalize wr.drew = w46 at HO_7 HO_8 HO_9 HO_10 HO_11 HB hx281_0 hx283_0 hHeld ⊢
                          refine pure_ (i := 0) (N := some 57) (v := ?_) (a' := ?_) #[true, false, false, false, false, false, false, false, false, false, false, false, false, false] rfl rfl (any_of HT_.out (by kernel_rfl)) (fun _ _ _ h => h) (Or.inl ⟨by rfl, ?_⟩) ?_ ?_
                          rotate_left
                          · intro w'
                            go_simp
                            with_reducible rfl
                          rotate_left
                          · simp only [Act.put, List.setIfInBounds_toArray, List.set_cons_zero, List.set_cons_succ, i64_w, i32_w]
                            rfl
                          refine pure_ (i := 1) (N := some 58) (v := ?_) (a' := ?_) #[true, true, false, false, false, false, false, false, false, false, false, false, false, false] rfl rfl (any_of HT_.out (by kernel_rfl)) (fun _ _ _ h => h) (Or.inl ⟨by rfl, ?_⟩) ?_ ?_
                          rotate_left
                          · intro w'
                            go_simp
                            with_reducible rfl
                          rotate_left
                          · simp only [Act.put, List.setIfInBounds_toArray, List.set_cons_zero, List.set_cons_succ, i64_w, i32_w]
                            rfl
                          refine pure_ (i := 2) (N := some 59) (v := ?_) (a' := ?_) #[true, true, true, false, false, false, false, false, false, false, false, false, false, false] rfl rfl (any_of HT_.out (by kernel_rfl)) (fun _ _ _ h => h) (Or.inl ⟨by rfl, ?_⟩) ?_ ?_
                          rotate_left
                          · intro w'
                            go_simp
                            with_reducible rfl
                          rotate_left
                          · simp only [Act.put, List.setIfInBounds_toArray, List.set_cons_zero, List.set_cons_succ, i64_w, i32_w]
                            rfl
                          refine pure_ (i := 3) (N := some 60) (v := ?_) (a' := ?_) #[true, true, true, true, false, false, false, false, false, false, false, false, false, false] rfl rfl (any_of HT_.out (by kernel_rfl)) (fun _ _ _ h => h) (Or.inl ⟨by rfl, ?_⟩) ?_ ?_
                          rotate_left
                          · intro w'
                            go_simp
                            with_reducible rfl
                          rotate_left
                          · simp only [Act.put, List.setIfInBounds_toArray, List.set_cons_zero, List.set_cons_succ, i64_w, i32_w]
                            rfl
                          refine pure_ (i := 6) (N := some 63) (v := ?_) (a' := ?_) #[true, true, true, true, false, false, true, false, false, false, false, false, false, false] rfl rfl (any_of HT_.out (by kernel_rfl)) (fun _ _ _ h => h) (Or.inl ⟨by rfl, ?_⟩) ?_ ?_
                          rotate_left
                          · intro w'
                            go_simp
                            with_reducible rfl
                          rotate_left
                          · simp only [Act.put, List.setIfInBounds_toArray, List.set_cons_zero, List.set_cons_succ, i64_w, i32_w]
                            rfl
                          refine pure_ (i := 7) (N := some 64) (v := ?_) (a' := ?_) #[true, true, true, true, false, false, true, true, false, false, false, false, false, false] rfl rfl (any_of HT_.out (by kernel_rfl)) (fun _ _ _ h => h) (Or.inl ⟨by rfl, ?_⟩) ?_ ?_
                          rotate_left
                          · intro w'
                            go_simp
                            with_reducible rfl
                          rotate_left
                          · simp only [Act.put, List.setIfInBounds_toArray, List.set_cons_zero, List.set_cons_succ, i64_w, i32_w]
                            rfl
                          refine pure_ (i := 8) (N := some 65) (v := ?_) (a' := ?_) #[true, true, true, true, false, false, true, true, true, false, false, false, false, false] rfl rfl (any_of HT_.out (by kernel_rfl)) (fun _ _ _ h => h) (Or.inl ⟨by rfl, ?_⟩) ?_ ?_
                          rotate_left
                          · intro w'
                            go_simp
                            with_reducible rfl
                          rotate_left
                          · simp only [Act.put, List.setIfInBounds_toArray, List.set_cons_zero, List.set_cons_succ, i64_w, i32_w]
                            rfl
                          refine pure_ (i := 9) (N := some 66) (v := ?_) (a' := ?_) #[true, true, true, true, false, false, true, true, true, true, false, false, false, false] rfl rfl (any_of HT_.out (by kernel_rfl)) (fun _ _ _ h => h) (Or.inl ⟨by rfl, ?_⟩) ?_ ?_
                          rotate_left
                          · intro w'
                            go_simp
                            with_reducible rfl
                          rotate_left
                          · simp only [Act.put, List.setIfInBounds_toArray, List.set_cons_zero, List.set_cons_succ, i64_w, i32_w]
                            rfl
                          refine take_ (i := 4) (N := some 61) (v := ?_) (a' := ?_) #[true, true, true, true, true, false, true, true, true, true, false, false, false, false] rfl rfl (take_ofW HT_.out HW_.out (by kernel_rfl)) (fun _ _ _ h => h) (Or.inl ⟨by rfl, ?_⟩) hHeld ?_ ?_
                          rotate_left
                          · rintro w' ⟨s0, s1⟩
                            go_simp
                            with_reducible rfl
                          rotate_left
                          · simp only [Act.put, List.setIfInBounds_toArray, List.set_cons_zero, List.set_cons_succ, i64_w, i32_w]
                            rfl
                          refine take_ (i := 10) (N := some 67) (v := ?_) (a' := ?_) #[true, true, true, true, true, false, true, true, true, true, true, false, false, false] rfl rfl (take_ofW HT_.out HW_.out (by kernel_rfl)) (fun _ _ _ h => h) (Or.inl ⟨by rfl, ?_⟩) hHeld ?_ ?_
                          rotate_left
                          · rintro w' ⟨s0, s1⟩
                            go_simp
                            with_reducible rfl
                          rotate_left
                          · simp only [Act.put, List.setIfInBounds_toArray, List.set_cons_zero, List.set_cons_succ, i64_w, i32_w]
                            rfl
                          refine one_ (i := 5) (N := some 62) #[true, true, true, true, true, true, true, true, true, true, true, false, false, false] rfl rfl (one_of HT_.out (by kernel_rfl)) (by decide) (fun K hK => ?_)
                          refine goes_ Try.func20 (by kernel_rfl) rfl #[.slice Ao21 t256.length co21, .string (rdOf ByteArray.empty l2 x12_2)] (by rfl) rfl rfl (by (try simp only [List.map_toArray, List.map_cons, List.map_nil]); first | done | rfl | (simp only [List.length_drop, List.length_take]; rfl)) ?_
                          with_reducible refine (span_Has.calls _ _ t256 (rdOf ByteArray.empty l2 x12_2) true _ ?side1 ?side2 A34.out).mono ?_
                          (case side1 => exact uC (Kd.R_reads' HO_7.out).2.2)
                          (case side2 => exact (Kd.R_reads' HO_7.out).2.1)
                          rintro e w47 ⟨rfl, hb⟩
                          refine ⟨_, rfl, ?_⟩
                          replace HO_7 := bR HO_7 hb
                          replace HO_8 := bR HO_8 hb
                          replace HO_9 := bR HO_9 hb
                          replace HO_10 := bR HO_10 hb
                          replace HO_11 := bR HO_11 hb
                          replace HB := sB HB hb
                          (try clear hb)
                          (try clear hb2)
                          (try clear hk)
                          (try clear hi)
                          refine hK.out _ _ ⟨((HB.out.cell (World.block_lt_of_cell? w _ hw281_0)).trans hw281_0), ((HB.out.cell (World.block_lt_of_cell? w _ hw283_0)).trans hw283_0)⟩ (fun hHeld => ?_)
                          clear hK K
                          refine norm_ (a' := ?_) ?_ ?_
                          rotate_left
                          · show Act.put _ (some 62) _ = _
                            simp only [Act.put, List.setIfInBounds_toArray, List.set_cons_zero, List.set_cons_succ, i64_w, i32_w]
                            rfl
                          refine one_ (i := 11) (N := some 68) #[true, true, true, true, true, true, true, true, true, true, true, true, false, false] rfl rfl (one_of HT_.out (by kernel_rfl)) (by decide) (fun K hK => ?_)
                          refine goes_ Try.func20 (by kernel_rfl) rfl #[.slice Ao22 t259.length co22, .string (rdOf ByteArray.empty l2 x12_2)] (by rfl) rfl rfl (by (try simp only [List.map_toArray, List.map_cons, List.map_nil]); first | done | rfl | (simp only [List.length_drop, List.length_take]; rfl)) ?_
                          with_reducible refine (span_Has.calls _ _ t259 (rdOf ByteArray.empty l2 x12_2) t284 _ ?side1 ?side2 A35.out).mono ?_
                          (case side1 => exact uC (Kd.R_reads' HO_8.out).2.2)
                          (case side2 => exact (Kd.R_reads' HO_8.out).2.1)
                          rintro e w48 ⟨rfl, hb⟩
                          refine ⟨_, rfl, ?_⟩
                          replace HO_7 := bR HO_7 hb
                          replace HO_8 := bR HO_8 hb
                          replace HO_9 := bR HO_9 hb
                          replace HO_10 := bR HO_10 hb
                          replace HO_11 := bR HO_11 hb
                          replace HB := sB HB hb
                          (try clear hb)
                          (try clear hb2)
                          (try clear hk)
                          (try clear hi)
                          refine hK.out _ _ ⟨((HB.out.cell (World.block_lt_of_cell? w _ hw281_0)).trans hw281_0), ((HB.out.cell (World.block_lt_of_cell? w _ hw283_0)).trans hw283_0)⟩ (fun hHeld => ?_)
                          clear hK K
                          refine norm_ (a' := ?_) ?_ ?_
                          rotate_left
                          · show Act.put _ (some 68) _ = _
                            simp only [Act.put, List.setIfInBounds_toArray, List.set_cons_zero, List.set_cons_succ, i64_w, i32_w]
                            rfl
                          refine pure_ (i := 12) (N := some 13) (v := ?_) (a' := ?_) #[true, true, true, true, true, true, true, true, true, true, true, true, true, false] rfl rfl (any_of HT_.out (by kernel_rfl)) (fun _ _ _ h => h) (Or.inl ⟨by rfl, ?_⟩) ?_ ?_
                          rotate_left
                          · intro w'
                            go_simp
                            with_reducible rfl
                          rotate_left
                          · simp only [Act.put, List.setIfInBounds_toArray, List.set_cons_zero, List.set_cons_succ, i64_w, i32_w]
                            rfl
                          refine pure_ (i := 13) (N := some 14) (v := ?_) (a' := ?_) #[true, true, true, true, true, true, true, true, true, true, true, true, true, true] rfl rfl (any_of HT_.out (by kernel_rfl)) (fun _ _ _ h => h) (Or.inl ⟨by rfl, ?_⟩) ?_ ?_
                          rotate_left
                          · intro w'
                            go_simp
                            with_reducible rfl
                          rotate_left
                          · simp only [Act.put, List.setIfInBounds_toArray, List.set_cons_zero, List.set_cons_succ, i64_w, i32_w]
                            rfl
                          refine done_ (done_of HT_.out (by kernel_rfl)) ?_
                          have p285 : 0 ≤ (x12_2 : Int) := of_decide_eq_true (by first | (with_reducible assumption) | assumption)
                          have q285 : x12_2 < (l2.length : Int) := of_decide_eq_true (by first | (with_reducible assumption) | assumption)
                          obtain ⟨ad285, e285, hx285_0⟩ := Kd.at_string HR2.out x12_2 p285 q285
                          obtain rfl : ad279 = ad285 := (by injection e285)
                          replace hx285_0 := (HB.out.cell (World.block_lt_of_cell? w _ hx285_0)).trans hx285_0
                          replace p285 := eq_true p285
                          replace q285 := eq_true q285
                          obtain ⟨Ao49, co49, eo49⟩ := Kd.R_slice HO_9.out
                          subst eo49
                          try go_wp2_with (first | ((with_reducible refine gate_callee (f := 20) rfl ?_); refine goesL_ (some 74) rfl rfl Try.func20 (by kernel_rfl) rfl #[.slice Ao49 t262.length co49, .string (rdOf ByteArray.empty l2 x12_2)] rfl (by (try simp only [List.map_toArray, List.map_cons, List.map_nil]); first | done | rfl | (simp only [List.length_drop, List.length_take]; rfl)) ?_; (with_reducible refine (span_Has.calls _ _ t262 (rdOf ByteArray.empty l2 x12_2) t286 _ ?side1 ?side2 A36.out).mono ?_); (case side1 => exact uC (Kd.R_reads' HO_9.out).2.2); (case side2 => exact (Kd.R_reads' HO_9.out).2.1); rintro e w50 ⟨rfl, hb⟩; refine ⟨_, rfl, ?_⟩; replace HO_7 := bR HO_7 hb; replace HO_8 := bR HO_8 hb; replace HO_9 := bR HO_9 hb; replace HO_10 := bR HO_10 hb; replace HO_11 := bR HO_11 hb; replace HB := sB HB hb; (try clear hb); (try clear hb2); (try clear hk); (try clear hi); have p287 : 0 ≤ (x12_2 : Int) := of_decide_eq_true (by first | (with_reducible assumption) | assumption); have q287 : x12_2 < (l2.length : Int) := of_decide_eq_true (by first | (with_reducible assumption) | assumption); obtain ⟨ad287, e287, hx287_0⟩ := Kd.at_string HR2.out x12_2 p287 q287; obtain rfl : ad279 = ad287 := (by injection e287); replace hx287_0 := (HB.out.cell (World.block_lt_of_cell? w _ hx287_0)).trans hx287_0; replace p287 := eq_true p287; replace q287 := eq_true q287; obtain ⟨Ao51, co51, eo51⟩ := Kd.R_slice HO_10.out; subst eo51) | (go_at_call 20; (with_reducible refine (span_Has.calls _ _ t265 (rdOf ByteArray.empty l2 x12_2) t288 _ ?side1 ?side2 A44.out).mono ?_); (case side1 => exact uC (Kd.R_reads' HO_10.out).2.2); (case side2 => exact (Kd.R_reads' HO_10.out).2.1); rintro e w52 ⟨rfl, hb⟩; replace HO_7 := bR HO_7 hb; replace HO_8 := bR HO_8 hb; replace HO_9 := bR HO_9 hb; replace HO_10 := bR HO_10 hb; replace HO_11 := bR HO_11 hb; replace HB := sB HB hb; (try clear hb); (try clear hb2); (try clear hk); (try clear hi)))
                          go_ret
                          exact ⟨by first | rfl | (simp [errW_none, errW_some] <;> rfl) | (simp [*, errW_none, errW_some] <;> rfl), by repeat (first | (with_reducible first | exact HB.out | apply below_alloc | apply pw_below_drewN | apply below_drew1) | exact HB.out)⟩
                        · rw [if_neg c45] at H
                          have c45b0 : (t288 != (!t284)) = false := by simpa using c45
                          (try (have c45e := bool_bne_f c45))
                          (try (have c45b1 : decide (t288 = (!t284)) = true := by simpa using c45))
                          (try (have c45b2 : (t288 == (!t284)) = true := by simpa using c45))
                          clear c45
                          replace H := Option.bind_eq_some_iff.mp H
                          obtain ⟨t290, A530, H⟩ := H
                          replace H : (if (t290 != true) = true then (some false) else ((folkmootref03_Has.f k2 l0 (rdOf ByteArray.empty l2 x12_2)).bind fun t292 => (if (true != t292) = true then (some false) else (folkmootlaw03_SpanEach.l0 k2 l0 l2 t256 t259 t262 t265 t274 (wrap64 (x12_2 + 1)))))) = some r := H
                          have A53 := Aside0.mk A530
                          clear A530
                          by_cases c54 : (t290 != true) = true
                          · rw [if_pos c54] at H
                            have c54b0 : (t290 != true) = true := c54
                            (try (have c54e := bool_bne_t c54))
                            (try (have c54b1 : decide (t290 = true) = false := by simpa using c54))
                            (try (have c54b2 : (t290 == true) = false := by simpa using c54))
                            (try (have c54b3 : ¬ (t290 = true) := by simpa using c54))
                            clear c54
                            obtain rfl := Option.some.inj H
                            have p279 : 0 ≤ (x12_2 : Int) := of_decide_eq_true (by first | (with_reducible assumption) | assumption)
                            have q279 : x12_2 < (l2.length : Int) := of_decide_eq_true (by first | (with_reducible assumption) | assumption)
                            obtain ⟨ad279, e279, hx279_0⟩ := Kd.at_string HR2.out x12_2 p279 q279
                            cases e279
                            replace hx279_0 := (HB.out.cell (World.block_lt_of_cell? w _ hx279_0)).trans hx279_0
                            replace p279 := eq_true p279
                            replace q279 := eq_true q279
                            try go_wp2
                            replace HO_7 := Aside0.mk (Kd.R_drew HO_7.out)
                            replace HO_8 := Aside0.mk (Kd.R_drew HO_8.out)
                            replace HO_9 := Aside0.mk (Kd.R_drew HO_9.out)
                            replace HO_10 := Aside0.mk (Kd.R_drew HO_10.out)
                            replace HO_11 := Aside0.mk (Kd.R_drew HO_11.out)
                            replace HB := Aside0.mk (below_drew1 HB.out)
                            have p281 : 0 ≤ (x12_2 : Int) := of_decide_eq_true (by first | (with_reducible assumption) | assumption)
                            have q281 : x12_2 < (l2.length : Int) := of_decide_eq_true (by first | (with_reducible assumption) | assumption)
                            obtain ⟨ad281, e281, hx281_0⟩ := Kd.at_string HR2.out x12_2 p281 q281
                            have hw281_0 := hx281_0
                            obtain rfl : ad279 = ad281 := (by injection e281)
                            replace hx281_0 := (HB.out.cell (World.block_lt_of_cell? w _ hx281_0)).trans hx281_0
                            replace p281 := eq_true p281
                            replace q281 := eq_true q281
                            have p283 : 0 ≤ (x12_2 : Int) := of_decide_eq_true (by first | (with_reducible assumption) | assumption)
                            have q283 : x12_2 < (l2.length : Int) := of_decide_eq_true (by first | (with_reducible assumption) | assumption)
                            obtain ⟨ad283, e283, hx283_0⟩ := Kd.at_string HR2.out x12_2 p283 q283
                            have hw283_0 := hx283_0
                            obtain rfl : ad279 = ad283 := (by injection e283)
                            replace hx283_0 := (HB.out.cell (World.block_lt_of_cell? w _ hx283_0)).trans hx283_0
                            replace p283 := eq_true p283
                            replace q283 := eq_true q283
                            refine start_ (n := 14) (S := fun w' => w'.cell? (ad279.add (x12_2).toNat) = some (.string (rdOf ByteArray.empty l2 x12_2)) ∧ w'.cell? (ad279.add (x12_2).toNat) = some (.string (rdOf ByteArray.empty l2 x12_2))) (ds := []) #[false, false, false, false, false, false, false, false, false, false, false, false, false, false] (by kernel_rfl) rfl rfl ⟨((HB.out.cell (World.block_lt_of_cell? w _ hw281_0)).trans hw281_0), ((HB.out.cell (World.block_lt_of_cell? w _ hw283_0)).trans hw283_0)⟩ (fun hHeld => ?_); refine with_tabW folkmootlaw03_SpanEach.tab10 folkmootlaw03_SpanEach.bits10 (fun HT_ HW_ => ?_)
                            generalize wr.drew = w55 at HO_7 HO_8 HO_9 HO_10 HO_11 HB hx281_0 hx283_0 hHeld ⊢
                            refine pure_ (i := 0) (N := some 57) (v := ?_) (a' := ?_) #[true, false, false, false, false, false, false, false, false, false, false, false, false, false] rfl rfl (any_of HT_.out (by kernel_rfl)) (fun _ _ _ h => h) (Or.inl ⟨by rfl, ?_⟩) ?_ ?_
                            rotate_left
                            · intro w'
                              go_simp
                              with_reducible rfl
                            rotate_left
                            · simp only [Act.put, List.setIfInBounds_toArray, List.set_cons_zero, List.set_cons_succ, i64_w, i32_w]
                              rfl
                            refine pure_ (i := 1) (N := some 58) (v := ?_) (a' := ?_) #[true, true, false, false, false, false, false, false, false, false, false, false, false, false] rfl rfl (any_of HT_.out (by kernel_rfl)) (fun _ _ _ h => h) (Or.inl ⟨by rfl, ?_⟩) ?_ ?_
                            rotate_left
                            · intro w'
                              go_simp
                              with_reducible rfl
                            rotate_left
                            · simp only [Act.put, List.setIfInBounds_toArray, List.set_cons_zero, List.set_cons_succ, i64_w, i32_w]
                              rfl
                            refine pure_ (i := 2) (N := some 59) (v := ?_) (a' := ?_) #[true, true, true, false, false, false, false, false, false, false, false, false, false, false] rfl rfl (any_of HT_.out (by kernel_rfl)) (fun _ _ _ h => h) (Or.inl ⟨by rfl, ?_⟩) ?_ ?_
                            rotate_left
                            · intro w'
                              go_simp
                              with_reducible rfl
                            rotate_left
                            · simp only [Act.put, List.setIfInBounds_toArray, List.set_cons_zero, List.set_cons_succ, i64_w, i32_w]
                              rfl
                            refine pure_ (i := 3) (N := some 60) (v := ?_) (a' := ?_) #[true, true, true, true, false, false, false, false, false, false, false, false, false, false] rfl rfl (any_of HT_.out (by kernel_rfl)) (fun _ _ _ h => h) (Or.inl ⟨by rfl, ?_⟩) ?_ ?_
                            rotate_left
                            · intro w'
                              go_simp
                              with_reducible rfl
                            rotate_left
                            · simp only [Act.put, List.setIfInBounds_toArray, List.set_cons_zero, List.set_cons_succ, i64_w, i32_w]
                              rfl
                            refine pure_ (i := 6) (N := some 63) (v := ?_) (a' := ?_) #[true, true, true, true, false, false, true, false, false, false, false, false, false, false] rfl rfl (any_of HT_.out (by kernel_rfl)) (fun _ _ _ h => h) (Or.inl ⟨by rfl, ?_⟩) ?_ ?_
                            rotate_left
                            · intro w'
                              go_simp
                              with_reducible rfl
                            rotate_left
                            · simp only [Act.put, List.setIfInBounds_toArray, List.set_cons_zero, List.set_cons_succ, i64_w, i32_w]
                              rfl
                            refine pure_ (i := 7) (N := some 64) (v := ?_) (a' := ?_) #[true, true, true, true, false, false, true, true, false, false, false, false, false, false] rfl rfl (any_of HT_.out (by kernel_rfl)) (fun _ _ _ h => h) (Or.inl ⟨by rfl, ?_⟩) ?_ ?_
                            rotate_left
                            · intro w'
                              go_simp
                              with_reducible rfl
                            rotate_left
                            · simp only [Act.put, List.setIfInBounds_toArray, List.set_cons_zero, List.set_cons_succ, i64_w, i32_w]
                              rfl
                            refine pure_ (i := 8) (N := some 65) (v := ?_) (a' := ?_) #[true, true, true, true, false, false, true, true, true, false, false, false, false, false] rfl rfl (any_of HT_.out (by kernel_rfl)) (fun _ _ _ h => h) (Or.inl ⟨by rfl, ?_⟩) ?_ ?_
                            rotate_left
                            · intro w'
                              go_simp
                              with_reducible rfl
                            rotate_left
                            · simp only [Act.put, List.setIfInBounds_toArray, List.set_cons_zero, List.set_cons_succ, i64_w, i32_w]
                              rfl
                            refine pure_ (i := 9) (N := some 66) (v := ?_) (a' := ?_) #[true, true, true, true, false, false, true, true, true, true, false, false, false, false] rfl rfl (any_of HT_.out (by kernel_rfl)) (fun _ _ _ h => h) (Or.inl ⟨by rfl, ?_⟩) ?_ ?_
                            rotate_left
                            · intro w'
                              go_simp
                              with_reducible rfl
                            rotate_left
                            · simp only [Act.put, List.setIfInBounds_toArray, List.set_cons_zero, List.set_cons_succ, i64_w, i32_w]
                              rfl
                            refine take_ (i := 4) (N := some 61) (v := ?_) (a' := ?_) #[true, true, true, true, true, false, true, true, true, true, false, false, false, false] rfl rfl (take_ofW HT_.out HW_.out (by kernel_rfl)) (fun _ _ _ h => h) (Or.inl ⟨by rfl, ?_⟩) hHeld ?_ ?_
                            rotate_left
                            · rintro w' ⟨s0, s1⟩
                              go_simp
                              with_reducible rfl
                            rotate_left
                            · simp only [Act.put, List.setIfInBounds_toArray, List.set_cons_zero, List.set_cons_succ, i64_w, i32_w]
                              rfl
                            refine take_ (i := 10) (N := some 67) (v := ?_) (a' := ?_) #[true, true, true, true, true, false, true, true, true, true, true, false, false, false] rfl rfl (take_ofW HT_.out HW_.out (by kernel_rfl)) (fun _ _ _ h => h) (Or.inl ⟨by rfl, ?_⟩) hHeld ?_ ?_
                            rotate_left
                            · rintro w' ⟨s0, s1⟩
                              go_simp
                              with_reducible rfl
                            rotate_left
                            · simp only [Act.put, List.setIfInBounds_toArray, List.set_cons_zero, List.set_cons_succ, i64_w, i32_w]
                              rfl
                            refine one_ (i := 5) (N := some 62) #[true, true, true, true, true, true, true, true, true, true, true, false, false, false] rfl rfl (one_of HT_.out (by kernel_rfl)) (by decide) (fun K hK => ?_)
                            refine goes_ Try.func20 (by kernel_rfl) rfl #[.slice Ao21 t256.length co21, .string (rdOf ByteArray.empty l2 x12_2)] (by rfl) rfl rfl (by (try simp only [List.map_toArray, List.map_cons, List.map_nil]); first | done | rfl | (simp only [List.length_drop, List.length_take]; rfl)) ?_
                            with_reducible refine (span_Has.calls _ _ t256 (rdOf ByteArray.empty l2 x12_2) true _ ?side1 ?side2 A34.out).mono ?_
                            (case side1 => exact uC (Kd.R_reads' HO_7.out).2.2)
                            (case side2 => exact (Kd.R_reads' HO_7.out).2.1)
                            rintro e w56 ⟨rfl, hb⟩
                            refine ⟨_, rfl, ?_⟩
                            replace HO_7 := bR HO_7 hb
                            replace HO_8 := bR HO_8 hb
                            replace HO_9 := bR HO_9 hb
                            replace HO_10 := bR HO_10 hb
                            replace HO_11 := bR HO_11 hb
                            replace HB := sB HB hb
                            (try clear hb)
                            (try clear hb2)
                            (try clear hk)
                            (try clear hi)
                            refine hK.out _ _ ⟨((HB.out.cell (World.block_lt_of_cell? w _ hw281_0)).trans hw281_0), ((HB.out.cell (World.block_lt_of_cell? w _ hw283_0)).trans hw283_0)⟩ (fun hHeld => ?_)
                            clear hK K
                            refine norm_ (a' := ?_) ?_ ?_
                            rotate_left
                            · show Act.put _ (some 62) _ = _
                              simp only [Act.put, List.setIfInBounds_toArray, List.set_cons_zero, List.set_cons_succ, i64_w, i32_w]
                              rfl
                            refine one_ (i := 11) (N := some 68) #[true, true, true, true, true, true, true, true, true, true, true, true, false, false] rfl rfl (one_of HT_.out (by kernel_rfl)) (by decide) (fun K hK => ?_)
                            refine goes_ Try.func20 (by kernel_rfl) rfl #[.slice Ao22 t259.length co22, .string (rdOf ByteArray.empty l2 x12_2)] (by rfl) rfl rfl (by (try simp only [List.map_toArray, List.map_cons, List.map_nil]); first | done | rfl | (simp only [List.length_drop, List.length_take]; rfl)) ?_
                            with_reducible refine (span_Has.calls _ _ t259 (rdOf ByteArray.empty l2 x12_2) t284 _ ?side1 ?side2 A35.out).mono ?_
                            (case side1 => exact uC (Kd.R_reads' HO_8.out).2.2)
                            (case side2 => exact (Kd.R_reads' HO_8.out).2.1)
                            rintro e w57 ⟨rfl, hb⟩
                            refine ⟨_, rfl, ?_⟩
                            replace HO_7 := bR HO_7 hb
                            replace HO_8 := bR HO_8 hb
                            replace HO_9 := bR HO_9 hb
                            replace HO_10 := bR HO_10 hb
                            replace HO_11 := bR HO_11 hb
                            replace HB := sB HB hb
                            (try clear hb)
                            (try clear hb2)
                            (try clear hk)
                            (try clear hi)
                            refine hK.out _ _ ⟨((HB.out.cell (World.block_lt_of_cell? w _ hw281_0)).trans hw281_0), ((HB.out.cell (World.block_lt_of_cell? w _ hw283_0)).trans hw283_0)⟩ (fun hHeld => ?_)
                            clear hK K
                            refine norm_ (a' := ?_) ?_ ?_
                            rotate_left
                            · show Act.put _ (some 68) _ = _
                              simp only [Act.put, List.setIfInBounds_toArray, List.set_cons_zero, List.set_cons_succ, i64_w, i32_w]
                              rfl
                            refine pure_ (i := 12) (N := some 13) (v := ?_) (a' := ?_) #[true, true, true, true, true, true, true, true, true, true, true, true, true, false] rfl rfl (any_of HT_.out (by kernel_rfl)) (fun _ _ _ h => h) (Or.inl ⟨by rfl, ?_⟩) ?_ ?_
                            rotate_left
                            · intro w'
                              go_simp
                              with_reducible rfl
                            rotate_left
                            · simp only [Act.put, List.setIfInBounds_toArray, List.set_cons_zero, List.set_cons_succ, i64_w, i32_w]
                              rfl
                            refine pure_ (i := 13) (N := some 14) (v := ?_) (a' := ?_) #[true, true, true, true, true, true, true, true, true, true, true, true, true, true] rfl rfl (any_of HT_.out (by kernel_rfl)) (fun _ _ _ h => h) (Or.inl ⟨by rfl, ?_⟩) ?_ ?_
                            rotate_left
                            · intro w'
                              go_simp
                              with_reducible rfl
                            rotate_left
                            · simp only [Act.put, List.setIfInBounds_toArray, List.set_cons_zero, List.set_cons_succ, i64_w, i32_w]
                              rfl
                            refine done_ (done_of HT_.out (by kernel_rfl)) ?_
                            have p285 : 0 ≤ (x12_2 : Int) := of_decide_eq_true (by first | (with_reducible assumption) | assumption)
                            have q285 : x12_2 < (l2.length : Int) := of_decide_eq_true (by first | (with_reducible assumption) | assumption)
                            obtain ⟨ad285, e285, hx285_0⟩ := Kd.at_string HR2.out x12_2 p285 q285
                            obtain rfl : ad279 = ad285 := (by injection e285)
                            replace hx285_0 := (HB.out.cell (World.block_lt_of_cell? w _ hx285_0)).trans hx285_0
                            replace p285 := eq_true p285
                            replace q285 := eq_true q285
                            obtain ⟨Ao58, co58, eo58⟩ := Kd.R_slice HO_9.out
                            subst eo58
                            try go_wp2_with (first | ((with_reducible refine gate_callee (f := 20) rfl ?_); refine goesL_ (some 74) rfl rfl Try.func20 (by kernel_rfl) rfl #[.slice Ao58 t262.length co58, .string (rdOf ByteArray.empty l2 x12_2)] rfl (by (try simp only [List.map_toArray, List.map_cons, List.map_nil]); first | done | rfl | (simp only [List.length_drop, List.length_take]; rfl)) ?_; (with_reducible refine (span_Has.calls _ _ t262 (rdOf ByteArray.empty l2 x12_2) t286 _ ?side1 ?side2 A36.out).mono ?_); (case side1 => exact uC (Kd.R_reads' HO_9.out).2.2); (case side2 => exact (Kd.R_reads' HO_9.out).2.1); rintro e w59 ⟨rfl, hb⟩; refine ⟨_, rfl, ?_⟩; replace HO_7 := bR HO_7 hb; replace HO_8 := bR HO_8 hb; replace HO_9 := bR HO_9 hb; replace HO_10 := bR HO_10 hb; replace HO_11 := bR HO_11 hb; replace HB := sB HB hb; (try clear hb); (try clear hb2); (try clear hk); (try clear hi); have p287 : 0 ≤ (x12_2 : Int) := of_decide_eq_true (by first | (with_reducible assumption) | assumption); have q287 : x12_2 < (l2.length : Int) := of_decide_eq_true (by first | (with_reducible assumption) | assumption); obtain ⟨ad287, e287, hx287_0⟩ := Kd.at_string HR2.out x12_2 p287 q287; obtain rfl : ad279 = ad287 := (by injection e287); replace hx287_0 := (HB.out.cell (World.block_lt_of_cell? w _ hx287_0)).trans hx287_0; replace p287 := eq_true p287; replace q287 := eq_true q287; obtain ⟨Ao60, co60, eo60⟩ := Kd.R_slice HO_10.out; subst eo60) | (go_at_call 20; (with_reducible refine (span_Has.calls _ _ t265 (rdOf ByteArray.empty l2 x12_2) t288 _ ?side1 ?side2 A44.out).mono ?_); (case side1 => exact uC (Kd.R_reads' HO_10.out).2.2); (case side2 => exact (Kd.R_reads' HO_10.out).2.1); rintro e w61 ⟨rfl, hb⟩; replace HO_7 := bR HO_7 hb; replace HO_8 := bR HO_8 hb; replace HO_9 := bR HO_9 hb; replace HO_10 := bR HO_10 hb; replace HO_11 := bR HO_11 hb; replace HB := sB HB hb; (try clear hb); (try clear hb2); (try clear hk); (try clear hi); have p289 : 0 ≤ (x12_2 : Int) := of_decide_eq_true (by first | (with_reducible assumption) | assumption); have q289 : x12_2 < (l2.length : Int) := of_decide_eq_true (by first | (with_reducible assumption) | assumption); obtain ⟨ad289, e289, hx289_0⟩ := Kd.at_string HR2.out x12_2 p289 q289; obtain rfl : ad279 = ad289 := (by injection e289); replace hx289_0 := (HB.out.cell (World.block_lt_of_cell? w _ hx289_0)).trans hx289_0; replace p289 := eq_true p289; replace q289 := eq_true q289; obtain ⟨Ao62, co62, eo62⟩ := Kd.R_slice HO_11.out; subst eo62) | (go_at_call 20; (with_reducible refine (span_Has.calls _ _ t274 (rdOf ByteArray.empty l2 x12_2) t290 _ ?side1 ?side2 A53.out).mono ?_); (case side1 => exact uC (Kd.R_reads' HO_11.out).2.2); (case side2 => exact (Kd.R_reads' HO_11.out).2.1); rintro e w63 ⟨rfl, hb⟩; replace HO_7 := bR HO_7 hb; replace HO_8 := bR HO_8 hb; replace HO_9 := bR HO_9 hb; replace HO_10 := bR HO_10 hb; replace HO_11 := bR HO_11 hb; replace HB := sB HB hb; (try clear hb); (try clear hb2); (try clear hk); (try clear hi)))
                            go_ret
                            exact ⟨by first | rfl | (simp [errW_none, errW_some] <;> rfl) | (simp [*, errW_none, errW_some] <;> rfl), by repeat (first | (with_reducible first | exact HB.out | apply below_alloc | apply pw_below_drewN | apply below_drew1) | exact HB.out)⟩
                          · rw [if_neg c54] at H
                            have c54b0 : (t290 != true) = false := by simpa using c54
                            (try (have c54e := bool_bne_f c54))
                            (try (have c54b1 : decide (t290 = true) = true := by simpa using c54))
                            (try (have c54b2 : (t290 == true) = true := by simpa using c54))
                            clear c54
                            replace H := Option.bind_eq_some_iff.mp H
                            obtain ⟨t292, A640, H⟩ := H
                            replace H : (if (true != t292) = true then (some false) else (folkmootlaw03_SpanEach.l0 k2 l0 l2 t256 t259 t262 t265 t274 (wrap64 (x12_2 + 1)))) = some r := H
                            have A64 := Aside0.mk A640
                            clear A640
                            by_cases c65 : (true != t292) = true
                            · rw [if_pos c65] at H
                              have c65b0 : (true != t292) = true := c65
                              (try (have c65e := fun h => bool_bne_t c65 (Eq.symm h)))
                              (try (have c65b1 : decide (true = t292) = false := by simpa using c65))
                              (try (have c65b2 : (true == t292) = false := by simpa using c65))
                              (try (have c65b3 : ¬ (true = t292) := by simpa using c65))
                              clear c65
                              obtain rfl := Option.some.inj H
                              have p279 : 0 ≤ (x12_2 : Int) := of_decide_eq_true (by first | (with_reducible assumption) | assumption)
                              have q279 : x12_2 < (l2.length : Int) := of_decide_eq_true (by first | (with_reducible assumption) | assumption)
                              obtain ⟨ad279, e279, hx279_0⟩ := Kd.at_string HR2.out x12_2 p279 q279
                              cases e279
                              replace hx279_0 := (HB.out.cell (World.block_lt_of_cell? w _ hx279_0)).trans hx279_0
                              replace p279 := eq_true p279
                              replace q279 := eq_true q279
                              try go_wp2
                              replace HO_7 := Aside0.mk (Kd.R_drew HO_7.out)
                              replace HO_8 := Aside0.mk (Kd.R_drew HO_8.out)
                              replace HO_9 := Aside0.mk (Kd.R_drew HO_9.out)
                              replace HO_10 := Aside0.mk (Kd.R_drew HO_10.out)
                              replace HO_11 := Aside0.mk (Kd.R_drew HO_11.out)
                              replace HB := Aside0.mk (below_drew1 HB.out)
                              have p281 : 0 ≤ (x12_2 : Int) := of_decide_eq_true (by first | (with_reducible assumption) | assumption)
                              have q281 : x12_2 < (l2.length : Int) := of_decide_eq_true (by first | (with_reducible assumption) | assumption)
                              obtain ⟨ad281, e281, hx281_0⟩ := Kd.at_string HR2.out x12_2 p281 q281
                              have hw281_0 := hx281_0
                              obtain rfl : ad279 = ad281 := (by injection e281)
                              replace hx281_0 := (HB.out.cell (World.block_lt_of_cell? w _ hx281_0)).trans hx281_0
                              replace p281 := eq_true p281
                              replace q281 := eq_true q281
                              have p283 : 0 ≤ (x12_2 : Int) := of_decide_eq_true (by first | (with_reducible assumption) | assumption)
                              have q283 : x12_2 < (l2.length : Int) := of_decide_eq_true (by first | (with_reducible assumption) | assumption)
                              obtain ⟨ad283, e283, hx283_0⟩ := Kd.at_string HR2.out x12_2 p283 q283
                              have hw283_0 := hx283_0
                              obtain rfl : ad279 = ad283 := (by injection e283)
                              replace hx283_0 := (HB.out.cell (World.block_lt_of_cell? w _ hx283_0)).trans hx283_0
                              replace p283 := eq_true p283
                              replace q283 := eq_true q283
                              refine start_ (n := 14) (S := fun w' => w'.cell? (ad279.add (x12_2).toNat) = some (.string (rdOf ByteArray.empty l2 x12_2)) ∧ w'.cell? (ad279.add (x12_2).toNat) = some (.string (rdOf ByteArray.empty l2 x12_2))) (ds := []) #[false, false, false, false, false, false, false, false, false, false, false, false, false, false] (by kernel_rfl) rfl rfl ⟨((HB.out.cell (World.block_lt_of_cell? w _ hw281_0)).trans hw281_0), ((HB.out.cell (World.block_lt_of_cell? w _ hw283_0)).trans hw283_0)⟩ (fun hHeld => ?_); refine with_tabW folkmootlaw03_SpanEach.tab10 folkmootlaw03_SpanEach.bits10 (fun HT_ HW_ => ?_)
                              generalize wr.drew = w66 at HO_7 HO_8 HO_9 HO_10 HO_11 HB hx281_0 hx283_0 hHeld ⊢
                              refine pure_ (i := 0) (N := some 57) (v := ?_) (a' := ?_) #[true, false, false, false, false, false, false, false, false, false, false, false, false, false] rfl rfl (any_of HT_.out (by kernel_rfl)) (fun _ _ _ h => h) (Or.inl ⟨by rfl, ?_⟩) ?_ ?_
                              rotate_left
                              · intro w'
                                go_simp
                                with_reducible rfl
                              rotate_left
                              · simp only [Act.put, List.setIfInBounds_toArray, List.set_cons_zero, List.set_cons_succ, i64_w, i32_w]
                                rfl
                              refine pure_ (i := 1) (N := some 58) (v := ?_) (a' := ?_) #[true, true, false, false, false, false, false, false, false, false, false, false, false, false] rfl rfl (any_of HT_.out (by kernel_rfl)) (fun _ _ _ h => h) (Or.inl ⟨by rfl, ?_⟩) ?_ ?_
                              rotate_left
                              · intro w'
                                go_simp
                                with_reducible rfl
                              rotate_left
                              · simp only [Act.put, List.setIfInBounds_toArray, List.set_cons_zero, List.set_cons_succ, i64_w, i32_w]
                                rfl
                              refine pure_ (i := 2) (N := some 59) (v := ?_) (a' := ?_) #[true, true, true, false, false, false, false, false, false, false, false, false, false, false] rfl rfl (any_of HT_.out (by kernel_rfl)) (fun _ _ _ h => h) (Or.inl ⟨by rfl, ?_⟩) ?_ ?_
                              rotate_left
                              · intro w'
                                go_simp
                                with_reducible rfl
                              rotate_left
                              · simp only [Act.put, List.setIfInBounds_toArray, List.set_cons_zero, List.set_cons_succ, i64_w, i32_w]
                                rfl
                              refine pure_ (i := 3) (N := some 60) (v := ?_) (a' := ?_) #[true, true, true, true, false, false, false, false, false, false, false, false, false, false] rfl rfl (any_of HT_.out (by kernel_rfl)) (fun _ _ _ h => h) (Or.inl ⟨by rfl, ?_⟩) ?_ ?_
                              rotate_left
                              · intro w'
                                go_simp
                                with_reducible rfl
                              rotate_left
                              · simp only [Act.put, List.setIfInBounds_toArray, List.set_cons_zero, List.set_cons_succ, i64_w, i32_w]
                                rfl
                              refine pure_ (i := 6) (N := some 63) (v := ?_) (a' := ?_) #[true, true, true, true, false, false, true, false, false, false, false, false, false, false] rfl rfl (any_of HT_.out (by kernel_rfl)) (fun _ _ _ h => h) (Or.inl ⟨by rfl, ?_⟩) ?_ ?_
                              rotate_left
                              · intro w'
                                go_simp
                                with_reducible rfl
                              rotate_left
                              · simp only [Act.put, List.setIfInBounds_toArray, List.set_cons_zero, List.set_cons_succ, i64_w, i32_w]
                                rfl
                              refine pure_ (i := 7) (N := some 64) (v := ?_) (a' := ?_) #[true, true, true, true, false, false, true, true, false, false, false, false, false, false] rfl rfl (any_of HT_.out (by kernel_rfl)) (fun _ _ _ h => h) (Or.inl ⟨by rfl, ?_⟩) ?_ ?_
                              rotate_left
                              · intro w'
                                go_simp
                                with_reducible rfl
                              rotate_left
                              · simp only [Act.put, List.setIfInBounds_toArray, List.set_cons_zero, List.set_cons_succ, i64_w, i32_w]
                                rfl
                              refine pure_ (i := 8) (N := some 65) (v := ?_) (a' := ?_) #[true, true, true, true, false, false, true, true, true, false, false, false, false, false] rfl rfl (any_of HT_.out (by kernel_rfl)) (fun _ _ _ h => h) (Or.inl ⟨by rfl, ?_⟩) ?_ ?_
                              rotate_left
                              · intro w'
                                go_simp
                                with_reducible rfl
                              rotate_left
                              · simp only [Act.put, List.setIfInBounds_toArray, List.set_cons_zero, List.set_cons_succ, i64_w, i32_w]
                                rfl
                              refine pure_ (i := 9) (N := some 66) (v := ?_) (a' := ?_) #[true, true, true, true, false, false, true, true, true, true, false, false, false, false] rfl rfl (any_of HT_.out (by kernel_rfl)) (fun _ _ _ h => h) (Or.inl ⟨by rfl, ?_⟩) ?_ ?_
                              rotate_left
                              · intro w'
                                go_simp
                                with_reducible rfl
                              rotate_left
                              · simp only [Act.put, List.setIfInBounds_toArray, List.set_cons_zero, List.set_cons_succ, i64_w, i32_w]
                                rfl
                              refine take_ (i := 4) (N := some 61) (v := ?_) (a' := ?_) #[true, true, true, true, true, false, true, true, true, true, false, false, false, false] rfl rfl (take_ofW HT_.out HW_.out (by kernel_rfl)) (fun _ _ _ h => h) (Or.inl ⟨by rfl, ?_⟩) hHeld ?_ ?_
                              rotate_left
                              · rintro w' ⟨s0, s1⟩
                                go_simp
                                with_reducible rfl
                              rotate_left
                              · simp only [Act.put, List.setIfInBounds_toArray, List.set_cons_zero, List.set_cons_succ, i64_w, i32_w]
                                rfl
                              refine take_ (i := 10) (N := some 67) (v := ?_) (a' := ?_) #[true, true, true, true, true, false, true, true, true, true, true, false, false, false] rfl rfl (take_ofW HT_.out HW_.out (by kernel_rfl)) (fun _ _ _ h => h) (Or.inl ⟨by rfl, ?_⟩) hHeld ?_ ?_
                              rotate_left
                              · rintro w' ⟨s0, s1⟩
                                go_simp
                                with_reducible rfl
                              rotate_left
                              · simp only [Act.put, List.setIfInBounds_toArray, List.set_cons_zero, List.set_cons_succ, i64_w, i32_w]
                                rfl
                              refine one_ (i := 5) (N := some 62) #[true, true, true, true, true, true, true, true, true, true, true, false, false, false] rfl rfl (one_of HT_.out (by kernel_rfl)) (by decide) (fun K hK => ?_)
                              refine goes_ Try.func20 (by kernel_rfl) rfl #[.slice Ao21 t256.length co21, .string (rdOf ByteArray.empty l2 x12_2)] (by rfl) rfl rfl (by (try simp only [List.map_toArray, List.map_cons, List.map_nil]); first | done | rfl | (simp only [List.length_drop, List.length_take]; rfl)) ?_
                              with_reducible refine (span_Has.calls _ _ t256 (rdOf ByteArray.empty l2 x12_2) true _ ?side1 ?side2 A34.out).mono ?_
                              (case side1 => exact uC (Kd.R_reads' HO_7.out).2.2)
                              (case side2 => exact (Kd.R_reads' HO_7.out).2.1)
                              rintro e w67 ⟨rfl, hb⟩
                              refine ⟨_, rfl, ?_⟩
                              replace HO_7 := bR HO_7 hb
                              replace HO_8 := bR HO_8 hb
                              replace HO_9 := bR HO_9 hb
                              replace HO_10 := bR HO_10 hb
                              replace HO_11 := bR HO_11 hb
                              replace HB := sB HB hb
                              (try clear hb)
                              (try clear hb2)
                              (try clear hk)
                              (try clear hi)
                              refine hK.out _ _ ⟨((HB.out.cell (World.block_lt_of_cell? w _ hw281_0)).trans hw281_0), ((HB.out.cell (World.block_lt_of_cell? w _ hw283_0)).trans hw283_0)⟩ (fun hHeld => ?_)
                              clear hK K
                              refine norm_ (a' := ?_) ?_ ?_
                              rotate_left
                              · show Act.put _ (some 62) _ = _
                                simp only [Act.put, List.setIfInBounds_toArray, List.set_cons_zero, List.set_cons_succ, i64_w, i32_w]
                                rfl
                              refine one_ (i := 11) (N := some 68) #[true, true, true, true, true, true, true, true, true, true, true, true, false, false] rfl rfl (one_of HT_.out (by kernel_rfl)) (by decide) (fun K hK => ?_)
                              refine goes_ Try.func20 (by kernel_rfl) rfl #[.slice Ao22 t259.length co22, .string (rdOf ByteArray.empty l2 x12_2)] (by rfl) rfl rfl (by (try simp only [List.map_toArray, List.map_cons, List.map_nil]); first | done | rfl | (simp only [List.length_drop, List.length_take]; rfl)) ?_
                              with_reducible refine (span_Has.calls _ _ t259 (rdOf ByteArray.empty l2 x12_2) t284 _ ?side1 ?side2 A35.out).mono ?_
                              (case side1 => exact uC (Kd.R_reads' HO_8.out).2.2)
                              (case side2 => exact (Kd.R_reads' HO_8.out).2.1)
                              rintro e w68 ⟨rfl, hb⟩
                              refine ⟨_, rfl, ?_⟩
                              replace HO_7 := bR HO_7 hb
                              replace HO_8 := bR HO_8 hb
                              replace HO_9 := bR HO_9 hb
                              replace HO_10 := bR HO_10 hb
                              replace HO_11 := bR HO_11 hb
                              replace HB := sB HB hb
                              (try clear hb)
                              (try clear hb2)
                              (try clear hk)
                              (try clear hi)
                              refine hK.out _ _ ⟨((HB.out.cell (World.block_lt_of_cell? w _ hw281_0)).trans hw281_0), ((HB.out.cell (World.block_lt_of_cell? w _ hw283_0)).trans hw283_0)⟩ (fun hHeld => ?_)
                              clear hK K
                              refine norm_ (a' := ?_) ?_ ?_
                              rotate_left
                              · show Act.put _ (some 68) _ = _
                                simp only [Act.put, List.setIfInBounds_toArray, List.set_cons_zero, List.set_cons_succ, i64_w, i32_w]
                                rfl
                              refine pure_ (i := 12) (N := some 13) (v := ?_) (a' := ?_) #[true, true, true, true, true, true, true, true, true, true, true, true, true, false] rfl rfl (any_of HT_.out (by kernel_rfl)) (fun _ _ _ h => h) (Or.inl ⟨by rfl, ?_⟩) ?_ ?_
                              rotate_left
                              · intro w'
                                go_simp
                                with_reducible rfl
                              rotate_left
                              · simp only [Act.put, List.setIfInBounds_toArray, List.set_cons_zero, List.set_cons_succ, i64_w, i32_w]
                                rfl
                              refine pure_ (i := 13) (N := some 14) (v := ?_) (a' := ?_) #[true, true, true, true, true, true, true, true, true, true, true, true, true, true] rfl rfl (any_of HT_.out (by kernel_rfl)) (fun _ _ _ h => h) (Or.inl ⟨by rfl, ?_⟩) ?_ ?_
                              rotate_left
                              · intro w'
                                go_simp
                                with_reducible rfl
                              rotate_left
                              · simp only [Act.put, List.setIfInBounds_toArray, List.set_cons_zero, List.set_cons_succ, i64_w, i32_w]
                                rfl
                              refine done_ (done_of HT_.out (by kernel_rfl)) ?_
                              have p285 : 0 ≤ (x12_2 : Int) := of_decide_eq_true (by first | (with_reducible assumption) | assumption)
                              have q285 : x12_2 < (l2.length : Int) := of_decide_eq_true (by first | (with_reducible assumption) | assumption)
                              obtain ⟨ad285, e285, hx285_0⟩ := Kd.at_string HR2.out x12_2 p285 q285
                              obtain rfl : ad279 = ad285 := (by injection e285)
                              replace hx285_0 := (HB.out.cell (World.block_lt_of_cell? w _ hx285_0)).trans hx285_0
                              replace p285 := eq_true p285
                              replace q285 := eq_true q285
                              obtain ⟨Ao69, co69, eo69⟩ := Kd.R_slice HO_9.out
                              subst eo69
                              try go_wp2_with (first | ((with_reducible refine gate_callee (f := 20) rfl ?_); refine goesL_ (some 74) rfl rfl Try.func20 (by kernel_rfl) rfl #[.slice Ao69 t262.length co69, .string (rdOf ByteArray.empty l2 x12_2)] rfl (by (try simp only [List.map_toArray, List.map_cons, List.map_nil]); first | done | rfl | (simp only [List.length_drop, List.length_take]; rfl)) ?_; (with_reducible refine (span_Has.calls _ _ t262 (rdOf ByteArray.empty l2 x12_2) t286 _ ?side1 ?side2 A36.out).mono ?_); (case side1 => exact uC (Kd.R_reads' HO_9.out).2.2); (case side2 => exact (Kd.R_reads' HO_9.out).2.1); rintro e w70 ⟨rfl, hb⟩; refine ⟨_, rfl, ?_⟩; replace HO_7 := bR HO_7 hb; replace HO_8 := bR HO_8 hb; replace HO_9 := bR HO_9 hb; replace HO_10 := bR HO_10 hb; replace HO_11 := bR HO_11 hb; replace HB := sB HB hb; (try clear hb); (try clear hb2); (try clear hk); (try clear hi); have p287 : 0 ≤ (x12_2 : Int) := of_decide_eq_true (by first | (with_reducible assumption) | assumption); have q287 : x12_2 < (l2.length : Int) := of_decide_eq_true (by first | (with_reducible assumption) | assumption); obtain ⟨ad287, e287, hx287_0⟩ := Kd.at_string HR2.out x12_2 p287 q287; obtain rfl : ad279 = ad287 := (by injection e287); replace hx287_0 := (HB.out.cell (World.block_lt_of_cell? w _ hx287_0)).trans hx287_0; replace p287 := eq_true p287; replace q287 := eq_true q287; obtain ⟨Ao71, co71, eo71⟩ := Kd.R_slice HO_10.out; subst eo71) | (go_at_call 20; (with_reducible refine (span_Has.calls _ _ t265 (rdOf ByteArray.empty l2 x12_2) t288 _ ?side1 ?side2 A44.out).mono ?_); (case side1 => exact uC (Kd.R_reads' HO_10.out).2.2); (case side2 => exact (Kd.R_reads' HO_10.out).2.1); rintro e w72 ⟨rfl, hb⟩; replace HO_7 := bR HO_7 hb; replace HO_8 := bR HO_8 hb; replace HO_9 := bR HO_9 hb; replace HO_10 := bR HO_10 hb; replace HO_11 := bR HO_11 hb; replace HB := sB HB hb; (try clear hb); (try clear hb2); (try clear hk); (try clear hi); have p289 : 0 ≤ (x12_2 : Int) := of_decide_eq_true (by first | (with_reducible assumption) | assumption); have q289 : x12_2 < (l2.length : Int) := of_decide_eq_true (by first | (with_reducible assumption) | assumption); obtain ⟨ad289, e289, hx289_0⟩ := Kd.at_string HR2.out x12_2 p289 q289; obtain rfl : ad279 = ad289 := (by injection e289); replace hx289_0 := (HB.out.cell (World.block_lt_of_cell? w _ hx289_0)).trans hx289_0; replace p289 := eq_true p289; replace q289 := eq_true q289; obtain ⟨Ao73, co73, eo73⟩ := Kd.R_slice HO_11.out; subst eo73) | (go_at_call 20; (with_reducible refine (span_Has.calls _ _ t274 (rdOf ByteArray.empty l2 x12_2) t290 _ ?side1 ?side2 A53.out).mono ?_); (case side1 => exact uC (Kd.R_reads' HO_11.out).2.2); (case side2 => exact (Kd.R_reads' HO_11.out).2.1); rintro e w74 ⟨rfl, hb⟩; replace HO_7 := bR HO_7 hb; replace HO_8 := bR HO_8 hb; replace HO_9 := bR HO_9 hb; replace HO_10 := bR HO_10 hb; replace HO_11 := bR HO_11 hb; replace HB := sB HB hb; (try clear hb); (try clear hb2); (try clear hk); (try clear hi); have p291 : 0 ≤ (x12_2 : Int) := of_decide_eq_true (by first | (with_reducible assumption) | assumption); have q291 : x12_2 < (l2.length : Int) := of_decide_eq_true (by first | (with_reducible assumption) | assumption); obtain ⟨ad291, e291, hx291_0⟩ := Kd.at_string HR2.out x12_2 p291 q291; obtain rfl : ad279 = ad291 := (by injection e291); replace hx291_0 := (HB.out.cell (World.block_lt_of_cell? w _ hx291_0)).trans hx291_0; replace p291 := eq_true p291; replace q291 := eq_true q291) | (go_at_call 21; (with_reducible refine (folkmootref03_Has.calls k2 _ _ l0 (rdOf ByteArray.empty l2 x12_2) t292 _ ?side1 ?side2 A64.out).mono ?_); (case side1 => exact uC (Kd.C_below HR0.out HB.out)); (case side2 => exact HC0.out); rintro e w75 ⟨rfl, hb⟩; replace HO_7 := bR HO_7 hb; replace HO_8 := bR HO_8 hb; replace HO_9 := bR HO_9 hb; replace HO_10 := bR HO_10 hb; replace HO_11 := bR HO_11 hb; replace HB := sB HB hb; (try clear hb); (try clear hb2); (try clear hk); (try clear hi)))
                              go_ret
                              exact ⟨by first | rfl | (simp [errW_none, errW_some] <;> rfl) | (simp [*, errW_none, errW_some] <;> rfl), by repeat (first | (with_reducible first | exact HB.out | apply below_alloc | apply pw_below_drewN | apply below_drew1) | exact HB.out)⟩
                            · rw [if_neg c65] at H
                              have c65b0 : (true != t292) = false := by simpa using c65
                              (try (have c65e := (bool_bne_f c65).symm))
                              (try (have c65b1 : decide (true = t292) = true := by simpa using c65))
                              (try (have c65b2 : (true == t292) = true := by simpa using c65))
                              clear c65
                              have H' := Aside0.mk H
                              clear H
                              have p279 : 0 ≤ (x12_2 : Int) := of_decide_eq_true (by first | (with_reducible assumption) | assumption)
                              have q279 : x12_2 < (l2.length : Int) := of_decide_eq_true (by first | (with_reducible assumption) | assumption)
                              obtain ⟨ad279, e279, hx279_0⟩ := Kd.at_string HR2.out x12_2 p279 q279
                              cases e279
                              replace hx279_0 := (HB.out.cell (World.block_lt_of_cell? w _ hx279_0)).trans hx279_0
                              replace p279 := eq_true p279
                              replace q279 := eq_true q279
                              try go_wp2
                              replace HO_7 := Aside0.mk (Kd.R_drew HO_7.out)
                              replace HO_8 := Aside0.mk (Kd.R_drew HO_8.out)
                              replace HO_9 := Aside0.mk (Kd.R_drew HO_9.out)
                              replace HO_10 := Aside0.mk (Kd.R_drew HO_10.out)
                              replace HO_11 := Aside0.mk (Kd.R_drew HO_11.out)
                              replace HB := Aside0.mk (below_drew1 HB.out)
                              have p281 : 0 ≤ (x12_2 : Int) := of_decide_eq_true (by first | (with_reducible assumption) | assumption)
                              have q281 : x12_2 < (l2.length : Int) := of_decide_eq_true (by first | (with_reducible assumption) | assumption)
                              obtain ⟨ad281, e281, hx281_0⟩ := Kd.at_string HR2.out x12_2 p281 q281
                              have hw281_0 := hx281_0
                              obtain rfl : ad279 = ad281 := (by injection e281)
                              replace hx281_0 := (HB.out.cell (World.block_lt_of_cell? w _ hx281_0)).trans hx281_0
                              replace p281 := eq_true p281
                              replace q281 := eq_true q281
                              have p283 : 0 ≤ (x12_2 : Int) := of_decide_eq_true (by first | (with_reducible assumption) | assumption)
                              have q283 : x12_2 < (l2.length : Int) := of_decide_eq_true (by first | (with_reducible assumption) | assumption)
                              obtain ⟨ad283, e283, hx283_0⟩ := Kd.at_string HR2.out x12_2 p283 q283
                              have hw283_0 := hx283_0
                              obtain rfl : ad279 = ad283 := (by injection e283)
                              replace hx283_0 := (HB.out.cell (World.block_lt_of_cell? w _ hx283_0)).trans hx283_0
                              replace p283 := eq_true p283
                              replace q283 := eq_true q283
                              refine start_ (n := 14) (S := fun w' => w'.cell? (ad279.add (x12_2).toNat) = some (.string (rdOf ByteArray.empty l2 x12_2)) ∧ w'.cell? (ad279.add (x12_2).toNat) = some (.string (rdOf ByteArray.empty l2 x12_2))) (ds := []) #[false, false, false, false, false, false, false, false, false, false, false, false, false, false] (by kernel_rfl) rfl rfl ⟨((HB.out.cell (World.block_lt_of_cell? w _ hw281_0)).trans hw281_0), ((HB.out.cell (World.block_lt_of_cell? w _ hw283_0)).trans hw283_0)⟩ (fun hHeld => ?_); refine with_tabW folkmootlaw03_SpanEach.tab10 folkmootlaw03_SpanEach.bits10 (fun HT_ HW_ => ?_)
                              generalize wr.drew = w76 at HO_7 HO_8 HO_9 HO_10 HO_11 HB hx281_0 hx283_0 hHeld ⊢
                              refine pure_ (i := 0) (N := some 57) (v := ?_) (a' := ?_) #[true, false, false, false, false, false, false, false, false, false, false, false, false, false] rfl rfl (any_of HT_.out (by kernel_rfl)) (fun _ _ _ h => h) (Or.inl ⟨by rfl, ?_⟩) ?_ ?_
                              rotate_left
                              · intro w'
                                go_simp
                                with_reducible rfl
                              rotate_left
                              · simp only [Act.put, List.setIfInBounds_toArray, List.set_cons_zero, List.set_cons_succ, i64_w, i32_w]
                                rfl
                              refine pure_ (i := 1) (N := some 58) (v := ?_) (a' := ?_) #[true, true, false, false, false, false, false, false, false, false, false, false, false, false] rfl rfl (any_of HT_.out (by kernel_rfl)) (fun _ _ _ h => h) (Or.inl ⟨by rfl, ?_⟩) ?_ ?_
                              rotate_left
                              · intro w'
                                go_simp
                                with_reducible rfl
                              rotate_left
                              · simp only [Act.put, List.setIfInBounds_toArray, List.set_cons_zero, List.set_cons_succ, i64_w, i32_w]
                                rfl
                              refine pure_ (i := 2) (N := some 59) (v := ?_) (a' := ?_) #[true, true, true, false, false, false, false, false, false, false, false, false, false, false] rfl rfl (any_of HT_.out (by kernel_rfl)) (fun _ _ _ h => h) (Or.inl ⟨by rfl, ?_⟩) ?_ ?_
                              rotate_left
                              · intro w'
                                go_simp
                                with_reducible rfl
                              rotate_left
                              · simp only [Act.put, List.setIfInBounds_toArray, List.set_cons_zero, List.set_cons_succ, i64_w, i32_w]
                                rfl
                              refine pure_ (i := 3) (N := some 60) (v := ?_) (a' := ?_) #[true, true, true, true, false, false, false, false, false, false, false, false, false, false] rfl rfl (any_of HT_.out (by kernel_rfl)) (fun _ _ _ h => h) (Or.inl ⟨by rfl, ?_⟩) ?_ ?_
                              rotate_left
                              · intro w'
                                go_simp
                                with_reducible rfl
                              rotate_left
                              · simp only [Act.put, List.setIfInBounds_toArray, List.set_cons_zero, List.set_cons_succ, i64_w, i32_w]
                                rfl
                              refine pure_ (i := 6) (N := some 63) (v := ?_) (a' := ?_) #[true, true, true, true, false, false, true, false, false, false, false, false, false, false] rfl rfl (any_of HT_.out (by kernel_rfl)) (fun _ _ _ h => h) (Or.inl ⟨by rfl, ?_⟩) ?_ ?_
                              rotate_left
                              · intro w'
                                go_simp
                                with_reducible rfl
                              rotate_left
                              · simp only [Act.put, List.setIfInBounds_toArray, List.set_cons_zero, List.set_cons_succ, i64_w, i32_w]
                                rfl
                              refine pure_ (i := 7) (N := some 64) (v := ?_) (a' := ?_) #[true, true, true, true, false, false, true, true, false, false, false, false, false, false] rfl rfl (any_of HT_.out (by kernel_rfl)) (fun _ _ _ h => h) (Or.inl ⟨by rfl, ?_⟩) ?_ ?_
                              rotate_left
                              · intro w'
                                go_simp
                                with_reducible rfl
                              rotate_left
                              · simp only [Act.put, List.setIfInBounds_toArray, List.set_cons_zero, List.set_cons_succ, i64_w, i32_w]
                                rfl
                              refine pure_ (i := 8) (N := some 65) (v := ?_) (a' := ?_) #[true, true, true, true, false, false, true, true, true, false, false, false, false, false] rfl rfl (any_of HT_.out (by kernel_rfl)) (fun _ _ _ h => h) (Or.inl ⟨by rfl, ?_⟩) ?_ ?_
                              rotate_left
                              · intro w'
                                go_simp
                                with_reducible rfl
                              rotate_left
                              · simp only [Act.put, List.setIfInBounds_toArray, List.set_cons_zero, List.set_cons_succ, i64_w, i32_w]
                                rfl
                              refine pure_ (i := 9) (N := some 66) (v := ?_) (a' := ?_) #[true, true, true, true, false, false, true, true, true, true, false, false, false, false] rfl rfl (any_of HT_.out (by kernel_rfl)) (fun _ _ _ h => h) (Or.inl ⟨by rfl, ?_⟩) ?_ ?_
                              rotate_left
                              · intro w'
                                go_simp
                                with_reducible rfl
                              rotate_left
                              · simp only [Act.put, List.setIfInBounds_toArray, List.set_cons_zero, List.set_cons_succ, i64_w, i32_w]
                                rfl
                              refine take_ (i := 4) (N := some 61) (v := ?_) (a' := ?_) #[true, true, true, true, true, false, true, true, true, true, false, false, false, false] rfl rfl (take_ofW HT_.out HW_.out (by kernel_rfl)) (fun _ _ _ h => h) (Or.inl ⟨by rfl, ?_⟩) hHeld ?_ ?_
                              rotate_left
                              · rintro w' ⟨s0, s1⟩
                                go_simp
                                with_reducible rfl
                              rotate_left
                              · simp only [Act.put, List.setIfInBounds_toArray, List.set_cons_zero, List.set_cons_succ, i64_w, i32_w]
                                rfl
                              refine take_ (i := 10) (N := some 67) (v := ?_) (a' := ?_) #[true, true, true, true, true, false, true, true, true, true, true, false, false, false] rfl rfl (take_ofW HT_.out HW_.out (by kernel_rfl)) (fun _ _ _ h => h) (Or.inl ⟨by rfl, ?_⟩) hHeld ?_ ?_
                              rotate_left
                              · rintro w' ⟨s0, s1⟩
                                go_simp
                                with_reducible rfl
                              rotate_left
                              · simp only [Act.put, List.setIfInBounds_toArray, List.set_cons_zero, List.set_cons_succ, i64_w, i32_w]
                                rfl
                              refine one_ (i := 5) (N := some 62) #[true, true, true, true, true, true, true, true, true, true, true, false, false, false] rfl rfl (one_of HT_.out (by kernel_rfl)) (by decide) (fun K hK => ?_)
                              refine goes_ Try.func20 (by kernel_rfl) rfl #[.slice Ao21 t256.length co21, .string (rdOf ByteArray.empty l2 x12_2)] (by rfl) rfl rfl (by (try simp only [List.map_toArray, List.map_cons, List.map_nil]); first | done | rfl | (simp only [List.length_drop, List.length_take]; rfl)) ?_
                              with_reducible refine (span_Has.calls _ _ t256 (rdOf ByteArray.empty l2 x12_2) true _ ?side1 ?side2 A34.out).mono ?_
                              (case side1 => exact uC (Kd.R_reads' HO_7.out).2.2)
                              (case side2 => exact (Kd.R_reads' HO_7.out).2.1)
                              rintro e w77 ⟨rfl, hb⟩
                              refine ⟨_, rfl, ?_⟩
                              replace HO_7 := bR HO_7 hb
                              replace HO_8 := bR HO_8 hb
                              replace HO_9 := bR HO_9 hb
                              replace HO_10 := bR HO_10 hb
                              replace HO_11 := bR HO_11 hb
                              replace HB := sB HB hb
                              (try clear hb)
                              (try clear hb2)
                              (try clear hk)
                              (try clear hi)
                              refine hK.out _ _ ⟨((HB.out.cell (World.block_lt_of_cell? w _ hw281_0)).trans hw281_0), ((HB.out.cell (World.block_lt_of_cell? w _ hw283_0)).trans hw283_0)⟩ (fun hHeld => ?_)
                              clear hK K
                              refine norm_ (a' := ?_) ?_ ?_
                              rotate_left
                              · show Act.put _ (some 62) _ = _
                                simp only [Act.put, List.setIfInBounds_toArray, List.set_cons_zero, List.set_cons_succ, i64_w, i32_w]
                                rfl
                              refine one_ (i := 11) (N := some 68) #[true, true, true, true, true, true, true, true, true, true, true, true, false, false] rfl rfl (one_of HT_.out (by kernel_rfl)) (by decide) (fun K hK => ?_)
                              refine goes_ Try.func20 (by kernel_rfl) rfl #[.slice Ao22 t259.length co22, .string (rdOf ByteArray.empty l2 x12_2)] (by rfl) rfl rfl (by (try simp only [List.map_toArray, List.map_cons, List.map_nil]); first | done | rfl | (simp only [List.length_drop, List.length_take]; rfl)) ?_
                              with_reducible refine (span_Has.calls _ _ t259 (rdOf ByteArray.empty l2 x12_2) t284 _ ?side1 ?side2 A35.out).mono ?_
                              (case side1 => exact uC (Kd.R_reads' HO_8.out).2.2)
                              (case side2 => exact (Kd.R_reads' HO_8.out).2.1)
                              rintro e w78 ⟨rfl, hb⟩
                              refine ⟨_, rfl, ?_⟩
                              replace HO_7 := bR HO_7 hb
                              replace HO_8 := bR HO_8 hb
                              replace HO_9 := bR HO_9 hb
                              replace HO_10 := bR HO_10 hb
                              replace HO_11 := bR HO_11 hb
                              replace HB := sB HB hb
                              (try clear hb)
                              (try clear hb2)
                              (try clear hk)
                              (try clear hi)
                              refine hK.out _ _ ⟨((HB.out.cell (World.block_lt_of_cell? w _ hw281_0)).trans hw281_0), ((HB.out.cell (World.block_lt_of_cell? w _ hw283_0)).trans hw283_0)⟩ (fun hHeld => ?_)
                              clear hK K
                              refine norm_ (a' := ?_) ?_ ?_
                              rotate_left
                              · show Act.put _ (some 68) _ = _
                                simp only [Act.put, List.setIfInBounds_toArray, List.set_cons_zero, List.set_cons_succ, i64_w, i32_w]
                                rfl
                              refine pure_ (i := 12) (N := some 13) (v := ?_) (a' := ?_) #[true, true, true, true, true, true, true, true, true, true, true, true, true, false] rfl rfl (any_of HT_.out (by kernel_rfl)) (fun _ _ _ h => h) (Or.inl ⟨by rfl, ?_⟩) ?_ ?_
                              rotate_left
                              · intro w'
                                go_simp
                                with_reducible rfl
                              rotate_left
                              · simp only [Act.put, List.setIfInBounds_toArray, List.set_cons_zero, List.set_cons_succ, i64_w, i32_w]
                                rfl
                              refine pure_ (i := 13) (N := some 14) (v := ?_) (a' := ?_) #[true, true, true, true, true, true, true, true, true, true, true, true, true, true] rfl rfl (any_of HT_.out (by kernel_rfl)) (fun _ _ _ h => h) (Or.inl ⟨by rfl, ?_⟩) ?_ ?_
                              rotate_left
                              · intro w'
                                go_simp
                                with_reducible rfl
                              rotate_left
                              · simp only [Act.put, List.setIfInBounds_toArray, List.set_cons_zero, List.set_cons_succ, i64_w, i32_w]
                                rfl
                              refine done_ (done_of HT_.out (by kernel_rfl)) ?_
                              have p285 : 0 ≤ (x12_2 : Int) := of_decide_eq_true (by first | (with_reducible assumption) | assumption)
                              have q285 : x12_2 < (l2.length : Int) := of_decide_eq_true (by first | (with_reducible assumption) | assumption)
                              obtain ⟨ad285, e285, hx285_0⟩ := Kd.at_string HR2.out x12_2 p285 q285
                              obtain rfl : ad279 = ad285 := (by injection e285)
                              replace hx285_0 := (HB.out.cell (World.block_lt_of_cell? w _ hx285_0)).trans hx285_0
                              replace p285 := eq_true p285
                              replace q285 := eq_true q285
                              obtain ⟨Ao79, co79, eo79⟩ := Kd.R_slice HO_9.out
                              subst eo79
                              try go_wp2_with (first | ((with_reducible refine gate_callee (f := 20) rfl ?_); refine goesL_ (some 74) rfl rfl Try.func20 (by kernel_rfl) rfl #[.slice Ao79 t262.length co79, .string (rdOf ByteArray.empty l2 x12_2)] rfl (by (try simp only [List.map_toArray, List.map_cons, List.map_nil]); first | done | rfl | (simp only [List.length_drop, List.length_take]; rfl)) ?_; (with_reducible refine (span_Has.calls _ _ t262 (rdOf ByteArray.empty l2 x12_2) t286 _ ?side1 ?side2 A36.out).mono ?_); (case side1 => exact uC (Kd.R_reads' HO_9.out).2.2); (case side2 => exact (Kd.R_reads' HO_9.out).2.1); rintro e w80 ⟨rfl, hb⟩; refine ⟨_, rfl, ?_⟩; replace HO_7 := bR HO_7 hb; replace HO_8 := bR HO_8 hb; replace HO_9 := bR HO_9 hb; replace HO_10 := bR HO_10 hb; replace HO_11 := bR HO_11 hb; replace HB := sB HB hb; (try clear hb); (try clear hb2); (try clear hk); (try clear hi); have p287 : 0 ≤ (x12_2 : Int) := of_decide_eq_true (by first | (with_reducible assumption) | assumption); have q287 : x12_2 < (l2.length : Int) := of_decide_eq_true (by first | (with_reducible assumption) | assumption); obtain ⟨ad287, e287, hx287_0⟩ := Kd.at_string HR2.out x12_2 p287 q287; obtain rfl : ad279 = ad287 := (by injection e287); replace hx287_0 := (HB.out.cell (World.block_lt_of_cell? w _ hx287_0)).trans hx287_0; replace p287 := eq_true p287; replace q287 := eq_true q287; obtain ⟨Ao81, co81, eo81⟩ := Kd.R_slice HO_10.out; subst eo81) | (go_at_call 20; (with_reducible refine (span_Has.calls _ _ t265 (rdOf ByteArray.empty l2 x12_2) t288 _ ?side1 ?side2 A44.out).mono ?_); (case side1 => exact uC (Kd.R_reads' HO_10.out).2.2); (case side2 => exact (Kd.R_reads' HO_10.out).2.1); rintro e w82 ⟨rfl, hb⟩; replace HO_7 := bR HO_7 hb; replace HO_8 := bR HO_8 hb; replace HO_9 := bR HO_9 hb; replace HO_10 := bR HO_10 hb; replace HO_11 := bR HO_11 hb; replace HB := sB HB hb; (try clear hb); (try clear hb2); (try clear hk); (try clear hi); have p289 : 0 ≤ (x12_2 : Int) := of_decide_eq_true (by first | (with_reducible assumption) | assumption); have q289 : x12_2 < (l2.length : Int) := of_decide_eq_true (by first | (with_reducible assumption) | assumption); obtain ⟨ad289, e289, hx289_0⟩ := Kd.at_string HR2.out x12_2 p289 q289; obtain rfl : ad279 = ad289 := (by injection e289); replace hx289_0 := (HB.out.cell (World.block_lt_of_cell? w _ hx289_0)).trans hx289_0; replace p289 := eq_true p289; replace q289 := eq_true q289; obtain ⟨Ao83, co83, eo83⟩ := Kd.R_slice HO_11.out; subst eo83) | (go_at_call 20; (with_reducible refine (span_Has.calls _ _ t274 (rdOf ByteArray.empty l2 x12_2) t290 _ ?side1 ?side2 A53.out).mono ?_); (case side1 => exact uC (Kd.R_reads' HO_11.out).2.2); (case side2 => exact (Kd.R_reads' HO_11.out).2.1); rintro e w84 ⟨rfl, hb⟩; replace HO_7 := bR HO_7 hb; replace HO_8 := bR HO_8 hb; replace HO_9 := bR HO_9 hb; replace HO_10 := bR HO_10 hb; replace HO_11 := bR HO_11 hb; replace HB := sB HB hb; (try clear hb); (try clear hb2); (try clear hk); (try clear hi); have p291 : 0 ≤ (x12_2 : Int) := of_decide_eq_true (by first | (with_reducible assumption) | assumption); have q291 : x12_2 < (l2.length : Int) := of_decide_eq_true (by first | (with_reducible assumption) | assumption); obtain ⟨ad291, e291, hx291_0⟩ := Kd.at_string HR2.out x12_2 p291 q291; obtain rfl : ad279 = ad291 := (by injection e291); replace hx291_0 := (HB.out.cell (World.block_lt_of_cell? w _ hx291_0)).trans hx291_0; replace p291 := eq_true p291; replace q291 := eq_true q291) | (go_at_call 21; (with_reducible refine (folkmootref03_Has.calls k2 _ _ l0 (rdOf ByteArray.empty l2 x12_2) t292 _ ?side1 ?side2 A64.out).mono ?_); (case side1 => exact uC (Kd.C_below HR0.out HB.out)); (case side2 => exact HC0.out); rintro e w85 ⟨rfl, hb⟩; replace HO_7 := bR HO_7 hb; replace HO_8 := bR HO_8 hb; replace HO_9 := bR HO_9 hb; replace HO_10 := bR HO_10 hb; replace HO_11 := bR HO_11 hb; replace HB := sB HB hb; (try clear hb); (try clear hb2); (try clear hk); (try clear hi)))
                              go_roundg k2
                              case measure => have := HJ3.out; have := HK2.out; omega
                              case rel => exact ⟨(wrap64 (x12_2 + 1)), (by first | rfl | (simp; done) | (simp [*]; done)), H', ⟨by have := HJ3.out; have := HK2.out; omega⟩, ⟨by (with_reducible repeat (first | apply Kd.R_alloc | apply Kd.R_drewN | apply Kd.R_drew)); exact HO_7.out⟩, ⟨by (with_reducible repeat (first | apply Kd.R_alloc | apply Kd.R_drewN | apply Kd.R_drew)); exact HO_8.out⟩, ⟨by (with_reducible repeat (first | apply Kd.R_alloc | apply Kd.R_drewN | apply Kd.R_drew)); exact HO_9.out⟩, ⟨by (with_reducible repeat (first | apply Kd.R_alloc | apply Kd.R_drewN | apply Kd.R_drew)); exact HO_10.out⟩, ⟨by (with_reducible repeat (first | apply Kd.R_alloc | apply Kd.R_drewN | apply Kd.R_drew)); exact HO_11.out⟩, ⟨by repeat (first | (with_reducible first | exact HB.out | apply below_alloc | apply pw_below_drewN | apply below_drew1) | exact HB.out)⟩⟩
                    · replace c37 := Bool.eq_false_iff.mpr c37
                      subst c37
                      have H1 : (if (t286 != false) = true then (some false) else ((span_Has.f t265 (rdOf ByteArray.empty l2 x12_2)).bind fun t294 => (if (t294 != false) = true then (some false) else ((span_Has.f t274 (rdOf ByteArray.empty l2 x12_2)).bind fun t296 => (if (t296 != t284) = true then (some false) else ((folkmootref03_Has.f k2 l0 (rdOf ByteArray.empty l2 x12_2)).bind fun t298 => (if (false != t298) = true then (some false) else (folkmootlaw03_SpanEach.l0 k2 l0 l2 t256 t259 t262 t265 t274 (wrap64 (x12_2 + 1)))))))))) = some r := by rw [if_neg (show ¬ (false = true) by decide)] at H; exact H
                      clear H
                      have H := H1
                      clear H1
                      by_cases c86 : (t286 != false) = true
                      · rw [if_pos c86] at H
                        have c86b0 : (t286 != false) = true := c86
                        (try (have c86e := bool_bne_t c86))
                        (try (have c86b1 : decide (t286 = false) = false := by simpa using c86))
                        (try (have c86b2 : (t286 == false) = false := by simpa using c86))
                        (try (have c86b3 : ¬ (t286 = false) := by simpa using c86))
                        clear c86
                        obtain rfl := Option.some.inj H
                        have p279 : 0 ≤ (x12_2 : Int) := of_decide_eq_true (by first | (with_reducible assumption) | assumption)
                        have q279 : x12_2 < (l2.length : Int) := of_decide_eq_true (by first | (with_reducible assumption) | assumption)
                        obtain ⟨ad279, e279, hx279_0⟩ := Kd.at_string HR2.out x12_2 p279 q279
                        cases e279
                        replace hx279_0 := (HB.out.cell (World.block_lt_of_cell? w _ hx279_0)).trans hx279_0
                        replace p279 := eq_true p279
                        replace q279 := eq_true q279
                        try go_wp2
                        replace HO_7 := Aside0.mk (Kd.R_drew HO_7.out)
                        replace HO_8 := Aside0.mk (Kd.R_drew HO_8.out)
                        replace HO_9 := Aside0.mk (Kd.R_drew HO_9.out)
                        replace HO_10 := Aside0.mk (Kd.R_drew HO_10.out)
                        replace HO_11 := Aside0.mk (Kd.R_drew HO_11.out)
                        replace HB := Aside0.mk (below_drew1 HB.out)
                        have p281 : 0 ≤ (x12_2 : Int) := of_decide_eq_true (by first | (with_reducible assumption) | assumption)
                        have q281 : x12_2 < (l2.length : Int) := of_decide_eq_true (by first | (with_reducible assumption) | assumption)
                        obtain ⟨ad281, e281, hx281_0⟩ := Kd.at_string HR2.out x12_2 p281 q281
                        have hw281_0 := hx281_0
                        obtain rfl : ad279 = ad281 := (by injection e281)
                        replace hx281_0 := (HB.out.cell (World.block_lt_of_cell? w _ hx281_0)).trans hx281_0
                        replace p281 := eq_true p281
                        replace q281 := eq_true q281
                        have p283 : 0 ≤ (x12_2 : Int) := of_decide_eq_true (by first | (with_reducible assumption) | assumption)
                        have q283 : x12_2 < (l2.length : Int) := of_decide_eq_true (by first | (with_reducible assumption) | assumption)
                        obtain ⟨ad283, e283, hx283_0⟩ := Kd.at_string HR2.out x12_2 p283 q283
                        have hw283_0 := hx283_0
                        obtain rfl : ad279 = ad283 := (by injection e283)
                        replace hx283_0 := (HB.out.cell (World.block_lt_of_cell? w _ hx283_0)).trans hx283_0
                        replace p283 := eq_true p283
                        replace q283 := eq_true q283
                        refine start_ (n := 14) (S := fun w' => w'.cell? (ad279.add (x12_2).toNat) = some (.string (rdOf ByteArray.empty l2 x12_2)) ∧ w'.cell? (ad279.add (x12_2).toNat) = some (.string (rdOf ByteArray.empty l2 x12_2))) (ds := []) #[false, false, false, false, false, false, false, false, false, false, false, false, false, false] (by kernel_rfl) rfl rfl ⟨((HB.out.cell (World.block_lt_of_cell? w _ hw281_0)).trans hw281_0), ((HB.out.cell (World.block_lt_of_cell? w _ hw283_0)).trans hw283_0)⟩ (fun hHeld => ?_); refine with_tabW folkmootlaw03_SpanEach.tab10 folkmootlaw03_SpanEach.bits10 (fun HT_ HW_ => ?_)
                        generalize wr.drew = w87 at HO_7 HO_8 HO_9 HO_10 HO_11 HB hx281_0 hx283_0 hHeld ⊢
                        refine pure_ (i := 0) (N := some 57) (v := ?_) (a' := ?_) #[true, false, false, false, false, false, false, false, false, false, false, false, false, false] rfl rfl (any_of HT_.out (by kernel_rfl)) (fun _ _ _ h => h) (Or.inl ⟨by rfl, ?_⟩) ?_ ?_
                        rotate_left
                        · intro w'
                          go_simp
                          with_reducible rfl
                        rotate_left
                        · simp only [Act.put, List.setIfInBounds_toArray, List.set_cons_zero, List.set_cons_succ, i64_w, i32_w]
                          rfl
                        refine pure_ (i := 1) (N := some 58) (v := ?_) (a' := ?_) #[true, true, false, false, false, false, false, false, false, false, false, false, false, false] rfl rfl (any_of HT_.out (by kernel_rfl)) (fun _ _ _ h => h) (Or.inl ⟨by rfl, ?_⟩) ?_ ?_
                        rotate_left
                        · intro w'
                          go_simp
                          with_reducible rfl
                        rotate_left
                        · simp only [Act.put, List.setIfInBounds_toArray, List.set_cons_zero, List.set_cons_succ, i64_w, i32_w]
                          rfl
                        refine pure_ (i := 2) (N := some 59) (v := ?_) (a' := ?_) #[true, true, true, false, false, false, false, false, false, false, false, false, false, false] rfl rfl (any_of HT_.out (by kernel_rfl)) (fun _ _ _ h => h) (Or.inl ⟨by rfl, ?_⟩) ?_ ?_
                        rotate_left
                        · intro w'
                          go_simp
                          with_reducible rfl
                        rotate_left
                        · simp only [Act.put, List.setIfInBounds_toArray, List.set_cons_zero, List.set_cons_succ, i64_w, i32_w]
                          rfl
                        refine pure_ (i := 3) (N := some 60) (v := ?_) (a' := ?_) #[true, true, true, true, false, false, false, false, false, false, false, false, false, false] rfl rfl (any_of HT_.out (by kernel_rfl)) (fun _ _ _ h => h) (Or.inl ⟨by rfl, ?_⟩) ?_ ?_
                        rotate_left
                        · intro w'
                          go_simp
                          with_reducible rfl
                        rotate_left
                        · simp only [Act.put, List.setIfInBounds_toArray, List.set_cons_zero, List.set_cons_succ, i64_w, i32_w]
                          rfl
                        refine pure_ (i := 6) (N := some 63) (v := ?_) (a' := ?_) #[true, true, true, true, false, false, true, false, false, false, false, false, false, false] rfl rfl (any_of HT_.out (by kernel_rfl)) (fun _ _ _ h => h) (Or.inl ⟨by rfl, ?_⟩) ?_ ?_
                        rotate_left
                        · intro w'
                          go_simp
                          with_reducible rfl
                        rotate_left
                        · simp only [Act.put, List.setIfInBounds_toArray, List.set_cons_zero, List.set_cons_succ, i64_w, i32_w]
                          rfl
                        refine pure_ (i := 7) (N := some 64) (v := ?_) (a' := ?_) #[true, true, true, true, false, false, true, true, false, false, false, false, false, false] rfl rfl (any_of HT_.out (by kernel_rfl)) (fun _ _ _ h => h) (Or.inl ⟨by rfl, ?_⟩) ?_ ?_
                        rotate_left
                        · intro w'
                          go_simp
                          with_reducible rfl
                        rotate_left
                        · simp only [Act.put, List.setIfInBounds_toArray, List.set_cons_zero, List.set_cons_succ, i64_w, i32_w]
                          rfl
                        refine pure_ (i := 8) (N := some 65) (v := ?_) (a' := ?_) #[true, true, true, true, false, false, true, true, true, false, false, false, false, false] rfl rfl (any_of HT_.out (by kernel_rfl)) (fun _ _ _ h => h) (Or.inl ⟨by rfl, ?_⟩) ?_ ?_
                        rotate_left
                        · intro w'
                          go_simp
                          with_reducible rfl
                        rotate_left
                        · simp only [Act.put, List.setIfInBounds_toArray, List.set_cons_zero, List.set_cons_succ, i64_w, i32_w]
                          rfl
                        refine pure_ (i := 9) (N := some 66) (v := ?_) (a' := ?_) #[true, true, true, true, false, false, true, true, true, true, false, false, false, false] rfl rfl (any_of HT_.out (by kernel_rfl)) (fun _ _ _ h => h) (Or.inl ⟨by rfl, ?_⟩) ?_ ?_
                        rotate_left
                        · intro w'
                          go_simp
                          with_reducible rfl
                        rotate_left
                        · simp only [Act.put, List.setIfInBounds_toArray, List.set_cons_zero, List.set_cons_succ, i64_w, i32_w]
                          rfl
                        refine take_ (i := 4) (N := some 61) (v := ?_) (a' := ?_) #[true, true, true, true, true, false, true, true, true, true, false, false, false, false] rfl rfl (take_ofW HT_.out HW_.out (by kernel_rfl)) (fun _ _ _ h => h) (Or.inl ⟨by rfl, ?_⟩) hHeld ?_ ?_
                        rotate_left
                        · rintro w' ⟨s0, s1⟩
                          go_simp
                          with_reducible rfl
                        rotate_left
                        · simp only [Act.put, List.setIfInBounds_toArray, List.set_cons_zero, List.set_cons_succ, i64_w, i32_w]
                          rfl
                        refine take_ (i := 10) (N := some 67) (v := ?_) (a' := ?_) #[true, true, true, true, true, false, true, true, true, true, true, false, false, false] rfl rfl (take_ofW HT_.out HW_.out (by kernel_rfl)) (fun _ _ _ h => h) (Or.inl ⟨by rfl, ?_⟩) hHeld ?_ ?_
                        rotate_left
                        · rintro w' ⟨s0, s1⟩
                          go_simp
                          with_reducible rfl
                        rotate_left
                        · simp only [Act.put, List.setIfInBounds_toArray, List.set_cons_zero, List.set_cons_succ, i64_w, i32_w]
                          rfl
                        refine one_ (i := 5) (N := some 62) #[true, true, true, true, true, true, true, true, true, true, true, false, false, false] rfl rfl (one_of HT_.out (by kernel_rfl)) (by decide) (fun K hK => ?_)
                        refine goes_ Try.func20 (by kernel_rfl) rfl #[.slice Ao21 t256.length co21, .string (rdOf ByteArray.empty l2 x12_2)] (by rfl) rfl rfl (by (try simp only [List.map_toArray, List.map_cons, List.map_nil]); first | done | rfl | (simp only [List.length_drop, List.length_take]; rfl)) ?_
                        with_reducible refine (span_Has.calls _ _ t256 (rdOf ByteArray.empty l2 x12_2) false _ ?side1 ?side2 A34.out).mono ?_
                        (case side1 => exact uC (Kd.R_reads' HO_7.out).2.2)
                        (case side2 => exact (Kd.R_reads' HO_7.out).2.1)
                        rintro e w88 ⟨rfl, hb⟩
                        refine ⟨_, rfl, ?_⟩
                        replace HO_7 := bR HO_7 hb
                        replace HO_8 := bR HO_8 hb
                        replace HO_9 := bR HO_9 hb
                        replace HO_10 := bR HO_10 hb
                        replace HO_11 := bR HO_11 hb
                        replace HB := sB HB hb
                        (try clear hb)
                        (try clear hb2)
                        (try clear hk)
                        (try clear hi)
                        refine hK.out _ _ ⟨((HB.out.cell (World.block_lt_of_cell? w _ hw281_0)).trans hw281_0), ((HB.out.cell (World.block_lt_of_cell? w _ hw283_0)).trans hw283_0)⟩ (fun hHeld => ?_)
                        clear hK K
                        refine norm_ (a' := ?_) ?_ ?_
                        rotate_left
                        · show Act.put _ (some 62) _ = _
                          simp only [Act.put, List.setIfInBounds_toArray, List.set_cons_zero, List.set_cons_succ, i64_w, i32_w]
                          rfl
                        refine one_ (i := 11) (N := some 68) #[true, true, true, true, true, true, true, true, true, true, true, true, false, false] rfl rfl (one_of HT_.out (by kernel_rfl)) (by decide) (fun K hK => ?_)
                        refine goes_ Try.func20 (by kernel_rfl) rfl #[.slice Ao22 t259.length co22, .string (rdOf ByteArray.empty l2 x12_2)] (by rfl) rfl rfl (by (try simp only [List.map_toArray, List.map_cons, List.map_nil]); first | done | rfl | (simp only [List.length_drop, List.length_take]; rfl)) ?_
                        with_reducible refine (span_Has.calls _ _ t259 (rdOf ByteArray.empty l2 x12_2) t284 _ ?side1 ?side2 A35.out).mono ?_
                        (case side1 => exact uC (Kd.R_reads' HO_8.out).2.2)
                        (case side2 => exact (Kd.R_reads' HO_8.out).2.1)
                        rintro e w89 ⟨rfl, hb⟩
                        refine ⟨_, rfl, ?_⟩
                        replace HO_7 := bR HO_7 hb
                        replace HO_8 := bR HO_8 hb
                        replace HO_9 := bR HO_9 hb
                        replace HO_10 := bR HO_10 hb
                        replace HO_11 := bR HO_11 hb
                        replace HB := sB HB hb
                        (try clear hb)
                        (try clear hb2)
                        (try clear hk)
                        (try clear hi)
                        refine hK.out _ _ ⟨((HB.out.cell (World.block_lt_of_cell? w _ hw281_0)).trans hw281_0), ((HB.out.cell (World.block_lt_of_cell? w _ hw283_0)).trans hw283_0)⟩ (fun hHeld => ?_)
                        clear hK K
                        refine norm_ (a' := ?_) ?_ ?_
                        rotate_left
                        · show Act.put _ (some 68) _ = _
                          simp only [Act.put, List.setIfInBounds_toArray, List.set_cons_zero, List.set_cons_succ, i64_w, i32_w]
                          rfl
                        refine pure_ (i := 12) (N := some 13) (v := ?_) (a' := ?_) #[true, true, true, true, true, true, true, true, true, true, true, true, true, false] rfl rfl (any_of HT_.out (by kernel_rfl)) (fun _ _ _ h => h) (Or.inl ⟨by rfl, ?_⟩) ?_ ?_
                        rotate_left
                        · intro w'
                          go_simp
                          with_reducible rfl
                        rotate_left
                        · simp only [Act.put, List.setIfInBounds_toArray, List.set_cons_zero, List.set_cons_succ, i64_w, i32_w]
                          rfl
                        refine pure_ (i := 13) (N := some 14) (v := ?_) (a' := ?_) #[true, true, true, true, true, true, true, true, true, true, true, true, true, true] rfl rfl (any_of HT_.out (by kernel_rfl)) (fun _ _ _ h => h) (Or.inl ⟨by rfl, ?_⟩) ?_ ?_
                        rotate_left
                        · intro w'
                          go_simp
                          with_reducible rfl
                        rotate_left
                        · simp only [Act.put, List.setIfInBounds_toArray, List.set_cons_zero, List.set_cons_succ, i64_w, i32_w]
                          rfl
                        refine done_ (done_of HT_.out (by kernel_rfl)) ?_
                        have p285 : 0 ≤ (x12_2 : Int) := of_decide_eq_true (by first | (with_reducible assumption) | assumption)
                        have q285 : x12_2 < (l2.length : Int) := of_decide_eq_true (by first | (with_reducible assumption) | assumption)
                        obtain ⟨ad285, e285, hx285_0⟩ := Kd.at_string HR2.out x12_2 p285 q285
                        obtain rfl : ad279 = ad285 := (by injection e285)
                        replace hx285_0 := (HB.out.cell (World.block_lt_of_cell? w _ hx285_0)).trans hx285_0
                        replace p285 := eq_true p285
                        replace q285 := eq_true q285
                        obtain ⟨Ao90, co90, eo90⟩ := Kd.R_slice HO_9.out
                        subst eo90
                        try go_wp2_with (first | ((with_reducible refine gate_callee (f := 20) rfl ?_); refine goesL_ (some 74) rfl rfl Try.func20 (by kernel_rfl) rfl #[.slice Ao90 t262.length co90, .string (rdOf ByteArray.empty l2 x12_2)] rfl (by (try simp only [List.map_toArray, List.map_cons, List.map_nil]); first | done | rfl | (simp only [List.length_drop, List.length_take]; rfl)) ?_; (with_reducible refine (span_Has.calls _ _ t262 (rdOf ByteArray.empty l2 x12_2) t286 _ ?side1 ?side2 A36.out).mono ?_); (case side1 => exact uC (Kd.R_reads' HO_9.out).2.2); (case side2 => exact (Kd.R_reads' HO_9.out).2.1); rintro e w91 ⟨rfl, hb⟩; refine ⟨_, rfl, ?_⟩; replace HO_7 := bR HO_7 hb; replace HO_8 := bR HO_8 hb; replace HO_9 := bR HO_9 hb; replace HO_10 := bR HO_10 hb; replace HO_11 := bR HO_11 hb; replace HB := sB HB hb; (try clear hb); (try clear hb2); (try clear hk); (try clear hi)))
                        go_ret
                        exact ⟨by first | rfl | (simp [errW_none, errW_some] <;> rfl) | (simp [*, errW_none, errW_some] <;> rfl), by repeat (first | (with_reducible first | exact HB.out | apply below_alloc | apply pw_below_drewN | apply below_drew1) | exact HB.out)⟩
                      · rw [if_neg c86] at H
                        have c86b0 : (t286 != false) = false := by simpa using c86
                        (try (have c86e := bool_bne_f c86))
                        (try (have c86b1 : decide (t286 = false) = true := by simpa using c86))
                        (try (have c86b2 : (t286 == false) = true := by simpa using c86))
                        clear c86
                        replace H := Option.bind_eq_some_iff.mp H
                        obtain ⟨t294, A920, H⟩ := H
                        replace H : (if (t294 != false) = true then (some false) else ((span_Has.f t274 (rdOf ByteArray.empty l2 x12_2)).bind fun t296 => (if (t296 != t284) = true then (some false) else ((folkmootref03_Has.f k2 l0 (rdOf ByteArray.empty l2 x12_2)).bind fun t298 => (if (false != t298) = true then (some false) else (folkmootlaw03_SpanEach.l0 k2 l0 l2 t256 t259 t262 t265 t274 (wrap64 (x12_2 + 1)))))))) = some r := H
                        have A92 := Aside0.mk A920
                        clear A920
                        by_cases c93 : (t294 != false) = true
                        · rw [if_pos c93] at H
                          have c93b0 : (t294 != false) = true := c93
                          (try (have c93e := bool_bne_t c93))
                          (try (have c93b1 : decide (t294 = false) = false := by simpa using c93))
                          (try (have c93b2 : (t294 == false) = false := by simpa using c93))
                          (try (have c93b3 : ¬ (t294 = false) := by simpa using c93))
                          clear c93
                          obtain rfl := Option.some.inj H
                          have p279 : 0 ≤ (x12_2 : Int) := of_decide_eq_true (by first | (with_reducible assumption) | assumption)
                          have q279 : x12_2 < (l2.length : Int) := of_decide_eq_true (by first | (with_reducible assumption) | assumption)
                          obtain ⟨ad279, e279, hx279_0⟩ := Kd.at_string HR2.out x12_2 p279 q279
                          cases e279
                          replace hx279_0 := (HB.out.cell (World.block_lt_of_cell? w _ hx279_0)).trans hx279_0
                          replace p279 := eq_true p279
                          replace q279 := eq_true q279
                          try go_wp2
                          replace HO_7 := Aside0.mk (Kd.R_drew HO_7.out)
                          replace HO_8 := Aside0.mk (Kd.R_drew HO_8.out)
                          replace HO_9 := Aside0.mk (Kd.R_drew HO_9.out)
                          replace HO_10 := Aside0.mk (Kd.R_drew HO_10.out)
                          replace HO_11 := Aside0.mk (Kd.R_drew HO_11.out)
                          replace HB := Aside0.mk (below_drew1 HB.out)
                          have p281 : 0 ≤ (x12_2 : Int) := of_decide_eq_true (by first | (with_reducible assumption) | assumption)
                          have q281 : x12_2 < (l2.length : Int) := of_decide_eq_true (by first | (with_reducible assumption) | assumption)
                          obtain ⟨ad281, e281, hx281_0⟩ := Kd.at_string HR2.out x12_2 p281 q281
                          have hw281_0 := hx281_0
                          obtain rfl : ad279 = ad281 := (by injection e281)
                          replace hx281_0 := (HB.out.cell (World.block_lt_of_cell? w _ hx281_0)).trans hx281_0
                          replace p281 := eq_true p281
                          replace q281 := eq_true q281
                          have p283 : 0 ≤ (x12_2 : Int) := of_decide_eq_true (by first | (with_reducible assumption) | assumption)
                          have q283 : x12_2 < (l2.length : Int) := of_decide_eq_true (by first | (with_reducible assumption) | assumption)
                          obtain ⟨ad283, e283, hx283_0⟩ := Kd.at_string HR2.out x12_2 p283 q283
                          have hw283_0 := hx283_0
                          obtain rfl : ad279 = ad283 := (by injection e283)
                          replace hx283_0 := (HB.out.cell (World.block_lt_of_cell? w _ hx283_0)).trans hx283_0
                          replace p283 := eq_true p283
                          replace q283 := eq_true q283
                          refine start_ (n := 14) (S := fun w' => w'.cell? (ad279.add (x12_2).toNat) = some (.string (rdOf ByteArray.empty l2 x12_2)) ∧ w'.cell? (ad279.add (x12_2).toNat) = some (.string (rdOf ByteArray.empty l2 x12_2))) (ds := []) #[false, false, false, false, false, false, false, false, false, false, false, false, false, false] (by kernel_rfl) rfl rfl ⟨((HB.out.cell (World.block_lt_of_cell? w _ hw281_0)).trans hw281_0), ((HB.out.cell (World.block_lt_of_cell? w _ hw283_0)).trans hw283_0)⟩ (fun hHeld => ?_); refine with_tabW folkmootlaw03_SpanEach.tab10 folkmootlaw03_SpanEach.bits10 (fun HT_ HW_ => ?_)
                          generalize wr.drew = w94 at HO_7 HO_8 HO_9 HO_10 HO_11 HB hx281_0 hx283_0 hHeld ⊢
                          refine pure_ (i := 0) (N := some 57) (v := ?_) (a' := ?_) #[true, false, false, false, false, false, false, false, false, false, false, false, false, false] rfl rfl (any_of HT_.out (by kernel_rfl)) (fun _ _ _ h => h) (Or.inl ⟨by rfl, ?_⟩) ?_ ?_
                          rotate_left
                          · intro w'
                            go_simp
                            with_reducible rfl
                          rotate_left
                          · simp only [Act.put, List.setIfInBounds_toArray, List.set_cons_zero, List.set_cons_succ, i64_w, i32_w]
                            rfl
                          refine pure_ (i := 1) (N := some 58) (v := ?_) (a' := ?_) #[true, true, false, false, false, false, false, false, false, false, false, false, false, false] rfl rfl (any_of HT_.out (by kernel_rfl)) (fun _ _ _ h => h) (Or.inl ⟨by rfl, ?_⟩) ?_ ?_
                          rotate_left
                          · intro w'
                            go_simp
                            with_reducible rfl
                          rotate_left
                          · simp only [Act.put, List.setIfInBounds_toArray, List.set_cons_zero, List.set_cons_succ, i64_w, i32_w]
                            rfl
                          refine pure_ (i := 2) (N := some 59) (v := ?_) (a' := ?_) #[true, true, true, false, false, false, false, false, false, false, false, false, false, false] rfl rfl (any_of HT_.out (by kernel_rfl)) (fun _ _ _ h => h) (Or.inl ⟨by rfl, ?_⟩) ?_ ?_
                          rotate_left
                          · intro w'
                            go_simp
                            with_reducible rfl
                          rotate_left
                          · simp only [Act.put, List.setIfInBounds_toArray, List.set_cons_zero, List.set_cons_succ, i64_w, i32_w]
                            rfl
                          refine pure_ (i := 3) (N := some 60) (v := ?_) (a' := ?_) #[true, true, true, true, false, false, false, false, false, false, false, false, false, false] rfl rfl (any_of HT_.out (by kernel_rfl)) (fun _ _ _ h => h) (Or.inl ⟨by rfl, ?_⟩) ?_ ?_
                          rotate_left
                          · intro w'
                            go_simp
                            with_reducible rfl
                          rotate_left
                          · simp only [Act.put, List.setIfInBounds_toArray, List.set_cons_zero, List.set_cons_succ, i64_w, i32_w]
                            rfl
                          refine pure_ (i := 6) (N := some 63) (v := ?_) (a' := ?_) #[true, true, true, true, false, false, true, false, false, false, false, false, false, false] rfl rfl (any_of HT_.out (by kernel_rfl)) (fun _ _ _ h => h) (Or.inl ⟨by rfl, ?_⟩) ?_ ?_
                          rotate_left
                          · intro w'
                            go_simp
                            with_reducible rfl
                          rotate_left
                          · simp only [Act.put, List.setIfInBounds_toArray, List.set_cons_zero, List.set_cons_succ, i64_w, i32_w]
                            rfl
                          refine pure_ (i := 7) (N := some 64) (v := ?_) (a' := ?_) #[true, true, true, true, false, false, true, true, false, false, false, false, false, false] rfl rfl (any_of HT_.out (by kernel_rfl)) (fun _ _ _ h => h) (Or.inl ⟨by rfl, ?_⟩) ?_ ?_
                          rotate_left
                          · intro w'
                            go_simp
                            with_reducible rfl
                          rotate_left
                          · simp only [Act.put, List.setIfInBounds_toArray, List.set_cons_zero, List.set_cons_succ, i64_w, i32_w]
                            rfl
                          refine pure_ (i := 8) (N := some 65) (v := ?_) (a' := ?_) #[true, true, true, true, false, false, true, true, true, false, false, false, false, false] rfl rfl (any_of HT_.out (by kernel_rfl)) (fun _ _ _ h => h) (Or.inl ⟨by rfl, ?_⟩) ?_ ?_
                          rotate_left
                          · intro w'
                            go_simp
                            with_reducible rfl
                          rotate_left
                          · simp only [Act.put, List.setIfInBounds_toArray, List.set_cons_zero, List.set_cons_succ, i64_w, i32_w]
                            rfl
                          refine pure_ (i := 9) (N := some 66) (v := ?_) (a' := ?_) #[true, true, true, true, false, false, true, true, true, true, false, false, false, false] rfl rfl (any_of HT_.out (by kernel_rfl)) (fun _ _ _ h => h) (Or.inl ⟨by rfl, ?_⟩) ?_ ?_
                          rotate_left
                          · intro w'
                            go_simp
                            with_reducible rfl
                          rotate_left
                          · simp only [Act.put, List.setIfInBounds_toArray, List.set_cons_zero, List.set_cons_succ, i64_w, i32_w]
                            rfl
                          refine take_ (i := 4) (N := some 61) (v := ?_) (a' := ?_) #[true, true, true, true, true, false, true, true, true, true, false, false, false, false] rfl rfl (take_ofW HT_.out HW_.out (by kernel_rfl)) (fun _ _ _ h => h) (Or.inl ⟨by rfl, ?_⟩) hHeld ?_ ?_
                          rotate_left
                          · rintro w' ⟨s0, s1⟩
                            go_simp
                            with_reducible rfl
                          rotate_left
                          · simp only [Act.put, List.setIfInBounds_toArray, List.set_cons_zero, List.set_cons_succ, i64_w, i32_w]
                            rfl
                          refine take_ (i := 10) (N := some 67) (v := ?_) (a' := ?_) #[true, true, true, true, true, false, true, true, true, true, true, false, false, false] rfl rfl (take_ofW HT_.out HW_.out (by kernel_rfl)) (fun _ _ _ h => h) (Or.inl ⟨by rfl, ?_⟩) hHeld ?_ ?_
                          rotate_left
                          · rintro w' ⟨s0, s1⟩
                            go_simp
                            with_reducible rfl
                          rotate_left
                          · simp only [Act.put, List.setIfInBounds_toArray, List.set_cons_zero, List.set_cons_succ, i64_w, i32_w]
                            rfl
                          refine one_ (i := 5) (N := some 62) #[true, true, true, true, true, true, true, true, true, true, true, false, false, false] rfl rfl (one_of HT_.out (by kernel_rfl)) (by decide) (fun K hK => ?_)
                          refine goes_ Try.func20 (by kernel_rfl) rfl #[.slice Ao21 t256.length co21, .string (rdOf ByteArray.empty l2 x12_2)] (by rfl) rfl rfl (by (try simp only [List.map_toArray, List.map_cons, List.map_nil]); first | done | rfl | (simp only [List.length_drop, List.length_take]; rfl)) ?_
                          with_reducible refine (span_Has.calls _ _ t256 (rdOf ByteArray.empty l2 x12_2) false _ ?side1 ?side2 A34.out).mono ?_
                          (case side1 => exact uC (Kd.R_reads' HO_7.out).2.2)
                          (case side2 => exact (Kd.R_reads' HO_7.out).2.1)
                          rintro e w95 ⟨rfl, hb⟩
                          refine ⟨_, rfl, ?_⟩
                          replace HO_7 := bR HO_7 hb
                          replace HO_8 := bR HO_8 hb
                          replace HO_9 := bR HO_9 hb
                          replace HO_10 := bR HO_10 hb
                          replace HO_11 := bR HO_11 hb
                          replace HB := sB HB hb
                          (try clear hb)
                          (try clear hb2)
                          (try clear hk)
                          (try clear hi)
                          refine hK.out _ _ ⟨((HB.out.cell (World.block_lt_of_cell? w _ hw281_0)).trans hw281_0), ((HB.out.cell (World.block_lt_of_cell? w _ hw283_0)).trans hw283_0)⟩ (fun hHeld => ?_)
                          clear hK K
                          refine norm_ (a' := ?_) ?_ ?_
                          rotate_left
                          · show Act.put _ (some 62) _ = _
                            simp only [Act.put, List.setIfInBounds_toArray, List.set_cons_zero, List.set_cons_succ, i64_w, i32_w]
                            rfl
                          refine one_ (i := 11) (N := some 68) #[true, true, true, true, true, true, true, true, true, true, true, true, false, false] rfl rfl (one_of HT_.out (by kernel_rfl)) (by decide) (fun K hK => ?_)
                          refine goes_ Try.func20 (by kernel_rfl) rfl #[.slice Ao22 t259.length co22, .string (rdOf ByteArray.empty l2 x12_2)] (by rfl) rfl rfl (by (try simp only [List.map_toArray, List.map_cons, List.map_nil]); first | done | rfl | (simp only [List.length_drop, List.length_take]; rfl)) ?_
                          with_reducible refine (span_Has.calls _ _ t259 (rdOf ByteArray.empty l2 x12_2) t284 _ ?side1 ?side2 A35.out).mono ?_
                          (case side1 => exact uC (Kd.R_reads' HO_8.out).2.2)
                          (case side2 => exact (Kd.R_reads' HO_8.out).2.1)
                          rintro e w96 ⟨rfl, hb⟩
                          refine ⟨_, rfl, ?_⟩
                          replace HO_7 := bR HO_7 hb
                          replace HO_8 := bR HO_8 hb
                          replace HO_9 := bR HO_9 hb
                          replace HO_10 := bR HO_10 hb
                          replace HO_11 := bR HO_11 hb
                          replace HB := sB HB hb
                          (try clear hb)
                          (try clear hb2)
                          (try clear hk)
                          (try clear hi)
                          refine hK.out _ _ ⟨((HB.out.cell (World.block_lt_of_cell? w _ hw281_0)).trans hw281_0), ((HB.out.cell (World.block_lt_of_cell? w _ hw283_0)).trans hw283_0)⟩ (fun hHeld => ?_)
                          clear hK K
                          refine norm_ (a' := ?_) ?_ ?_
                          rotate_left
                          · show Act.put _ (some 68) _ = _
                            simp only [Act.put, List.setIfInBounds_toArray, List.set_cons_zero, List.set_cons_succ, i64_w, i32_w]
                            rfl
                          refine pure_ (i := 12) (N := some 13) (v := ?_) (a' := ?_) #[true, true, true, true, true, true, true, true, true, true, true, true, true, false] rfl rfl (any_of HT_.out (by kernel_rfl)) (fun _ _ _ h => h) (Or.inl ⟨by rfl, ?_⟩) ?_ ?_
                          rotate_left
                          · intro w'
                            go_simp
                            with_reducible rfl
                          rotate_left
                          · simp only [Act.put, List.setIfInBounds_toArray, List.set_cons_zero, List.set_cons_succ, i64_w, i32_w]
                            rfl
                          refine pure_ (i := 13) (N := some 14) (v := ?_) (a' := ?_) #[true, true, true, true, true, true, true, true, true, true, true, true, true, true] rfl rfl (any_of HT_.out (by kernel_rfl)) (fun _ _ _ h => h) (Or.inl ⟨by rfl, ?_⟩) ?_ ?_
                          rotate_left
                          · intro w'
                            go_simp
                            with_reducible rfl
                          rotate_left
                          · simp only [Act.put, List.setIfInBounds_toArray, List.set_cons_zero, List.set_cons_succ, i64_w, i32_w]
                            rfl
                          refine done_ (done_of HT_.out (by kernel_rfl)) ?_
                          have p285 : 0 ≤ (x12_2 : Int) := of_decide_eq_true (by first | (with_reducible assumption) | assumption)
                          have q285 : x12_2 < (l2.length : Int) := of_decide_eq_true (by first | (with_reducible assumption) | assumption)
                          obtain ⟨ad285, e285, hx285_0⟩ := Kd.at_string HR2.out x12_2 p285 q285
                          obtain rfl : ad279 = ad285 := (by injection e285)
                          replace hx285_0 := (HB.out.cell (World.block_lt_of_cell? w _ hx285_0)).trans hx285_0
                          replace p285 := eq_true p285
                          replace q285 := eq_true q285
                          obtain ⟨Ao97, co97, eo97⟩ := Kd.R_slice HO_9.out
                          subst eo97
                          try go_wp2_with (first | ((with_reducible refine gate_callee (f := 20) rfl ?_); refine goesL_ (some 74) rfl rfl Try.func20 (by kernel_rfl) rfl #[.slice Ao97 t262.length co97, .string (rdOf ByteArray.empty l2 x12_2)] rfl (by (try simp only [List.map_toArray, List.map_cons, List.map_nil]); first | done | rfl | (simp only [List.length_drop, List.length_take]; rfl)) ?_; (with_reducible refine (span_Has.calls _ _ t262 (rdOf ByteArray.empty l2 x12_2) t286 _ ?side1 ?side2 A36.out).mono ?_); (case side1 => exact uC (Kd.R_reads' HO_9.out).2.2); (case side2 => exact (Kd.R_reads' HO_9.out).2.1); rintro e w98 ⟨rfl, hb⟩; refine ⟨_, rfl, ?_⟩; replace HO_7 := bR HO_7 hb; replace HO_8 := bR HO_8 hb; replace HO_9 := bR HO_9 hb; replace HO_10 := bR HO_10 hb; replace HO_11 := bR HO_11 hb; replace HB := sB HB hb; (try clear hb); (try clear hb2); (try clear hk); (try clear hi); have p293 : 0 ≤ (x12_2 : Int) := of_decide_eq_true (by first | (with_reducible assumption) | assumption); have q293 : x12_2 < (l2.length : Int) := of_decide_eq_true (by first | (with_reducible assumption) | assumption); obtain ⟨ad293, e293, hx293_0⟩ := Kd.at_string HR2.out x12_2 p293 q293; obtain rfl : ad279 = ad293 := (by injection e293); replace hx293_0 := (HB.out.cell (World.block_lt_of_cell? w _ hx293_0)).trans hx293_0; replace p293 := eq_true p293; replace q293 := eq_true q293; obtain ⟨Ao99, co99, eo99⟩ := Kd.R_slice HO_10.out; subst eo99) | (go_at_call 20; (with_reducible refine (span_Has.calls _ _ t265 (rdOf ByteArray.empty l2 x12_2) t294 _ ?side1 ?side2 A92.out).mono ?_); (case side1 => exact uC (Kd.R_reads' HO_10.out).2.2); (case side2 => exact (Kd.R_reads' HO_10.out).2.1); rintro e w100 ⟨rfl, hb⟩; replace HO_7 := bR HO_7 hb; replace HO_8 := bR HO_8 hb; replace HO_9 := bR HO_9 hb; replace HO_10 := bR HO_10 hb; replace HO_11 := bR HO_11 hb; replace HB := sB HB hb; (try clear hb); (try clear hb2); (try clear hk); (try clear hi)))
                          go_ret
                          exact ⟨by first | rfl | (simp [errW_none, errW_some] <;> rfl) | (simp [*, errW_none, errW_some] <;> rfl), by repeat (first | (with_reducible first | exact HB.out | apply below_alloc | apply pw_below_drewN | apply below_drew1) | exact HB.out)⟩
                        · rw [if_neg c93] at H
                          have c93b0 : (t294 != false) = false := by simpa using c93
                          (try (have c93e := bool_bne_f c93))
                          (try (have c93b1 : decide (t294 = false) = true := by simpa using c93))
                          (try (have c93b2 : (t294 == false) = true := by simpa using c93))
                          clear c93
                          replace H := Option.bind_eq_some_iff.mp H
                          obtain ⟨t296, A1010, H⟩ := H
                          replace H : (if (t296 != t284) = true then (some false) else ((folkmootref03_Has.f k2 l0 (rdOf ByteArray.empty l2 x12_2)).bind fun t298 => (if (false != t298) = true then (some false) else (folkmootlaw03_SpanEach.l0 k2 l0 l2 t256 t259 t262 t265 t274 (wrap64 (x12_2 + 1)))))) = some r := H
                          have A101 := Aside0.mk A1010
                          clear A1010
                          by_cases c102 : (t296 != t284) = true
                          · rw [if_pos c102] at H
                            have c102b0 : (t296 != t284) = true := c102
                            (try (have c102e := bool_bne_t c102))
                            (try (have c102b1 : decide (t296 = t284) = false := by simpa using c102))
                            (try (have c102b2 : (t296 == t284) = false := by simpa using c102))
                            (try (have c102b3 : ¬ (t296 = t284) := by simpa using c102))
                            clear c102
                            obtain rfl := Option.some.inj H
                            have p279 : 0 ≤ (x12_2 : Int) := of_decide_eq_true (by first | (with_reducible assumption) | assumption)
                            have q279 : x12_2 < (l2.length : Int) := of_decide_eq_true (by first | (with_reducible assumption) | assumption)
                            obtain ⟨ad279, e279, hx279_0⟩ := Kd.at_string HR2.out x12_2 p279 q279
                            cases e279
                            replace hx279_0 := (HB.out.cell (World.block_lt_of_cell? w _ hx279_0)).trans hx279_0
                            replace p279 := eq_true p279
                            replace q279 := eq_true q279
                            try go_wp2
                            replace HO_7 := Aside0.mk (Kd.R_drew HO_7.out)
                            replace HO_8 := Aside0.mk (Kd.R_drew HO_8.out)
                            replace HO_9 := Aside0.mk (Kd.R_drew HO_9.out)
                            replace HO_10 := Aside0.mk (Kd.R_drew HO_10.out)
                            replace HO_11 := Aside0.mk (Kd.R_drew HO_11.out)
                            replace HB := Aside0.mk (below_drew1 HB.out)
                            have p281 : 0 ≤ (x12_2 : Int) := of_decide_eq_true (by first | (with_reducible assumption) | assumption)
                            have q281 : x12_2 < (l2.length : Int) := of_decide_eq_true (by first | (with_reducible assumption) | assumption)
                            obtain ⟨ad281, e281, hx281_0⟩ := Kd.at_string HR2.out x12_2 p281 q281
                            have hw281_0 := hx281_0
                            obtain rfl : ad279 = ad281 := (by injection e281)
                            replace hx281_0 := (HB.out.cell (World.block_lt_of_cell? w _ hx281_0)).trans hx281_0
                            replace p281 := eq_true p281
                            replace q281 := eq_true q281
                            have p283 : 0 ≤ (x12_2 : Int) := of_decide_eq_true (by first | (with_reducible assumption) | assumption)
                            have q283 : x12_2 < (l2.length : Int) := of_decide_eq_true (by first | (with_reducible assumption) | assumption)
                            obtain ⟨ad283, e283, hx283_0⟩ := Kd.at_string HR2.out x12_2 p283 q283
                            have hw283_0 := hx283_0
                            obtain rfl : ad279 = ad283 := (by injection e283)
                            replace hx283_0 := (HB.out.cell (World.block_lt_of_cell? w _ hx283_0)).trans hx283_0
                            replace p283 := eq_true p283
                            replace q283 := eq_true q283
                            refine start_ (n := 14) (S := fun w' => w'.cell? (ad279.add (x12_2).toNat) = some (.string (rdOf ByteArray.empty l2 x12_2)) ∧ w'.cell? (ad279.add (x12_2).toNat) = some (.string (rdOf ByteArray.empty l2 x12_2))) (ds := []) #[false, false, false, false, false, false, false, false, false, false, false, false, false, false] (by kernel_rfl) rfl rfl ⟨((HB.out.cell (World.block_lt_of_cell? w _ hw281_0)).trans hw281_0), ((HB.out.cell (World.block_lt_of_cell? w _ hw283_0)).trans hw283_0)⟩ (fun hHeld => ?_); refine with_tabW folkmootlaw03_SpanEach.tab10 folkmootlaw03_SpanEach.bits10 (fun HT_ HW_ => ?_)
                            generalize wr.drew = w103 at HO_7 HO_8 HO_9 HO_10 HO_11 HB hx281_0 hx283_0 hHeld ⊢
                            refine pure_ (i := 0) (N := some 57) (v := ?_) (a' := ?_) #[true, false, false, false, false, false, false, false, false, false, false, false, false, false] rfl rfl (any_of HT_.out (by kernel_rfl)) (fun _ _ _ h => h) (Or.inl ⟨by rfl, ?_⟩) ?_ ?_
                            rotate_left
                            · intro w'
                              go_simp
                              with_reducible rfl
                            rotate_left
                            · simp only [Act.put, List.setIfInBounds_toArray, List.set_cons_zero, List.set_cons_succ, i64_w, i32_w]
                              rfl
                            refine pure_ (i := 1) (N := some 58) (v := ?_) (a' := ?_) #[true, true, false, false, false, false, false, false, false, false, false, false, false, false] rfl rfl (any_of HT_.out (by kernel_rfl)) (fun _ _ _ h => h) (Or.inl ⟨by rfl, ?_⟩) ?_ ?_
                            rotate_left
                            · intro w'
                              go_simp
                              with_reducible rfl
                            rotate_left
                            · simp only [Act.put, List.setIfInBounds_toArray, List.set_cons_zero, List.set_cons_succ, i64_w, i32_w]
                              rfl
                            refine pure_ (i := 2) (N := some 59) (v := ?_) (a' := ?_) #[true, true, true, false, false, false, false, false, false, false, false, false, false, false] rfl rfl (any_of HT_.out (by kernel_rfl)) (fun _ _ _ h => h) (Or.inl ⟨by rfl, ?_⟩) ?_ ?_
                            rotate_left
                            · intro w'
                              go_simp
                              with_reducible rfl
                            rotate_left
                            · simp only [Act.put, List.setIfInBounds_toArray, List.set_cons_zero, List.set_cons_succ, i64_w, i32_w]
                              rfl
                            refine pure_ (i := 3) (N := some 60) (v := ?_) (a' := ?_) #[true, true, true, true, false, false, false, false, false, false, false, false, false, false] rfl rfl (any_of HT_.out (by kernel_rfl)) (fun _ _ _ h => h) (Or.inl ⟨by rfl, ?_⟩) ?_ ?_
                            rotate_left
                            · intro w'
                              go_simp
                              with_reducible rfl
                            rotate_left
                            · simp only [Act.put, List.setIfInBounds_toArray, List.set_cons_zero, List.set_cons_succ, i64_w, i32_w]
                              rfl
                            refine pure_ (i := 6) (N := some 63) (v := ?_) (a' := ?_) #[true, true, true, true, false, false, true, false, false, false, false, false, false, false] rfl rfl (any_of HT_.out (by kernel_rfl)) (fun _ _ _ h => h) (Or.inl ⟨by rfl, ?_⟩) ?_ ?_
                            rotate_left
                            · intro w'
                              go_simp
                              with_reducible rfl
                            rotate_left
                            · simp only [Act.put, List.setIfInBounds_toArray, List.set_cons_zero, List.set_cons_succ, i64_w, i32_w]
                              rfl
                            refine pure_ (i := 7) (N := some 64) (v := ?_) (a' := ?_) #[true, true, true, true, false, false, true, true, false, false, false, false, false, false] rfl rfl (any_of HT_.out (by kernel_rfl)) (fun _ _ _ h => h) (Or.inl ⟨by rfl, ?_⟩) ?_ ?_
                            rotate_left
                            · intro w'
                              go_simp
                              with_reducible rfl
                            rotate_left
                            · simp only [Act.put, List.setIfInBounds_toArray, List.set_cons_zero, List.set_cons_succ, i64_w, i32_w]
                              rfl
                            refine pure_ (i := 8) (N := some 65) (v := ?_) (a' := ?_) #[true, true, true, true, false, false, true, true, true, false, false, false, false, false] rfl rfl (any_of HT_.out (by kernel_rfl)) (fun _ _ _ h => h) (Or.inl ⟨by rfl, ?_⟩) ?_ ?_
                            rotate_left
                            · intro w'
                              go_simp
                              with_reducible rfl
                            rotate_left
                            · simp only [Act.put, List.setIfInBounds_toArray, List.set_cons_zero, List.set_cons_succ, i64_w, i32_w]
                              rfl
                            refine pure_ (i := 9) (N := some 66) (v := ?_) (a' := ?_) #[true, true, true, true, false, false, true, true, true, true, false, false, false, false] rfl rfl (any_of HT_.out (by kernel_rfl)) (fun _ _ _ h => h) (Or.inl ⟨by rfl, ?_⟩) ?_ ?_
                            rotate_left
                            · intro w'
                              go_simp
                              with_reducible rfl
                            rotate_left
                            · simp only [Act.put, List.setIfInBounds_toArray, List.set_cons_zero, List.set_cons_succ, i64_w, i32_w]
                              rfl
                            refine take_ (i := 4) (N := some 61) (v := ?_) (a' := ?_) #[true, true, true, true, true, false, true, true, true, true, false, false, false, false] rfl rfl (take_ofW HT_.out HW_.out (by kernel_rfl)) (fun _ _ _ h => h) (Or.inl ⟨by rfl, ?_⟩) hHeld ?_ ?_
                            rotate_left
                            · rintro w' ⟨s0, s1⟩
                              go_simp
                              with_reducible rfl
                            rotate_left
                            · simp only [Act.put, List.setIfInBounds_toArray, List.set_cons_zero, List.set_cons_succ, i64_w, i32_w]
                              rfl
                            refine take_ (i := 10) (N := some 67) (v := ?_) (a' := ?_) #[true, true, true, true, true, false, true, true, true, true, true, false, false, false] rfl rfl (take_ofW HT_.out HW_.out (by kernel_rfl)) (fun _ _ _ h => h) (Or.inl ⟨by rfl, ?_⟩) hHeld ?_ ?_
                            rotate_left
                            · rintro w' ⟨s0, s1⟩
                              go_simp
                              with_reducible rfl
                            rotate_left
                            · simp only [Act.put, List.setIfInBounds_toArray, List.set_cons_zero, List.set_cons_succ, i64_w, i32_w]
                              rfl
                            refine one_ (i := 5) (N := some 62) #[true, true, true, true, true, true, true, true, true, true, true, false, false, false] rfl rfl (one_of HT_.out (by kernel_rfl)) (by decide) (fun K hK => ?_)
                            refine goes_ Try.func20 (by kernel_rfl) rfl #[.slice Ao21 t256.length co21, .string (rdOf ByteArray.empty l2 x12_2)] (by rfl) rfl rfl (by (try simp only [List.map_toArray, List.map_cons, List.map_nil]); first | done | rfl | (simp only [List.length_drop, List.length_take]; rfl)) ?_
                            with_reducible refine (span_Has.calls _ _ t256 (rdOf ByteArray.empty l2 x12_2) false _ ?side1 ?side2 A34.out).mono ?_
                            (case side1 => exact uC (Kd.R_reads' HO_7.out).2.2)
                            (case side2 => exact (Kd.R_reads' HO_7.out).2.1)
                            rintro e w104 ⟨rfl, hb⟩
                            refine ⟨_, rfl, ?_⟩
                            replace HO_7 := bR HO_7 hb
                            replace HO_8 := bR HO_8 hb
                            replace HO_9 := bR HO_9 hb
                            replace HO_10 := bR HO_10 hb
                            replace HO_11 := bR HO_11 hb
                            replace HB := sB HB hb
                            (try clear hb)
                            (try clear hb2)
                            (try clear hk)
                            (try clear hi)
                            refine hK.out _ _ ⟨((HB.out.cell (World.block_lt_of_cell? w _ hw281_0)).trans hw281_0), ((HB.out.cell (World.block_lt_of_cell? w _ hw283_0)).trans hw283_0)⟩ (fun hHeld => ?_)
                            clear hK K
                            refine norm_ (a' := ?_) ?_ ?_
                            rotate_left
                            · show Act.put _ (some 62) _ = _
                              simp only [Act.put, List.setIfInBounds_toArray, List.set_cons_zero, List.set_cons_succ, i64_w, i32_w]
                              rfl
                            refine one_ (i := 11) (N := some 68) #[true, true, true, true, true, true, true, true, true, true, true, true, false, false] rfl rfl (one_of HT_.out (by kernel_rfl)) (by decide) (fun K hK => ?_)
                            refine goes_ Try.func20 (by kernel_rfl) rfl #[.slice Ao22 t259.length co22, .string (rdOf ByteArray.empty l2 x12_2)] (by rfl) rfl rfl (by (try simp only [List.map_toArray, List.map_cons, List.map_nil]); first | done | rfl | (simp only [List.length_drop, List.length_take]; rfl)) ?_
                            with_reducible refine (span_Has.calls _ _ t259 (rdOf ByteArray.empty l2 x12_2) t284 _ ?side1 ?side2 A35.out).mono ?_
                            (case side1 => exact uC (Kd.R_reads' HO_8.out).2.2)
                            (case side2 => exact (Kd.R_reads' HO_8.out).2.1)
                            rintro e w105 ⟨rfl, hb⟩
                            refine ⟨_, rfl, ?_⟩
                            replace HO_7 := bR HO_7 hb
                            replace HO_8 := bR HO_8 hb
                            replace HO_9 := bR HO_9 hb
                            replace HO_10 := bR HO_10 hb
                            replace HO_11 := bR HO_11 hb
                            replace HB := sB HB hb
                            (try clear hb)
                            (try clear hb2)
                            (try clear hk)
                            (try clear hi)
                            refine hK.out _ _ ⟨((HB.out.cell (World.block_lt_of_cell? w _ hw281_0)).trans hw281_0), ((HB.out.cell (World.block_lt_of_cell? w _ hw283_0)).trans hw283_0)⟩ (fun hHeld => ?_)
                            clear hK K
                            refine norm_ (a' := ?_) ?_ ?_
                            rotate_left
                            · show Act.put _ (some 68) _ = _
                              simp only [Act.put, List.setIfInBounds_toArray, List.set_cons_zero, List.set_cons_succ, i64_w, i32_w]
                              rfl
                            refine pure_ (i := 12) (N := some 13) (v := ?_) (a' := ?_) #[true, true, true, true, true, true, true, true, true, true, true, true, true, false] rfl rfl (any_of HT_.out (by kernel_rfl)) (fun _ _ _ h => h) (Or.inl ⟨by rfl, ?_⟩) ?_ ?_
                            rotate_left
                            · intro w'
                              go_simp
                              with_reducible rfl
                            rotate_left
                            · simp only [Act.put, List.setIfInBounds_toArray, List.set_cons_zero, List.set_cons_succ, i64_w, i32_w]
                              rfl
                            refine pure_ (i := 13) (N := some 14) (v := ?_) (a' := ?_) #[true, true, true, true, true, true, true, true, true, true, true, true, true, true] rfl rfl (any_of HT_.out (by kernel_rfl)) (fun _ _ _ h => h) (Or.inl ⟨by rfl, ?_⟩) ?_ ?_
                            rotate_left
                            · intro w'
                              go_simp
                              with_reducible rfl
                            rotate_left
                            · simp only [Act.put, List.setIfInBounds_toArray, List.set_cons_zero, List.set_cons_succ, i64_w, i32_w]
                              rfl
                            refine done_ (done_of HT_.out (by kernel_rfl)) ?_
                            have p285 : 0 ≤ (x12_2 : Int) := of_decide_eq_true (by first | (with_reducible assumption) | assumption)
                            have q285 : x12_2 < (l2.length : Int) := of_decide_eq_true (by first | (with_reducible assumption) | assumption)
                            obtain ⟨ad285, e285, hx285_0⟩ := Kd.at_string HR2.out x12_2 p285 q285
                            obtain rfl : ad279 = ad285 := (by injection e285)
                            replace hx285_0 := (HB.out.cell (World.block_lt_of_cell? w _ hx285_0)).trans hx285_0
                            replace p285 := eq_true p285
                            replace q285 := eq_true q285
                            obtain ⟨Ao106, co106, eo106⟩ := Kd.R_slice HO_9.out
                            subst eo106
                            try go_wp2_with (first | ((with_reducible refine gate_callee (f := 20) rfl ?_); refine goesL_ (some 74) rfl rfl Try.func20 (by kernel_rfl) rfl #[.slice Ao106 t262.length co106, .string (rdOf ByteArray.empty l2 x12_2)] rfl (by (try simp only [List.map_toArray, List.map_cons, List.map_nil]); first | done | rfl | (simp only [List.length_drop, List.length_take]; rfl)) ?_; (with_reducible refine (span_Has.calls _ _ t262 (rdOf ByteArray.empty l2 x12_2) t286 _ ?side1 ?side2 A36.out).mono ?_); (case side1 => exact uC (Kd.R_reads' HO_9.out).2.2); (case side2 => exact (Kd.R_reads' HO_9.out).2.1); rintro e w107 ⟨rfl, hb⟩; refine ⟨_, rfl, ?_⟩; replace HO_7 := bR HO_7 hb; replace HO_8 := bR HO_8 hb; replace HO_9 := bR HO_9 hb; replace HO_10 := bR HO_10 hb; replace HO_11 := bR HO_11 hb; replace HB := sB HB hb; (try clear hb); (try clear hb2); (try clear hk); (try clear hi); have p293 : 0 ≤ (x12_2 : Int) := of_decide_eq_true (by first | (with_reducible assumption) | assumption); have q293 : x12_2 < (l2.length : Int) := of_decide_eq_true (by first | (with_reducible assumption) | assumption); obtain ⟨ad293, e293, hx293_0⟩ := Kd.at_string HR2.out x12_2 p293 q293; obtain rfl : ad279 = ad293 := (by injection e293); replace hx293_0 := (HB.out.cell (World.block_lt_of_cell? w _ hx293_0)).trans hx293_0; replace p293 := eq_true p293; replace q293 := eq_true q293; obtain ⟨Ao108, co108, eo108⟩ := Kd.R_slice HO_10.out; subst eo108) | (go_at_call 20; (with_reducible refine (span_Has.calls _ _ t265 (rdOf ByteArray.empty l2 x12_2) t294 _ ?side1 ?side2 A92.out).mono ?_); (case side1 => exact uC (Kd.R_reads' HO_10.out).2.2); (case side2 => exact (Kd.R_reads' HO_10.out).2.1); rintro e w109 ⟨rfl, hb⟩; replace HO_7 := bR HO_7 hb; replace HO_8 := bR HO_8 hb; replace HO_9 := bR HO_9 hb; replace HO_10 := bR HO_10 hb; replace HO_11 := bR HO_11 hb; replace HB := sB HB hb; (try clear hb); (try clear hb2); (try clear hk); (try clear hi); have p295 : 0 ≤ (x12_2 : Int) := of_decide_eq_true (by first | (with_reducible assumption) | assumption); have q295 : x12_2 < (l2.length : Int) := of_decide_eq_true (by first | (with_reducible assumption) | assumption); obtain ⟨ad295, e295, hx295_0⟩ := Kd.at_string HR2.out x12_2 p295 q295; obtain rfl : ad279 = ad295 := (by injection e295); replace hx295_0 := (HB.out.cell (World.block_lt_of_cell? w _ hx295_0)).trans hx295_0; replace p295 := eq_true p295; replace q295 := eq_true q295; obtain ⟨Ao110, co110, eo110⟩ := Kd.R_slice HO_11.out; subst eo110) | (go_at_call 20; (with_reducible refine (span_Has.calls _ _ t274 (rdOf ByteArray.empty l2 x12_2) t296 _ ?side1 ?side2 A101.out).mono ?_); (case side1 => exact uC (Kd.R_reads' HO_11.out).2.2); (case side2 => exact (Kd.R_reads' HO_11.out).2.1); rintro e w111 ⟨rfl, hb⟩; replace HO_7 := bR HO_7 hb; replace HO_8 := bR HO_8 hb; replace HO_9 := bR HO_9 hb; replace HO_10 := bR HO_10 hb; replace HO_11 := bR HO_11 hb; replace HB := sB HB hb; (try clear hb); (try clear hb2); (try clear hk); (try clear hi)))
                            go_ret
                            exact ⟨by first | rfl | (simp [errW_none, errW_some] <;> rfl) | (simp [*, errW_none, errW_some] <;> rfl), by repeat (first | (with_reducible first | exact HB.out | apply below_alloc | apply pw_below_drewN | apply below_drew1) | exact HB.out)⟩
                          · rw [if_neg c102] at H
                            have c102b0 : (t296 != t284) = false := by simpa using c102
                            (try (have c102e := bool_bne_f c102))
                            (try (have c102b1 : decide (t296 = t284) = true := by simpa using c102))
                            (try (have c102b2 : (t296 == t284) = true := by simpa using c102))
                            clear c102
                            replace H := Option.bind_eq_some_iff.mp H
                            obtain ⟨t298, A1120, H⟩ := H
                            replace H : (if (false != t298) = true then (some false) else (folkmootlaw03_SpanEach.l0 k2 l0 l2 t256 t259 t262 t265 t274 (wrap64 (x12_2 + 1)))) = some r := H
                            have A112 := Aside0.mk A1120
                            clear A1120
                            by_cases c113 : (false != t298) = true
                            · rw [if_pos c113] at H
                              have c113b0 : (false != t298) = true := c113
                              (try (have c113e := fun h => bool_bne_t c113 (Eq.symm h)))
                              (try (have c113b1 : decide (false = t298) = false := by simpa using c113))
                              (try (have c113b2 : (false == t298) = false := by simpa using c113))
                              (try (have c113b3 : ¬ (false = t298) := by simpa using c113))
                              clear c113
                              obtain rfl := Option.some.inj H
                              have p279 : 0 ≤ (x12_2 : Int) := of_decide_eq_true (by first | (with_reducible assumption) | assumption)
                              have q279 : x12_2 < (l2.length : Int) := of_decide_eq_true (by first | (with_reducible assumption) | assumption)
                              obtain ⟨ad279, e279, hx279_0⟩ := Kd.at_string HR2.out x12_2 p279 q279
                              cases e279
                              replace hx279_0 := (HB.out.cell (World.block_lt_of_cell? w _ hx279_0)).trans hx279_0
                              replace p279 := eq_true p279
                              replace q279 := eq_true q279
                              try go_wp2
                              replace HO_7 := Aside0.mk (Kd.R_drew HO_7.out)
                              replace HO_8 := Aside0.mk (Kd.R_drew HO_8.out)
                              replace HO_9 := Aside0.mk (Kd.R_drew HO_9.out)
                              replace HO_10 := Aside0.mk (Kd.R_drew HO_10.out)
                              replace HO_11 := Aside0.mk (Kd.R_drew HO_11.out)
                              replace HB := Aside0.mk (below_drew1 HB.out)
                              have p281 : 0 ≤ (x12_2 : Int) := of_decide_eq_true (by first | (with_reducible assumption) | assumption)
                              have q281 : x12_2 < (l2.length : Int) := of_decide_eq_true (by first | (with_reducible assumption) | assumption)
                              obtain ⟨ad281, e281, hx281_0⟩ := Kd.at_string HR2.out x12_2 p281 q281
                              have hw281_0 := hx281_0
                              obtain rfl : ad279 = ad281 := (by injection e281)
                              replace hx281_0 := (HB.out.cell (World.block_lt_of_cell? w _ hx281_0)).trans hx281_0
                              replace p281 := eq_true p281
                              replace q281 := eq_true q281
                              have p283 : 0 ≤ (x12_2 : Int) := of_decide_eq_true (by first | (with_reducible assumption) | assumption)
                              have q283 : x12_2 < (l2.length : Int) := of_decide_eq_true (by first | (with_reducible assumption) | assumption)
                              obtain ⟨ad283, e283, hx283_0⟩ := Kd.at_string HR2.out x12_2 p283 q283
                              have hw283_0 := hx283_0
                              obtain rfl : ad279 = ad283 := (by injection e283)
                              replace hx283_0 := (HB.out.cell (World.block_lt_of_cell? w _ hx283_0)).trans hx283_0
                              replace p283 := eq_true p283
                              replace q283 := eq_true q283
                              refine start_ (n := 14) (S := fun w' => w'.cell? (ad279.add (x12_2).toNat) = some (.string (rdOf ByteArray.empty l2 x12_2)) ∧ w'.cell? (ad279.add (x12_2).toNat) = some (.string (rdOf ByteArray.empty l2 x12_2))) (ds := []) #[false, false, false, false, false, false, false, false, false, false, false, false, false, false] (by kernel_rfl) rfl rfl ⟨((HB.out.cell (World.block_lt_of_cell? w _ hw281_0)).trans hw281_0), ((HB.out.cell (World.block_lt_of_cell? w _ hw283_0)).trans hw283_0)⟩ (fun hHeld => ?_); refine with_tabW folkmootlaw03_SpanEach.tab10 folkmootlaw03_SpanEach.bits10 (fun HT_ HW_ => ?_)
                              generalize wr.drew = w114 at HO_7 HO_8 HO_9 HO_10 HO_11 HB hx281_0 hx283_0 hHeld ⊢
                              refine pure_ (i := 0) (N := some 57) (v := ?_) (a' := ?_) #[true, false, false, false, false, false, false, false, false, false, false, false, false, false] rfl rfl (any_of HT_.out (by kernel_rfl)) (fun _ _ _ h => h) (Or.inl ⟨by rfl, ?_⟩) ?_ ?_
                              rotate_left
                              · intro w'
                                go_simp
                                with_reducible rfl
                              rotate_left
                              · simp only [Act.put, List.setIfInBounds_toArray, List.set_cons_zero, List.set_cons_succ, i64_w, i32_w]
                                rfl
                              refine pure_ (i := 1) (N := some 58) (v := ?_) (a' := ?_) #[true, true, false, false, false, false, false, false, false, false, false, false, false, false] rfl rfl (any_of HT_.out (by kernel_rfl)) (fun _ _ _ h => h) (Or.inl ⟨by rfl, ?_⟩) ?_ ?_
                              rotate_left
                              · intro w'
                                go_simp
                                with_reducible rfl
                              rotate_left
                              · simp only [Act.put, List.setIfInBounds_toArray, List.set_cons_zero, List.set_cons_succ, i64_w, i32_w]
                                rfl
                              refine pure_ (i := 2) (N := some 59) (v := ?_) (a' := ?_) #[true, true, true, false, false, false, false, false, false, false, false, false, false, false] rfl rfl (any_of HT_.out (by kernel_rfl)) (fun _ _ _ h => h) (Or.inl ⟨by rfl, ?_⟩) ?_ ?_
                              rotate_left
                              · intro w'
                                go_simp
                                with_reducible rfl
                              rotate_left
                              · simp only [Act.put, List.setIfInBounds_toArray, List.set_cons_zero, List.set_cons_succ, i64_w, i32_w]
                                rfl
                              refine pure_ (i := 3) (N := some 60) (v := ?_) (a' := ?_) #[true, true, true, true, false, false, false, false, false, false, false, false, false, false] rfl rfl (any_of HT_.out (by kernel_rfl)) (fun _ _ _ h => h) (Or.inl ⟨by rfl, ?_⟩) ?_ ?_
                              rotate_left
                              · intro w'
                                go_simp
                                with_reducible rfl
                              rotate_left
                              · simp only [Act.put, List.setIfInBounds_toArray, List.set_cons_zero, List.set_cons_succ, i64_w, i32_w]
                                rfl
                              refine pure_ (i := 6) (N := some 63) (v := ?_) (a' := ?_) #[true, true, true, true, false, false, true, false, false, false, false, false, false, false] rfl rfl (any_of HT_.out (by kernel_rfl)) (fun _ _ _ h => h) (Or.inl ⟨by rfl, ?_⟩) ?_ ?_
                              rotate_left
                              · intro w'
                                go_simp
                                with_reducible rfl
                              rotate_left
                              · simp only [Act.put, List.setIfInBounds_toArray, List.set_cons_zero, List.set_cons_succ, i64_w, i32_w]
                                rfl
                              refine pure_ (i := 7) (N := some 64) (v := ?_) (a' := ?_) #[true, true, true, true, false, false, true, true, false, false, false, false, false, false] rfl rfl (any_of HT_.out (by kernel_rfl)) (fun _ _ _ h => h) (Or.inl ⟨by rfl, ?_⟩) ?_ ?_
                              rotate_left
                              · intro w'
                                go_simp
                                with_reducible rfl
                              rotate_left
                              · simp only [Act.put, List.setIfInBounds_toArray, List.set_cons_zero, List.set_cons_succ, i64_w, i32_w]
                                rfl
                              refine pure_ (i := 8) (N := some 65) (v := ?_) (a' := ?_) #[true, true, true, true, false, false, true, true, true, false, false, false, false, false] rfl rfl (any_of HT_.out (by kernel_rfl)) (fun _ _ _ h => h) (Or.inl ⟨by rfl, ?_⟩) ?_ ?_
                              rotate_left
                              · intro w'
                                go_simp
                                with_reducible rfl
                              rotate_left
                              · simp only [Act.put, List.setIfInBounds_toArray, List.set_cons_zero, List.set_cons_succ, i64_w, i32_w]
                                rfl
                              refine pure_ (i := 9) (N := some 66) (v := ?_) (a' := ?_) #[true, true, true, true, false, false, true, true, true, true, false, false, false, false] rfl rfl (any_of HT_.out (by kernel_rfl)) (fun _ _ _ h => h) (Or.inl ⟨by rfl, ?_⟩) ?_ ?_
                              rotate_left
                              · intro w'
                                go_simp
                                with_reducible rfl
                              rotate_left
                              · simp only [Act.put, List.setIfInBounds_toArray, List.set_cons_zero, List.set_cons_succ, i64_w, i32_w]
                                rfl
                              refine take_ (i := 4) (N := some 61) (v := ?_) (a' := ?_) #[true, true, true, true, true, false, true, true, true, true, false, false, false, false] rfl rfl (take_ofW HT_.out HW_.out (by kernel_rfl)) (fun _ _ _ h => h) (Or.inl ⟨by rfl, ?_⟩) hHeld ?_ ?_
                              rotate_left
                              · rintro w' ⟨s0, s1⟩
                                go_simp
                                with_reducible rfl
                              rotate_left
                              · simp only [Act.put, List.setIfInBounds_toArray, List.set_cons_zero, List.set_cons_succ, i64_w, i32_w]
                                rfl
                              refine take_ (i := 10) (N := some 67) (v := ?_) (a' := ?_) #[true, true, true, true, true, false, true, true, true, true, true, false, false, false] rfl rfl (take_ofW HT_.out HW_.out (by kernel_rfl)) (fun _ _ _ h => h) (Or.inl ⟨by rfl, ?_⟩) hHeld ?_ ?_
                              rotate_left
                              · rintro w' ⟨s0, s1⟩
                                go_simp
                                with_reducible rfl
                              rotate_left
                              · simp only [Act.put, List.setIfInBounds_toArray, List.set_cons_zero, List.set_cons_succ, i64_w, i32_w]
                                rfl
                              refine one_ (i := 5) (N := some 62) #[true, true, true, true, true, true, true, true, true, true, true, false, false, false] rfl rfl (one_of HT_.out (by kernel_rfl)) (by decide) (fun K hK => ?_)
                              refine goes_ Try.func20 (by kernel_rfl) rfl #[.slice Ao21 t256.length co21, .string (rdOf ByteArray.empty l2 x12_2)] (by rfl) rfl rfl (by (try simp only [List.map_toArray, List.map_cons, List.map_nil]); first | done | rfl | (simp only [List.length_drop, List.length_take]; rfl)) ?_
                              with_reducible refine (span_Has.calls _ _ t256 (rdOf ByteArray.empty l2 x12_2) false _ ?side1 ?side2 A34.out).mono ?_
                              (case side1 => exact uC (Kd.R_reads' HO_7.out).2.2)
                              (case side2 => exact (Kd.R_reads' HO_7.out).2.1)
                              rintro e w115 ⟨rfl, hb⟩
                              refine ⟨_, rfl, ?_⟩
                              replace HO_7 := bR HO_7 hb
                              replace HO_8 := bR HO_8 hb
                              replace HO_9 := bR HO_9 hb
                              replace HO_10 := bR HO_10 hb
                              replace HO_11 := bR HO_11 hb
                              replace HB := sB HB hb
                              (try clear hb)
                              (try clear hb2)
                              (try clear hk)
                              (try clear hi)
                              refine hK.out _ _ ⟨((HB.out.cell (World.block_lt_of_cell? w _ hw281_0)).trans hw281_0), ((HB.out.cell (World.block_lt_of_cell? w _ hw283_0)).trans hw283_0)⟩ (fun hHeld => ?_)
                              clear hK K
                              refine norm_ (a' := ?_) ?_ ?_
                              rotate_left
                              · show Act.put _ (some 62) _ = _
                                simp only [Act.put, List.setIfInBounds_toArray, List.set_cons_zero, List.set_cons_succ, i64_w, i32_w]
                                rfl
                              refine one_ (i := 11) (N := some 68) #[true, true, true, true, true, true, true, true, true, true, true, true, false, false] rfl rfl (one_of HT_.out (by kernel_rfl)) (by decide) (fun K hK => ?_)
                              refine goes_ Try.func20 (by kernel_rfl) rfl #[.slice Ao22 t259.length co22, .string (rdOf ByteArray.empty l2 x12_2)] (by rfl) rfl rfl (by (try simp only [List.map_toArray, List.map_cons, List.map_nil]); first | done | rfl | (simp only [List.length_drop, List.length_take]; rfl)) ?_
                              with_reducible refine (span_Has.calls _ _ t259 (rdOf ByteArray.empty l2 x12_2) t284 _ ?side1 ?side2 A35.out).mono ?_
                              (case side1 => exact uC (Kd.R_reads' HO_8.out).2.2)
                              (case side2 => exact (Kd.R_reads' HO_8.out).2.1)
                              rintro e w116 ⟨rfl, hb⟩
                              refine ⟨_, rfl, ?_⟩
                              replace HO_7 := bR HO_7 hb
                              replace HO_8 := bR HO_8 hb
                              replace HO_9 := bR HO_9 hb
                              replace HO_10 := bR HO_10 hb
                              replace HO_11 := bR HO_11 hb
                              replace HB := sB HB hb
                              (try clear hb)
                              (try clear hb2)
                              (try clear hk)
                              (try clear hi)
                              refine hK.out _ _ ⟨((HB.out.cell (World.block_lt_of_cell? w _ hw281_0)).trans hw281_0), ((HB.out.cell (World.block_lt_of_cell? w _ hw283_0)).trans hw283_0)⟩ (fun hHeld => ?_)
                              clear hK K
                              refine norm_ (a' := ?_) ?_ ?_
                              rotate_left
                              · show Act.put _ (some 68) _ = _
                                simp only [Act.put, List.setIfInBounds_toArray, List.set_cons_zero, List.set_cons_succ, i64_w, i32_w]
                                rfl
                              refine pure_ (i := 12) (N := some 13) (v := ?_) (a' := ?_) #[true, true, true, true, true, true, true, true, true, true, true, true, true, false] rfl rfl (any_of HT_.out (by kernel_rfl)) (fun _ _ _ h => h) (Or.inl ⟨by rfl, ?_⟩) ?_ ?_
                              rotate_left
                              · intro w'
                                go_simp
                                with_reducible rfl
                              rotate_left
                              · simp only [Act.put, List.setIfInBounds_toArray, List.set_cons_zero, List.set_cons_succ, i64_w, i32_w]
                                rfl
                              refine pure_ (i := 13) (N := some 14) (v := ?_) (a' := ?_) #[true, true, true, true, true, true, true, true, true, true, true, true, true, true] rfl rfl (any_of HT_.out (by kernel_rfl)) (fun _ _ _ h => h) (Or.inl ⟨by rfl, ?_⟩) ?_ ?_
                              rotate_left
                              · intro w'
                                go_simp
                                with_reducible rfl
                              rotate_left
                              · simp only [Act.put, List.setIfInBounds_toArray, List.set_cons_zero, List.set_cons_succ, i64_w, i32_w]
                                rfl
                              refine done_ (done_of HT_.out (by kernel_rfl)) ?_
                              have p285 : 0 ≤ (x12_2 : Int) := of_decide_eq_true (by first | (with_reducible assumption) | assumption)
                              have q285 : x12_2 < (l2.length : Int) := of_decide_eq_true (by first | (with_reducible assumption) | assumption)
                              obtain ⟨ad285, e285, hx285_0⟩ := Kd.at_string HR2.out x12_2 p285 q285
                              obtain rfl : ad279 = ad285 := (by injection e285)
                              replace hx285_0 := (HB.out.cell (World.block_lt_of_cell? w _ hx285_0)).trans hx285_0
                              replace p285 := eq_true p285
                              replace q285 := eq_true q285
                              obtain ⟨Ao117, co117, eo117⟩ := Kd.R_slice HO_9.out
                              subst eo117
                              try go_wp2_with (first | ((with_reducible refine gate_callee (f := 20) rfl ?_); refine goesL_ (some 74) rfl rfl Try.func20 (by kernel_rfl) rfl #[.slice Ao117 t262.length co117, .string (rdOf ByteArray.empty l2 x12_2)] rfl (by (try simp only [List.map_toArray, List.map_cons, List.map_nil]); first | done | rfl | (simp only [List.length_drop, List.length_take]; rfl)) ?_; (with_reducible refine (span_Has.calls _ _ t262 (rdOf ByteArray.empty l2 x12_2) t286 _ ?side1 ?side2 A36.out).mono ?_); (case side1 => exact uC (Kd.R_reads' HO_9.out).2.2); (case side2 => exact (Kd.R_reads' HO_9.out).2.1); rintro e w118 ⟨rfl, hb⟩; refine ⟨_, rfl, ?_⟩; replace HO_7 := bR HO_7 hb; replace HO_8 := bR HO_8 hb; replace HO_9 := bR HO_9 hb; replace HO_10 := bR HO_10 hb; replace HO_11 := bR HO_11 hb; replace HB := sB HB hb; (try clear hb); (try clear hb2); (try clear hk); (try clear hi); have p293 : 0 ≤ (x12_2 : Int) := of_decide_eq_true (by first | (with_reducible assumption) | assumption); have q293 : x12_2 < (l2.length : Int) := of_decide_eq_true (by first | (with_reducible assumption) | assumption); obtain ⟨ad293, e293, hx293_0⟩ := Kd.at_string HR2.out x12_2 p293 q293; obtain rfl : ad279 = ad293 := (by injection e293); replace hx293_0 := (HB.out.cell (World.block_lt_of_cell? w _ hx293_0)).trans hx293_0; replace p293 := eq_true p293; replace q293 := eq_true q293; obtain ⟨Ao119, co119, eo119⟩ := Kd.R_slice HO_10.out; subst eo119) | (go_at_call 20; (with_reducible refine (span_Has.calls _ _ t265 (rdOf ByteArray.empty l2 x12_2) t294 _ ?side1 ?side2 A92.out).mono ?_); (case side1 => exact uC (Kd.R_reads' HO_10.out).2.2); (case side2 => exact (Kd.R_reads' HO_10.out).2.1); rintro e w120 ⟨rfl, hb⟩; replace HO_7 := bR HO_7 hb; replace HO_8 := bR HO_8 hb; replace HO_9 := bR HO_9 hb; replace HO_10 := bR HO_10 hb; replace HO_11 := bR HO_11 hb; replace HB := sB HB hb; (try clear hb); (try clear hb2); (try clear hk); (try clear hi); have p295 : 0 ≤ (x12_2 : Int) := of_decide_eq_true (by first | (with_reducible assumption) | assumption); have q295 : x12_2 < (l2.length : Int) := of_decide_eq_true (by first | (with_reducible assumption) | assumption); obtain ⟨ad295, e295, hx295_0⟩ := Kd.at_string HR2.out x12_2 p295 q295; obtain rfl : ad279 = ad295 := (by injection e295); replace hx295_0 := (HB.out.cell (World.block_lt_of_cell? w _ hx295_0)).trans hx295_0; replace p295 := eq_true p295; replace q295 := eq_true q295; obtain ⟨Ao121, co121, eo121⟩ := Kd.R_slice HO_11.out; subst eo121) | (go_at_call 20; (with_reducible refine (span_Has.calls _ _ t274 (rdOf ByteArray.empty l2 x12_2) t296 _ ?side1 ?side2 A101.out).mono ?_); (case side1 => exact uC (Kd.R_reads' HO_11.out).2.2); (case side2 => exact (Kd.R_reads' HO_11.out).2.1); rintro e w122 ⟨rfl, hb⟩; replace HO_7 := bR HO_7 hb; replace HO_8 := bR HO_8 hb; replace HO_9 := bR HO_9 hb; replace HO_10 := bR HO_10 hb; replace HO_11 := bR HO_11 hb; replace HB := sB HB hb; (try clear hb); (try clear hb2); (try clear hk); (try clear hi); have p297 : 0 ≤ (x12_2 : Int) := of_decide_eq_true (by first | (with_reducible assumption) | assumption); have q297 : x12_2 < (l2.length : Int) := of_decide_eq_true (by first | (with_reducible assumption) | assumption); obtain ⟨ad297, e297, hx297_0⟩ := Kd.at_string HR2.out x12_2 p297 q297; obtain rfl : ad279 = ad297 := (by injection e297); replace hx297_0 := (HB.out.cell (World.block_lt_of_cell? w _ hx297_0)).trans hx297_0; replace p297 := eq_true p297; replace q297 := eq_true q297) | (go_at_call 21; (with_reducible refine (folkmootref03_Has.calls k2 _ _ l0 (rdOf ByteArray.empty l2 x12_2) t298 _ ?side1 ?side2 A112.out).mono ?_); (case side1 => exact uC (Kd.C_below HR0.out HB.out)); (case side2 => exact HC0.out); rintro e w123 ⟨rfl, hb⟩; replace HO_7 := bR HO_7 hb; replace HO_8 := bR HO_8 hb; replace HO_9 := bR HO_9 hb; replace HO_10 := bR HO_10 hb; replace HO_11 := bR HO_11 hb; replace HB := sB HB hb; (try clear hb); (try clear hb2); (try clear hk); (try clear hi)))
                              go_ret
                              exact ⟨by first | rfl | (simp [errW_none, errW_some] <;> rfl) | (simp [*, errW_none, errW_some] <;> rfl), by repeat (first | (with_reducible first | exact HB.out | apply below_alloc | apply pw_below_drewN | apply below_drew1) | exact HB.out)⟩
                            · rw [if_neg c113] at H
                              have c113b0 : (false != t298) = false := by simpa using c113
                              (try (have c113e := (bool_bne_f c113).symm))
                              (try (have c113b1 : decide (false = t298) = true := by simpa using c113))
                              (try (have c113b2 : (false == t298) = true := by simpa using c113))
                              clear c113
                              have H' := Aside0.mk H
                              clear H
                              have p279 : 0 ≤ (x12_2 : Int) := of_decide_eq_true (by first | (with_reducible assumption) | assumption)
                              have q279 : x12_2 < (l2.length : Int) := of_decide_eq_true (by first | (with_reducible assumption) | assumption)
                              obtain ⟨ad279, e279, hx279_0⟩ := Kd.at_string HR2.out x12_2 p279 q279
                              cases e279
                              replace hx279_0 := (HB.out.cell (World.block_lt_of_cell? w _ hx279_0)).trans hx279_0
                              replace p279 := eq_true p279
                              replace q279 := eq_true q279
                              try go_wp2
                              replace HO_7 := Aside0.mk (Kd.R_drew HO_7.out)
                              replace HO_8 := Aside0.mk (Kd.R_drew HO_8.out)
                              replace HO_9 := Aside0.mk (Kd.R_drew HO_9.out)
                              replace HO_10 := Aside0.mk (Kd.R_drew HO_10.out)
                              replace HO_11 := Aside0.mk (Kd.R_drew HO_11.out)
                              replace HB := Aside0.mk (below_drew1 HB.out)
                              have p281 : 0 ≤ (x12_2 : Int) := of_decide_eq_true (by first | (with_reducible assumption) | assumption)
                              have q281 : x12_2 < (l2.length : Int) := of_decide_eq_true (by first | (with_reducible assumption) | assumption)
                              obtain ⟨ad281, e281, hx281_0⟩ := Kd.at_string HR2.out x12_2 p281 q281
                              have hw281_0 := hx281_0
                              obtain rfl : ad279 = ad281 := (by injection e281)
                              replace hx281_0 := (HB.out.cell (World.block_lt_of_cell? w _ hx281_0)).trans hx281_0
                              replace p281 := eq_true p281
                              replace q281 := eq_true q281
                              have p283 : 0 ≤ (x12_2 : Int) := of_decide_eq_true (by first | (with_reducible assumption) | assumption)
                              have q283 : x12_2 < (l2.length : Int) := of_decide_eq_true (by first | (with_reducible assumption) | assumption)
                              obtain ⟨ad283, e283, hx283_0⟩ := Kd.at_string HR2.out x12_2 p283 q283
                              have hw283_0 := hx283_0
                              obtain rfl : ad279 = ad283 := (by injection e283)
                              replace hx283_0 := (HB.out.cell (World.block_lt_of_cell? w _ hx283_0)).trans hx283_0
                              replace p283 := eq_true p283
                              replace q283 := eq_true q283
                              refine start_ (n := 14) (S := fun w' => w'.cell? (ad279.add (x12_2).toNat) = some (.string (rdOf ByteArray.empty l2 x12_2)) ∧ w'.cell? (ad279.add (x12_2).toNat) = some (.string (rdOf ByteArray.empty l2 x12_2))) (ds := []) #[false, false, false, false, false, false, false, false, false, false, false, false, false, false] (by kernel_rfl) rfl rfl ⟨((HB.out.cell (World.block_lt_of_cell? w _ hw281_0)).trans hw281_0), ((HB.out.cell (World.block_lt_of_cell? w _ hw283_0)).trans hw283_0)⟩ (fun hHeld => ?_); refine with_tabW folkmootlaw03_SpanEach.tab10 folkmootlaw03_SpanEach.bits10 (fun HT_ HW_ => ?_)
                              generalize wr.drew = w124 at HO_7 HO_8 HO_9 HO_10 HO_11 HB hx281_0 hx283_0 hHeld ⊢
                              refine pure_ (i := 0) (N := some 57) (v := ?_) (a' := ?_) #[true, false, false, false, false, false, false, false, false, false, false, false, false, false] rfl rfl (any_of HT_.out (by kernel_rfl)) (fun _ _ _ h => h) (Or.inl ⟨by rfl, ?_⟩) ?_ ?_
                              rotate_left
                              · intro w'
                                go_simp
                                with_reducible rfl
                              rotate_left
                              · simp only [Act.put, List.setIfInBounds_toArray, List.set_cons_zero, List.set_cons_succ, i64_w, i32_w]
                                rfl
                              refine pure_ (i := 1) (N := some 58) (v := ?_) (a' := ?_) #[true, true, false, false, false, false, false, false, false, false, false, false, false, false] rfl rfl (any_of HT_.out (by kernel_rfl)) (fun _ _ _ h => h) (Or.inl ⟨by rfl, ?_⟩) ?_ ?_
                              rotate_left
                              · intro w'
                                go_simp
                                with_reducible rfl
                              rotate_left
                              · simp only [Act.put, List.setIfInBounds_toArray, List.set_cons_zero, List.set_cons_succ, i64_w, i32_w]
                                rfl
                              refine pure_ (i := 2) (N := some 59) (v := ?_) (a' := ?_) #[true, true, true, false, false, false, false, false, false, false, false, false, false, false] rfl rfl (any_of HT_.out (by kernel_rfl)) (fun _ _ _ h => h) (Or.inl ⟨by rfl, ?_⟩) ?_ ?_
                              rotate_left
                              · intro w'
                                go_simp
                                with_reducible rfl
                              rotate_left
                              · simp only [Act.put, List.setIfInBounds_toArray, List.set_cons_zero, List.set_cons_succ, i64_w, i32_w]
                                rfl
                              refine pure_ (i := 3) (N := some 60) (v := ?_) (a' := ?_) #[true, true, true, true, false, false, false, false, false, false, false, false, false, false] rfl rfl (any_of HT_.out (by kernel_rfl)) (fun _ _ _ h => h) (Or.inl ⟨by rfl, ?_⟩) ?_ ?_
                              rotate_left
                              · intro w'
                                go_simp
                                with_reducible rfl
                              rotate_left
                              · simp only [Act.put, List.setIfInBounds_toArray, List.set_cons_zero, List.set_cons_succ, i64_w, i32_w]
                                rfl
                              refine pure_ (i := 6) (N := some 63) (v := ?_) (a' := ?_) #[true, true, true, true, false, false, true, false, false, false, false, false, false, false] rfl rfl (any_of HT_.out (by kernel_rfl)) (fun _ _ _ h => h) (Or.inl ⟨by rfl, ?_⟩) ?_ ?_
                              rotate_left
                              · intro w'
                                go_simp
                                with_reducible rfl
                              rotate_left
                              · simp only [Act.put, List.setIfInBounds_toArray, List.set_cons_zero, List.set_cons_succ, i64_w, i32_w]
                                rfl
                              refine pure_ (i := 7) (N := some 64) (v := ?_) (a' := ?_) #[true, true, true, true, false, false, true, true, false, false, false, false, false, false] rfl rfl (any_of HT_.out (by kernel_rfl)) (fun _ _ _ h => h) (Or.inl ⟨by rfl, ?_⟩) ?_ ?_
                              rotate_left
                              · intro w'
                                go_simp
                                with_reducible rfl
                              rotate_left
                              · simp only [Act.put, List.setIfInBounds_toArray, List.set_cons_zero, List.set_cons_succ, i64_w, i32_w]
                                rfl
                              refine pure_ (i := 8) (N := some 65) (v := ?_) (a' := ?_) #[true, true, true, true, false, false, true, true, true, false, false, false, false, false] rfl rfl (any_of HT_.out (by kernel_rfl)) (fun _ _ _ h => h) (Or.inl ⟨by rfl, ?_⟩) ?_ ?_
                              rotate_left
                              · intro w'
                                go_simp
                                with_reducible rfl
                              rotate_left
                              · simp only [Act.put, List.setIfInBounds_toArray, List.set_cons_zero, List.set_cons_succ, i64_w, i32_w]
                                rfl
                              refine pure_ (i := 9) (N := some 66) (v := ?_) (a' := ?_) #[true, true, true, true, false, false, true, true, true, true, false, false, false, false] rfl rfl (any_of HT_.out (by kernel_rfl)) (fun _ _ _ h => h) (Or.inl ⟨by rfl, ?_⟩) ?_ ?_
                              rotate_left
                              · intro w'
                                go_simp
                                with_reducible rfl
                              rotate_left
                              · simp only [Act.put, List.setIfInBounds_toArray, List.set_cons_zero, List.set_cons_succ, i64_w, i32_w]
                                rfl
                              refine take_ (i := 4) (N := some 61) (v := ?_) (a' := ?_) #[true, true, true, true, true, false, true, true, true, true, false, false, false, false] rfl rfl (take_ofW HT_.out HW_.out (by kernel_rfl)) (fun _ _ _ h => h) (Or.inl ⟨by rfl, ?_⟩) hHeld ?_ ?_
                              rotate_left
                              · rintro w' ⟨s0, s1⟩
                                go_simp
                                with_reducible rfl
                              rotate_left
                              · simp only [Act.put, List.setIfInBounds_toArray, List.set_cons_zero, List.set_cons_succ, i64_w, i32_w]
                                rfl
                              refine take_ (i := 10) (N := some 67) (v := ?_) (a' := ?_) #[true, true, true, true, true, false, true, true, true, true, true, false, false, false] rfl rfl (take_ofW HT_.out HW_.out (by kernel_rfl)) (fun _ _ _ h => h) (Or.inl ⟨by rfl, ?_⟩) hHeld ?_ ?_
                              rotate_left
                              · rintro w' ⟨s0, s1⟩
                                go_simp
                                with_reducible rfl
                              rotate_left
                              · simp only [Act.put, List.setIfInBounds_toArray, List.set_cons_zero, List.set_cons_succ, i64_w, i32_w]
                                rfl
                              refine one_ (i := 5) (N := some 62) #[true, true, true, true, true, true, true, true, true, true, true, false, false, false] rfl rfl (one_of HT_.out (by kernel_rfl)) (by decide) (fun K hK => ?_)
                              refine goes_ Try.func20 (by kernel_rfl) rfl #[.slice Ao21 t256.length co21, .string (rdOf ByteArray.empty l2 x12_2)] (by rfl) rfl rfl (by (try simp only [List.map_toArray, List.map_cons, List.map_nil]); first | done | rfl | (simp only [List.length_drop, List.length_take]; rfl)) ?_
                              with_reducible refine (span_Has.calls _ _ t256 (rdOf ByteArray.empty l2 x12_2) false _ ?side1 ?side2 A34.out).mono ?_
                              (case side1 => exact uC (Kd.R_reads' HO_7.out).2.2)
                              (case side2 => exact (Kd.R_reads' HO_7.out).2.1)
                              rintro e w125 ⟨rfl, hb⟩
                              refine ⟨_, rfl, ?_⟩
                              replace HO_7 := bR HO_7 hb
                              replace HO_8 := bR HO_8 hb
                              replace HO_9 := bR HO_9 hb
                              replace HO_10 := bR HO_10 hb
                              replace HO_11 := bR HO_11 hb
                              replace HB := sB HB hb
                              (try clear hb)
                              (try clear hb2)
                              (try clear hk)
                              (try clear hi)
                              refine hK.out _ _ ⟨((HB.out.cell (World.block_lt_of_cell? w _ hw281_0)).trans hw281_0), ((HB.out.cell (World.block_lt_of_cell? w _ hw283_0)).trans hw283_0)⟩ (fun hHeld => ?_)
                              clear hK K
                              refine norm_ (a' := ?_) ?_ ?_
                              rotate_left
                              · show Act.put _ (some 62) _ = _
                                simp only [Act.put, List.setIfInBounds_toArray, List.set_cons_zero, List.set_cons_succ, i64_w, i32_w]
                                rfl
                              refine one_ (i := 11) (N := some 68) #[true, true, true, true, true, true, true, true, true, true, true, true, false, false] rfl rfl (one_of HT_.out (by kernel_rfl)) (by decide) (fun K hK => ?_)
                              refine goes_ Try.func20 (by kernel_rfl) rfl #[.slice Ao22 t259.length co22, .string (rdOf ByteArray.empty l2 x12_2)] (by rfl) rfl rfl (by (try simp only [List.map_toArray, List.map_cons, List.map_nil]); first | done | rfl | (simp only [List.length_drop, List.length_take]; rfl)) ?_
                              with_reducible refine (span_Has.calls _ _ t259 (rdOf ByteArray.empty l2 x12_2) t284 _ ?side1 ?side2 A35.out).mono ?_
                              (case side1 => exact uC (Kd.R_reads' HO_8.out).2.2)
                              (case side2 => exact (Kd.R_reads' HO_8.out).2.1)
                              rintro e w126 ⟨rfl, hb⟩
                              refine ⟨_, rfl, ?_⟩
                              replace HO_7 := bR HO_7 hb
                              replace HO_8 := bR HO_8 hb
                              replace HO_9 := bR HO_9 hb
                              replace HO_10 := bR HO_10 hb
                              replace HO_11 := bR HO_11 hb
                              replace HB := sB HB hb
                              (try clear hb)
                              (try clear hb2)
                              (try clear hk)
                              (try clear hi)
                              refine hK.out _ _ ⟨((HB.out.cell (World.block_lt_of_cell? w _ hw281_0)).trans hw281_0), ((HB.out.cell (World.block_lt_of_cell? w _ hw283_0)).trans hw283_0)⟩ (fun hHeld => ?_)
                              clear hK K
                              refine norm_ (a' := ?_) ?_ ?_
                              rotate_left
                              · show Act.put _ (some 68) _ = _
                                simp only [Act.put, List.setIfInBounds_toArray, List.set_cons_zero, List.set_cons_succ, i64_w, i32_w]
                                rfl
                              refine pure_ (i := 12) (N := some 13) (v := ?_) (a' := ?_) #[true, true, true, true, true, true, true, true, true, true, true, true, true, false] rfl rfl (any_of HT_.out (by kernel_rfl)) (fun _ _ _ h => h) (Or.inl ⟨by rfl, ?_⟩) ?_ ?_
                              rotate_left
                              · intro w'
                                go_simp
                                with_reducible rfl
                              rotate_left
                              · simp only [Act.put, List.setIfInBounds_toArray, List.set_cons_zero, List.set_cons_succ, i64_w, i32_w]
                                rfl
                              refine pure_ (i := 13) (N := some 14) (v := ?_) (a' := ?_) #[true, true, true, true, true, true, true, true, true, true, true, true, true, true] rfl rfl (any_of HT_.out (by kernel_rfl)) (fun _ _ _ h => h) (Or.inl ⟨by rfl, ?_⟩) ?_ ?_
                              rotate_left
                              · intro w'
                                go_simp
                                with_reducible rfl
                              rotate_left
                              · simp only [Act.put, List.setIfInBounds_toArray, List.set_cons_zero, List.set_cons_succ, i64_w, i32_w]
                                rfl
                              refine done_ (done_of HT_.out (by kernel_rfl)) ?_
                              have p285 : 0 ≤ (x12_2 : Int) := of_decide_eq_true (by first | (with_reducible assumption) | assumption)
                              have q285 : x12_2 < (l2.length : Int) := of_decide_eq_true (by first | (with_reducible assumption) | assumption)
                              obtain ⟨ad285, e285, hx285_0⟩ := Kd.at_string HR2.out x12_2 p285 q285
                              obtain rfl : ad279 = ad285 := (by injection e285)
                              replace hx285_0 := (HB.out.cell (World.block_lt_of_cell? w _ hx285_0)).trans hx285_0
                              replace p285 := eq_true p285
                              replace q285 := eq_true q285
                              obtain ⟨Ao127, co127, eo127⟩ := Kd.R_slice HO_9.out
                              subst eo127
                              try go_wp2_with (first | ((with_reducible refine gate_callee (f := 20) rfl ?_); refine goesL_ (some 74) rfl rfl Try.func20 (by kernel_rfl) rfl #[.slice Ao127 t262.length co127, .string (rdOf ByteArray.empty l2 x12_2)] rfl (by (try simp only [List.map_toArray, List.map_cons, List.map_nil]); first | done | rfl | (simp only [List.length_drop, List.length_take]; rfl)) ?_; (with_reducible refine (span_Has.calls _ _ t262 (rdOf ByteArray.empty l2 x12_2) t286 _ ?side1 ?side2 A36.out).mono ?_); (case side1 => exact uC (Kd.R_reads' HO_9.out).2.2); (case side2 => exact (Kd.R_reads' HO_9.out).2.1); rintro e w128 ⟨rfl, hb⟩; refine ⟨_, rfl, ?_⟩; replace HO_7 := bR HO_7 hb; replace HO_8 := bR HO_8 hb; replace HO_9 := bR HO_9 hb; replace HO_10 := bR HO_10 hb; replace HO_11 := bR HO_11 hb; replace HB := sB HB hb; (try clear hb); (try clear hb2); (try clear hk); (try clear hi); have p293 : 0 ≤ (x12_2 : Int) := of_decide_eq_true (by first | (with_reducible assumption) | assumption); have q293 : x12_2 < (l2.length : Int) := of_decide_eq_true (by first | (with_reducible assumption) | assumption); obtain ⟨ad293, e293, hx293_0⟩ := Kd.at_string HR2.out x12_2 p293 q293; obtain rfl : ad279 = ad293 := (by injection e293); replace hx293_0 := (HB.out.cell (World.block_lt_of_cell? w _ hx293_0)).trans hx293_0; replace p293 := eq_true p293; replace q293 := eq_true q293; obtain ⟨Ao129, co129, eo129⟩ := Kd.R_slice HO_10.out; subst eo129) | (go_at_call 20; (with_reducible refine (span_Has.calls _ _ t265 (rdOf ByteArray.empty l2 x12_2) t294 _ ?side1 ?side2 A92.out).mono ?_); (case side1 => exact uC (Kd.R_reads' HO_10.out).2.2); (case side2 => exact (Kd.R_reads' HO_10.out).2.1); rintro e w130 ⟨rfl, hb⟩; replace HO_7 := bR HO_7 hb; replace HO_8 := bR HO_8 hb; replace HO_9 := bR HO_9 hb; replace HO_10 := bR HO_10 hb; replace HO_11 := bR HO_11 hb; replace HB := sB HB hb; (try clear hb); (try clear hb2); (try clear hk); (try clear hi); have p295 : 0 ≤ (x12_2 : Int) := of_decide_eq_true (by first | (with_reducible assumption) | assumption); have q295 : x12_2 < (l2.length : Int) := of_decide_eq_true (by first | (with_reducible assumption) | assumption); obtain ⟨ad295, e295, hx295_0⟩ := Kd.at_string HR2.out x12_2 p295 q295; obtain rfl : ad279 = ad295 := (by injection e295); replace hx295_0 := (HB.out.cell (World.block_lt_of_cell? w _ hx295_0)).trans hx295_0; replace p295 := eq_true p295; replace q295 := eq_true q295; obtain ⟨Ao131, co131, eo131⟩ := Kd.R_slice HO_11.out; subst eo131) | (go_at_call 20; (with_reducible refine (span_Has.calls _ _ t274 (rdOf ByteArray.empty l2 x12_2) t296 _ ?side1 ?side2 A101.out).mono ?_); (case side1 => exact uC (Kd.R_reads' HO_11.out).2.2); (case side2 => exact (Kd.R_reads' HO_11.out).2.1); rintro e w132 ⟨rfl, hb⟩; replace HO_7 := bR HO_7 hb; replace HO_8 := bR HO_8 hb; replace HO_9 := bR HO_9 hb; replace HO_10 := bR HO_10 hb; replace HO_11 := bR HO_11 hb; replace HB := sB HB hb; (try clear hb); (try clear hb2); (try clear hk); (try clear hi); have p297 : 0 ≤ (x12_2 : Int) := of_decide_eq_true (by first | (with_reducible assumption) | assumption); have q297 : x12_2 < (l2.length : Int) := of_decide_eq_true (by first | (with_reducible assumption) | assumption); obtain ⟨ad297, e297, hx297_0⟩ := Kd.at_string HR2.out x12_2 p297 q297; obtain rfl : ad279 = ad297 := (by injection e297); replace hx297_0 := (HB.out.cell (World.block_lt_of_cell? w _ hx297_0)).trans hx297_0; replace p297 := eq_true p297; replace q297 := eq_true q297) | (go_at_call 21; (with_reducible refine (folkmootref03_Has.calls k2 _ _ l0 (rdOf ByteArray.empty l2 x12_2) t298 _ ?side1 ?side2 A112.out).mono ?_); (case side1 => exact uC (Kd.C_below HR0.out HB.out)); (case side2 => exact HC0.out); rintro e w133 ⟨rfl, hb⟩; replace HO_7 := bR HO_7 hb; replace HO_8 := bR HO_8 hb; replace HO_9 := bR HO_9 hb; replace HO_10 := bR HO_10 hb; replace HO_11 := bR HO_11 hb; replace HB := sB HB hb; (try clear hb); (try clear hb2); (try clear hk); (try clear hi)))
                              go_roundg k2
                              case measure => have := HJ3.out; have := HK2.out; omega
                              case rel => exact ⟨(wrap64 (x12_2 + 1)), (by first | rfl | (simp; done) | (simp [*]; done)), H', ⟨by have := HJ3.out; have := HK2.out; omega⟩, ⟨by (with_reducible repeat (first | apply Kd.R_alloc | apply Kd.R_drewN | apply Kd.R_drew)); exact HO_7.out⟩, ⟨by (with_reducible repeat (first | apply Kd.R_alloc | apply Kd.R_drewN | apply Kd.R_drew)); exact HO_8.out⟩, ⟨by (with_reducible repeat (first | apply Kd.R_alloc | apply Kd.R_drewN | apply Kd.R_drew)); exact HO_9.out⟩, ⟨by (with_reducible repeat (first | apply Kd.R_alloc | apply Kd.R_drewN | apply Kd.R_drew)); exact HO_10.out⟩, ⟨by (with_reducible repeat (first | apply Kd.R_alloc | apply Kd.R_drewN | apply Kd.R_drew)); exact HO_11.out⟩, ⟨by repeat (first | (with_reducible first | exact HB.out | apply below_alloc | apply pw_below_drewN | apply below_drew1) | exact HB.out)⟩⟩
                · rw [if_neg c30] at H
                  exact absurd H (by simp)
              · rw [if_neg c29] at H
                have c29b0 : decide (x12_2 < (l2.length : Int)) = false := decide_eq_false c29
                clear c29
                replace H := Option.bind_eq_some_iff.mp H
                obtain ⟨t277, A1340, H⟩ := H
                replace H : (if (t277 == (decide ((t262.length : Int) > 0))) = true then ((folkmootlaw03_live.f k2).bind fun t278 => (some t278)) else (some false)) = some r := H
                have A134 := Aside0.mk A1340
                clear A1340
                by_cases c135 : (t277 == (decide ((t262.length : Int) > 0))) = true
                · rw [if_pos c135] at H
                  have c135b0 : (t277 == (decide ((t262.length : Int) > 0))) = true := c135
                  (try (have c135e : (t277 = decide (0 < t262.length)) := by simpa using c135))
                  (try (have c135b1 : decide (t277 = (decide ((t262.length : Int) > 0))) = true := by simpa using c135))
                  (try (have c135b2 : (t277 == (decide ((t262.length : Int) > 0))) = true := by simpa using c135))
                  clear c135
                  replace H := Option.bind_eq_some_iff.mp H
                  obtain ⟨t278, A1360, H⟩ := H
                  replace H : (some t278) = some r := H
                  have A136 := Aside0.mk A1360
                  clear A1360
                  obtain rfl := Option.some.inj H
                  go_wp2_with (first | ((with_reducible refine gate_callee (f := 22) rfl ?_); refine goesL_ (some 119) rfl rfl Try.func22 (by kernel_rfl) rfl #[.slice Ao21 t256.length co21, .slice Ao22 t259.length co22] rfl (by (try simp only [List.map_toArray, List.map_cons, List.map_nil]); first | done | rfl | (simp only [List.length_drop, List.length_take]; rfl)) ?_; (with_reducible refine (span_Meet.calls _ _ t256 _ _ t259 t277 _ ?side1 ?side2 ?side3 ?side4 A134.out).mono ?_); (case side1 => exact uC (Kd.R_reads' HO_7.out).2.2); (case side2 => exact (Kd.R_reads' HO_7.out).2.1); (case side3 => exact uC (Kd.R_reads' HO_8.out).2.2); (case side4 => exact (Kd.R_reads' HO_8.out).2.1); rintro e w137 ⟨rfl, hb⟩; refine ⟨_, rfl, ?_⟩; replace HO_7 := bR HO_7 hb; replace HO_8 := bR HO_8 hb; replace HO_9 := bR HO_9 hb; replace HO_10 := bR HO_10 hb; replace HO_11 := bR HO_11 hb; replace HB := sB HB hb; (try clear hb); (try clear hb2); (try clear hk); (try clear hi); obtain ⟨Ao138, co138, eo138⟩ := Kd.R_slice HO_9.out; subst eo138) | (go_at_call 11; (with_reducible refine (folkmootlaw03_live.calls k2  t278 _ A136.out).mono ?_); rintro e w139 ⟨rfl, hb⟩; replace HO_7 := bR HO_7 hb; replace HO_8 := bR HO_8 hb; replace HO_9 := bR HO_9 hb; replace HO_10 := bR HO_10 hb; replace HO_11 := bR HO_11 hb; replace HB := sB HB hb; (try clear hb); (try clear hb2); (try clear hk); (try clear hi)))
                  go_ret
                  exact ⟨by first | rfl | (simp [errW_none, errW_some] <;> rfl) | (simp [*, errW_none, errW_some] <;> rfl), by repeat (first | (with_reducible first | exact HB.out | apply below_alloc | apply pw_below_drewN | apply below_drew1) | exact HB.out)⟩
                · rw [if_neg c135] at H
                  have c135b0 : (t277 == (decide ((t262.length : Int) > 0))) = false := by simpa using c135
                  (try (have c135e : ¬ (t277 = decide (0 < t262.length)) := by simpa using c135))
                  (try (have c135b1 : decide (t277 = (decide ((t262.length : Int) > 0))) = false := by simpa using c135))
                  (try (have c135b2 : (t277 == (decide ((t262.length : Int) > 0))) = false := by simpa using c135))
                  (try (have c135b3 : ¬ (t277 = (decide ((t262.length : Int) > 0))) := by simpa using c135))
                  clear c135
                  obtain rfl := Option.some.inj H
                  go_wp2_with (first | ((with_reducible refine gate_callee (f := 22) rfl ?_); refine goesL_ (some 119) rfl rfl Try.func22 (by kernel_rfl) rfl #[.slice Ao21 t256.length co21, .slice Ao22 t259.length co22] rfl (by (try simp only [List.map_toArray, List.map_cons, List.map_nil]); first | done | rfl | (simp only [List.length_drop, List.length_take]; rfl)) ?_; (with_reducible refine (span_Meet.calls _ _ t256 _ _ t259 t277 _ ?side1 ?side2 ?side3 ?side4 A134.out).mono ?_); (case side1 => exact uC (Kd.R_reads' HO_7.out).2.2); (case side2 => exact (Kd.R_reads' HO_7.out).2.1); (case side3 => exact uC (Kd.R_reads' HO_8.out).2.2); (case side4 => exact (Kd.R_reads' HO_8.out).2.1); rintro e w140 ⟨rfl, hb⟩; refine ⟨_, rfl, ?_⟩; replace HO_7 := bR HO_7 hb; replace HO_8 := bR HO_8 hb; replace HO_9 := bR HO_9 hb; replace HO_10 := bR HO_10 hb; replace HO_11 := bR HO_11 hb; replace HB := sB HB hb; (try clear hb); (try clear hb2); (try clear hk); (try clear hi); obtain ⟨Ao141, co141, eo141⟩ := Kd.R_slice HO_9.out; subst eo141))
                  go_ret
                  exact ⟨by first | rfl | (simp [errW_none, errW_some] <;> rfl) | (simp [*, errW_none, errW_some] <;> rfl), by repeat (first | (with_reducible first | exact HB.out | apply below_alloc | apply pw_below_drewN | apply below_drew1) | exact HB.out)⟩
        · rw [if_neg c17] at H
          exact absurd H (by simp)

end Go.Proofs.Ytjimijpkhmpilaa.P
/- Plain: the printed law SpanEach comes to true. -/
namespace Go.Proofs.Ytjimijpkhmpilaa.P
open Go.RowKit Go.Proofs.YtjimijpkhmpilaaW.PrintWords
set_option linter.unusedVariables false

theorem rd_text_ (l : List ByteArray) (i : Nat) (hi : i < l.length) : rdOf ByteArray.empty l (i : Int) = l[i] := by simp [rdOf, List.getD_eq_getElem?_getD, hi]
theorem each_l0 (a b : List S34) (l : List ByteArray) (ha : a.length ≤ 30) (hb : b.length ≤ 30) (hl : l.length ≤ 30) : ∀ (d i : Nat), i ≤ l.length → l.length - i = d →
    Ev (fun k => folkmootlaw03_SpanEach.l0 k a l (unionL a) (unionL b) (cutL (unionL a) (unionL b)) (lessAll (unionL a) (unionL b)) (unionL (a ++ b)) (i : Int)) true := by
  have hx := union_can a
  have hy := union_can b
  have hx1 := union_len a
  have hy1 := union_len b
  have hm : span_Meet.f (unionL a) (unionL b) = some (decide (((cutL (unionL a) (unionL b)).length : Int) > 0)) := by
    unfold span_Meet.f
    rw [cutL_f _ _ (by omega)]
    rfl
  intro d
  induction d with
  | zero =>
    intro i hi hd
    have h1 : ¬ (i : Int) < (l.length : Int) := by omega
    refine Ev.step (fun k => by simp only [folkmootlaw03_SpanEach.l0, if_neg h1, hm, Option.bind_some, beq_self_eq_true, if_true] <;> rfl) (Ev.bind live_ev (Ev.val _))
  | succ d ih =>
    intro i hi hd
    have h1 : (i : Int) < (l.length : Int) := by omega
    have h0 : (0 : Int) ≤ (i : Int) := by omega
    have hil : i < l.length := by omega
    have hw : wrap64 ((i : Int) + 1) = ((i + 1 : Nat) : Int) := by rw [wrap_in] <;> omega
    have hn := ih (i + 1) (by omega) (by omega)
    have hr := rd_text_ l i hil
    generalize l[i] = x at hr
    have e1 : span_Has.f (unionL a) x = some (a.any (inSp x)) := by unfold span_Has.f; rw [union_any]
    have e2 : span_Has.f (unionL b) x = some (b.any (inSp x)) := by unfold span_Has.f; rw [union_any]
    have e3 : span_Has.f (cutL (unionL a) (unionL b)) x = some (a.any (inSp x) && b.any (inSp x)) := by unfold span_Has.f; rw [cutL_any hx hy, union_any, union_any]
    have e4 : span_Has.f (lessAll (unionL a) (unionL b)) x = some (a.any (inSp x) && !b.any (inSp x)) := by unfold span_Has.f; rw [lessL_any hx hy, union_any, union_any]
    have e5 : span_Has.f (unionL (a ++ b)) x = some (a.any (inSp x) || b.any (inSp x)) := by unfold span_Has.f; rw [union_any, List.any_append]
    have hR := has_ev a x (by omega)
    by_cases c : ((x.size : Int)) > 4000
    · exact Ev.step (fun k => by simp only [folkmootlaw03_SpanEach.l0, if_pos h1, if_pos h0, hr, if_pos c] <;> rfl) (Ev.bind live_ev (Ev.val _))
    · cases hA : a.any (inSp x) with
      | true =>
        rw [hA] at e1 e3 e4 e5 hR
        simp only [Bool.true_and, Bool.true_or] at e3 e4 e5
        refine Ev.step (fun k => by simp only [folkmootlaw03_SpanEach.l0, if_pos h1, if_pos h0, hr, if_neg c, e1, e2, e3, e4, e5, Option.bind_some, if_true, bne_self_eq_false, Bool.false_eq_true, if_false, hw] <;> rfl) (Ev.bind hR ?_)
        simp only [bne_self_eq_false, Bool.false_eq_true, if_false]
        exact hn
      | false =>
        rw [hA] at e1 e3 e4 e5 hR
        simp only [Bool.false_and, Bool.false_or] at e3 e4 e5
        refine Ev.step (fun k => by simp only [folkmootlaw03_SpanEach.l0, if_pos h1, if_pos h0, hr, if_neg c, e1, e2, e3, e4, e5, Option.bind_some, bne_self_eq_false, Bool.false_eq_true, if_false, hw] <;> rfl) (Ev.bind hR ?_)
        simp only [bne_self_eq_false, Bool.false_eq_true, if_false]
        exact hn
theorem each_j0 (a b : List S34) (l : List ByteArray) (c : Bool) (h : c = false → l.length ≤ 30 ∧ a.length ≤ 30 ∧ b.length ≤ 30) : Ev (fun k => folkmootlaw03_SpanEach.j0 k a b l c) true := by
  cases c with
  | true => exact Ev.step (fun k => by simp only [folkmootlaw03_SpanEach.j0, if_true] <;> rfl) (Ev.bind live_ev (Ev.val _))
  | false =>
    obtain ⟨h1, h2, h3⟩ := h rfl
    have hx1 := union_len a
    have hy1 := union_len b
    have u1 := unionL_f a (by omega)
    have u2 := unionL_f b (by omega)
    have c1 := cutL_f (unionL a) (unionL b) (by omega)
    have o1 := own_some_ a (by omega)
    have hlt : a.length + b.length < 4398046511104 := by omega
    have u3 := unionL_f (a ++ b) (by rw [List.length_append]; exact hlt)
    refine Ev.step (fun k => by simp only [folkmootlaw03_SpanEach.j0, Bool.false_eq_true, if_false, u1, u2, c1, Option.bind_some] <;> rfl) (Ev.bind (less_ev (unionL a) (unionL b) (by omega) (by omega)) ?_)
    simp only [o1, Option.bind_some, if_pos hlt, u3]
    exact each_l0 a b l h2 h3 h1 l.length 0 (Nat.zero_le _) (Nat.sub_zero _)
theorem spanEach_pure (a b : List S34) (l : List ByteArray) (ha : a.length ≤ 140737488351232) (hb : b.length ≤ 140737488351232) (hl : l.length ≤ 140737488351232) (hs : ∀ x ∈ l, x.size ≤ 140737488351232) : ∃ k, folkmootlaw03_SpanEach.f k a b l = some true := by
  obtain ⟨x, hx, hs⟩ := small_ev a (by omega)
  obtain ⟨y, hy, ht⟩ := small_ev b (by omega)
  refine Ev.rounds (g := fun k => folkmootlaw03_SpanEach.f k a b l) (Ev.bind hx ?_)
  cases x with
  | false =>
    simp only [Bool.false_eq_true, if_false]
    exact each_j0 a b l true (fun h => by cases h)
  | true =>
    simp only [if_true]
    refine Ev.bind hy ?_
    cases y with
    | false =>
      simp only [Bool.false_eq_true, if_false]
      exact each_j0 a b l true (fun h => by cases h)
    | true =>
      simp only [if_true]
      exact each_j0 a b l _ (fun h => ⟨by have := of_decide_eq_false h; omega, hs rfl, ht rfl⟩)
end Go.Proofs.Ytjimijpkhmpilaa.P
