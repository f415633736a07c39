/- Texts of the proofs of TopoOnce, TopoTells, TopoTouches, TopoWhole, merged (Pxfmref03set, Pxfmref03Union, PRefS, PCut, Pxfmlaw04TopoTouches, PToA). -/
import Derived.Test.YtaedgbkeiankcaaGe915ef09
import Derived.Test.YtaedgbkeiankcaaGf9628c21
import Derived.Test.YtaedgbkeiankcaaGc225a7f4
import Derived.Test.YtaedgbkeiankcaaG22679f8d
import Derived.Test.YtaedgbkeiankcaaG2893e30e
import Derived.Test.YtaedgbkeiankcaaG731ef359
import Derived.Test.YtaedgbkeiankcaaG704dbd53
import Derived.Test.YtaedgbkeiankcaaG5918b891
-- printed by a program of this session (wip/hp.py over the kit's print)
namespace Go.Proofs.Ytaedgbkeiankcaa.P
open Go.RowKit Go.Proofs.YtaedgbkeiankcaaW.PrintWords Go.Proofs.YtaedgbkeiankcaaW.PrintLast Go.Proofs.YtaedgbkeiankcaaW.PrintMore
attribute [local go_sem] str_leq str_gtr str_geq max2_str max2_int min2_int max_two min_two max_three min_three max_four min_four   -- for this text's walks alone
set_option linter.unusedVariables false
set_option linter.unusedSimpArgs false

/-! ### folkmootref03_set: function 39 -/
mutual
def folkmootref03_set.l0 : Nat → List (S35) → List (S35) → Int → List ByteArray → List (S35) → Bool → Int → Option ((List (S35)))
  | 0, _, _, _, _, _, _, _ => none
  | k + 1, x0, x1, x2, x7, x8, x9, x10 => if x10 < (x7.length : Int) then (if 0 ≤ x10 then ((folkmootref03_Has.f k x0 (rdOf ByteArray.empty x7 x10)).bind fun t210 => ((folkmootref03_Has.f k x1 (rdOf ByteArray.empty x7 x10)).bind fun t212 => (if t210 = true then (folkmootref03_set.j1 k x0 x1 x2 x7 x8 x9 x10 t210 t212 true) else (folkmootref03_set.j1 k x0 x1 x2 x7 x8 x9 x10 t210 t212 t212)))) else (none)) else (some x8)
def folkmootref03_set.j1 : Nat → List (S35) → List (S35) → Int → List ByteArray → List (S35) → Bool → Int → Bool → Bool → Bool → Option ((List (S35)))
  | 0, _, _, _, _, _, _, _, _, _, _ => none
  | k + 1, x0, x1, x2, x7, x8, x9, x10, x11, x12, x13 => if x2 = 1 then (if x11 = true then (folkmootref03_set.j2 k x0 x1 x2 x7 x8 x9 x10 x11 x12 x12) else (folkmootref03_set.j2 k x0 x1 x2 x7 x8 x9 x10 x11 x12 false)) else (folkmootref03_set.j2 k x0 x1 x2 x7 x8 x9 x10 x11 x12 x13)
def folkmootref03_set.j2 : Nat → List (S35) → List (S35) → Int → List ByteArray → List (S35) → Bool → Int → Bool → Bool → Bool → Option ((List (S35)))
  | 0, _, _, _, _, _, _, _, _, _, _ => none
  | k + 1, x0, x1, x2, x7, x8, x9, x10, x11, x12, x13 => if x2 = 2 then (if x11 = true then (folkmootref03_set.j3 k x0 x1 x2 x7 x8 x9 x10 (!x12)) else (folkmootref03_set.j3 k x0 x1 x2 x7 x8 x9 x10 false)) else (folkmootref03_set.j3 k x0 x1 x2 x7 x8 x9 x10 x13)
def folkmootref03_set.j3 : Nat → List (S35) → List (S35) → Int → List ByteArray → List (S35) → Bool → Int → Bool → Option ((List (S35)))
  | 0, _, _, _, _, _, _, _, _ => none
  | k + 1, x0, x1, x2, x7, x8, x9, x10, x13 => if x13 = true then (folkmootref03_set.j4 k x0 x1 x2 x7 x8 x9 x10 x13 (!x9)) else (folkmootref03_set.j4 k x0 x1 x2 x7 x8 x9 x10 x13 false)
def folkmootref03_set.j4 : Nat → List (S35) → List (S35) → Int → List ByteArray → List (S35) → Bool → Int → Bool → Bool → Option ((List (S35)))
  | 0, _, _, _, _, _, _, _, _, _ => none
  | k + 1, x0, x1, x2, x7, x8, x9, x10, x13, x59 => if x59 = true then (if 0 ≤ x10 then (if x10 < (x7.length : Int) then (if x8.length < 4398046511104 then ((some (x8 ++ [(⟨rdOf ByteArray.empty x7 x10, (⟨#[]⟩ : ByteArray)⟩ : S35)] : List (S35))).bind fun y214 => (if x13 = true then (folkmootref03_set.l0 k x0 x1 x2 x7 y214 x13 (wrap64 (x10 + 1))) else (if x9 = true then (if 0 ≤ (wrap64 ((y214.length : Int) - 1)) then (if (wrap64 ((y214.length : Int) - 1)) < (y214.length : Int) then (folkmootref03_set.l0 k x0 x1 x2 x7 (y214.set ((wrap64 ((y214.length : Int) - 1)) : Int).toNat (⟨(rd_T35 y214 (wrap64 ((y214.length : Int) - 1))).f0, rdOf ByteArray.empty x7 x10⟩ : S35)) x13 (wrap64 (x10 + 1))) else (none)) else (none)) else (folkmootref03_set.l0 k x0 x1 x2 x7 y214 x13 (wrap64 (x10 + 1)))))) else (none)) else (none)) else (none)) else (if x13 = true then (folkmootref03_set.l0 k x0 x1 x2 x7 x8 x13 (wrap64 (x10 + 1))) else (if x9 = true then (if 0 ≤ x10 then (if x10 < (x7.length : Int) then (if 0 ≤ (wrap64 ((x8.length : Int) - 1)) then (if (wrap64 ((x8.length : Int) - 1)) < (x8.length : Int) then (folkmootref03_set.l0 k x0 x1 x2 x7 (x8.set ((wrap64 ((x8.length : Int) - 1)) : Int).toNat (⟨(rd_T35 x8 (wrap64 ((x8.length : Int) - 1))).f0, rdOf ByteArray.empty x7 x10⟩ : S35)) x13 (wrap64 (x10 + 1))) else (none)) else (none)) else (none)) else (none)) else (folkmootref03_set.l0 k x0 x1 x2 x7 x8 x13 (wrap64 (x10 + 1)))))
end
def folkmootref03_set.f (k : Nat) (l0 : List (S35)) (l1 : List (S35)) (a2 : Int) : Option ((List (S35))) := (some (([] : List (S35)) : List (S35))).bind fun y197 => (if y197.length + l0.length < 4398046511104 then ((some (y197 ++ l0 : List (S35))).bind fun y200 => (if y200.length + l1.length < 4398046511104 then ((folkmootref03_marks.f (y200 ++ l1)).bind fun t206 => (folkmootref03_set.l0 k l0 l1 a2 t206 ([] : List (S35)) false 0)) else (none))) else (none))
theorem folkmootref03_set.mono_l : ∀ k, (∀ y0 y1 y2 y3 y4 y5 y6, LeO (folkmootref03_set.l0 k y0 y1 y2 y3 y4 y5 y6) (folkmootref03_set.l0 (k + 1) y0 y1 y2 y3 y4 y5 y6)) ∧ (∀ y0 y1 y2 y3 y4 y5 y6 y7 y8 y9, LeO (folkmootref03_set.j1 k y0 y1 y2 y3 y4 y5 y6 y7 y8 y9) (folkmootref03_set.j1 (k + 1) y0 y1 y2 y3 y4 y5 y6 y7 y8 y9)) ∧ (∀ y0 y1 y2 y3 y4 y5 y6 y7 y8 y9, LeO (folkmootref03_set.j2 k y0 y1 y2 y3 y4 y5 y6 y7 y8 y9) (folkmootref03_set.j2 (k + 1) y0 y1 y2 y3 y4 y5 y6 y7 y8 y9)) ∧ (∀ y0 y1 y2 y3 y4 y5 y6 y7, LeO (folkmootref03_set.j3 k y0 y1 y2 y3 y4 y5 y6 y7) (folkmootref03_set.j3 (k + 1) y0 y1 y2 y3 y4 y5 y6 y7)) ∧ (∀ y0 y1 y2 y3 y4 y5 y6 y7 y8, LeO (folkmootref03_set.j4 k y0 y1 y2 y3 y4 y5 y6 y7 y8) (folkmootref03_set.j4 (k + 1) y0 y1 y2 y3 y4 y5 y6 y7 y8))
  | 0 => ⟨fun _ _ _ _ _ _ _ r h => by simp [folkmootref03_set.l0] at h, fun _ _ _ _ _ _ _ _ _ _ r h => by simp [folkmootref03_set.j1] at h, fun _ _ _ _ _ _ _ _ _ _ r h => by simp [folkmootref03_set.j2] at h, fun _ _ _ _ _ _ _ _ r h => by simp [folkmootref03_set.j3] at h, fun _ _ _ _ _ _ _ _ _ r h => by simp [folkmootref03_set.j4] at h⟩
  | k + 1 => by
    obtain ⟨ih0, ih1, ih2, ih3, ih4⟩ := folkmootref03_set.mono_l k
    refine ⟨?_, ?_, ?_, ?_, ?_⟩
    · intro y0 y1 y2 y3 y4 y5 y6
      unfold folkmootref03_set.l0
      repeat' first
      | (with_reducible exact ih0 _ _ _ _ _ _ _)
      | (with_reducible exact ih1 _ _ _ _ _ _ _ _ _ _)
      | (with_reducible exact ih2 _ _ _ _ _ _ _ _ _ _)
      | (with_reducible exact ih3 _ _ _ _ _ _ _ _)
      | (with_reducible exact ih4 _ _ _ _ _ _ _ _ _)
      | (with_reducible exact folkmootref03_Has.mono _ _ _)
      | (with_reducible exact LeO.refl _)
      | (with_reducible exact LeO.none _)
      | (with_reducible refine LeO.ite ?_ ?_)
      | (with_reducible refine LeO.bind ?_ (fun _ => ?_))
      | exact ih0 _ _ _ _ _ _ _
      | exact ih1 _ _ _ _ _ _ _ _ _ _
      | exact ih2 _ _ _ _ _ _ _ _ _ _
      | exact ih3 _ _ _ _ _ _ _ _
      | exact ih4 _ _ _ _ _ _ _ _ _
      | exact folkmootref03_Has.mono _ _ _
      | exact LeO.none _
      | refine LeO.ite ?_ ?_
      | refine LeO.bind ?_ (fun _ => ?_)
    · intro y0 y1 y2 y3 y4 y5 y6 y7 y8 y9
      unfold folkmootref03_set.j1
      repeat' first
      | (with_reducible exact ih0 _ _ _ _ _ _ _)
      | (with_reducible exact ih1 _ _ _ _ _ _ _ _ _ _)
      | (with_reducible exact ih2 _ _ _ _ _ _ _ _ _ _)
      | (with_reducible exact ih3 _ _ _ _ _ _ _ _)
      | (with_reducible exact ih4 _ _ _ _ _ _ _ _ _)
      | (with_reducible exact folkmootref03_Has.mono _ _ _)
      | (with_reducible exact LeO.refl _)
      | (with_reducible exact LeO.none _)
      | (with_reducible refine LeO.ite ?_ ?_)
      | (with_reducible refine LeO.bind ?_ (fun _ => ?_))
      | exact ih0 _ _ _ _ _ _ _
      | exact ih1 _ _ _ _ _ _ _ _ _ _
      | exact ih2 _ _ _ _ _ _ _ _ _ _
      | exact ih3 _ _ _ _ _ _ _ _
      | exact ih4 _ _ _ _ _ _ _ _ _
      | exact folkmootref03_Has.mono _ _ _
      | exact LeO.none _
      | refine LeO.ite ?_ ?_
      | refine LeO.bind ?_ (fun _ => ?_)
    · intro y0 y1 y2 y3 y4 y5 y6 y7 y8 y9
      unfold folkmootref03_set.j2
      repeat' first
      | (with_reducible exact ih0 _ _ _ _ _ _ _)
      | (with_reducible exact ih1 _ _ _ _ _ _ _ _ _ _)
      | (with_reducible exact ih2 _ _ _ _ _ _ _ _ _ _)
      | (with_reducible exact ih3 _ _ _ _ _ _ _ _)
      | (with_reducible exact ih4 _ _ _ _ _ _ _ _ _)
      | (with_reducible exact folkmootref03_Has.mono _ _ _)
      | (with_reducible exact LeO.refl _)
      | (with_reducible exact LeO.none _)
      | (with_reducible refine LeO.ite ?_ ?_)
      | (with_reducible refine LeO.bind ?_ (fun _ => ?_))
      | exact ih0 _ _ _ _ _ _ _
      | exact ih1 _ _ _ _ _ _ _ _ _ _
      | exact ih2 _ _ _ _ _ _ _ _ _ _
      | exact ih3 _ _ _ _ _ _ _ _
      | exact ih4 _ _ _ _ _ _ _ _ _
      | exact folkmootref03_Has.mono _ _ _
      | exact LeO.none _
      | refine LeO.ite ?_ ?_
      | refine LeO.bind ?_ (fun _ => ?_)
    · intro y0 y1 y2 y3 y4 y5 y6 y7
      unfold folkmootref03_set.j3
      repeat' first
      | (with_reducible exact ih0 _ _ _ _ _ _ _)
      | (with_reducible exact ih1 _ _ _ _ _ _ _ _ _ _)
      | (with_reducible exact ih2 _ _ _ _ _ _ _ _ _ _)
      | (with_reducible exact ih3 _ _ _ _ _ _ _ _)
      | (with_reducible exact ih4 _ _ _ _ _ _ _ _ _)
      | (with_reducible exact folkmootref03_Has.mono _ _ _)
      | (with_reducible exact LeO.refl _)
      | (with_reducible exact LeO.none _)
      | (with_reducible refine LeO.ite ?_ ?_)
      | (with_reducible refine LeO.bind ?_ (fun _ => ?_))
      | exact ih0 _ _ _ _ _ _ _
      | exact ih1 _ _ _ _ _ _ _ _ _ _
      | exact ih2 _ _ _ _ _ _ _ _ _ _
      | exact ih3 _ _ _ _ _ _ _ _
      | exact ih4 _ _ _ _ _ _ _ _ _
      | exact folkmootref03_Has.mono _ _ _
      | exact LeO.none _
      | refine LeO.ite ?_ ?_
      | refine LeO.bind ?_ (fun _ => ?_)
    · intro y0 y1 y2 y3 y4 y5 y6 y7 y8
      unfold folkmootref03_set.j4
      repeat' first
      | (with_reducible exact ih0 _ _ _ _ _ _ _)
      | (with_reducible exact ih1 _ _ _ _ _ _ _ _ _ _)
      | (with_reducible exact ih2 _ _ _ _ _ _ _ _ _ _)
      | (with_reducible exact ih3 _ _ _ _ _ _ _ _)
      | (with_reducible exact ih4 _ _ _ _ _ _ _ _ _)
      | (with_reducible exact folkmootref03_Has.mono _ _ _)
      | (with_reducible exact LeO.refl _)
      | (with_reducible exact LeO.none _)
      | (with_reducible refine LeO.ite ?_ ?_)
      | (with_reducible refine LeO.bind ?_ (fun _ => ?_))
      | exact ih0 _ _ _ _ _ _ _
      | exact ih1 _ _ _ _ _ _ _ _ _ _
      | exact ih2 _ _ _ _ _ _ _ _ _ _
      | exact ih3 _ _ _ _ _ _ _ _
      | exact ih4 _ _ _ _ _ _ _ _ _
      | exact folkmootref03_Has.mono _ _ _
      | exact LeO.none _
      | refine LeO.ite ?_ ?_
      | refine LeO.bind ?_ (fun _ => ?_)
theorem folkmootref03_set.mono : ∀ a0 a1 a2 k, LeO (folkmootref03_set.f k a0 a1 a2) (folkmootref03_set.f (k + 1) a0 a1 a2) := by
  intro a0 a1 a2 k
  obtain ⟨ih0, ih1, ih2, ih3, ih4⟩ := folkmootref03_set.mono_l k
  unfold folkmootref03_set.f
  repeat' first
      | (with_reducible exact ih0 _ _ _ _ _ _ _)
      | (with_reducible exact ih1 _ _ _ _ _ _ _ _ _ _)
      | (with_reducible exact ih2 _ _ _ _ _ _ _ _ _ _)
      | (with_reducible exact ih3 _ _ _ _ _ _ _ _)
      | (with_reducible exact ih4 _ _ _ _ _ _ _ _ _)
      | (with_reducible exact folkmootref03_Has.mono _ _ _)
      | (with_reducible exact LeO.refl _)
      | (with_reducible exact LeO.none _)
      | (with_reducible refine LeO.ite ?_ ?_)
      | (with_reducible refine LeO.bind ?_ (fun _ => ?_))
      | exact ih0 _ _ _ _ _ _ _
      | exact ih1 _ _ _ _ _ _ _ _ _ _
      | exact ih2 _ _ _ _ _ _ _ _ _ _
      | exact ih3 _ _ _ _ _ _ _ _
      | exact ih4 _ _ _ _ _ _ _ _ _
      | exact folkmootref03_Has.mono _ _ _
      | exact LeO.none _
      | refine LeO.ite ?_ ?_
      | refine LeO.bind ?_ (fun _ => ?_)
def folkmootref03_set.T7 : Bool × List (List Nat × List Nat) := (true, [([], []), ([], []), ([], []), ([1, 2], [1, 2]), ([3], [3]), ([0, 4], [0, 4]), ([], []), ([], []), ([], []), ([7, 8], [7, 8]), ([9], [9]), ([6, 10, 5], [6, 10]), ([5, 11, 0, 1, 2, 3, 4, 5], [5]), ([11, 12, 0, 1, 2, 3, 4, 5, 6, 7, 8, 9, 10, 11, 12], [11])])
def folkmootref03_set.B7 : List Nat := [0, 0, 0, 6, 14, 31, 0, 0, 0, 384, 896, 2047, 4095, 8191]
theorem folkmootref03_set.tab7 : rtab .any (opsOf Try.f39 7) = folkmootref03_set.T7 := by kernel_rfl
theorem folkmootref03_set.bits7 : waitsOk folkmootref03_set.T7.2 folkmootref03_set.B7 = true := by kernel_rfl
set_option maxHeartbeats 8000000 in
set_option maxRecDepth 100000 in
theorem folkmootref03_set.calls (k : Nat) (A0 : Option Addr) (c0 : Nat) (l0 : List (S35)) (A1 : Option Addr) (c1 : Nat) (l1 : List (S35)) (a2 : Int) (r : List (S35)) (w : World) (hr0 : Kd.C k35 w A0 l0.length l0) (hc0 : l0.length ≤ c0) (hr1 : Kd.C k35 w A1 l1.length l1) (hc1 : l1.length ≤ c1) (h : folkmootref03_set.f k l0 l1 a2 = some r) :
    Calls Try.prog 39 #[.slice A0 l0.length c0, .slice A1 l1.length c1, .int .i64 a2] w fun e w' => ∃ v0_ : Value, e = .returned (v0_) ∧ Kd.R k35 35 w' w.heap.size (fun _ => True) v0_ r ∧ Below w.heap.size w w' := by
  have hu35 := Try.underlying35
  have HR0 := Aside0.mk hr0
  have HC0 := Aside0.mk hc0
  clear hr0 hc0
  have HR1 := Aside0.mk hr1
  have HC1 := Aside0.mk hc1
  clear hr1 hc1
  have HB := Aside0.mk (Below.refl w.heap.size w)
  have H : ((some (([] : List (S35)) : List (S35))).bind fun y197 => (if y197.length + l0.length < 4398046511104 then ((some (y197 ++ l0 : List (S35))).bind fun y200 => (if y200.length + l1.length < 4398046511104 then ((folkmootref03_marks.f (y200 ++ l1)).bind fun t206 => (folkmootref03_set.l0 k l0 l1 a2 t206 ([] : List (S35)) false 0)) else (none))) else (none))) = some r := h
  clear h
  obtain ⟨y197, hy197⟩ : ∃ y_ : List (S35), y_ = (([] : List (S35))) := ⟨_, rfl⟩
  replace H : (if y197.length + l0.length < 4398046511104 then ((some (y197 ++ l0 : List (S35))).bind fun y200 => (if y200.length + l1.length < 4398046511104 then ((folkmootref03_marks.f (y200 ++ l1)).bind fun t206 => (folkmootref03_set.l0 k l0 l1 a2 t206 ([] : List (S35)) false 0)) else (none))) else (none)) = some r := by first | (rw [hy197]; with_reducible exact H) | (have H2_ := (Option.bind_some _ _).symm.trans H; rw [hy197]; with_reducible exact H2_) | (have H2_ := (Option.bind_some _ _).symm.trans H; with_reducible exact H2_) | with_reducible exact H | (rw [hy197]; exact H) | exact H
  have Ny197 := Aside0.mk hy197
  clear hy197
  by_cases c4 : y197.length + l0.length < 4398046511104
  · rw [if_pos c4] at H
    have LMc4 := Aside0.mk c4
    clear c4
    obtain ⟨y200, hy200⟩ : ∃ y_ : List (S35), y_ = (y197 ++ l0) := ⟨_, rfl⟩
    replace H : (if y200.length + l1.length < 4398046511104 then ((folkmootref03_marks.f (y200 ++ l1)).bind fun t206 => (folkmootref03_set.l0 k l0 l1 a2 t206 ([] : List (S35)) false 0)) else (none)) = some r := by first | (rw [hy200]; with_reducible exact H) | (have H2_ := (Option.bind_some _ _).symm.trans H; rw [hy200]; with_reducible exact H2_) | (have H2_ := (Option.bind_some _ _).symm.trans H; with_reducible exact H2_) | with_reducible exact H | (rw [hy200]; exact H) | exact H
    have Ny200 := Aside0.mk hy200
    clear hy200
    by_cases c5 : y200.length + l1.length < 4398046511104
    · rw [if_pos c5] at H
      have LMc5 := Aside0.mk c5
      clear c5
      obtain ⟨y203, hy203⟩ : ∃ y_ : List (S35), y_ = (y200 ++ l1) := ⟨_, rfl⟩
      replace H : ((folkmootref03_marks.f y203).bind fun t206 => (folkmootref03_set.l0 k l0 l1 a2 t206 ([] : List (S35)) false 0)) = some r := by first | (rw [hy203]; with_reducible exact H) | (have H2_ := (Option.bind_some _ _).symm.trans H; rw [hy203]; with_reducible exact H2_) | (have H2_ := (Option.bind_some _ _).symm.trans H; with_reducible exact H2_) | with_reducible exact H | (rw [hy203]; exact H) | exact H
      have Ny203 := Aside0.mk hy203
      clear hy203
      replace H := Option.bind_eq_some_iff.mp H
      obtain ⟨t206, A60, H⟩ := H
      replace H : (folkmootref03_set.l0 k l0 l1 a2 t206 ([] : List (S35)) false 0) = some r := H
      have A6 := Aside0.mk A60
      clear A60
      have H' := Aside0.mk H
      clear H
      go_enter Try.func39, Try.ntmps39
      go_wp2_with (first | ((with_reducible refine gate_dst (N := 14) rfl ?_); refine Kd.R_lit k35 _ 35 ?hg (N := 14) ?hd (xs := ([] : List (S35))) (inner := []) (ok := fun _ => True) (okp := fun _ => True) ?hr ?hp (fun _ hk => hk) trivial (Below.refl _ _) (Nat.le_refl _) (by simp) ?_; (case hd => rfl); (case hg => rfl); (case hr => first | (go_simp; done) | (go_simp; rfl)); (case hp => exact (Reps.none _ _)); intro v198 w7 ho8 hb hg_ hnew_; clear hg_ hnew_; (first | rw [← Ny197.out] at ho8 | (simp only [Int.reduceToNat] at ho8; rw [← Ny197.out] at ho8)); have HO199 := lR ho8 HB; replace HB := sB HB hb; clear hb ho8) | ((with_reducible refine gate_builtin (b := .append) (xs := #[.tmp 14, .tmp 15]) rfl ?_); at_builtin; refine Kd.R_append_rows k35 (w0 := w) w.heap.size rfl (.tmp 14) (.tmp 15) 30 35 (.agg #[(.string ⟨#[]⟩), (.string ⟨#[]⟩)]) 32 rfl Try.underlying30 info35 rfl (by decide) (by omega) v198 y197 l0 _ _ _ (fun _ => True) (fun _ => False) rfl rfl ?aO ?aR (fun _ _ h => h) (fun _ h => h.elim) ?aF ?aB ?aS ?aL ?_; (case aR => exact uC (Kd.C_below HR0.out HB.out)); (case aB => exact (uB HB)); (case aF => exact (fun _ _ => trivial)); (case aO => exact (uR HO199)); (case aS => exact (below_size (uB HB))); (case aL => have := LMc4.out; omega); intro v201 w9 ho hb hg hat; rw [← Ny200.out] at ho; have n0_ := Aside0.mk (hb); have n1_ := Aside0.mk (ho); clear HB; clear HO199; have HB := n0_; have HO202 := n1_; clear n0_ n1_; clear ho hb hg hat) | ((with_reducible refine gate_builtin (b := .append) (xs := #[.tmp 16, .tmp 17]) rfl ?_); at_builtin; refine Kd.R_append_rows k35 (w0 := w) w.heap.size rfl (.tmp 16) (.tmp 17) 30 35 (.agg #[(.string ⟨#[]⟩), (.string ⟨#[]⟩)]) 32 rfl Try.underlying30 info35 rfl (by decide) (by omega) v201 y200 l1 _ _ _ (fun _ => True) (fun _ => False) rfl rfl ?aO ?aR (fun _ _ h => h) (fun _ h => h.elim) ?aF ?aB ?aS ?aL ?_; (case aR => exact uC (Kd.C_below HR1.out HB.out)); (case aB => exact (uB HB)); (case aF => exact (fun _ _ => trivial)); (case aO => exact (uR HO202)); (case aS => exact (below_size (uB HB))); (case aL => have := LMc5.out; omega); intro v204 w10 ho hb hg hat; rw [← Ny203.out] at ho; have n0_ := Aside0.mk (hb); have n1_ := Aside0.mk (ho); clear HB; clear HO202; have HB := n0_; have HO205 := n1_; clear n0_ n1_; clear ho hb hg hat; obtain ⟨Ao11, co11, eo11⟩ := Kd.R_slice HO205.out; subst eo11) | ((with_reducible refine gate_callee (f := 55) rfl ?_); refine goesL_ (some 19) rfl rfl Try.func55 (by kernel_rfl) rfl #[.slice Ao11 y203.length co11] rfl (by (try simp only [List.map_toArray, List.map_cons, List.map_nil]); first | done | rfl | (simp only [List.length_drop, List.length_take]; rfl)) ?_; (with_reducible refine (folkmootref03_marks.calls _ _ y203 t206 _ ?side1 ?side2 A6.out).mono ?_); (case side1 => exact uC (Kd.R_reads' HO205.out).2.2); (case side2 => exact (Kd.R_reads' HO205.out).2.1); rintro e w12 ⟨v207, rfl, ho0, hb⟩; refine ⟨_, rfl, ?_⟩; replace HO205 := bR HO205 hb; have HO208 := lR ho0 HB; replace HB := sB HB hb; (try clear hb); (try clear hb2); (try clear hk); (try clear hi); (try clear ho0)))
      go_loopg [8, 9, 10] k (fun kq v8 v9 v10 w' => ∃ (x8_1 : List (S35)) (x9_1 : Bool) (x10_1 : Int), v9 = .bool x9_1 ∧ v10 = .int .i64 x10_1 ∧ Aside0 (folkmootref03_set.l0 kq l0 l1 a2 t206 x8_1 x9_1 x10_1 = some r) ∧ Aside0 (kq ≤ k) ∧ Aside0 (Kd.R Kd.string 9 w' w.heap.size (fun _ => True) v207 t206) ∧ Aside0 (Kd.R k35 35 w' w.heap.size (fun _ => True) v8 x8_1) ∧ Aside0 (Below w.heap.size w w'))
      case atStart => exact ⟨(([] : List (S35))), (false), (0), (by first | rfl | (simp; done) | (simp [*]; done)), (by first | rfl | (simp; done) | (simp [*]; done)), H', ⟨Nat.le_refl _⟩, ⟨by (with_reducible repeat (first | apply Kd.R_alloc | apply Kd.R_drewN | apply Kd.R_drew)); exact HO208.out⟩, ⟨by first | exact Kd.R_nil _ _ _ _ _ | exact Kd.N_nil _ _ _ _ _ | exact Kd.V_nil _ _ _ _ _ | exact Kd.Q_nil _ _ _ _ _ | exact Kd.S_nil _ _ _ _ _⟩, ⟨by repeat (first | (with_reducible first | exact HB.out | apply below_alloc | apply pw_below_drewN | apply below_drew1) | exact HB.out)⟩⟩
      case round =>
        clear H'
        try clear c1
        try clear p2
        try clear c3
        try clear c4
        try clear c5
        obtain ⟨x8_1, x9_1, x10_1, rfl, rfl, HA, HK1, HO_7, HO_8, HB⟩ := hrel
        cases gk with
        | zero => exact absurd HA.out (by simp [folkmootref03_set.l0])
        | succ k1 =>
          have H := HA.out
          clear HA
          simp only [folkmootref03_set.l0] at H
          by_cases c13 : x10_1 < (t206.length : Int)
          · rw [if_pos c13] at H
            have c13b0 : decide (x10_1 < (t206.length : Int)) = true := decide_eq_true c13
            clear c13
            by_cases c14 : 0 ≤ x10_1
            · rw [if_pos c14] at H
              have c14b0 : decide (0 ≤ x10_1) = true := decide_eq_true c14
              clear c14
              replace H := Option.bind_eq_some_iff.mp H
              obtain ⟨t210, A150, H⟩ := H
              replace H : ((folkmootref03_Has.f k1 l1 (rdOf ByteArray.empty t206 x10_1)).bind fun t212 => (if t210 = true then (folkmootref03_set.j1 k1 l0 l1 a2 t206 x8_1 x9_1 x10_1 t210 t212 true) else (folkmootref03_set.j1 k1 l0 l1 a2 t206 x8_1 x9_1 x10_1 t210 t212 t212))) = some r := H
              have A15 := Aside0.mk A150
              clear A150
              replace H := Option.bind_eq_some_iff.mp H
              obtain ⟨t212, A160, H⟩ := H
              replace H : (if t210 = true then (folkmootref03_set.j1 k1 l0 l1 a2 t206 x8_1 x9_1 x10_1 t210 t212 true) else (folkmootref03_set.j1 k1 l0 l1 a2 t206 x8_1 x9_1 x10_1 t210 t212 t212)) = some r := H
              have A16 := Aside0.mk A160
              clear A160
              have HC17 := Aside0.mk H
              clear H
              obtain ⟨Ao18, co18, eo18⟩ := Kd.R_slice HO_7.out
              subst eo18
              try go_wp2
              replace HO_7 := Aside0.mk (Kd.R_drew HO_7.out)
              replace HO_8 := Aside0.mk (Kd.R_drew HO_8.out)
              replace HB := Aside0.mk (below_drew1 HB.out)
              have p209 : 0 ≤ (x10_1 : Int) := of_decide_eq_true (by first | (with_reducible assumption) | assumption)
              have q209 : x10_1 < (t206.length : Int) := of_decide_eq_true (by first | (with_reducible assumption) | assumption)
              obtain ⟨ad209, e209, hx209_0⟩ := Kd.at_string (Kd.R_reads' HO_7.out).2.2 x10_1 p209 q209
              cases e209
              replace p209 := eq_true p209
              replace q209 := eq_true q209
              have p211 : 0 ≤ (x10_1 : Int) := of_decide_eq_true (by first | (with_reducible assumption) | assumption)
              have q211 : x10_1 < (t206.length : Int) := of_decide_eq_true (by first | (with_reducible assumption) | assumption)
              obtain ⟨ad211, e211, hx211_0⟩ := Kd.at_string (Kd.R_reads' HO_7.out).2.2 x10_1 p211 q211
              obtain rfl : ad209 = ad211 := (by injection e211)
              replace p211 := eq_true p211
              replace q211 := eq_true q211
              refine start_ (n := 14) (S := fun w' => w'.cell? (ad209.add (x10_1).toNat) = some (.string (rdOf ByteArray.empty t206 x10_1)) ∧ w'.cell? (ad209.add (x10_1).toNat) = some (.string (rdOf ByteArray.empty t206 x10_1))) (ds := []) #[false, false, false, false, false, false, false, false, false, false, false, false, false, false] (by kernel_rfl) rfl rfl ⟨hx209_0, hx211_0⟩ (fun hHeld => ?_); refine with_tabW folkmootref03_set.tab7 folkmootref03_set.bits7 (fun HT_ HW_ => ?_)
              generalize wr.drew = w19 at HO_7 HO_8 HB hx209_0 hx211_0 hHeld ⊢
              refine pure_ (i := 0) (N := some 26) (v := ?_) (a' := ?_) #[true, false, false, false, false, false, false, false, false, false, false, false, false, false] rfl rfl (any_of HT_.out (by kernel_rfl)) (fun _ _ _ h => h) (Or.inl ⟨by rfl, ?_⟩) ?_ ?_
              rotate_left
              · intro w'
                go_simp
                with_reducible rfl
              rotate_left
              · simp only [Act.put, List.setIfInBounds_toArray, List.set_cons_zero, List.set_cons_succ, i64_w, i32_w]
                rfl
              refine pure_ (i := 1) (N := some 27) (v := ?_) (a' := ?_) #[true, true, false, false, false, false, false, false, false, false, false, false, false, false] rfl rfl (any_of HT_.out (by kernel_rfl)) (fun _ _ _ h => h) (Or.inl ⟨by rfl, ?_⟩) ?_ ?_
              rotate_left
              · intro w'
                go_simp
                with_reducible rfl
              rotate_left
              · simp only [Act.put, List.setIfInBounds_toArray, List.set_cons_zero, List.set_cons_succ, i64_w, i32_w]
                rfl
              refine pure_ (i := 2) (N := some 28) (v := ?_) (a' := ?_) #[true, true, true, false, false, false, false, false, false, false, false, false, false, false] rfl rfl (any_of HT_.out (by kernel_rfl)) (fun _ _ _ h => h) (Or.inl ⟨by rfl, ?_⟩) ?_ ?_
              rotate_left
              · intro w'
                go_simp
                with_reducible rfl
              rotate_left
              · simp only [Act.put, List.setIfInBounds_toArray, List.set_cons_zero, List.set_cons_succ, i64_w, i32_w]
                rfl
              refine pure_ (i := 3) (N := some 29) (v := ?_) (a' := ?_) #[true, true, true, true, false, false, false, false, false, false, false, false, false, false] rfl rfl (any_of HT_.out (by kernel_rfl)) (fun _ _ _ h => h) (Or.inl ⟨by rfl, ?_⟩) ?_ ?_
              rotate_left
              · intro w'
                go_simp
                with_reducible rfl
              rotate_left
              · simp only [Act.put, List.setIfInBounds_toArray, List.set_cons_zero, List.set_cons_succ, i64_w, i32_w]
                rfl
              refine pure_ (i := 6) (N := some 32) (v := ?_) (a' := ?_) #[true, true, true, true, false, false, true, false, false, false, false, false, false, false] rfl rfl (any_of HT_.out (by kernel_rfl)) (fun _ _ _ h => h) (Or.inl ⟨by rfl, ?_⟩) ?_ ?_
              rotate_left
              · intro w'
                go_simp
                with_reducible rfl
              rotate_left
              · simp only [Act.put, List.setIfInBounds_toArray, List.set_cons_zero, List.set_cons_succ, i64_w, i32_w]
                rfl
              refine pure_ (i := 7) (N := some 33) (v := ?_) (a' := ?_) #[true, true, true, true, false, false, true, true, false, false, false, false, false, false] rfl rfl (any_of HT_.out (by kernel_rfl)) (fun _ _ _ h => h) (Or.inl ⟨by rfl, ?_⟩) ?_ ?_
              rotate_left
              · intro w'
                go_simp
                with_reducible rfl
              rotate_left
              · simp only [Act.put, List.setIfInBounds_toArray, List.set_cons_zero, List.set_cons_succ, i64_w, i32_w]
                rfl
              refine pure_ (i := 8) (N := some 34) (v := ?_) (a' := ?_) #[true, true, true, true, false, false, true, true, true, false, false, false, false, false] rfl rfl (any_of HT_.out (by kernel_rfl)) (fun _ _ _ h => h) (Or.inl ⟨by rfl, ?_⟩) ?_ ?_
              rotate_left
              · intro w'
                go_simp
                with_reducible rfl
              rotate_left
              · simp only [Act.put, List.setIfInBounds_toArray, List.set_cons_zero, List.set_cons_succ, i64_w, i32_w]
                rfl
              refine pure_ (i := 9) (N := some 35) (v := ?_) (a' := ?_) #[true, true, true, true, false, false, true, true, true, true, false, false, false, false] rfl rfl (any_of HT_.out (by kernel_rfl)) (fun _ _ _ h => h) (Or.inl ⟨by rfl, ?_⟩) ?_ ?_
              rotate_left
              · intro w'
                go_simp
                with_reducible rfl
              rotate_left
              · simp only [Act.put, List.setIfInBounds_toArray, List.set_cons_zero, List.set_cons_succ, i64_w, i32_w]
                rfl
              refine take_ (i := 4) (N := some 30) (v := ?_) (a' := ?_) #[true, true, true, true, true, false, true, true, true, true, false, false, false, false] rfl rfl (take_ofW HT_.out HW_.out (by kernel_rfl)) (fun _ _ _ h => h) (Or.inl ⟨by rfl, ?_⟩) hHeld ?_ ?_
              rotate_left
              · rintro w' ⟨s0, s1⟩
                go_simp
                with_reducible rfl
              rotate_left
              · simp only [Act.put, List.setIfInBounds_toArray, List.set_cons_zero, List.set_cons_succ, i64_w, i32_w]
                rfl
              refine take_ (i := 10) (N := some 36) (v := ?_) (a' := ?_) #[true, true, true, true, true, false, true, true, true, true, true, false, false, false] rfl rfl (take_ofW HT_.out HW_.out (by kernel_rfl)) (fun _ _ _ h => h) (Or.inl ⟨by rfl, ?_⟩) hHeld ?_ ?_
              rotate_left
              · rintro w' ⟨s0, s1⟩
                go_simp
                with_reducible rfl
              rotate_left
              · simp only [Act.put, List.setIfInBounds_toArray, List.set_cons_zero, List.set_cons_succ, i64_w, i32_w]
                rfl
              refine one_ (i := 5) (N := some 31) #[true, true, true, true, true, true, true, true, true, true, true, false, false, false] rfl rfl (one_of HT_.out (by kernel_rfl)) (by decide) (fun K hK => ?_)
              refine goes_ Try.func30 (by kernel_rfl) rfl #[.slice A0 l0.length c0, .string (rdOf ByteArray.empty t206 x10_1)] (by rfl) rfl rfl (by (try simp only [List.map_toArray, List.map_cons, List.map_nil]); first | done | rfl | (simp only [List.length_drop, List.length_take]; rfl)) ?_
              with_reducible refine (folkmootref03_Has.calls k1 _ _ l0 (rdOf ByteArray.empty t206 x10_1) t210 _ ?side1 ?side2 A15.out).mono ?_
              (case side1 => exact uC (Kd.C_below HR0.out HB.out))
              (case side2 => exact HC0.out)
              rintro e w20 ⟨rfl, hb⟩
              have HS0_ := (hb.cell (World.block_lt_of_cell? _ _ (hHeld.1))).trans (hHeld.1)
              have HS1_ := (hb.cell (World.block_lt_of_cell? _ _ (hHeld.2))).trans (hHeld.2)
              refine ⟨_, rfl, ?_⟩
              replace HO_7 := bR HO_7 hb
              replace HO_8 := bR HO_8 hb
              replace HB := sB HB hb
              (try clear hb)
              (try clear hb2)
              (try clear hk)
              (try clear hi)
              refine hK.out _ _ ⟨HS0_, HS1_⟩ (fun hHeld => ?_)
              clear hK K
              refine norm_ (a' := ?_) ?_ ?_
              rotate_left
              · show Act.put _ (some 31) _ = _
                simp only [Act.put, List.setIfInBounds_toArray, List.set_cons_zero, List.set_cons_succ, i64_w, i32_w]
                rfl
              refine one_ (i := 11) (N := some 37) #[true, true, true, true, true, true, true, true, true, true, true, true, false, false] rfl rfl (one_of HT_.out (by kernel_rfl)) (by decide) (fun K hK => ?_)
              refine goes_ Try.func30 (by kernel_rfl) rfl #[.slice A1 l1.length c1, .string (rdOf ByteArray.empty t206 x10_1)] (by rfl) rfl rfl (by (try simp only [List.map_toArray, List.map_cons, List.map_nil]); first | done | rfl | (simp only [List.length_drop, List.length_take]; rfl)) ?_
              with_reducible refine (folkmootref03_Has.calls k1 _ _ l1 (rdOf ByteArray.empty t206 x10_1) t212 _ ?side1 ?side2 A16.out).mono ?_
              (case side1 => exact uC (Kd.C_below HR1.out HB.out))
              (case side2 => exact HC1.out)
              rintro e w21 ⟨rfl, hb⟩
              have HS0_ := (hb.cell (World.block_lt_of_cell? _ _ (hHeld.1))).trans (hHeld.1)
              have HS1_ := (hb.cell (World.block_lt_of_cell? _ _ (hHeld.2))).trans (hHeld.2)
              refine ⟨_, rfl, ?_⟩
              replace HO_7 := bR HO_7 hb
              replace HO_8 := bR HO_8 hb
              replace HB := sB HB hb
              (try clear hb)
              (try clear hb2)
              (try clear hk)
              (try clear hi)
              refine hK.out _ _ ⟨HS0_, HS1_⟩ (fun hHeld => ?_)
              clear hK K
              refine norm_ (a' := ?_) ?_ ?_
              rotate_left
              · show Act.put _ (some 37) _ = _
                simp only [Act.put, List.setIfInBounds_toArray, List.set_cons_zero, List.set_cons_succ, i64_w, i32_w]
                rfl
              refine pure_ (i := 12) (N := some 11) (v := ?_) (a' := ?_) #[true, true, true, true, true, true, true, true, true, true, true, true, true, false] rfl rfl (any_of HT_.out (by kernel_rfl)) (fun _ _ _ h => h) (Or.inl ⟨by rfl, ?_⟩) ?_ ?_
              rotate_left
              · intro w'
                go_simp
                with_reducible rfl
              rotate_left
              · simp only [Act.put, List.setIfInBounds_toArray, List.set_cons_zero, List.set_cons_succ, i64_w, i32_w]
                rfl
              refine pure_ (i := 13) (N := some 12) (v := ?_) (a' := ?_) #[true, true, true, true, true, true, true, true, true, true, true, true, true, true] rfl rfl (any_of HT_.out (by kernel_rfl)) (fun _ _ _ h => h) (Or.inl ⟨by rfl, ?_⟩) ?_ ?_
              rotate_left
              · intro w'
                go_simp
                with_reducible rfl
              rotate_left
              · simp only [Act.put, List.setIfInBounds_toArray, List.set_cons_zero, List.set_cons_succ, i64_w, i32_w]
                rfl
              refine done_ (done_of HT_.out (by kernel_rfl)) ?_
              go_upto_region 8 with (fail)
              go_cut [13] (fun v13 wc => ∃ (kq : Nat) (x13_16 : Bool), v13 = .bool x13_16 ∧ Aside0 (folkmootref03_set.j1 kq l0 l1 a2 t206 x8_1 x9_1 x10_1 t210 t212 x13_16 = some r) ∧ Aside0 (kq ≤ k1) ∧ Aside0 (Kd.R Kd.string 9 wc w.heap.size (fun _ => True) (.slice (some ad209) t206.length co18) t206) ∧ Aside0 (Kd.R k35 35 wc w.heap.size (fun _ => True) u8 x8_1) ∧ Aside0 (Below w.heap.size w wc))
              case first =>
                have H := HC17.out
                clear HC17
                by_cases c22 : t210 = true
                · subst c22
                  have H1 : (folkmootref03_set.j1 k1 l0 l1 a2 t206 x8_1 x9_1 x10_1 true t212 true) = some r := by rw [if_pos rfl] at H; exact H
                  clear H
                  have H := H1
                  clear H1
                  have H' := Aside0.mk H
                  clear H
                  go_wp2
                  go_meet
                  case rel => exact ⟨_, (true), (by first | rfl | (simp; done) | (simp [*]; done)), H', ⟨by have := HK1.out; first | omega | exact Nat.le_refl _⟩, ⟨by (with_reducible repeat (first | apply Kd.R_alloc | apply Kd.R_drewN | apply Kd.R_drew)); exact HO_7.out⟩, ⟨by (with_reducible repeat (first | apply Kd.R_alloc | apply Kd.R_drewN | apply Kd.R_drew)); exact HO_8.out⟩, ⟨by repeat (first | (with_reducible first | exact HB.out | apply below_alloc | apply pw_below_drewN | apply below_drew1) | exact HB.out)⟩⟩
                · replace c22 := Bool.eq_false_iff.mpr c22
                  subst c22
                  have H1 : (folkmootref03_set.j1 k1 l0 l1 a2 t206 x8_1 x9_1 x10_1 false t212 t212) = some r := by rw [if_neg (show ¬ (false = true) by decide)] at H; exact H
                  clear H
                  have H := H1
                  clear H1
                  have H' := Aside0.mk H
                  clear H
                  go_wp2
                  go_meet
                  case rel => exact ⟨_, (t212), (by first | rfl | (simp; done) | (simp [*]; done)), H', ⟨by have := HK1.out; first | omega | exact Nat.le_refl _⟩, ⟨by (with_reducible repeat (first | apply Kd.R_alloc | apply Kd.R_drewN | apply Kd.R_drew)); exact HO_7.out⟩, ⟨by (with_reducible repeat (first | apply Kd.R_alloc | apply Kd.R_drewN | apply Kd.R_drew)); exact HO_8.out⟩, ⟨by repeat (first | (with_reducible first | exact HB.out | apply below_alloc | apply pw_below_drewN | apply below_drew1) | exact HB.out)⟩⟩
              case rest =>
                clear HC17
                try clear c1
                try clear c2
                try clear p2
                try clear q2
                try clear hx2
                try clear c3
                try clear c4
                try clear c5
                try clear c13
                try clear c13b0
                try clear c14
                try clear c14b0
                try clear p20
                try clear q20
                try clear hx20
                try clear p21
                try clear q21
                try clear hx21
                try clear c22
                try clear hx209_0
                try clear hx211_0
                try clear p2
                try clear p209
                try clear p211
                try clear q209
                try clear q211
                obtain ⟨kq, x13_16, rfl, HA, HJ16, HO_7, HO_8, HB⟩ := hcut
                cases kq with
                | zero => exact absurd HA.out (by simp [folkmootref03_set.j1])
                | succ kj16 =>
                  have H := HA.out
                  clear HA
                  simp only [folkmootref03_set.j1] at H
                  have HC23 := Aside0.mk H
                  clear H
                  go_upto_if 43 with (fail)
                  go_cut [13] (fun v13 wc => ∃ (kq : Nat) (x13_22 : Bool), v13 = .bool x13_22 ∧ Aside0 (folkmootref03_set.j2 kq l0 l1 a2 t206 x8_1 x9_1 x10_1 t210 t212 x13_22 = some r) ∧ Aside0 (kq ≤ kj16) ∧ Aside0 (Kd.R Kd.string 9 wc w.heap.size (fun _ => True) (.slice (some ad209) t206.length co18) t206) ∧ Aside0 (Kd.R k35 35 wc w.heap.size (fun _ => True) u8 x8_1) ∧ Aside0 (Below w.heap.size w wc))
                  case first =>
                    have H := HC23.out
                    clear HC23
                    by_cases c24 : a2 = 1
                    · rw [if_pos c24] at H
                      have c24b0 : (a2 == 1) = true := beq_iff_eq.mpr c24
                      have c24b1 : (a2 != 1) = false := bne_eq_false_iff_eq.mpr c24
                      clear c24
                      (first | rw [c24b0] | (simp only [i64_w, i32_w]; rw [c24b0]) | skip)
                      by_cases c25 : t210 = true
                      · subst c25
                        have H1 : (folkmootref03_set.j2 kj16 l0 l1 a2 t206 x8_1 x9_1 x10_1 true t212 t212) = some r := by rw [if_pos rfl] at H; exact H
                        clear H
                        have H := H1
                        clear H1
                        have H' := Aside0.mk H
                        clear H
                        go_wp2
                        go_meet
                        case rel => exact ⟨_, (t212), (by first | rfl | (simp; done) | (simp [*]; done)), H', ⟨by have := HK1.out; have := HJ16.out; first | omega | exact Nat.le_refl _⟩, ⟨by (with_reducible repeat (first | apply Kd.R_alloc | apply Kd.R_drewN | apply Kd.R_drew)); exact HO_7.out⟩, ⟨by (with_reducible repeat (first | apply Kd.R_alloc | apply Kd.R_drewN | apply Kd.R_drew)); exact HO_8.out⟩, ⟨by repeat (first | (with_reducible first | exact HB.out | apply below_alloc | apply pw_below_drewN | apply below_drew1) | exact HB.out)⟩⟩
                      · replace c25 := Bool.eq_false_iff.mpr c25
                        subst c25
                        have H1 : (folkmootref03_set.j2 kj16 l0 l1 a2 t206 x8_1 x9_1 x10_1 false t212 false) = some r := by rw [if_neg (show ¬ (false = true) by decide)] at H; exact H
                        clear H
                        have H := H1
                        clear H1
                        have H' := Aside0.mk H
                        clear H
                        go_wp2
                        go_meet
                        case rel => exact ⟨_, (false), (by first | rfl | (simp; done) | (simp [*]; done)), H', ⟨by have := HK1.out; have := HJ16.out; first | omega | exact Nat.le_refl _⟩, ⟨by (with_reducible repeat (first | apply Kd.R_alloc | apply Kd.R_drewN | apply Kd.R_drew)); exact HO_7.out⟩, ⟨by (with_reducible repeat (first | apply Kd.R_alloc | apply Kd.R_drewN | apply Kd.R_drew)); exact HO_8.out⟩, ⟨by repeat (first | (with_reducible first | exact HB.out | apply below_alloc | apply pw_below_drewN | apply below_drew1) | exact HB.out)⟩⟩
                    · rw [if_neg c24] at H
                      have c24b0 : (a2 == 1) = false := beq_eq_false_iff_ne.mpr c24
                      have c24b1 : (a2 != 1) = true := bne_iff_ne.mpr c24
                      (first | rw [c24b0] | (simp only [i64_w, i32_w]; rw [c24b0]) | skip)
                      have H' := Aside0.mk H
                      clear H
                      go_wp2
                      go_meet
                      case rel => exact ⟨_, (x13_16), (by first | rfl | (simp; done) | (simp [*]; done)), H', ⟨by have := HK1.out; have := HJ16.out; first | omega | exact Nat.le_refl _⟩, ⟨by (with_reducible repeat (first | apply Kd.R_alloc | apply Kd.R_drewN | apply Kd.R_drew)); exact HO_7.out⟩, ⟨by (with_reducible repeat (first | apply Kd.R_alloc | apply Kd.R_drewN | apply Kd.R_drew)); exact HO_8.out⟩, ⟨by repeat (first | (with_reducible first | exact HB.out | apply below_alloc | apply pw_below_drewN | apply below_drew1) | exact HB.out)⟩⟩
                  case rest =>
                    clear HC23
                    try clear c1
                    try clear c2
                    try clear p2
                    try clear q2
                    try clear hx2
                    try clear c3
                    try clear c4
                    try clear c5
                    try clear c13
                    try clear c13b0
                    try clear c14
                    try clear c14b0
                    try clear p20
                    try clear q20
                    try clear hx20
                    try clear p21
                    try clear q21
                    try clear hx21
                    try clear c22
                    try clear c24
                    try clear c24b0
                    try clear c24b1
                    try clear c25
                    try clear hx209_0
                    try clear hx211_0
                    try clear p2
                    try clear p20
                    try clear p209
                    try clear p21
                    try clear p211
                    try clear q2
                    try clear q20
                    try clear q209
                    try clear q21
                    try clear q211
                    obtain ⟨kq, x13_22, rfl, HA, HJ22, HO_7, HO_8, HB⟩ := hcut
                    cases kq with
                    | zero => exact absurd HA.out (by simp [folkmootref03_set.j2])
                    | succ kj22 =>
                      have H := HA.out
                      clear HA
                      simp only [folkmootref03_set.j2] at H
                      have HC26 := Aside0.mk H
                      clear H
                      go_upto_if 49 with (fail)
                      go_cut [13] (fun v13 wc => ∃ (kq : Nat) (x13_25 : Bool), v13 = .bool x13_25 ∧ Aside0 (folkmootref03_set.j3 kq l0 l1 a2 t206 x8_1 x9_1 x10_1 x13_25 = some r) ∧ Aside0 (kq ≤ kj22) ∧ Aside0 (Kd.R Kd.string 9 wc w.heap.size (fun _ => True) (.slice (some ad209) t206.length co18) t206) ∧ Aside0 (Kd.R k35 35 wc w.heap.size (fun _ => True) u8 x8_1) ∧ Aside0 (Below w.heap.size w wc))
                      case first =>
                        have H := HC26.out
                        clear HC26
                        by_cases c27 : a2 = 2
                        · rw [if_pos c27] at H
                          have c27b0 : (a2 == 2) = true := beq_iff_eq.mpr c27
                          have c27b1 : (a2 != 2) = false := bne_eq_false_iff_eq.mpr c27
                          clear c27
                          (first | rw [c27b0] | (simp only [i64_w, i32_w]; rw [c27b0]) | skip)
                          by_cases c28 : t210 = true
                          · subst c28
                            have H1 : (folkmootref03_set.j3 kj22 l0 l1 a2 t206 x8_1 x9_1 x10_1 (!t212)) = some r := by rw [if_pos rfl] at H; exact H
                            clear H
                            have H := H1
                            clear H1
                            have H' := Aside0.mk H
                            clear H
                            go_wp2
                            go_meet
                            case rel => exact ⟨_, (!t212), (by first | rfl | (simp; done) | (simp [*]; done)), H', ⟨by have := HK1.out; have := HJ16.out; have := HJ22.out; first | omega | exact Nat.le_refl _⟩, ⟨by (with_reducible repeat (first | apply Kd.R_alloc | apply Kd.R_drewN | apply Kd.R_drew)); exact HO_7.out⟩, ⟨by (with_reducible repeat (first | apply Kd.R_alloc | apply Kd.R_drewN | apply Kd.R_drew)); exact HO_8.out⟩, ⟨by repeat (first | (with_reducible first | exact HB.out | apply below_alloc | apply pw_below_drewN | apply below_drew1) | exact HB.out)⟩⟩
                          · replace c28 := Bool.eq_false_iff.mpr c28
                            subst c28
                            have H1 : (folkmootref03_set.j3 kj22 l0 l1 a2 t206 x8_1 x9_1 x10_1 false) = some r := by rw [if_neg (show ¬ (false = true) by decide)] at H; exact H
                            clear H
                            have H := H1
                            clear H1
                            have H' := Aside0.mk H
                            clear H
                            go_wp2
                            go_meet
                            case rel => exact ⟨_, (false), (by first | rfl | (simp; done) | (simp [*]; done)), H', ⟨by have := HK1.out; have := HJ16.out; have := HJ22.out; first | omega | exact Nat.le_refl _⟩, ⟨by (with_reducible repeat (first | apply Kd.R_alloc | apply Kd.R_drewN | apply Kd.R_drew)); exact HO_7.out⟩, ⟨by (with_reducible repeat (first | apply Kd.R_alloc | apply Kd.R_drewN | apply Kd.R_drew)); exact HO_8.out⟩, ⟨by repeat (first | (with_reducible first | exact HB.out | apply below_alloc | apply pw_below_drewN | apply below_drew1) | exact HB.out)⟩⟩
                        · rw [if_neg c27] at H
                          have c27b0 : (a2 == 2) = false := beq_eq_false_iff_ne.mpr c27
                          have c27b1 : (a2 != 2) = true := bne_iff_ne.mpr c27
                          (first | rw [c27b0] | (simp only [i64_w, i32_w]; rw [c27b0]) | skip)
                          have H' := Aside0.mk H
                          clear H
                          go_wp2
                          go_meet
                          case rel => exact ⟨_, (x13_22), (by first | rfl | (simp; done) | (simp [*]; done)), H', ⟨by have := HK1.out; have := HJ16.out; have := HJ22.out; first | omega | exact Nat.le_refl _⟩, ⟨by (with_reducible repeat (first | apply Kd.R_alloc | apply Kd.R_drewN | apply Kd.R_drew)); exact HO_7.out⟩, ⟨by (with_reducible repeat (first | apply Kd.R_alloc | apply Kd.R_drewN | apply Kd.R_drew)); exact HO_8.out⟩, ⟨by repeat (first | (with_reducible first | exact HB.out | apply below_alloc | apply pw_below_drewN | apply below_drew1) | exact HB.out)⟩⟩
                      case rest =>
                        clear HC26
                        try clear c1
                        try clear c2
                        try clear p2
                        try clear q2
                        try clear hx2
                        try clear c3
                        try clear c4
                        try clear c5
                        try clear c13
                        try clear c13b0
                        try clear c14
                        try clear c14b0
                        try clear p20
                        try clear q20
                        try clear hx20
                        try clear p21
                        try clear q21
                        try clear hx21
                        try clear c22
                        try clear c24
                        try clear c24b0
                        try clear c24b1
                        try clear c25
                        try clear c27
                        try clear c27b0
                        try clear c27b1
                        try clear c28
                        try clear hx209_0
                        try clear hx211_0
                        try clear p2
                        try clear p20
                        try clear p209
                        try clear p21
                        try clear p211
                        try clear q2
                        try clear q20
                        try clear q209
                        try clear q21
                        try clear q211
                        obtain ⟨kq, x13_25, rfl, HA, HJ25, HO_7, HO_8, HB⟩ := hcut
                        cases kq with
                        | zero => exact absurd HA.out (by simp [folkmootref03_set.j3])
                        | succ kj25 =>
                          have H := HA.out
                          clear HA
                          simp only [folkmootref03_set.j3] at H
                          have HC29 := Aside0.mk H
                          clear H
                          go_upto_region 13 with (fail)
                          go_cut [59] (fun v59 wc => ∃ (kq : Nat) (x59_28 : Bool), v59 = .bool x59_28 ∧ Aside0 (folkmootref03_set.j4 kq l0 l1 a2 t206 x8_1 x9_1 x10_1 x13_25 x59_28 = some r) ∧ Aside0 (kq ≤ kj25) ∧ Aside0 (Kd.R Kd.string 9 wc w.heap.size (fun _ => True) (.slice (some ad209) t206.length co18) t206) ∧ Aside0 (Kd.R k35 35 wc w.heap.size (fun _ => True) u8 x8_1) ∧ Aside0 (Below w.heap.size w wc))
                          case first =>
                            have H := HC29.out
                            clear HC29
                            by_cases c30 : x13_25 = true
                            · subst c30
                              have H1 : (folkmootref03_set.j4 kj25 l0 l1 a2 t206 x8_1 x9_1 x10_1 true (!x9_1)) = some r := by rw [if_pos rfl] at H; exact H
                              clear H
                              have H := H1
                              clear H1
                              have H' := Aside0.mk H
                              clear H
                              go_wp2
                              go_meet
                              case rel => exact ⟨_, (!x9_1), (by first | rfl | (simp; done) | (simp [*]; done)), H', ⟨by have := HK1.out; have := HJ16.out; have := HJ22.out; have := HJ25.out; first | omega | exact Nat.le_refl _⟩, ⟨by (with_reducible repeat (first | apply Kd.R_alloc | apply Kd.R_drewN | apply Kd.R_drew)); exact HO_7.out⟩, ⟨by (with_reducible repeat (first | apply Kd.R_alloc | apply Kd.R_drewN | apply Kd.R_drew)); exact HO_8.out⟩, ⟨by repeat (first | (with_reducible first | exact HB.out | apply below_alloc | apply pw_below_drewN | apply below_drew1) | exact HB.out)⟩⟩
                            · replace c30 := Bool.eq_false_iff.mpr c30
                              subst c30
                              have H1 : (folkmootref03_set.j4 kj25 l0 l1 a2 t206 x8_1 x9_1 x10_1 false false) = some r := by rw [if_neg (show ¬ (false = true) by decide)] at H; exact H
                              clear H
                              have H := H1
                              clear H1
                              have H' := Aside0.mk H
                              clear H
                              go_wp2
                              go_meet
                              case rel => exact ⟨_, (false), (by first | rfl | (simp; done) | (simp [*]; done)), H', ⟨by have := HK1.out; have := HJ16.out; have := HJ22.out; have := HJ25.out; first | omega | exact Nat.le_refl _⟩, ⟨by (with_reducible repeat (first | apply Kd.R_alloc | apply Kd.R_drewN | apply Kd.R_drew)); exact HO_7.out⟩, ⟨by (with_reducible repeat (first | apply Kd.R_alloc | apply Kd.R_drewN | apply Kd.R_drew)); exact HO_8.out⟩, ⟨by repeat (first | (with_reducible first | exact HB.out | apply below_alloc | apply pw_below_drewN | apply below_drew1) | exact HB.out)⟩⟩
                          case rest =>
                            clear HC29
                            try clear c1
                            try clear c2
                            try clear p2
                            try clear q2
                            try clear hx2
                            try clear c3
                            try clear c4
                            try clear c5
                            try clear c13
                            try clear c13b0
                            try clear c14
                            try clear c14b0
                            try clear p20
                            try clear q20
                            try clear hx20
                            try clear p21
                            try clear q21
                            try clear hx21
                            try clear c22
                            try clear c24
                            try clear c24b0
                            try clear c24b1
                            try clear c25
                            try clear c27
                            try clear c27b0
                            try clear c27b1
                            try clear c28
                            try clear c30
                            try clear hx209_0
                            try clear hx211_0
                            try clear p2
                            try clear p20
                            try clear p209
                            try clear p21
                            try clear p211
                            try clear q2
                            try clear q20
                            try clear q209
                            try clear q21
                            try clear q211
                            obtain ⟨kq, x59_28, rfl, HA, HJ28, HO_7, HO_8, HB⟩ := hcut
                            cases kq with
                            | zero => exact absurd HA.out (by simp [folkmootref03_set.j4])
                            | succ kj28 =>
                              have H := HA.out
                              clear HA
                              simp only [folkmootref03_set.j4] at H
                              by_cases c31 : x59_28 = true
                              · subst c31
                                have H1 : (if 0 ≤ x10_1 then (if x10_1 < (t206.length : Int) then (if x8_1.length < 4398046511104 then ((some (x8_1 ++ [(⟨rdOf ByteArray.empty t206 x10_1, (⟨#[]⟩ : ByteArray)⟩ : S35)] : List (S35))).bind fun y214 => (if x13_25 = true then (folkmootref03_set.l0 kj28 l0 l1 a2 t206 y214 x13_25 (wrap64 (x10_1 + 1))) else (if x9_1 = true then (if 0 ≤ (wrap64 ((y214.length : Int) - 1)) then (if (wrap64 ((y214.length : Int) - 1)) < (y214.length : Int) then (folkmootref03_set.l0 kj28 l0 l1 a2 t206 (y214.set ((wrap64 ((y214.length : Int) - 1)) : Int).toNat (⟨(rd_T35 y214 (wrap64 ((y214.length : Int) - 1))).f0, rdOf ByteArray.empty t206 x10_1⟩ : S35)) x13_25 (wrap64 (x10_1 + 1))) else (none)) else (none)) else (folkmootref03_set.l0 kj28 l0 l1 a2 t206 y214 x13_25 (wrap64 (x10_1 + 1)))))) else (none)) else (none)) else (none)) = some r := by rw [if_pos rfl] at H; exact H
                                clear H
                                have H := H1
                                clear H1
                                by_cases c32 : 0 ≤ x10_1
                                · rw [if_pos c32] at H
                                  have c32b0 : decide (0 ≤ x10_1) = true := decide_eq_true c32
                                  clear c32
                                  by_cases c33 : x10_1 < (t206.length : Int)
                                  · rw [if_pos c33] at H
                                    have c33b0 : decide (x10_1 < (t206.length : Int)) = true := decide_eq_true c33
                                    clear c33
                                    by_cases c34 : x8_1.length < 4398046511104
                                    · rw [if_pos c34] at H
                                      have LMc34 := Aside0.mk c34
                                      clear c34
                                      obtain ⟨y214, hy214⟩ : ∃ y_ : List (S35), y_ = (x8_1 ++ [(⟨rdOf ByteArray.empty t206 x10_1, (⟨#[]⟩ : ByteArray)⟩ : S35)]) := ⟨_, rfl⟩
                                      replace H : (if x13_25 = true then (folkmootref03_set.l0 kj28 l0 l1 a2 t206 y214 x13_25 (wrap64 (x10_1 + 1))) else (if x9_1 = true then (if 0 ≤ (wrap64 ((y214.length : Int) - 1)) then (if (wrap64 ((y214.length : Int) - 1)) < (y214.length : Int) then (folkmootref03_set.l0 kj28 l0 l1 a2 t206 (y214.set ((wrap64 ((y214.length : Int) - 1)) : Int).toNat (⟨(rd_T35 y214 (wrap64 ((y214.length : Int) - 1))).f0, rdOf ByteArray.empty t206 x10_1⟩ : S35)) x13_25 (wrap64 (x10_1 + 1))) else (none)) else (none)) else (folkmootref03_set.l0 kj28 l0 l1 a2 t206 y214 x13_25 (wrap64 (x10_1 + 1))))) = some r := by first | (rw [hy214]; with_reducible exact H) | (have H2_ := (Option.bind_some _ _).symm.trans H; rw [hy214]; with_reducible exact H2_) | (have H2_ := (Option.bind_some _ _).symm.trans H; with_reducible exact H2_) | with_reducible exact H | (rw [hy214]; exact H) | exact H
                                      have Ny214 := Aside0.mk hy214
                                      clear hy214
                                      by_cases c35 : x13_25 = true
                                      · subst c35
                                        have H1 : (folkmootref03_set.l0 kj28 l0 l1 a2 t206 y214 true (wrap64 (x10_1 + 1))) = some r := by rw [if_pos rfl] at H; exact H
                                        clear H
                                        have H := H1
                                        clear H1
                                        have H' := Aside0.mk H
                                        clear H
                                        have p213 : 0 ≤ (x10_1 : Int) := of_decide_eq_true (by first | (with_reducible assumption) | assumption)
                                        have q213 : x10_1 < (t206.length : Int) := of_decide_eq_true (by first | (with_reducible assumption) | assumption)
                                        obtain ⟨ad213, e213, hx213_0⟩ := Kd.at_string (Kd.R_reads' HO_7.out).2.2 x10_1 p213 q213
                                        obtain rfl : ad209 = ad213 := (by injection e213)
                                        replace p213 := eq_true p213
                                        replace q213 := eq_true q213
                                        go_wp2_with (first | ((with_reducible refine gate_builtin (b := .append) (xs := #[.tmp 60, .tmp 66]) rfl ?_); at_builtin; refine Kd.R_append k35 (w0 := w) w.heap.size rfl (.tmp 60) (.tmp 66) 30 35 (.agg #[(.string ⟨#[]⟩), (.string ⟨#[]⟩)]) 32 rfl Try.underlying30 info35 rfl (by decide) (by omega) u8 x8_1 (⟨rdOf ByteArray.empty t206 x10_1, (⟨#[]⟩ : ByteArray)⟩ : S35) [.string (rdOf ByteArray.empty t206 x10_1), .string (⟨#[]⟩ : ByteArray)] (fun _ => True) (fun _ => False) rfl rfl ?aP (fun _ hk => hk.elim) ?aF ?aO ?aB ?aS ?aL ?_; (case aP => exact k35_mkM _ _ _ (⟨rdOf ByteArray.empty t206 x10_1, (⟨#[]⟩ : ByteArray)⟩ : S35)); (case aB => exact (uB HB)); (case aF => exact (fun _ _ => trivial)); (case aO => exact (uR HO_8)); (case aS => exact (below_size (uB HB))); (case aL => have := LMc34.out; omega); intro v215 w36 ho hb hg hat; rw [← Ny214.out] at ho; have n0_ := Aside0.mk (Kd.R_over' (uR HO_7) (Kd.R_typed (uR HO_8)) (by decide) hg); have n1_ := Aside0.mk (hb); have n2_ := Aside0.mk (ho); clear HO_7; clear HB; clear HO_8; have HO_7 := n0_; have HB := n1_; have HO216 := n2_; clear n0_ n1_ n2_; clear ho hb hg hat))
                                        go_roundg kj28
                                        case measure => have := HK1.out; have := HJ16.out; have := HJ22.out; have := HJ25.out; have := HJ28.out; omega
                                        case rel => exact ⟨(y214), (true), (wrap64 (x10_1 + 1)), (by first | rfl | (simp; done) | (simp [*]; done)), (by first | rfl | (simp; done) | (simp [*]; done)), H', ⟨by have := HK1.out; have := HJ16.out; have := HJ22.out; have := HJ25.out; have := HJ28.out; omega⟩, ⟨by (with_reducible repeat (first | apply Kd.R_alloc | apply Kd.R_drewN | apply Kd.R_drew)); exact HO_7.out⟩, ⟨by (with_reducible repeat (first | apply Kd.R_alloc | apply Kd.R_drewN | apply Kd.R_drew)); exact HO216.out⟩, ⟨by repeat (first | (with_reducible first | exact HB.out | apply below_alloc | apply pw_below_drewN | apply below_drew1) | exact HB.out)⟩⟩
                                      · replace c35 := Bool.eq_false_iff.mpr c35
                                        subst c35
                                        have H1 : (if x9_1 = true then (if 0 ≤ (wrap64 ((y214.length : Int) - 1)) then (if (wrap64 ((y214.length : Int) - 1)) < (y214.length : Int) then (folkmootref03_set.l0 kj28 l0 l1 a2 t206 (y214.set ((wrap64 ((y214.length : Int) - 1)) : Int).toNat (⟨(rd_T35 y214 (wrap64 ((y214.length : Int) - 1))).f0, rdOf ByteArray.empty t206 x10_1⟩ : S35)) false (wrap64 (x10_1 + 1))) else (none)) else (none)) else (folkmootref03_set.l0 kj28 l0 l1 a2 t206 y214 false (wrap64 (x10_1 + 1)))) = some r := by rw [if_neg (show ¬ (false = true) by decide)] at H; exact H
                                        clear H
                                        have H := H1
                                        clear H1
                                        by_cases c37 : x9_1 = true
                                        · subst c37
                                          have H1 : (if 0 ≤ (wrap64 ((y214.length : Int) - 1)) then (if (wrap64 ((y214.length : Int) - 1)) < (y214.length : Int) then (folkmootref03_set.l0 kj28 l0 l1 a2 t206 (y214.set ((wrap64 ((y214.length : Int) - 1)) : Int).toNat (⟨(rd_T35 y214 (wrap64 ((y214.length : Int) - 1))).f0, rdOf ByteArray.empty t206 x10_1⟩ : S35)) false (wrap64 (x10_1 + 1))) else (none)) else (none)) = some r := by rw [if_pos rfl] at H; exact H
                                          clear H
                                          have H := H1
                                          clear H1
                                          obtain ⟨ji38, hji38⟩ : ∃ j_ : Int, (wrap64 ((y214.length : Int) - 1)) = j_ := ⟨_, rfl⟩
                                          replace H : (if 0 ≤ (ji38) then (if (ji38) < (y214.length : Int) then (folkmootref03_set.l0 kj28 l0 l1 a2 t206 (y214.set ((ji38) : Int).toNat (⟨(rd_T35 y214 (ji38)).f0, rdOf ByteArray.empty t206 x10_1⟩ : S35)) false (wrap64 (x10_1 + 1))) else (none)) else (none)) = some r := by first | (rw [hji38] at H; exact H) | (simp only [hji38] at H ⊢; exact H)
                                          have hji38w : (IntKind.i64.wrap ((y214.length : Int) - 1)) = ji38 := (i64_w _).trans hji38
                                          by_cases c39 : 0 ≤ (ji38)
                                          · rw [if_pos c39] at H
                                            have c39b0 : decide (0 ≤ (ji38)) = true := decide_eq_true c39
                                            clear c39
                                            by_cases c40 : (ji38) < (y214.length : Int)
                                            · rw [if_pos c40] at H
                                              have c40b0 : decide ((ji38) < (y214.length : Int)) = true := decide_eq_true c40
                                              clear c40
                                              obtain ⟨y218, hy218⟩ : ∃ y_ : List (S35), y_ = (y214.set ((ji38) : Int).toNat (⟨(rd_T35 y214 (ji38)).f0, rdOf ByteArray.empty t206 x10_1⟩ : S35)) := ⟨_, rfl⟩
                                              replace H : (folkmootref03_set.l0 kj28 l0 l1 a2 t206 y218 false (wrap64 (x10_1 + 1))) = some r := by first | (rw [hy218]; with_reducible exact H) | (have H2_ := (Option.bind_some _ _).symm.trans H; rw [hy218]; with_reducible exact H2_) | (have H2_ := (Option.bind_some _ _).symm.trans H; with_reducible exact H2_) | with_reducible exact H | (rw [hy218]; exact H) | exact H
                                              have Ny218 := Aside0.mk hy218
                                              clear hy218
                                              have H' := Aside0.mk H
                                              clear H
                                              have p213 : 0 ≤ (x10_1 : Int) := of_decide_eq_true (by first | (with_reducible assumption) | assumption)
                                              have q213 : x10_1 < (t206.length : Int) := of_decide_eq_true (by first | (with_reducible assumption) | assumption)
                                              obtain ⟨ad213, e213, hx213_0⟩ := Kd.at_string (Kd.R_reads' HO_7.out).2.2 x10_1 p213 q213
                                              obtain rfl : ad209 = ad213 := (by injection e213)
                                              replace p213 := eq_true p213
                                              replace q213 := eq_true q213
                                              go_wp2_with (first | ((with_reducible refine gate_builtin (b := .append) (xs := #[.tmp 60, .tmp 66]) rfl ?_); at_builtin; refine Kd.R_append k35 (w0 := w) w.heap.size rfl (.tmp 60) (.tmp 66) 30 35 (.agg #[(.string ⟨#[]⟩), (.string ⟨#[]⟩)]) 32 rfl Try.underlying30 info35 rfl (by decide) (by omega) u8 x8_1 (⟨rdOf ByteArray.empty t206 x10_1, (⟨#[]⟩ : ByteArray)⟩ : S35) [.string (rdOf ByteArray.empty t206 x10_1), .string (⟨#[]⟩ : ByteArray)] (fun _ => True) (fun _ => False) rfl rfl ?aP (fun _ hk => hk.elim) ?aF ?aO ?aB ?aS ?aL ?_; (case aP => exact k35_mkM _ _ _ (⟨rdOf ByteArray.empty t206 x10_1, (⟨#[]⟩ : ByteArray)⟩ : S35)); (case aB => exact (uB HB)); (case aF => exact (fun _ _ => trivial)); (case aO => exact (uR HO_8)); (case aS => exact (below_size (uB HB))); (case aL => have := LMc34.out; omega); intro v215 w42 ho hb hg hat; rw [← Ny214.out] at ho; have n0_ := Aside0.mk (Kd.R_over' (uR HO_7) (Kd.R_typed (uR HO_8)) (by decide) hg); have n1_ := Aside0.mk (hb); have n2_ := Aside0.mk (ho); clear HO_7; clear HB; clear HO_8; have HO_7 := n0_; have HB := n1_; have HO216 := n2_; clear n0_ n1_ n2_; clear ho hb hg hat; obtain ⟨Ao43, co43, eo43⟩ := Kd.R_slice HO216.out; subst eo43; have p217 : 0 ≤ (x10_1 : Int) := of_decide_eq_true (by first | (with_reducible assumption) | assumption); have q217 : x10_1 < (t206.length : Int) := of_decide_eq_true (by first | (with_reducible assumption) | assumption); obtain ⟨ad217, e217, hx217_0⟩ := Kd.at_string (Kd.R_reads' HO_7.out).2.2 x10_1 p217 q217; obtain rfl : ad209 = ad217 := (by injection e217); replace p217 := eq_true p217; replace q217 := eq_true q217; have p41 : 0 ≤ ((ji38) : Int) := of_decide_eq_true (by first | (with_reducible assumption) | assumption); have q41 : ((ji38) : Int) < ((y214.length : Int) : Int) := of_decide_eq_true (by first | (with_reducible assumption) | assumption); obtain ⟨go41, co41, eo41, gb41, gl41, cl41, HG41⟩ := Kd.R_form HO216.out (by omega); (first | cases eo41 | (injection eo41 with ea_ en_ ec_; (first | subst ea_ | (injection ea_ with ea_; subst ea_)); subst ec_; clear en_)); have GB41 := Aside0.mk gb41; have GG41 := Aside0.mk HG41; clear gb41 gl41 HG41; obtain ⟨ce41, hcl41, hM41, hcc41, hfr41⟩ := Kd.R_elem HO216.out z35 ((ji38) : Int) p41 q41; obtain rfl := k35_openM hM41; have hx41_0 : w42.cell? ⟨go41, ((ji38) : Int).toNat * 2, none⟩ = some (.string ((rd_T35 y214 (ji38)).f0)) := hcc41 0 _ rfl; have hx41_1 : w42.cell? ⟨go41, ((ji38) : Int).toNat * 2 + 1, none⟩ = some (.string ((rd_T35 y214 (ji38)).f1)) := hcc41 1 _ rfl; have hf41_0 : w42.frozen? ⟨go41, ((ji38) : Int).toNat * 2, none⟩ = false := hfr41 0; have hf41_1 : w42.frozen? ⟨go41, ((ji38) : Int).toNat * 2 + 1, none⟩ = false := hfr41 1; clear hcl41 hcc41 hfr41 hM41; replace p41 := eq_true p41; replace q41 := eq_true q41; have HX44 := Aside0.mk (show Kd.R k35 35 w42 w.heap.size (fun _ => True) (.slice (some ⟨go41, 0, none⟩) y214.length co43) y214 from (uR HO216)); obtain ⟨ce44, hcl44, hM44, hcc44, hfr44⟩ := Kd.R_elem HX44.out z35 ((ji38) : Int) (of_decide_eq_true (by first | (with_reducible assumption) | assumption)) (by have h_ : ((ji38) : Int) < ((y214.length : Int) : Int) := of_decide_eq_true (by first | (with_reducible assumption) | assumption); first | exact h_ | (have e_ := (Kd.R_reads' HO216.out).1; omega) | simpa using h_); obtain rfl := k35_openM hM44; have HP44 := Kd.R_seg HX44.out ((ji38) : Int) (of_decide_eq_true (by first | (with_reducible assumption) | assumption)) (by have h_ : ((ji38) : Int) < ((y214.length : Int) : Int) := of_decide_eq_true (by first | (with_reducible assumption) | assumption); first | exact h_ | (have e_ := (Kd.R_reads' HO216.out).1; omega) | simpa using h_) (seg := [.string (rdOf ByteArray.empty t206 x10_1)]) (j := 1) hcl44 hcc44 (show 2 ≤ 2 from by decide) (x' := (⟨(rd_T35 y214 (ji38)).f0, rdOf ByteArray.empty t206 x10_1⟩ : S35)) (k35_mkM _ _ _ (⟨(rd_T35 y214 (ji38)).f0, rdOf ByteArray.empty t206 x10_1⟩ : S35) ) (fun _ hk => hk); have hx44_1 := hcc44 1 _ rfl; (try simp only [show (k35).sz = 2 from rfl, Nat.mul_one, Nat.add_zero] at hx44_1); have hf44_1 := hfr44 1; (try simp only [show (k35).sz = 2 from rfl, Nat.mul_one, Nat.add_zero] at hf44_1); clear hcl44 hcc44 hfr44 hM44) | ((with_reducible refine gate_store (t := 9) (p := 82) rfl ?_); refine store_event (t := 9) (p := 82) (v := ?vo_w45) (w1 := (w42.setCell ⟨go41, ((ji38) : Int).toNat * 2 + 1, none⟩ (.string (rdOf ByteArray.empty t206 x10_1)))) ?hg ?ho ?hn ?hr ?_; (case ho => rfl); (case hg => rfl); (case hn => rfl); (case hr => first | (go_simp; done) | (go_simp; rfl)); intro w45 hw; have hg : w42.grownBy w45 (some go41) := (by rw [hw]; exact HP44.2); have hp_ : Kd.R k35 35 w45 w.heap.size (fun _ => True) (.slice (some ⟨go41, 0, none⟩) y214.length co43) y218 := (by rw [hw, Ny218.out]; exact HP44.1); clear HP44; replace HO_7 := Aside0.mk (Kd.R_over' (v := (.slice (some ⟨go41, 0, none⟩) y214.length co43)) (uR HO_7) (Kd.R_typed HO216.out) (by decide) hg); replace HO216 := Aside0.mk (hp_); replace HB := Aside0.mk ((by rw [hw]; exact below_set (HB.out) GB41.out : Below w.heap.size w w45)); clear hg hw hp_))
                                              go_roundg kj28
                                              case measure => have := HK1.out; have := HJ16.out; have := HJ22.out; have := HJ25.out; have := HJ28.out; omega
                                              case rel => exact ⟨(y218), (false), (wrap64 (x10_1 + 1)), (by first | rfl | (simp; done) | (simp [*]; done)), (by first | rfl | (simp; done) | (simp [*]; done)), H', ⟨by have := HK1.out; have := HJ16.out; have := HJ22.out; have := HJ25.out; have := HJ28.out; omega⟩, ⟨by (with_reducible repeat (first | apply Kd.R_alloc | apply Kd.R_drewN | apply Kd.R_drew)); exact HO_7.out⟩, ⟨by (with_reducible repeat (first | apply Kd.R_alloc | apply Kd.R_drewN | apply Kd.R_drew)); exact HO216.out⟩, ⟨by repeat (first | (with_reducible first | exact HB.out | apply below_alloc | apply pw_below_drewN | apply below_drew1) | exact HB.out)⟩⟩
                                            · rw [if_neg c40] at H
                                              exact absurd H (by simp)
                                          · rw [if_neg c39] at H
                                            exact absurd H (by simp)
                                        · replace c37 := Bool.eq_false_iff.mpr c37
                                          subst c37
                                          have H1 : (folkmootref03_set.l0 kj28 l0 l1 a2 t206 y214 false (wrap64 (x10_1 + 1))) = some r := by rw [if_neg (show ¬ (false = true) by decide)] at H; exact H
                                          clear H
                                          have H := H1
                                          clear H1
                                          have H' := Aside0.mk H
                                          clear H
                                          have p213 : 0 ≤ (x10_1 : Int) := of_decide_eq_true (by first | (with_reducible assumption) | assumption)
                                          have q213 : x10_1 < (t206.length : Int) := of_decide_eq_true (by first | (with_reducible assumption) | assumption)
                                          obtain ⟨ad213, e213, hx213_0⟩ := Kd.at_string (Kd.R_reads' HO_7.out).2.2 x10_1 p213 q213
                                          obtain rfl : ad209 = ad213 := (by injection e213)
                                          replace p213 := eq_true p213
                                          replace q213 := eq_true q213
                                          go_wp2_with (first | ((with_reducible refine gate_builtin (b := .append) (xs := #[.tmp 60, .tmp 66]) rfl ?_); at_builtin; refine Kd.R_append k35 (w0 := w) w.heap.size rfl (.tmp 60) (.tmp 66) 30 35 (.agg #[(.string ⟨#[]⟩), (.string ⟨#[]⟩)]) 32 rfl Try.underlying30 info35 rfl (by decide) (by omega) u8 x8_1 (⟨rdOf ByteArray.empty t206 x10_1, (⟨#[]⟩ : ByteArray)⟩ : S35) [.string (rdOf ByteArray.empty t206 x10_1), .string (⟨#[]⟩ : ByteArray)] (fun _ => True) (fun _ => False) rfl rfl ?aP (fun _ hk => hk.elim) ?aF ?aO ?aB ?aS ?aL ?_; (case aP => exact k35_mkM _ _ _ (⟨rdOf ByteArray.empty t206 x10_1, (⟨#[]⟩ : ByteArray)⟩ : S35)); (case aB => exact (uB HB)); (case aF => exact (fun _ _ => trivial)); (case aO => exact (uR HO_8)); (case aS => exact (below_size (uB HB))); (case aL => have := LMc34.out; omega); intro v215 w46 ho hb hg hat; rw [← Ny214.out] at ho; have n0_ := Aside0.mk (Kd.R_over' (uR HO_7) (Kd.R_typed (uR HO_8)) (by decide) hg); have n1_ := Aside0.mk (hb); have n2_ := Aside0.mk (ho); clear HO_7; clear HB; clear HO_8; have HO_7 := n0_; have HB := n1_; have HO216 := n2_; clear n0_ n1_ n2_; clear ho hb hg hat))
                                          go_roundg kj28
                                          case measure => have := HK1.out; have := HJ16.out; have := HJ22.out; have := HJ25.out; have := HJ28.out; omega
                                          case rel => exact ⟨(y214), (false), (wrap64 (x10_1 + 1)), (by first | rfl | (simp; done) | (simp [*]; done)), (by first | rfl | (simp; done) | (simp [*]; done)), H', ⟨by have := HK1.out; have := HJ16.out; have := HJ22.out; have := HJ25.out; have := HJ28.out; omega⟩, ⟨by (with_reducible repeat (first | apply Kd.R_alloc | apply Kd.R_drewN | apply Kd.R_drew)); exact HO_7.out⟩, ⟨by (with_reducible repeat (first | apply Kd.R_alloc | apply Kd.R_drewN | apply Kd.R_drew)); exact HO216.out⟩, ⟨by repeat (first | (with_reducible first | exact HB.out | apply below_alloc | apply pw_below_drewN | apply below_drew1) | exact HB.out)⟩⟩
                                    · rw [if_neg c34] at H
                                      exact absurd H (by simp)
                                  · rw [if_neg c33] at H
                                    exact absurd H (by simp)
                                · rw [if_neg c32] at H
                                  exact absurd H (by simp)
                              · replace c31 := Bool.eq_false_iff.mpr c31
                                subst c31
                                have H1 : (if x13_25 = true then (folkmootref03_set.l0 kj28 l0 l1 a2 t206 x8_1 x13_25 (wrap64 (x10_1 + 1))) else (if x9_1 = true then (if 0 ≤ x10_1 then (if x10_1 < (t206.length : Int) then (if 0 ≤ (wrap64 ((x8_1.length : Int) - 1)) then (if (wrap64 ((x8_1.length : Int) - 1)) < (x8_1.length : Int) then (folkmootref03_set.l0 kj28 l0 l1 a2 t206 (x8_1.set ((wrap64 ((x8_1.length : Int) - 1)) : Int).toNat (⟨(rd_T35 x8_1 (wrap64 ((x8_1.length : Int) - 1))).f0, rdOf ByteArray.empty t206 x10_1⟩ : S35)) x13_25 (wrap64 (x10_1 + 1))) else (none)) else (none)) else (none)) else (none)) else (folkmootref03_set.l0 kj28 l0 l1 a2 t206 x8_1 x13_25 (wrap64 (x10_1 + 1))))) = some r := by rw [if_neg (show ¬ (false = true) by decide)] at H; exact H
                                clear H
                                have H := H1
                                clear H1
                                by_cases c47 : x13_25 = true
                                · subst c47
                                  have H1 : (folkmootref03_set.l0 kj28 l0 l1 a2 t206 x8_1 true (wrap64 (x10_1 + 1))) = some r := by rw [if_pos rfl] at H; exact H
                                  clear H
                                  have H := H1
                                  clear H1
                                  have H' := Aside0.mk H
                                  clear H
                                  go_wp2
                                  go_roundg kj28
                                  case measure => have := HK1.out; have := HJ16.out; have := HJ22.out; have := HJ25.out; have := HJ28.out; omega
                                  case rel => exact ⟨(x8_1), (true), (wrap64 (x10_1 + 1)), (by first | rfl | (simp; done) | (simp [*]; done)), (by first | rfl | (simp; done) | (simp [*]; done)), H', ⟨by have := HK1.out; have := HJ16.out; have := HJ22.out; have := HJ25.out; have := HJ28.out; omega⟩, ⟨by (with_reducible repeat (first | apply Kd.R_alloc | apply Kd.R_drewN | apply Kd.R_drew)); exact HO_7.out⟩, ⟨by (with_reducible repeat (first | apply Kd.R_alloc | apply Kd.R_drewN | apply Kd.R_drew)); exact HO_8.out⟩, ⟨by repeat (first | (with_reducible first | exact HB.out | apply below_alloc | apply pw_below_drewN | apply below_drew1) | exact HB.out)⟩⟩
                                · replace c47 := Bool.eq_false_iff.mpr c47
                                  subst c47
                                  have H1 : (if x9_1 = true then (if 0 ≤ x10_1 then (if x10_1 < (t206.length : Int) then (if 0 ≤ (wrap64 ((x8_1.length : Int) - 1)) then (if (wrap64 ((x8_1.length : Int) - 1)) < (x8_1.length : Int) then (folkmootref03_set.l0 kj28 l0 l1 a2 t206 (x8_1.set ((wrap64 ((x8_1.length : Int) - 1)) : Int).toNat (⟨(rd_T35 x8_1 (wrap64 ((x8_1.length : Int) - 1))).f0, rdOf ByteArray.empty t206 x10_1⟩ : S35)) false (wrap64 (x10_1 + 1))) else (none)) else (none)) else (none)) else (none)) else (folkmootref03_set.l0 kj28 l0 l1 a2 t206 x8_1 false (wrap64 (x10_1 + 1)))) = some r := by rw [if_neg (show ¬ (false = true) by decide)] at H; exact H
                                  clear H
                                  have H := H1
                                  clear H1
                                  by_cases c48 : x9_1 = true
                                  · subst c48
                                    have H1 : (if 0 ≤ x10_1 then (if x10_1 < (t206.length : Int) then (if 0 ≤ (wrap64 ((x8_1.length : Int) - 1)) then (if (wrap64 ((x8_1.length : Int) - 1)) < (x8_1.length : Int) then (folkmootref03_set.l0 kj28 l0 l1 a2 t206 (x8_1.set ((wrap64 ((x8_1.length : Int) - 1)) : Int).toNat (⟨(rd_T35 x8_1 (wrap64 ((x8_1.length : Int) - 1))).f0, rdOf ByteArray.empty t206 x10_1⟩ : S35)) false (wrap64 (x10_1 + 1))) else (none)) else (none)) else (none)) else (none)) = some r := by rw [if_pos rfl] at H; exact H
                                    clear H
                                    have H := H1
                                    clear H1
                                    by_cases c49 : 0 ≤ x10_1
                                    · rw [if_pos c49] at H
                                      have c49b0 : decide (0 ≤ x10_1) = true := decide_eq_true c49
                                      clear c49
                                      by_cases c50 : x10_1 < (t206.length : Int)
                                      · rw [if_pos c50] at H
                                        have c50b0 : decide (x10_1 < (t206.length : Int)) = true := decide_eq_true c50
                                        clear c50
                                        obtain ⟨ji51, hji51⟩ : ∃ j_ : Int, (wrap64 ((x8_1.length : Int) - 1)) = j_ := ⟨_, rfl⟩
                                        replace H : (if 0 ≤ (ji51) then (if (ji51) < (x8_1.length : Int) then (folkmootref03_set.l0 kj28 l0 l1 a2 t206 (x8_1.set ((ji51) : Int).toNat (⟨(rd_T35 x8_1 (ji51)).f0, rdOf ByteArray.empty t206 x10_1⟩ : S35)) false (wrap64 (x10_1 + 1))) else (none)) else (none)) = some r := by first | (rw [hji51] at H; exact H) | (simp only [hji51] at H ⊢; exact H)
                                        have hji51w : (IntKind.i64.wrap ((x8_1.length : Int) - 1)) = ji51 := (i64_w _).trans hji51
                                        by_cases c52 : 0 ≤ (ji51)
                                        · rw [if_pos c52] at H
                                          have c52b0 : decide (0 ≤ (ji51)) = true := decide_eq_true c52
                                          clear c52
                                          by_cases c53 : (ji51) < (x8_1.length : Int)
                                          · rw [if_pos c53] at H
                                            have c53b0 : decide ((ji51) < (x8_1.length : Int)) = true := decide_eq_true c53
                                            clear c53
                                            obtain ⟨y220, hy220⟩ : ∃ y_ : List (S35), y_ = (x8_1.set ((ji51) : Int).toNat (⟨(rd_T35 x8_1 (ji51)).f0, rdOf ByteArray.empty t206 x10_1⟩ : S35)) := ⟨_, rfl⟩
                                            replace H : (folkmootref03_set.l0 kj28 l0 l1 a2 t206 y220 false (wrap64 (x10_1 + 1))) = some r := by first | (rw [hy220]; with_reducible exact H) | (have H2_ := (Option.bind_some _ _).symm.trans H; rw [hy220]; with_reducible exact H2_) | (have H2_ := (Option.bind_some _ _).symm.trans H; with_reducible exact H2_) | with_reducible exact H | (rw [hy220]; exact H) | exact H
                                            have Ny220 := Aside0.mk hy220
                                            clear hy220
                                            have H' := Aside0.mk H
                                            clear H
                                            obtain ⟨Ao55, co55, eo55⟩ := Kd.R_slice HO_8.out
                                            subst eo55
                                            have p219 : 0 ≤ (x10_1 : Int) := of_decide_eq_true (by first | (with_reducible assumption) | assumption)
                                            have q219 : x10_1 < (t206.length : Int) := of_decide_eq_true (by first | (with_reducible assumption) | assumption)
                                            obtain ⟨ad219, e219, hx219_0⟩ := Kd.at_string (Kd.R_reads' HO_7.out).2.2 x10_1 p219 q219
                                            obtain rfl : ad209 = ad219 := (by injection e219)
                                            replace p219 := eq_true p219
                                            replace q219 := eq_true q219
                                            have p54 : 0 ≤ ((ji51) : Int) := of_decide_eq_true (by first | (with_reducible assumption) | assumption)
                                            have q54 : ((ji51) : Int) < ((x8_1.length : Int) : Int) := of_decide_eq_true (by first | (with_reducible assumption) | assumption)
                                            obtain ⟨go54, co54, eo54, gb54, gl54, cl54, HG54⟩ := Kd.R_form HO_8.out (by omega)
                                            (first | cases eo54 | (injection eo54 with ea_ en_ ec_; (first | subst ea_ | (injection ea_ with ea_; subst ea_)); subst ec_; clear en_))
                                            have GB54 := Aside0.mk gb54
                                            have GG54 := Aside0.mk HG54
                                            clear gb54 gl54 HG54
                                            obtain ⟨ce54, hcl54, hM54, hcc54, hfr54⟩ := Kd.R_elem HO_8.out z35 ((ji51) : Int) p54 q54
                                            obtain rfl := k35_openM hM54
                                            have hx54_0 : wc.cell? ⟨go54, ((ji51) : Int).toNat * 2, none⟩ = some (.string ((rd_T35 x8_1 (ji51)).f0)) := hcc54 0 _ rfl
                                            have hx54_1 : wc.cell? ⟨go54, ((ji51) : Int).toNat * 2 + 1, none⟩ = some (.string ((rd_T35 x8_1 (ji51)).f1)) := hcc54 1 _ rfl
                                            have hf54_0 : wc.frozen? ⟨go54, ((ji51) : Int).toNat * 2, none⟩ = false := hfr54 0
                                            have hf54_1 : wc.frozen? ⟨go54, ((ji51) : Int).toNat * 2 + 1, none⟩ = false := hfr54 1
                                            clear hcl54 hcc54 hfr54 hM54
                                            replace p54 := eq_true p54
                                            replace q54 := eq_true q54
                                            have HX56 := Aside0.mk (show Kd.R k35 35 wc w.heap.size (fun _ => True) (.slice (some ⟨go54, 0, none⟩) x8_1.length co55) x8_1 from (uR HO_8))
                                            obtain ⟨ce56, hcl56, hM56, hcc56, hfr56⟩ := Kd.R_elem HX56.out z35 ((ji51) : Int) (of_decide_eq_true (by first | (with_reducible assumption) | assumption)) (by have h_ : ((ji51) : Int) < ((x8_1.length : Int) : Int) := of_decide_eq_true (by first | (with_reducible assumption) | assumption); first | exact h_ | (have e_ := (Kd.R_reads' HO_8.out).1; omega) | simpa using h_)
                                            obtain rfl := k35_openM hM56
                                            have HP56 := Kd.R_seg HX56.out ((ji51) : Int) (of_decide_eq_true (by first | (with_reducible assumption) | assumption)) (by have h_ : ((ji51) : Int) < ((x8_1.length : Int) : Int) := of_decide_eq_true (by first | (with_reducible assumption) | assumption); first | exact h_ | (have e_ := (Kd.R_reads' HO_8.out).1; omega) | simpa using h_) (seg := [.string (rdOf ByteArray.empty t206 x10_1)]) (j := 1) hcl56 hcc56 (show 2 ≤ 2 from by decide) (x' := (⟨(rd_T35 x8_1 (ji51)).f0, rdOf ByteArray.empty t206 x10_1⟩ : S35)) (k35_mkM _ _ _ (⟨(rd_T35 x8_1 (ji51)).f0, rdOf ByteArray.empty t206 x10_1⟩ : S35) ) (fun _ hk => hk)
                                            have hx56_1 := hcc56 1 _ rfl
                                            (try simp only [show (k35).sz = 2 from rfl, Nat.mul_one, Nat.add_zero] at hx56_1)
                                            have hf56_1 := hfr56 1
                                            (try simp only [show (k35).sz = 2 from rfl, Nat.mul_one, Nat.add_zero] at hf56_1)
                                            clear hcl56 hcc56 hfr56 hM56
                                            go_wp2_with (first | ((with_reducible refine gate_store (t := 9) (p := 82) rfl ?_); refine store_event (t := 9) (p := 82) (v := ?vo_w57) (w1 := (wc.setCell ⟨go54, ((ji51) : Int).toNat * 2 + 1, none⟩ (.string (rdOf ByteArray.empty t206 x10_1)))) ?hg ?ho ?hn ?hr ?_; (case ho => rfl); (case hg => rfl); (case hn => rfl); (case hr => first | (go_simp; done) | (go_simp; rfl)); intro w57 hw; have hg : wc.grownBy w57 (some go54) := (by rw [hw]; exact HP56.2); have hp_ : Kd.R k35 35 w57 w.heap.size (fun _ => True) (.slice (some ⟨go54, 0, none⟩) x8_1.length co55) y220 := (by rw [hw, Ny220.out]; exact HP56.1); clear HP56; replace HO_7 := Aside0.mk (Kd.R_over' (v := (.slice (some ⟨go54, 0, none⟩) x8_1.length co55)) (uR HO_7) (Kd.R_typed HO_8.out) (by decide) hg); replace HO_8 := Aside0.mk (hp_); replace HB := Aside0.mk ((by rw [hw]; exact below_set (HB.out) GB54.out : Below w.heap.size w w57)); clear hg hw hp_))
                                            go_roundg kj28
                                            case measure => have := HK1.out; have := HJ16.out; have := HJ22.out; have := HJ25.out; have := HJ28.out; omega
                                            case rel => exact ⟨(y220), (false), (wrap64 (x10_1 + 1)), (by first | rfl | (simp; done) | (simp [*]; done)), (by first | rfl | (simp; done) | (simp [*]; done)), H', ⟨by have := HK1.out; have := HJ16.out; have := HJ22.out; have := HJ25.out; have := HJ28.out; omega⟩, ⟨by (with_reducible repeat (first | apply Kd.R_alloc | apply Kd.R_drewN | apply Kd.R_drew)); exact HO_7.out⟩, ⟨by (with_reducible repeat (first | apply Kd.R_alloc | apply Kd.R_drewN | apply Kd.R_drew)); exact HO_8.out⟩, ⟨by repeat (first | (with_reducible first | exact HB.out | apply below_alloc | apply pw_below_drewN | apply below_drew1) | exact HB.out)⟩⟩
                                          · rw [if_neg c53] at H
                                            exact absurd H (by simp)
                                        · rw [if_neg c52] at H
                                          exact absurd H (by simp)
                                      · rw [if_neg c50] at H
                                        exact absurd H (by simp)
                                    · rw [if_neg c49] at H
                                      exact absurd H (by simp)
                                  · replace c48 := Bool.eq_false_iff.mpr c48
                                    subst c48
                                    have H1 : (folkmootref03_set.l0 kj28 l0 l1 a2 t206 x8_1 false (wrap64 (x10_1 + 1))) = some r := by rw [if_neg (show ¬ (false = true) by decide)] at H; exact H
                                    clear H
                                    have H := H1
                                    clear H1
                                    have H' := Aside0.mk H
                                    clear H
                                    go_wp2
                                    go_roundg kj28
                                    case measure => have := HK1.out; have := HJ16.out; have := HJ22.out; have := HJ25.out; have := HJ28.out; omega
                                    case rel => exact ⟨(x8_1), (false), (wrap64 (x10_1 + 1)), (by first | rfl | (simp; done) | (simp [*]; done)), (by first | rfl | (simp; done) | (simp [*]; done)), H', ⟨by have := HK1.out; have := HJ16.out; have := HJ22.out; have := HJ25.out; have := HJ28.out; omega⟩, ⟨by (with_reducible repeat (first | apply Kd.R_alloc | apply Kd.R_drewN | apply Kd.R_drew)); exact HO_7.out⟩, ⟨by (with_reducible repeat (first | apply Kd.R_alloc | apply Kd.R_drewN | apply Kd.R_drew)); exact HO_8.out⟩, ⟨by repeat (first | (with_reducible first | exact HB.out | apply below_alloc | apply pw_below_drewN | apply below_drew1) | exact HB.out)⟩⟩
            · rw [if_neg c14] at H
              exact absurd H (by simp)
          · rw [if_neg c13] at H
            have c13b0 : decide (x10_1 < (t206.length : Int)) = false := decide_eq_false c13
            clear c13
            obtain rfl := Option.some.inj H
            obtain ⟨Ao58, co58, eo58⟩ := Kd.R_slice HO_7.out
            subst eo58
            go_wp2
            go_ret
            exact ⟨_, by first | rfl | (simp [errW_none, errW_some] <;> rfl) | (simp [*, errW_none, errW_some] <;> rfl), by (with_reducible repeat (first | apply Kd.R_alloc | apply Kd.R_drewN | apply Kd.R_drew)); exact HO_8.out, by repeat (first | (with_reducible first | exact HB.out | apply below_alloc | apply pw_below_drewN | apply below_drew1) | exact HB.out)⟩
    · rw [if_neg c5] at H
      exact absurd H (by simp)
  · rw [if_neg c4] at H
    exact absurd H (by simp)

end Go.Proofs.Ytaedgbkeiankcaa.P
-- printed by a program of this session (wip/hp.py over the kit's print)
namespace Go.Proofs.Ytaedgbkeiankcaa.P
open Go.RowKit Go.Proofs.YtaedgbkeiankcaaW.PrintWords Go.Proofs.YtaedgbkeiankcaaW.PrintLast Go.Proofs.YtaedgbkeiankcaaW.PrintMore
attribute [local go_sem] str_leq str_gtr str_geq max2_str max2_int min2_int max_two min_two max_three min_three max_four min_four   -- for this text's walks alone
set_option linter.unusedVariables false
set_option linter.unusedSimpArgs false

/-! ### folkmootref03_Union: function 17 -/
def folkmootref03_Union.f (k : Nat) (l0 : List (S35)) : Option ((List (S35))) := (folkmootref03_set.f k l0 ([] : List (S35)) 0).bind fun t221 => (some t221)
theorem folkmootref03_Union.mono : ∀ a0 k, LeO (folkmootref03_Union.f k a0) (folkmootref03_Union.f (k + 1) a0) := by
  intro a0 k
  unfold folkmootref03_Union.f
  repeat' first
      | (with_reducible exact folkmootref03_set.mono _ _ _ _)
      | (with_reducible exact LeO.refl _)
      | (with_reducible exact LeO.none _)
      | (with_reducible refine LeO.ite ?_ ?_)
      | (with_reducible refine LeO.bind ?_ (fun _ => ?_))
      | exact folkmootref03_set.mono _ _ _ _
      | exact LeO.none _
      | refine LeO.ite ?_ ?_
      | refine LeO.bind ?_ (fun _ => ?_)
set_option maxHeartbeats 8000000 in
set_option maxRecDepth 100000 in
theorem folkmootref03_Union.calls (k : Nat) (A0 : Option Addr) (c0 : Nat) (l0 : List (S35)) (r : List (S35)) (w : World) (hr0 : Kd.C k35 w A0 l0.length l0) (hc0 : l0.length ≤ c0) (h : folkmootref03_Union.f k l0 = some r) :
    Calls Try.prog 17 #[.slice A0 l0.length c0] w fun e w' => ∃ v0_ : Value, e = .returned (v0_) ∧ Kd.R k35 35 w' w.heap.size (fun _ => True) v0_ r ∧ Below w.heap.size w w' := by
  have HR0 := Aside0.mk hr0
  have HC0 := Aside0.mk hc0
  clear hr0 hc0
  have HB := Aside0.mk (Below.refl w.heap.size w)
  have H : ((folkmootref03_set.f k l0 ([] : List (S35)) 0).bind fun t221 => (some t221)) = some r := h
  clear h
  replace H := Option.bind_eq_some_iff.mp H
  obtain ⟨t221, A20, H⟩ := H
  replace H : (some t221) = some r := H
  have A2 := Aside0.mk A20
  clear A20
  obtain rfl := Option.some.inj H
  go_enter Try.func17, Try.ntmps17
  go_wp2_with (first | ((with_reducible refine gate_callee (f := 39) rfl ?_); refine goesL_ (some 4) rfl rfl Try.func39 (by kernel_rfl) rfl #[.slice A0 l0.length c0, .slice none 0 0, .int .i64 0] rfl (by (try simp only [List.map_toArray, List.map_cons, List.map_nil]); first | done | rfl | (simp only [List.length_drop, List.length_take]; rfl)) ?_; (refine (folkmootref03_set.calls k _ _ l0 _ _ ([] : List (S35)) 0 t221 _ ?side1 ?side2 ?side3 ?side4 A2.out).mono ?_); (case side1 => repeat (first | exact HR0.out | (with_reducible refine Kd.C_alloc ?_ _) | (with_reducible refine Kd.C_drewN ?_ _) | (with_reducible refine Kd.C_drew ?_))); (case side2 => exact HC0.out); (case side3 => exact Kd.C_nil _ _); (case side4 => exact Nat.le_refl _); rintro e w3 ⟨v222, rfl, ho0, hb⟩; refine ⟨_, rfl, ?_⟩; have n0_ := Aside0.mk (Kd.R_lower ho0 (below_size (by repeat (first | (with_reducible first | exact HB.out | apply below_alloc | apply pw_below_drewN | apply below_drew1) | exact HB.out)))); have n1_ := Aside0.mk (below_step (by repeat (first | (with_reducible first | exact HB.out | apply below_alloc | apply pw_below_drewN | apply below_drew1) | exact HB.out)) hb); clear HB; have HO223 := n0_; have HB := n1_; clear n0_ n1_; (try clear hb); (try clear hb2); (try clear hk); (try clear hi); (try clear ho0)))
  go_ret
  exact ⟨_, by first | rfl | (simp [errW_none, errW_some] <;> rfl) | (simp [*, errW_none, errW_some] <;> rfl), by (with_reducible repeat (first | apply Kd.R_alloc | apply Kd.R_drewN | apply Kd.R_drew)); exact HO223.out, by repeat (first | (with_reducible first | exact HB.out | apply below_alloc | apply pw_below_drewN | apply below_drew1) | exact HB.out)⟩

end Go.Proofs.Ytaedgbkeiankcaa.P
/- Plain: the reference's set, as printed, comes to the canonical list of the set that is wanted. -/
namespace Go.Proofs.Ytaedgbkeiankcaa.P
open Go.RowKit Go.Proofs.YtaedgbkeiankcaaW.PrintWords
set_option linter.unusedVariables false

/-! ### marks -/
theorem insM_spec (t : ByteArray) : ∀ l : List ByteArray, (l.map tx).Pairwise (· < ·) → ((insM t l).map tx).Pairwise (· < ·) ∧ ∀ x, x ∈ (insM t l).map tx ↔ x = tx t ∨ x ∈ l.map tx
  | [], _ => by simp [insM]
  | x :: l, h => by
    rw [List.map_cons] at h
    obtain ⟨h1, h2⟩ := List.pairwise_cons.1 h
    obtain ⟨h3, h4⟩ := insM_spec t l h2
    unfold insM
    by_cases c : Op.bytesLess x.toList t.toList = true
    · have c' : tx x < tx t := c
      rw [if_pos c, List.map_cons]
      refine ⟨List.pairwise_cons.2 ⟨fun y hy => ?_, h3⟩, fun y => ?_⟩
      · rcases (h4 y).1 hy with rfl | hy
        · exact c'
        · exact h1 y hy
      · rw [List.mem_cons, List.map_cons, List.mem_cons, h4]
        grind
    · rw [if_neg c]
      by_cases e : x.toList = t.toList
      · have e' : tx x = tx t := by unfold tx; rw [e]
        rw [if_pos e, List.map_cons]
        refine ⟨List.pairwise_cons.2 ⟨h1, h2⟩, fun y => ?_⟩
        rw [List.mem_cons, e']
        grind
      · rw [if_neg e]
        have hlt : tx t < tx x := by
          rcases bytesLess_tri x.toList t.toList with h | h | h
          · exact absurd h c
          · exact absurd h e
          · exact h
        rw [List.map_cons, List.map_cons]
        refine ⟨List.pairwise_cons.2 ⟨fun y hy => ?_, List.pairwise_cons.2 ⟨h1, h2⟩⟩, fun y => ?_⟩
        · rcases List.mem_cons.1 hy with rfl | hy
          · exact hlt
          · have := h1 y hy; grind
        · rw [List.mem_cons]
theorem midM_spec (out : List ByteArray) (x : S35) (h : (out.map tx).Pairwise (· < ·)) : ((midM out x 2).map tx).Pairwise (· < ·) ∧ ∀ y, y ∈ (midM out x 2).map tx ↔ (y = tx x.f0 ∨ (tx x.f1 ≠ .nil ∧ y = tx x.f1)) ∨ y ∈ out.map tx := by
  obtain ⟨h1, h2⟩ := insM_spec x.f0 out h
  obtain ⟨h3, h4⟩ := insM_spec x.f1 _ h1
  simp only [midM]
  by_cases c : x.f1.toList = []
  · rw [if_pos c]
    refine ⟨h1, fun y => ?_⟩
    have := (tx_nil x.f1).2 c
    rw [h2]
    grind
  · rw [if_neg c]
    refine ⟨h3, fun y => ?_⟩
    have : tx x.f1 ≠ .nil := fun e => c ((tx_nil x.f1).1 e)
    rw [h4, h2]
    grind
theorem marks_from (l : List S35) : ∀ out : List ByteArray, (out.map tx).Pairwise (· < ·) → ((l.foldl (fun out x => midM out x 2) out).map tx).Pairwise (· < ·) ∧ ∀ y, y ∈ (l.foldl (fun out x => midM out x 2) out).map tx ↔ y ∈ out.map tx ∨ ∃ x ∈ l, y = tx x.f0 ∨ (tx x.f1 ≠ .nil ∧ y = tx x.f1) := by
  induction l with
  | nil => intro out h; exact ⟨h, fun y => by simp⟩
  | cons x l ih =>
    intro out h
    obtain ⟨h1, h2⟩ := midM_spec out x h
    obtain ⟨h3, h4⟩ := ih _ h1
    refine ⟨h3, fun y => ?_⟩
    rw [List.foldl_cons, h4, h2]
    simp only [List.mem_cons, exists_eq_or_imp]
    grind
theorem marks_rise (l : List S35) : ((marksL l).map tx).Pairwise (· < ·) := (marks_from l [] List.Pairwise.nil).1
theorem marks_cover (l a : List S35) (h : ∀ x ∈ a, x ∈ l) : Sp.Covers ((marksL l).map tx) (a.map toSp) := by
  intro s hs
  obtain ⟨x, hx, rfl⟩ := List.mem_map.1 hs
  exact ⟨((marks_from l [] List.Pairwise.nil).2 _).2 (.inr ⟨x, h x hx, .inl rfl⟩), fun hn => ((marks_from l [] List.Pairwise.nil).2 _).2 (.inr ⟨x, h x hx, .inr ⟨hn, rfl⟩⟩)⟩
theorem marks_len (l : List S35) : (marksL l).length ≤ 2 * l.length := by
  have := marksL_len l l.length
  rwa [List.take_length] at this
/-! ### in -/
theorem inSp_iff (k : ByteArray) (x : S35) : inSp k x = true ↔ Sp.inn (tx k) (toSp x) := by
  unfold inSp Sp.inn toSp
  simp only [Bool.and_eq_true, Bool.not_eq_true', Bool.or_eq_true, List.isEmpty_iff, ← tx_nil]
  exact Iff.rfl
theorem any_iff (l : List S35) (k : ByteArray) : l.any (inSp k) = true ↔ Sp.mem (l.map toSp) (tx k) := by
  rw [List.any_eq_true]
  constructor
  · rintro ⟨x, hx, h⟩
    exact ⟨toSp x, List.mem_map.2 ⟨x, hx, rfl⟩, (inSp_iff k x).1 h⟩
  · rintro ⟨s, hs, h⟩
    obtain ⟨x, hx, rfl⟩ := List.mem_map.1 hs
    exact ⟨x, hx, (inSp_iff k x).2 h⟩
theorem in_val (x : S35) (k : ByteArray) : folkmootref03_in.f x.f0 x.f1 k = some (inSp k x) := by
  unfold folkmootref03_in.f inSp
  cases h1 : Op.bytesLess k.toList x.f0.toList with
  | true => simp
  | false =>
    by_cases h2 : x.f1.toList = []
    · simp [h2]
    · have : x.f1.toList.isEmpty = false := by simpa using h2
      simp [h2]
theorem has_l0 (l : List S35) (a : ByteArray) (hl : l.length ≤ 9223372036854775806) : ∀ (d i : Nat), i ≤ l.length → l.length - i = d → Ev (fun k => folkmootref03_Has.l0 k l a (i : Int)) ((l.drop i).any (inSp a)) := by
  intro d
  induction d with
  | zero =>
    intro i hi hd
    have h1 : ¬ (i : Int) < (l.length : Int) := by omega
    rw [List.drop_eq_nil_of_le (by omega)]
    exact Ev.step (fun k => by simp only [folkmootref03_Has.l0, if_neg h1]; rfl) (Ev.val _)
  | succ d ih =>
    intro i hi hd
    have h1 : (i : Int) < (l.length : Int) := by omega
    have h0 : (0 : Int) ≤ (i : Int) := by omega
    have hil : i < l.length := by omega
    have hw : wrap64 ((i : Int) + 1) = ((i + 1 : Nat) : Int) := by rw [wrap_in] <;> omega
    rw [List.drop_eq_getElem_cons hil, List.any_cons]
    cases c : inSp a l[i] with
    | true =>
      exact Ev.step (fun k => by simp only [folkmootref03_Has.l0, if_pos h1, if_pos h0, rd_at l i hil, in_val, c, Option.bind_some, if_true]) (Ev.eq (Ev.val true) (by simp))
    | false =>
      exact Ev.step (fun k => by simp only [folkmootref03_Has.l0, if_pos h1, if_pos h0, rd_at l i hil, in_val, c, Option.bind_some, Bool.false_eq_true, if_false, hw]) (Ev.eq (ih (i + 1) (by omega) (by omega)) (by simp))
theorem has_ev (l : List S35) (a : ByteArray) (hl : l.length ≤ 9223372036854775806) : Ev (fun k => folkmootref03_Has.f k l a) (l.any (inSp a)) := has_l0 l a hl l.length 0 (by omega) (by omega)
/-! ### set -/
def opW (w : Int) (x y : Bool) : Bool := if w = 2 then x && !y else if w = 1 then x && y else x || y
def tailS : Option ByteArray → List S35
  | none => []
  | some f => [(⟨f, (⟨#[]⟩ : ByteArray)⟩ : S35)]
def bldS (P : ByteArray → Bool) : Option ByteArray → List ByteArray → List S35
  | o, [] => tailS o
  | none, m :: M => if P m then bldS P (some m) M else bldS P none M
  | some f, m :: M => if P m then bldS P (some f) M else (⟨f, m⟩ : S35) :: bldS P none M
theorem nil_list : (⟨#[]⟩ : ByteArray).toList = [] := by
  first | rfl | kernel_rfl | decide | simp
theorem bldS_map (P : ByteArray → Bool) (Q : Txt → Bool) (h : ∀ x, P x = Q (tx x)) : ∀ (M : List ByteArray) (o : Option ByteArray), (bldS P o M).map toSp = Sp.bld Q (o.map tx) (M.map tx)
  | [], none => rfl
  | [], some f => by
    have : tx (⟨#[]⟩ : ByteArray) = .nil := (tx_nil _).2 nil_list
    simp [bldS, tailS, Sp.bld, toSp, this]
  | m :: M, none => by
    simp only [bldS, Sp.bld, Option.map_none, List.map_cons, h]
    split
    · exact bldS_map P Q h M (some m)
    · exact bldS_map P Q h M none
  | m :: M, some f => by
    simp only [bldS, Sp.bld, Option.map_some, List.map_cons, h]
    split
    · exact bldS_map P Q h M (some f)
    · rw [List.map_cons, bldS_map P Q h M none]
      rfl
section
variable (a b : List S35) (w : Int) (m : List ByteArray)
theorem set_j3 (out : List S35) (op : Bool) (i : Int) (is : Bool) {r : List S35} (h : Ev (fun k => folkmootref03_set.j4 k a b w m out op i is (is && !op)) r) : Ev (fun k => folkmootref03_set.j3 k a b w m out op i is) r := by
  cases is with
  | true => exact Ev.step (fun k => by simp only [folkmootref03_set.j3, if_true] <;> rfl) h
  | false => exact Ev.step (fun k => by simp only [folkmootref03_set.j3, Bool.false_eq_true, if_false] <;> rfl) h
theorem set_j2 (out : List S35) (op : Bool) (i : Int) (X Y Z is : Bool) (h2 : w = 2 → is = (X && !Y)) (h1 : w ≠ 2 → is = Z) {r : List S35} (h : Ev (fun k => folkmootref03_set.j3 k a b w m out op i is) r) : Ev (fun k => folkmootref03_set.j2 k a b w m out op i X Y Z) r := by
  by_cases c : w = 2
  · obtain rfl := h2 c
    cases X with
    | true => exact Ev.step (fun k => by simp only [folkmootref03_set.j2, if_pos c, if_true] <;> rfl) h
    | false => exact Ev.step (fun k => by simp only [folkmootref03_set.j2, if_pos c, Bool.false_eq_true, if_false] <;> rfl) h
  · obtain rfl := h1 c
    exact Ev.step (fun k => by simp only [folkmootref03_set.j2, if_neg c] <;> rfl) h
theorem set_j1 (out : List S35) (op : Bool) (i : Int) (X Y : Bool) {r : List S35} (h : Ev (fun k => folkmootref03_set.j4 k a b w m out op i (opW w X Y) (opW w X Y && !op)) r) : Ev (fun k => folkmootref03_set.j1 k a b w m out op i X Y (X || Y)) r := by
  have h3 := set_j3 a b w m out op i _ h
  by_cases c : w = 1
  · have h2 := set_j2 a b w m out op i X Y (X && Y) (opW w X Y) (fun e => by unfold opW; rw [if_pos e]) (fun e => by unfold opW; rw [if_neg e, if_pos c]) h3
    cases X with
    | true => exact Ev.step (fun k => by simp only [folkmootref03_set.j1, if_pos c, if_true] <;> rfl) (by simpa only [Bool.true_and] using h2)
    | false => exact Ev.step (fun k => by simp only [folkmootref03_set.j1, if_pos c, Bool.false_eq_true, if_false] <;> rfl) (by simpa only [Bool.false_and] using h2)
  · have h2 := set_j2 a b w m out op i X Y (X || Y) (opW w X Y) (fun e => by unfold opW; rw [if_pos e]) (fun e => by unfold opW; rw [if_neg e, if_neg c]) h3
    exact Ev.step (fun k => by simp only [folkmootref03_set.j1, if_neg c] <;> rfl) h2
theorem set_l0 (ha : a.length ≤ 9223372036854775806) (hb : b.length ≤ 9223372036854775806) (hm : m.length < 4398046511104) : ∀ (d i : Nat) (D : List S35) (o : Option ByteArray), i ≤ m.length → m.length - i = d → (D ++ tailS o).length ≤ i →
    Ev (fun k => folkmootref03_set.l0 k a b w m (D ++ tailS o) o.isSome (i : Int)) (D ++ bldS (fun x => opW w (a.any (inSp x)) (b.any (inSp x))) o (m.drop i)) := by
  intro d
  induction d with
  | zero =>
    intro i D o hi hd hD
    have h1 : ¬ (i : Int) < (m.length : Int) := by omega
    rw [List.drop_eq_nil_of_le (by omega)]
    exact Ev.step (fun k => by simp only [folkmootref03_set.l0, if_neg h1]; rfl) (Ev.eq (Ev.val _) (by cases o <;> rfl))
  | succ d ih =>
    intro i D o hi hd hD
    have h1 : (i : Int) < (m.length : Int) := by omega
    have h0 : (0 : Int) ≤ (i : Int) := by omega
    have him : i < m.length := by omega
    have hw : wrap64 ((i : Int) + 1) = ((i + 1 : Nat) : Int) := by rw [wrap_in] <;> omega
    have hrd : rdOf ByteArray.empty m (i : Int) = m[i] := by simp [rdOf, List.getD_eq_getElem?_getD, him]
    rw [List.drop_eq_getElem_cons him]
    have hx : Ev (fun k => folkmootref03_set.j4 k a b w m (D ++ tailS o) o.isSome (i : Int) (opW w (a.any (inSp m[i])) (b.any (inSp m[i]))) (opW w (a.any (inSp m[i])) (b.any (inSp m[i])) && !o.isSome)) (D ++ bldS (fun x => opW w (a.any (inSp x)) (b.any (inSp x))) o (m[i] :: m.drop (i + 1))) := by
      have hsz : (D ++ tailS o).length < 4398046511104 := by omega
      cases o with
      | none =>
        cases c : opW w (a.any (inSp m[i])) (b.any (inSp m[i])) with
        | true =>
          have hsz' : D.length < 4398046511104 := by simp [tailS] at hsz; omega
          refine Ev.step (f := fun k => folkmootref03_set.l0 k a b w m (D ++ tailS (some m[i])) true ((i + 1 : Nat) : Int)) (fun k => ?_) (Ev.eq (ih (i + 1) D (some m[i]) (by omega) (by omega) (by simp [tailS] at hD ⊢; omega)) (by simp only [bldS, c, if_true]))
          simp only [folkmootref03_set.j4, Option.isSome_none, Bool.not_false, Bool.and_self, if_true, if_pos h0, if_pos h1, if_pos hsz', Option.bind_some, hrd, hw, tailS, List.append_nil]
        | false =>
          refine Ev.step (f := fun k => folkmootref03_set.l0 k a b w m (D ++ tailS none) false ((i + 1 : Nat) : Int)) (fun k => ?_) (Ev.eq (ih (i + 1) D none (by omega) (by omega) (by omega)) (by simp only [bldS, c, Bool.false_eq_true, if_false]))
          simp only [folkmootref03_set.j4, Option.isSome_none, Bool.false_and, Bool.false_eq_true, if_false, hw]
      | some f =>
        cases c : opW w (a.any (inSp m[i])) (b.any (inSp m[i])) with
        | true =>
          refine Ev.step (f := fun k => folkmootref03_set.l0 k a b w m (D ++ tailS (some f)) true ((i + 1 : Nat) : Int)) (fun k => ?_) (Ev.eq (ih (i + 1) D (some f) (by omega) (by omega) (by omega)) (by simp only [bldS, c, if_true]))
          simp only [folkmootref03_set.j4, Option.isSome_some, Bool.not_true, Bool.and_false, Bool.false_eq_true, if_false, if_true, hw]
        | false =>
          have hlen : (D ++ tailS (some f)).length = D.length + 1 := by simp [tailS]
          have hw2 : wrap64 (((D ++ tailS (some f)).length : Int) - 1) = (D.length : Int) := by rw [hlen, wrap_in] <;> omega
          have hd0 : (0 : Int) ≤ (D.length : Int) := by omega
          have hd1 : (D.length : Int) < ((D ++ tailS (some f)).length : Int) := by omega
          have hset : (D ++ tailS (some f)).set D.length (⟨(rd_T35 (D ++ tailS (some f)) (D.length : Int)).f0, m[i]⟩ : S35) = (D ++ [(⟨f, m[i]⟩ : S35)]) ++ tailS none := by
            rw [rd_at _ D.length (by omega)]
            simp [tailS]
          refine Ev.step (f := fun k => folkmootref03_set.l0 k a b w m ((D ++ [(⟨f, m[i]⟩ : S35)]) ++ tailS none) false ((i + 1 : Nat) : Int)) (fun k => ?_) (Ev.eq (ih (i + 1) (D ++ [(⟨f, m[i]⟩ : S35)]) none (by omega) (by omega) (by simp [tailS] at hD ⊢; omega)) (by simp only [bldS, c, Bool.false_eq_true, if_false, List.append_assoc, List.singleton_append]))
          simp only [folkmootref03_set.j4, Option.isSome_some, Bool.false_and, Bool.false_eq_true, if_false, if_true, if_pos h0, if_pos h1, hw2, if_pos hd0, if_pos hd1, Int.toNat_natCast, hset, hrd, hw]
    have hj := set_j1 a b w m (D ++ tailS o) o.isSome (i : Int) (a.any (inSp m[i])) (b.any (inSp m[i])) hx
    refine Ev.step (fun k => by simp only [folkmootref03_set.l0, if_pos h1, if_pos h0, hrd]; rfl) (Ev.bind (has_ev a m[i] ha) (Ev.bind (has_ev b m[i] hb) ?_))
    cases c : a.any (inSp m[i]) with
    | true => simp only [if_true]; rw [c] at hj; exact hj
    | false => simp only [Bool.false_eq_true, if_false]; rw [c] at hj; exact hj
end
def bk (t : Txt) : ByteArray := ⟨t.l.toArray⟩
theorem tx_bk (t : Txt) : tx (bk t) = t := by
  unfold tx bk
  rw [← toList_data]
theorem bk_tx (x : ByteArray) : bk (tx x) = x := tx_inj (tx_bk (tx x))
/-- THE REFERENCE's SET -/
theorem set_ev (a b : List S35) (w : Int) (h : a.length + b.length < 1099511627776) : ∃ s, Ev (fun k => folkmootref03_set.f k a b w) s ∧ Sp.Can (s.map toSp) ∧ ∀ k, Sp.mem (s.map toSp) (tx k) ↔ opW w (a.any (inSp k)) (b.any (inSp k)) = true := by
  have hm := marks_len (a ++ b)
  rw [List.length_append] at hm
  have hMf : folkmootref03_marks.f (a ++ b) = some (marksL (a ++ b)) := by unfold folkmootref03_marks.f; rw [if_pos (by rw [List.length_append]; exact h)]
  have key := set_l0 a b w (marksL (a ++ b)) (by omega) (by omega) (by omega) (marksL (a ++ b)).length 0 [] none (by omega) (by omega) (by simp [tailS])
  refine ⟨_, Ev.congr (fun k => ?_) key, ?_⟩
  · have h1 : (([] : List S35)).length + a.length < 4398046511104 := by simp; omega
    have h2 : (([] : List S35) ++ a).length + b.length < 4398046511104 := by simp; omega
    simp only [folkmootref03_set.f, Option.bind_some, if_pos h1, if_pos h2]
    rw [List.nil_append, hMf]
    rfl
  · rw [List.nil_append, List.drop_zero, bldS_map _ (fun t => opW w ((fun t => a.any (inSp (bk t))) t) ((fun t => b.any (inSp (bk t))) t)) (fun x => by simp only [bk_tx])]
    have h0 : opW w false false = false := by unfold opW; split <;> (try split) <;> rfl
    have hc := Sp.ref_set (marks_rise (a ++ b)) (marks_cover (a ++ b) a (fun x hx => by simp [hx])) (marks_cover (a ++ b) b (fun x hx => by simp [hx])) (opW w) h0 (fun t => a.any (inSp (bk t))) (fun t => b.any (inSp (bk t))) (fun t => by rw [any_iff, tx_bk]) (fun t => by rw [any_iff, tx_bk])
    refine ⟨hc.1, fun k => ?_⟩
    have := hc.2 (tx k)
    simp only [bk_tx] at this
    exact this
theorem can_eq {a b : List S35} (ha : Sp.Can (a.map toSp)) (hb : Sp.Can (b.map toSp)) (h : ∀ k : ByteArray, Sp.mem (a.map toSp) (tx k) ↔ Sp.mem (b.map toSp) (tx k)) : a = b :=
  map_inj (fun h => toSp_inj h) (Sp.can_unique _ _ ha hb fun k => by have := h (bk k); rwa [tx_bk] at this)
theorem any_full (l : List S35) (k : ByteArray) : (l.filter fullSp).any (inSp k) = l.any (inSp k) := by
  rw [List.any_filter]
  congr 1
  funext x
  cases c : inSp k x with
  | false => simp
  | true =>
    have h1 := (inSp_iff k x).1 c
    have : fullSp x = true := (fullSp_iff x).2 (by
      unfold Sp.full
      obtain ⟨h2, h3 | h3⟩ := h1
      · exact .inl h3
      · right
        grind)
    rw [this]
    rfl
theorem union_any (l : List S35) (k : ByteArray) : (unionL l).any (inSp k) = l.any (inSp k) := by
  rw [← any_full l]
  exact Bool.eq_iff_iff.2 (by rw [any_iff, any_iff, (union_of l).mem])
theorem union_can (l : List S35) : Sp.Can ((unionL l).map toSp) := (union_of l).can
theorem union_len (l : List S35) : (unionL l).length ≤ l.length := by
  have := (union_of l).len
  rw [List.length_map, List.length_map] at this
  have := List.length_filter_le fullSp l
  omega
theorem eq_of_any {a b : List S35} (ha : Sp.Can (a.map toSp)) (hb : Sp.Can (b.map toSp)) (h : ∀ k : ByteArray, a.any (inSp k) = b.any (inSp k)) : a = b :=
  can_eq ha hb fun k => by rw [← any_iff, ← any_iff, h k]
theorem refUnion_ev (l : List S35) (h : l.length < 1099511627776) : Ev (fun k => folkmootref03_Union.f k l) (unionL l) := by
  obtain ⟨s, h1, h2, h3⟩ := set_ev l [] 0 (by simpa using h)
  have e : s = unionL l := eq_of_any h2 (union_can l) fun k => by
    rw [union_any]
    refine Bool.eq_iff_iff.2 ?_
    rw [any_iff, h3]
    simp [opW]
  subst e
  exact Ev.bind h1 (Ev.val _)
theorem same_l0 (l : List S35) (hl : l.length ≤ 9223372036854775806) : ∀ (d i : Nat), i ≤ l.length → l.length - i = d → Ev (fun k => folkmootref03_Same.l0 k l l (i : Int)) true := by
  intro d
  induction d with
  | zero =>
    intro i hi hd
    have h1 : ¬ (i : Int) < (l.length : Int) := by omega
    exact Ev.step (fun k => by simp only [folkmootref03_Same.l0, if_neg h1] <;> rfl) (Ev.val _)
  | succ d ih =>
    intro i hi hd
    have h1 : (i : Int) < (l.length : Int) := by omega
    have h0 : (0 : Int) ≤ (i : Int) := by omega
    have hw : wrap64 ((i : Int) + 1) = ((i + 1 : Nat) : Int) := by rw [wrap_in] <;> omega
    exact Ev.step (fun k => by simp only [folkmootref03_Same.l0, if_pos h1, if_pos h0, beq_self_eq_true, Bool.not_true, Bool.or_self, Bool.false_eq_true, if_false, hw] <;> rfl) (ih (i + 1) (by omega) (by omega))
theorem same_ev (l : List S35) (hl : l.length ≤ 9223372036854775806) : Ev (fun k => folkmootref03_Same.f k l l) true :=
  Ev.congr (fun k => by simp only [folkmootref03_Same.f, if_true] <;> rfl) (same_l0 l hl l.length 0 (by omega) (by omega))
end Go.Proofs.Ytaedgbkeiankcaa.P
/- Plain: what span.Cut comes to, of two sets: the set of both. -/
namespace Go.Proofs.Ytaedgbkeiankcaa.P
open Go.RowKit Go.Proofs.YtaedgbkeiankcaaW.PrintWords
set_option linter.unusedVariables false

theorem least_or (a b : ByteArray) : (tx (leastV a b) = tx a ∧ (tx b = .nil ∨ (tx a ≠ .nil ∧ tx a ≤ tx b))) ∨ (tx (leastV a b) = tx b ∧ tx b ≠ .nil ∧ (tx a = .nil ∨ tx b < tx a)) := by
  unfold leastV
  by_cases h1 : a.toList = []
  · have e1 := (tx_nil a).2 h1
    rw [if_pos h1]
    by_cases h2 : b.toList = []
    · have e2 := (tx_nil b).2 h2
      exact .inl ⟨by rw [e1, e2], .inl e2⟩
    · exact .inr ⟨rfl, fun e => h2 ((tx_nil b).1 e), .inl e1⟩
  · rw [if_neg h1]
    have e1 : tx a ≠ .nil := fun e => h1 ((tx_nil a).1 e)
    by_cases h2 : b.toList = []
    · rw [if_pos h2]
      exact .inl ⟨rfl, .inl ((tx_nil b).2 h2)⟩
    · rw [if_neg h2]
      have e2 : tx b ≠ .nil := fun e => h2 ((tx_nil b).1 e)
      by_cases h3 : Op.bytesLess b.toList a.toList = true
      · rw [if_pos h3]
        exact .inr ⟨rfl, e2, .inr h3⟩
      · rw [if_neg h3]
        exact .inl ⟨rfl, .inr ⟨e1, Bool.eq_false_iff.2 h3⟩⟩
theorem mxs_or (a b : ByteArray) : (tx (mxs a b) = tx a ∧ tx b ≤ tx a) ∨ (tx (mxs a b) = tx b ∧ tx a ≤ tx b) := by
  unfold mxs
  split
  · rename_i h
    exact .inr ⟨rfl, bytesLess_asymm h⟩
  · rename_i h
    exact .inl ⟨rfl, Bool.eq_false_iff.2 h⟩
theorem both_in (s t : S35) (k : Txt) : Sp.inn k (toSp (bothV s t)) ↔ Sp.inn k (toSp s) ∧ Sp.inn k (toSp t) := by
  have h1 := least_or s.f1 t.f1
  have h2 := mxs_or s.f0 t.f0
  unfold Sp.inn toSp bothV
  dsimp only
  grind
theorem in_full {k : Txt} {s : Sp} (h : Sp.inn k s) : Sp.full s := by
  unfold Sp.inn at h
  unfold Sp.full
  grind
theorem cut_spec : ∀ (n : Nat) (a b : List S35), a.length + b.length ≤ n → Sp.Can (a.map toSp) → Sp.Can (b.map toSp) → Sp.Can ((cutN n a b).map toSp) ∧ ∀ k : Txt, Sp.mem ((cutN n a b).map toSp) k ↔ Sp.mem (a.map toSp) k ∧ Sp.mem (b.map toSp) k
  | n, [], b, _, _, _ => by
    rw [cutN_nil]
    exact ⟨Sp.can_nil, fun k => by simp [Sp.mem_nil]⟩
  | n, s :: a, [], _, _, _ => by
    rw [cutN_nil2]
    exact ⟨Sp.can_nil, fun k => by simp [Sp.mem_nil]⟩
  | 0, s :: a, t :: b, h, _, _ => by simp at h
  | n + 1, s :: a, t :: b, h, ha, hb => by
    simp only [List.length_cons] at h
    rw [List.map_cons] at ha hb
    have hL := least_or s.f1 t.f1
    have hbi := both_in s t
    have hbt : (toSp (bothV s t)).t = tx (leastV s.f1 t.f1) := rfl
    have hst : (toSp s).t = tx s.f1 := rfl
    have htt : (toSp t).t = tx t.f1 := rfl
    -- what is behind
    obtain ⟨hc, hm, hg⟩ : Sp.Can ((if (bothV s t).f1.toList = s.f1.toList then cutN n a (t :: b) else cutN n (s :: a) b).map toSp) ∧
        (∀ k, (Sp.mem (toSp s :: a.map toSp) k ∧ Sp.mem (toSp t :: b.map toSp) k) ↔ Sp.inn k (toSp (bothV s t)) ∨ Sp.mem ((if (bothV s t).f1.toList = s.f1.toList then cutN n a (t :: b) else cutN n (s :: a) b).map toSp) k) ∧
        (∀ k, Sp.mem ((if (bothV s t).f1.toList = s.f1.toList then cutN n a (t :: b) else cutN n (s :: a) b).map toSp) k → (toSp (bothV s t)).t ≠ .nil ∧ (toSp (bothV s t)).t < k) := by
      by_cases c : (bothV s t).f1.toList = s.f1.toList
      · have c' : tx (leastV s.f1 t.f1) = tx s.f1 := by unfold tx; exact congrArg Txt.mk c
        simp only [if_pos c]
        obtain ⟨h1, h2⟩ := cut_spec n a (t :: b) (by simp only [List.length_cons]; omega) ha.tail (by rw [List.map_cons]; exact hb)
        rw [List.map_cons] at h2
        refine ⟨h1, fun k => ?_, fun k hk => ?_⟩
        · rw [h2, hbi, Sp.mem_cons, Sp.mem_cons]
          have hb1 := fun h => hb.behind (k := k) h
          rw [htt] at hb1
          unfold Sp.inn
          rw [hst, htt]
          grind
        · have := ha.behind ((h2 k).1 hk).1
          rw [hbt, c']
          exact this
      · have c' : tx (leastV s.f1 t.f1) ≠ tx s.f1 := fun e => c (congrArg Txt.l e)
        simp only [if_neg c]
        obtain ⟨h1, h2⟩ := cut_spec n (s :: a) b (by simp only [List.length_cons]; omega) (by rw [List.map_cons]; exact ha) hb.tail
        rw [List.map_cons] at h2
        have hL2 : tx (leastV s.f1 t.f1) = tx t.f1 ∧ tx t.f1 ≠ .nil ∧ (tx s.f1 = .nil ∨ tx t.f1 < tx s.f1) := by
          rcases hL with h | h
          · exact absurd h.1 c'
          · exact h
        refine ⟨h1, fun k => ?_, fun k hk => ?_⟩
        · rw [h2, hbi, Sp.mem_cons, Sp.mem_cons]
          have ha1 := fun h => ha.behind (k := k) h
          rw [hst] at ha1
          unfold Sp.inn
          rw [hst, htt]
          grind
        · have := hb.behind ((h2 k).1 hk).2
          rw [hbt, hL2.1]
          exact this
    unfold cutN
    generalize (if (bothV s t).f1.toList = s.f1.toList then cutN n a (t :: b) else cutN n (s :: a) b) = R at *
    by_cases cf : fullSp (bothV s t) = true
    · rw [if_pos cf, List.singleton_append, List.map_cons]
      refine ⟨Sp.can_cons ((fullSp_iff _).1 cf) hc (fun x hx => ?_), fun k => ?_⟩
      · exact hg x.f ⟨x, hx, Sp.full_in (hc.1 x hx)⟩
      · rw [Sp.mem_cons, List.map_cons, List.map_cons, hm]
    · rw [if_neg cf, List.nil_append]
      refine ⟨hc, fun k => ?_⟩
      rw [List.map_cons, List.map_cons, hm]
      constructor
      · exact .inr
      · rintro (h | h)
        · exact absurd ((fullSp_iff _).2 (in_full h)) cf
        · exact h
end Go.Proofs.Ytaedgbkeiankcaa.P
-- printed by a program of this session (wip/hp.py over the kit's print)
namespace Go.Proofs.Ytaedgbkeiankcaa.P
open Go.RowKit Go.Proofs.YtaedgbkeiankcaaW.PrintWords Go.Proofs.YtaedgbkeiankcaaW.PrintLast Go.Proofs.YtaedgbkeiankcaaW.PrintMore
attribute [local go_sem] str_leq str_gtr str_geq max2_str max2_int min2_int max_two min_two max_three min_three max_four min_four   -- for this text's walks alone
set_option linter.unusedVariables false
set_option linter.unusedSimpArgs false

theorem bool_bne_t {a b : Bool} (h : (a != b) = true) : ¬ (a = b) := by cases a <;> cases b <;> simp_all
theorem bool_bne_f {a b : Bool} (h : ¬ (a != b) = true) : a = b := by cases a <;> cases b <;> simp_all

/-! ### folkmootlaw04_TopoTouches: function 8 -/
mutual
def folkmootlaw04_TopoTouches.j0 : Nat → List (S37) → List (S35) → List (S35) → Bool → Option (Bool)
  | 0, _, _, _, _ => none
  | k + 1, x0, x1, x2, x28 => if x28 = true then ((folkmootlaw04_live.f k).bind fun t398 => (some t398)) else ((folkmootref03_Union.f k x1).bind fun t399 => ((folkmootref03_Union.f k x2).bind fun t402 => ((topo_Touch.f x0 t399).bind fun t405 => ((topo_Touch.f x0 t402).bind fun t408 => ((some (([] : List (S35)) : List (S35))).bind fun y411 => (if y411.length + x1.length < 4398046511104 then ((some (y411 ++ x1 : List (S35))).bind fun y414 => (if y414.length + x2.length < 4398046511104 then ((folkmootref03_Union.f k (y414 ++ x2)).bind fun t420 => ((topo_Touch.f x0 t420).bind fun t423 => (folkmootlaw04_TopoTouches.l0 k x0 t405 t408 t423 0))) else (none))) else (none)))))))
def folkmootlaw04_TopoTouches.l0 : Nat → List (S37) → List Int → List Int → List Int → Int → Option (Bool)
  | 0, _, _, _, _, _ => none
  | k + 1, x0, x9, x10, x11, x12 => if x12 < (x0.length : Int) then ((folkmootref04_In.f k x11 x12).bind fun t436 => ((folkmootref04_In.f k x9 x12).bind fun t437 => (if t437 = true then (if (t436 != true) = true then (some false) else (folkmootlaw04_TopoTouches.l0 k x0 x9 x10 x11 (wrap64 (x12 + 1)))) else ((folkmootref04_In.f k x10 x12).bind fun t438 => (if (t436 != t438) = true then (some false) else (folkmootlaw04_TopoTouches.l0 k x0 x9 x10 x11 (wrap64 (x12 + 1)))))))) else ((topo_Touch.f x0 ([] : List (S35))).bind fun t426 => (if (t426.length : Int) = 0 then ((topo_Touch.f x0 (([(⟨(⟨#[]⟩ : ByteArray), (⟨#[]⟩ : ByteArray)⟩ : S35)] : List (S35)))).bind fun t432 => (if (t432.length : Int) = (x0.length : Int) then ((folkmootlaw04_live.f k).bind fun t435 => (some t435)) else (some false))) else (some false)))
end
def folkmootlaw04_TopoTouches.f (k : Nat) (l0 : List (S37)) (l1 : List (S35)) (l2 : List (S35)) : Option (Bool) := (folkmootlaw04_small.f k l0 l1).bind fun t394 => (if t394 = true then ((folkmootlaw04_small.f k l0 l2).bind fun t395 => (if t395 = true then ((topo_Check.f l0).bind fun t396 => ((folkmootlaw04_num.f t396).bind fun t397 => (folkmootlaw04_TopoTouches.j0 k l0 l1 l2 (t397 != 0)))) else (folkmootlaw04_TopoTouches.j0 k l0 l1 l2 true))) else (folkmootlaw04_TopoTouches.j0 k l0 l1 l2 true))
theorem folkmootlaw04_TopoTouches.mono_l : ∀ k, (∀ y0 y1 y2 y3, LeO (folkmootlaw04_TopoTouches.j0 k y0 y1 y2 y3) (folkmootlaw04_TopoTouches.j0 (k + 1) y0 y1 y2 y3)) ∧ (∀ y0 y1 y2 y3 y4, LeO (folkmootlaw04_TopoTouches.l0 k y0 y1 y2 y3 y4) (folkmootlaw04_TopoTouches.l0 (k + 1) y0 y1 y2 y3 y4))
  | 0 => ⟨fun _ _ _ _ r h => by simp [folkmootlaw04_TopoTouches.j0] at h, fun _ _ _ _ _ r h => by simp [folkmootlaw04_TopoTouches.l0] at h⟩
  | k + 1 => by
    obtain ⟨ih0, ih1⟩ := folkmootlaw04_TopoTouches.mono_l k
    refine ⟨?_, ?_⟩
    · intro y0 y1 y2 y3
      unfold folkmootlaw04_TopoTouches.j0
      repeat' first
      | (with_reducible exact ih0 _ _ _ _)
      | (with_reducible exact ih1 _ _ _ _ _)
      | (with_reducible exact folkmootlaw04_live.mono _)
      | (with_reducible exact folkmootlaw04_small.mono _ _ _)
      | (with_reducible exact folkmootref03_Union.mono _ _)
      | (with_reducible exact folkmootref04_In.mono _ _ _)
      | (with_reducible exact LeO.refl _)
      | (with_reducible exact LeO.none _)
      | (with_reducible refine LeO.ite ?_ ?_)
      | (with_reducible refine LeO.bind ?_ (fun _ => ?_))
      | exact ih0 _ _ _ _
      | exact ih1 _ _ _ _ _
      | exact folkmootlaw04_live.mono _
      | exact folkmootlaw04_small.mono _ _ _
      | exact folkmootref03_Union.mono _ _
      | exact folkmootref04_In.mono _ _ _
      | exact LeO.none _
      | refine LeO.ite ?_ ?_
      | refine LeO.bind ?_ (fun _ => ?_)
    · intro y0 y1 y2 y3 y4
      unfold folkmootlaw04_TopoTouches.l0
      repeat' first
      | (with_reducible exact ih0 _ _ _ _)
      | (with_reducible exact ih1 _ _ _ _ _)
      | (with_reducible exact folkmootlaw04_live.mono _)
      | (with_reducible exact folkmootlaw04_small.mono _ _ _)
      | (with_reducible exact folkmootref03_Union.mono _ _)
      | (with_reducible exact folkmootref04_In.mono _ _ _)
      | (with_reducible exact LeO.refl _)
      | (with_reducible exact LeO.none _)
      | (with_reducible refine LeO.ite ?_ ?_)
      | (with_reducible refine LeO.bind ?_ (fun _ => ?_))
      | exact ih0 _ _ _ _
      | exact ih1 _ _ _ _ _
      | exact folkmootlaw04_live.mono _
      | exact folkmootlaw04_small.mono _ _ _
      | exact folkmootref03_Union.mono _ _
      | exact folkmootref04_In.mono _ _ _
      | exact LeO.none _
      | refine LeO.ite ?_ ?_
      | refine LeO.bind ?_ (fun _ => ?_)
theorem folkmootlaw04_TopoTouches.mono : ∀ a0 a1 a2 k, LeO (folkmootlaw04_TopoTouches.f k a0 a1 a2) (folkmootlaw04_TopoTouches.f (k + 1) a0 a1 a2) := by
  intro a0 a1 a2 k
  obtain ⟨ih0, ih1⟩ := folkmootlaw04_TopoTouches.mono_l k
  unfold folkmootlaw04_TopoTouches.f
  repeat' first
      | (with_reducible exact ih0 _ _ _ _)
      | (with_reducible exact ih1 _ _ _ _ _)
      | (with_reducible exact folkmootlaw04_live.mono _)
      | (with_reducible exact folkmootlaw04_small.mono _ _ _)
      | (with_reducible exact folkmootref03_Union.mono _ _)
      | (with_reducible exact folkmootref04_In.mono _ _ _)
      | (with_reducible exact LeO.refl _)
      | (with_reducible exact LeO.none _)
      | (with_reducible refine LeO.ite ?_ ?_)
      | (with_reducible refine LeO.bind ?_ (fun _ => ?_))
      | exact ih0 _ _ _ _
      | exact ih1 _ _ _ _ _
      | exact folkmootlaw04_live.mono _
      | exact folkmootlaw04_small.mono _ _ _
      | exact folkmootref03_Union.mono _ _
      | exact folkmootref04_In.mono _ _ _
      | exact LeO.none _
      | refine LeO.ite ?_ ?_
      | refine LeO.bind ?_ (fun _ => ?_)
set_option maxHeartbeats 8000000 in
set_option maxRecDepth 100000 in
theorem folkmootlaw04_TopoTouches.calls (k : Nat) (A0 : Option Addr) (c0 : Nat) (l0 : List (S37)) (A1 : Option Addr) (c1 : Nat) (l1 : List (S35)) (A2 : Option Addr) (c2 : Nat) (l2 : List (S35)) (r : Bool) (w : World) (hr0 : Kd.C k37 w A0 l0.length l0) (hc0 : l0.length ≤ c0) (hr1 : Kd.C k35 w A1 l1.length l1) (hc1 : l1.length ≤ c1) (hr2 : Kd.C k35 w A2 l2.length l2) (hc2 : l2.length ≤ c2) (h : folkmootlaw04_TopoTouches.f k l0 l1 l2 = some r) (hrt_ : r = true := by rfl) :
    Calls Try.prog 8 #[.slice A0 l0.length c0, .slice A1 l1.length c1, .slice A2 l2.length c2] w fun e w' => e = .returned (.bool r) ∧ Below w.heap.size w w' := by
  subst hrt_
  have hu35 := Try.underlying35
  have HR0 := Aside0.mk hr0
  have HC0 := Aside0.mk hc0
  clear hr0 hc0
  have HR1 := Aside0.mk hr1
  have HC1 := Aside0.mk hc1
  clear hr1 hc1
  have HR2 := Aside0.mk hr2
  have HC2 := Aside0.mk hc2
  clear hr2 hc2
  have HB := Aside0.mk (Below.refl w.heap.size w)
  have H : ((folkmootlaw04_small.f k l0 l1).bind fun t394 => (if t394 = true then ((folkmootlaw04_small.f k l0 l2).bind fun t395 => (if t395 = true then ((topo_Check.f l0).bind fun t396 => ((folkmootlaw04_num.f t396).bind fun t397 => (folkmootlaw04_TopoTouches.j0 k l0 l1 l2 (t397 != 0)))) else (folkmootlaw04_TopoTouches.j0 k l0 l1 l2 true))) else (folkmootlaw04_TopoTouches.j0 k l0 l1 l2 true))) = some true := h
  clear h
  have HC4 := Aside0.mk H
  clear H
  go_enter Try.func8, Try.ntmps8
  go_upto_region 1 with (fail)
  go_cut [28] (fun v28 wc => ∃ (kq : Nat) (x28_3 : Bool), v28 = .bool x28_3 ∧ Aside0 (folkmootlaw04_TopoTouches.j0 kq l0 l1 l2 x28_3 = some true) ∧ Aside0 (kq ≤ k) ∧ Aside0 (Below w.heap.size w wc))
  case first =>
    have H := HC4.out
    clear HC4
    replace H := Option.bind_eq_some_iff.mp H
    obtain ⟨t394, A50, H⟩ := H
    replace H : (if t394 = true then ((folkmootlaw04_small.f k l0 l2).bind fun t395 => (if t395 = true then ((topo_Check.f l0).bind fun t396 => ((folkmootlaw04_num.f t396).bind fun t397 => (folkmootlaw04_TopoTouches.j0 k l0 l1 l2 (t397 != 0)))) else (folkmootlaw04_TopoTouches.j0 k l0 l1 l2 true))) else (folkmootlaw04_TopoTouches.j0 k l0 l1 l2 true)) = some true := H
    have A5 := Aside0.mk A50
    clear A50
    by_cases c6 : t394 = true
    · subst c6
      have H1 : ((folkmootlaw04_small.f k l0 l2).bind fun t395 => (if t395 = true then ((topo_Check.f l0).bind fun t396 => ((folkmootlaw04_num.f t396).bind fun t397 => (folkmootlaw04_TopoTouches.j0 k l0 l1 l2 (t397 != 0)))) else (folkmootlaw04_TopoTouches.j0 k l0 l1 l2 true))) = some true := by rw [if_pos rfl] at H; exact H
      clear H
      have H := H1
      clear H1
      replace H := Option.bind_eq_some_iff.mp H
      obtain ⟨t395, A70, H⟩ := H
      replace H : (if t395 = true then ((topo_Check.f l0).bind fun t396 => ((folkmootlaw04_num.f t396).bind fun t397 => (folkmootlaw04_TopoTouches.j0 k l0 l1 l2 (t397 != 0)))) else (folkmootlaw04_TopoTouches.j0 k l0 l1 l2 true)) = some true := H
      have A7 := Aside0.mk A70
      clear A70
      by_cases c8 : t395 = true
      · subst c8
        have H1 : ((topo_Check.f l0).bind fun t396 => ((folkmootlaw04_num.f t396).bind fun t397 => (folkmootlaw04_TopoTouches.j0 k l0 l1 l2 (t397 != 0)))) = some true := by rw [if_pos rfl] at H; exact H
        clear H
        have H := H1
        clear H1
        replace H := Option.bind_eq_some_iff.mp H
        obtain ⟨t396, A90, H⟩ := H
        replace H : ((folkmootlaw04_num.f t396).bind fun t397 => (folkmootlaw04_TopoTouches.j0 k l0 l1 l2 (t397 != 0))) = some true := H
        have A9 := Aside0.mk A90
        clear A90
        replace H := Option.bind_eq_some_iff.mp H
        obtain ⟨t397, A100, H⟩ := H
        replace H : (folkmootlaw04_TopoTouches.j0 k l0 l1 l2 (t397 != 0)) = some true := H
        have A10 := Aside0.mk A100
        clear A100
        have H' := Aside0.mk H
        clear H
        go_wp2_with (first | ((with_reducible refine gate_callee (f := 9) rfl ?_); refine goesL_ (some 15) rfl rfl Try.func9 (by kernel_rfl) rfl #[.slice A0 l0.length c0, .slice A1 l1.length c1] rfl (by (try simp only [List.map_toArray, List.map_cons, List.map_nil]); first | done | rfl | (simp only [List.length_drop, List.length_take]; rfl)) ?_; (with_reducible refine (folkmootlaw04_small.calls k _ _ l0 _ _ l1 true _ ?side1 ?side2 ?side3 ?side4 A5.out).mono ?_); (case side1 => exact uC (Kd.C_below HR0.out HB.out)); (case side2 => exact HC0.out); (case side3 => exact uC (Kd.C_below HR1.out HB.out)); (case side4 => exact HC1.out); rintro e w' ⟨rfl, ⟨nd, rfl⟩⟩; refine ⟨_, rfl, ?_⟩) | (go_at_call 9; (with_reducible refine (folkmootlaw04_small.calls k _ _ l0 _ _ l2 true _ ?side1 ?side2 ?side3 ?side4 A7.out).mono ?_); (case side1 => exact (Kd.C_below HR0.out (uB HB))); (case side2 => exact HC0.out); (case side3 => exact (Kd.C_below HR2.out (uB HB))); (case side4 => exact HC2.out); rintro e w' ⟨rfl, ⟨nd, rfl⟩⟩) | (go_at_call 12; (with_reducible refine (topo_Check.calls _ _ l0 t396 _ ?side1 ?side2 A9.out).mono ?_); (case side1 => exact (Kd.C_below HR0.out (uB HB))); (case side2 => exact HC0.out); rintro e w11 ⟨rfl, hb⟩; replace HB := sB HB hb; (try clear hb); (try clear hb2); (try clear hk); (try clear hi)) | (go_at_call 11; (with_reducible refine (folkmootlaw04_num.calls t396 t397 _ A10.out).mono ?_); rintro e w' ⟨rfl, ⟨nd, rfl⟩⟩))
        go_meet
        case rel => exact ⟨_, ((t397 != 0)), (by first | rfl | (simp; done) | (simp [*]; done)), H', ⟨by first | omega | exact Nat.le_refl _⟩, ⟨by repeat (first | (with_reducible first | exact HB.out | apply below_alloc | apply pw_below_drewN | apply below_drew1) | exact HB.out)⟩⟩
      · replace c8 := Bool.eq_false_iff.mpr c8
        subst c8
        have H1 : (folkmootlaw04_TopoTouches.j0 k l0 l1 l2 true) = some true := by rw [if_neg (show ¬ (false = true) by decide)] at H; exact H
        clear H
        have H := H1
        clear H1
        have H' := Aside0.mk H
        clear H
        go_wp2_with (first | ((with_reducible refine gate_callee (f := 9) rfl ?_); refine goesL_ (some 15) rfl rfl Try.func9 (by kernel_rfl) rfl #[.slice A0 l0.length c0, .slice A1 l1.length c1] rfl (by (try simp only [List.map_toArray, List.map_cons, List.map_nil]); first | done | rfl | (simp only [List.length_drop, List.length_take]; rfl)) ?_; (with_reducible refine (folkmootlaw04_small.calls k _ _ l0 _ _ l1 true _ ?side1 ?side2 ?side3 ?side4 A5.out).mono ?_); (case side1 => exact uC (Kd.C_below HR0.out HB.out)); (case side2 => exact HC0.out); (case side3 => exact uC (Kd.C_below HR1.out HB.out)); (case side4 => exact HC1.out); rintro e w' ⟨rfl, ⟨nd, rfl⟩⟩; refine ⟨_, rfl, ?_⟩) | (go_at_call 9; (with_reducible refine (folkmootlaw04_small.calls k _ _ l0 _ _ l2 false _ ?side1 ?side2 ?side3 ?side4 A7.out).mono ?_); (case side1 => exact (Kd.C_below HR0.out (uB HB))); (case side2 => exact HC0.out); (case side3 => exact (Kd.C_below HR2.out (uB HB))); (case side4 => exact HC2.out); rintro e w' ⟨rfl, ⟨nd, rfl⟩⟩))
        go_meet
        case rel => exact ⟨_, (true), (by first | rfl | (simp; done) | (simp [*]; done)), H', ⟨by first | omega | exact Nat.le_refl _⟩, ⟨by repeat (first | (with_reducible first | exact HB.out | apply below_alloc | apply pw_below_drewN | apply below_drew1) | exact HB.out)⟩⟩
    · replace c6 := Bool.eq_false_iff.mpr c6
      subst c6
      have H1 : (folkmootlaw04_TopoTouches.j0 k l0 l1 l2 true) = some true := by rw [if_neg (show ¬ (false = true) by decide)] at H; exact H
      clear H
      have H := H1
      clear H1
      have H' := Aside0.mk H
      clear H
      go_wp2_with (first | ((with_reducible refine gate_callee (f := 9) rfl ?_); refine goesL_ (some 15) rfl rfl Try.func9 (by kernel_rfl) rfl #[.slice A0 l0.length c0, .slice A1 l1.length c1] rfl (by (try simp only [List.map_toArray, List.map_cons, List.map_nil]); first | done | rfl | (simp only [List.length_drop, List.length_take]; rfl)) ?_; (with_reducible refine (folkmootlaw04_small.calls k _ _ l0 _ _ l1 false _ ?side1 ?side2 ?side3 ?side4 A5.out).mono ?_); (case side1 => exact uC (Kd.C_below HR0.out HB.out)); (case side2 => exact HC0.out); (case side3 => exact uC (Kd.C_below HR1.out HB.out)); (case side4 => exact HC1.out); rintro e w' ⟨rfl, ⟨nd, rfl⟩⟩; refine ⟨_, rfl, ?_⟩))
      go_meet
      case rel => exact ⟨_, (true), (by first | rfl | (simp; done) | (simp [*]; done)), H', ⟨by first | omega | exact Nat.le_refl _⟩, ⟨by repeat (first | (with_reducible first | exact HB.out | apply below_alloc | apply pw_below_drewN | apply below_drew1) | exact HB.out)⟩⟩
  case rest =>
    clear HC4
    try clear c1
    try clear c2
    try clear p2
    try clear c6
    try clear c8
    try clear c9
    obtain ⟨kq, x28_3, rfl, HA, HJ3, HB⟩ := hcut
    cases kq with
    | zero => exact absurd HA.out (by simp [folkmootlaw04_TopoTouches.j0])
    | succ kj3 =>
      have H := HA.out
      clear HA
      simp only [folkmootlaw04_TopoTouches.j0] at H
      by_cases c12 : x28_3 = true
      · subst c12
        have H1 : ((folkmootlaw04_live.f kj3).bind fun t398 => (some t398)) = some true := by rw [if_pos rfl] at H; exact H
        clear H
        have H := H1
        clear H1
        replace H := Option.bind_eq_some_iff.mp H
        obtain ⟨t398, A130, H⟩ := H
        replace H : (some t398) = some true := H
        have A13 := Aside0.mk A130
        clear A130
        have hrt_ := Aside0.mk (Option.some.inj H)
        clear H
        go_wp2_with (first | ((with_reducible refine gate_callee (f := 10) rfl ?_); refine goesL_ (some 29) rfl rfl Try.func10 (by kernel_rfl) rfl #[] rfl (by (try simp only [List.map_toArray, List.map_cons, List.map_nil]); first | done | rfl | (simp only [List.length_drop, List.length_take]; rfl)) ?_; (with_reducible refine (folkmootlaw04_live.calls kj3  t398 _ A13.out).mono ?_); rintro e w14 ⟨rfl, hb⟩; refine ⟨_, rfl, ?_⟩; replace HB := sB HB hb; (try clear hb); (try clear hb2); (try clear hk); (try clear hi)))
        go_ret
        exact ⟨by first | rfl | (exact congrArg (fun b_ => Ending.returned (Value.bool b_)) hrt_.out) | (simp [errW_none, errW_some] <;> rfl) | (simp [*, errW_none, errW_some] <;> rfl), by repeat (first | (with_reducible first | exact HB.out | apply below_alloc | apply pw_below_drewN | apply below_drew1) | exact HB.out)⟩
      · replace c12 := Bool.eq_false_iff.mpr c12
        subst c12
        have H1 : ((folkmootref03_Union.f kj3 l1).bind fun t399 => ((folkmootref03_Union.f kj3 l2).bind fun t402 => ((topo_Touch.f l0 t399).bind fun t405 => ((topo_Touch.f l0 t402).bind fun t408 => ((some (([] : List (S35)) : List (S35))).bind fun y411 => (if y411.length + l1.length < 4398046511104 then ((some (y411 ++ l1 : List (S35))).bind fun y414 => (if y414.length + l2.length < 4398046511104 then ((folkmootref03_Union.f kj3 (y414 ++ l2)).bind fun t420 => ((topo_Touch.f l0 t420).bind fun t423 => (folkmootlaw04_TopoTouches.l0 kj3 l0 t405 t408 t423 0))) else (none))) else (none))))))) = some true := by rw [if_neg (show ¬ (false = true) by decide)] at H; exact H
        clear H
        have H := H1
        clear H1
        replace H := Option.bind_eq_some_iff.mp H
        obtain ⟨t399, A150, H⟩ := H
        replace H : ((folkmootref03_Union.f kj3 l2).bind fun t402 => ((topo_Touch.f l0 t399).bind fun t405 => ((topo_Touch.f l0 t402).bind fun t408 => ((some (([] : List (S35)) : List (S35))).bind fun y411 => (if y411.length + l1.length < 4398046511104 then ((some (y411 ++ l1 : List (S35))).bind fun y414 => (if y414.length + l2.length < 4398046511104 then ((folkmootref03_Union.f kj3 (y414 ++ l2)).bind fun t420 => ((topo_Touch.f l0 t420).bind fun t423 => (folkmootlaw04_TopoTouches.l0 kj3 l0 t405 t408 t423 0))) else (none))) else (none)))))) = some true := H
        have A15 := Aside0.mk A150
        clear A150
        replace H := Option.bind_eq_some_iff.mp H
        obtain ⟨t402, A160, H⟩ := H
        replace H : ((topo_Touch.f l0 t399).bind fun t405 => ((topo_Touch.f l0 t402).bind fun t408 => ((some (([] : List (S35)) : List (S35))).bind fun y411 => (if y411.length + l1.length < 4398046511104 then ((some (y411 ++ l1 : List (S35))).bind fun y414 => (if y414.length + l2.length < 4398046511104 then ((folkmootref03_Union.f kj3 (y414 ++ l2)).bind fun t420 => ((topo_Touch.f l0 t420).bind fun t423 => (folkmootlaw04_TopoTouches.l0 kj3 l0 t405 t408 t423 0))) else (none))) else (none))))) = some true := H
        have A16 := Aside0.mk A160
        clear A160
        replace H := Option.bind_eq_some_iff.mp H
        obtain ⟨t405, A170, H⟩ := H
        replace H : ((topo_Touch.f l0 t402).bind fun t408 => ((some (([] : List (S35)) : List (S35))).bind fun y411 => (if y411.length + l1.length < 4398046511104 then ((some (y411 ++ l1 : List (S35))).bind fun y414 => (if y414.length + l2.length < 4398046511104 then ((folkmootref03_Union.f kj3 (y414 ++ l2)).bind fun t420 => ((topo_Touch.f l0 t420).bind fun t423 => (folkmootlaw04_TopoTouches.l0 kj3 l0 t405 t408 t423 0))) else (none))) else (none)))) = some true := H
        have A17 := Aside0.mk A170
        clear A170
        replace H := Option.bind_eq_some_iff.mp H
        obtain ⟨t408, A180, H⟩ := H
        replace H : ((some (([] : List (S35)) : List (S35))).bind fun y411 => (if y411.length + l1.length < 4398046511104 then ((some (y411 ++ l1 : List (S35))).bind fun y414 => (if y414.length + l2.length < 4398046511104 then ((folkmootref03_Union.f kj3 (y414 ++ l2)).bind fun t420 => ((topo_Touch.f l0 t420).bind fun t423 => (folkmootlaw04_TopoTouches.l0 kj3 l0 t405 t408 t423 0))) else (none))) else (none))) = some true := H
        have A18 := Aside0.mk A180
        clear A180
        obtain ⟨y411, hy411⟩ : ∃ y_ : List (S35), y_ = (([] : List (S35))) := ⟨_, rfl⟩
        replace H : (if y411.length + l1.length < 4398046511104 then ((some (y411 ++ l1 : List (S35))).bind fun y414 => (if y414.length + l2.length < 4398046511104 then ((folkmootref03_Union.f kj3 (y414 ++ l2)).bind fun t420 => ((topo_Touch.f l0 t420).bind fun t423 => (folkmootlaw04_TopoTouches.l0 kj3 l0 t405 t408 t423 0))) else (none))) else (none)) = some true := by first | (rw [hy411]; with_reducible exact H) | (have H2_ := (Option.bind_some _ _).symm.trans H; rw [hy411]; with_reducible exact H2_) | (have H2_ := (Option.bind_some _ _).symm.trans H; with_reducible exact H2_) | with_reducible exact H | (rw [hy411]; exact H) | exact H
        have Ny411 := Aside0.mk hy411
        clear hy411
        by_cases c19 : y411.length + l1.length < 4398046511104
        · rw [if_pos c19] at H
          have LMc19 := Aside0.mk c19
          clear c19
          obtain ⟨y414, hy414⟩ : ∃ y_ : List (S35), y_ = (y411 ++ l1) := ⟨_, rfl⟩
          replace H : (if y414.length + l2.length < 4398046511104 then ((folkmootref03_Union.f kj3 (y414 ++ l2)).bind fun t420 => ((topo_Touch.f l0 t420).bind fun t423 => (folkmootlaw04_TopoTouches.l0 kj3 l0 t405 t408 t423 0))) else (none)) = some true := by first | (rw [hy414]; with_reducible exact H) | (have H2_ := (Option.bind_some _ _).symm.trans H; rw [hy414]; with_reducible exact H2_) | (have H2_ := (Option.bind_some _ _).symm.trans H; with_reducible exact H2_) | with_reducible exact H | (rw [hy414]; exact H) | exact H
          have Ny414 := Aside0.mk hy414
          clear hy414
          by_cases c20 : y414.length + l2.length < 4398046511104
          · rw [if_pos c20] at H
            have LMc20 := Aside0.mk c20
            clear c20
            obtain ⟨y417, hy417⟩ : ∃ y_ : List (S35), y_ = (y414 ++ l2) := ⟨_, rfl⟩
            replace H : ((folkmootref03_Union.f kj3 y417).bind fun t420 => ((topo_Touch.f l0 t420).bind fun t423 => (folkmootlaw04_TopoTouches.l0 kj3 l0 t405 t408 t423 0))) = some true := by first | (rw [hy417]; with_reducible exact H) | (have H2_ := (Option.bind_some _ _).symm.trans H; rw [hy417]; with_reducible exact H2_) | (have H2_ := (Option.bind_some _ _).symm.trans H; with_reducible exact H2_) | with_reducible exact H | (rw [hy417]; exact H) | exact H
            have Ny417 := Aside0.mk hy417
            clear hy417
            replace H := Option.bind_eq_some_iff.mp H
            obtain ⟨t420, A210, H⟩ := H
            replace H : ((topo_Touch.f l0 t420).bind fun t423 => (folkmootlaw04_TopoTouches.l0 kj3 l0 t405 t408 t423 0)) = some true := H
            have A21 := Aside0.mk A210
            clear A210
            replace H := Option.bind_eq_some_iff.mp H
            obtain ⟨t423, A220, H⟩ := H
            replace H : (folkmootlaw04_TopoTouches.l0 kj3 l0 t405 t408 t423 0) = some true := H
            have A22 := Aside0.mk A220
            clear A220
            have H' := Aside0.mk H
            clear H
            go_wp2_with (first | ((with_reducible refine gate_callee (f := 17) rfl ?_); refine goesL_ (some 31) rfl rfl Try.func17 (by kernel_rfl) rfl #[.slice A1 l1.length c1] rfl (by (try simp only [List.map_toArray, List.map_cons, List.map_nil]); first | done | rfl | (simp only [List.length_drop, List.length_take]; rfl)) ?_; (with_reducible refine (folkmootref03_Union.calls kj3 _ _ l1 t399 _ ?side1 ?side2 A15.out).mono ?_); (case side1 => exact uC (Kd.C_below HR1.out HB.out)); (case side2 => exact HC1.out); rintro e w23 ⟨v400, rfl, ho0, hb⟩; refine ⟨_, rfl, ?_⟩; have HO401 := lR ho0 HB; replace HB := sB HB hb; (try clear hb); (try clear hb2); (try clear hk); (try clear hi); (try clear ho0)) | ((with_reducible refine gate_callee (f := 17) rfl ?_); refine goesL_ (some 33) rfl rfl Try.func17 (by kernel_rfl) rfl #[.slice A2 l2.length c2] rfl (by (try simp only [List.map_toArray, List.map_cons, List.map_nil]); first | done | rfl | (simp only [List.length_drop, List.length_take]; rfl)) ?_; (with_reducible refine (folkmootref03_Union.calls kj3 _ _ l2 t402 _ ?side1 ?side2 A16.out).mono ?_); (case side1 => exact uC (Kd.C_below HR2.out HB.out)); (case side2 => exact HC2.out); rintro e w24 ⟨v403, rfl, ho0, hb⟩; refine ⟨_, rfl, ?_⟩; have HO404 := lR (nR ho0 HO401) HB; replace HO401 := eR HO401 ho0 hb; replace HB := sB HB hb; (try clear hb); (try clear hb2); (try clear hk); (try clear hi); (try clear ho0); obtain ⟨Ao25, co25, eo25⟩ := Kd.R_slice HO401.out; subst eo25) | ((with_reducible refine gate_callee (f := 25) rfl ?_); refine goesL_ (some 36) rfl rfl Try.func25 (by kernel_rfl) rfl #[.slice A0 l0.length c0, .slice Ao25 t399.length co25] rfl (by (try simp only [List.map_toArray, List.map_cons, List.map_nil]); first | done | rfl | (simp only [List.length_drop, List.length_take]; rfl)) ?_; (with_reducible refine (topo_Touch.calls _ _ l0 _ _ t399 t405 _ ?side1 ?side2 ?side3 ?side4 A17.out).mono ?_); (case side1 => exact uC (Kd.C_below HR0.out HB.out)); (case side2 => exact HC0.out); (case side3 => exact uC (Kd.R_reads' HO401.out).2.2); (case side4 => exact (Kd.R_reads' HO401.out).2.1); rintro e w26 ⟨v406, rfl, ho0, hb⟩; refine ⟨_, rfl, ?_⟩; replace HO401 := bR HO401 hb; replace HO404 := bR HO404 hb; have HO407 := lR ho0 HB; replace HB := sB HB hb; (try clear hb); (try clear hb2); (try clear hk); (try clear hi); (try clear ho0); obtain ⟨Ao27, co27, eo27⟩ := Kd.R_slice HO404.out; subst eo27) | ((with_reducible refine gate_callee (f := 25) rfl ?_); refine goesL_ (some 39) rfl rfl Try.func25 (by kernel_rfl) rfl #[.slice A0 l0.length c0, .slice Ao27 t402.length co27] rfl (by (try simp only [List.map_toArray, List.map_cons, List.map_nil]); first | done | rfl | (simp only [List.length_drop, List.length_take]; rfl)) ?_; (with_reducible refine (topo_Touch.calls _ _ l0 _ _ t402 t408 _ ?side1 ?side2 ?side3 ?side4 A18.out).mono ?_); (case side1 => exact uC (Kd.C_below HR0.out HB.out)); (case side2 => exact HC0.out); (case side3 => exact uC (Kd.R_reads' HO404.out).2.2); (case side4 => exact (Kd.R_reads' HO404.out).2.1); rintro e w28 ⟨v409, rfl, ho0, hb⟩; refine ⟨_, rfl, ?_⟩; replace HO401 := bR HO401 hb; replace HO404 := bR HO404 hb; have HO410 := lR (nR ho0 HO407) HB; replace HO407 := eR HO407 ho0 hb; replace HB := sB HB hb; (try clear hb); (try clear hb2); (try clear hk); (try clear hi); (try clear ho0)) | ((with_reducible refine gate_dst (N := 41) rfl ?_); (try (refine gate_guard (by rfl) ?_; dsimp only)); refine Kd.R_lit k35 _ 35 ?hg (N := 41) ?hd (xs := ([] : List (S35))) (inner := []) (ok := fun _ => True) (okp := fun _ => True) ?hr ?hp (fun _ hk => hk) trivial (Below.refl _ _) (Nat.le_refl _) (by simp) ?_; (case hd => rfl); (case hg => rfl); (case hr => first | (go_simp; done) | (go_simp; rfl)); (case hp => exact (Reps.none _ _)); intro v412 w29 ho30 hb hg_ hnew_; clear hg_ hnew_; (first | rw [← Ny411.out] at ho30 | (simp only [Int.reduceToNat] at ho30; rw [← Ny411.out] at ho30)); replace HO407 := bR HO407 hb; replace HO410 := bR HO410 hb; have HO413 := lR (nR (nR ho30 HO401) HO404) HB; replace HO401 := eR HO401 ho30 hb; replace HO404 := eR HO404 ho30 hb; replace HB := sB HB hb; clear hb ho30) | ((with_reducible refine gate_builtin (b := .append) (xs := #[.tmp 41, .tmp 42]) rfl ?_); (try (refine gate_guard (by rfl) ?_; dsimp only)); at_builtin; refine Kd.R_append_rows k35 (w0 := w) w.heap.size rfl (.tmp 41) (.tmp 42) 30 35 (.agg #[(.string ⟨#[]⟩), (.string ⟨#[]⟩)]) 32 rfl Try.underlying30 info35 rfl (by decide) (by omega) v412 y411 l1 _ _ _ (fun k_ => some k_ ≠ (.slice Ao25 t399.length co25 : Value).ownBlock ∧ some k_ ≠ (.slice Ao27 t402.length co27 : Value).ownBlock) (fun _ => False) rfl rfl ?aO ?aR (fun _ _ h => h) (fun _ h => h.elim) ?aF ?aB ?aS ?aL ?_; (case aR => exact uC (Kd.C_below HR1.out HB.out)); (case aB => exact (uB HB)); (case aF => exact (fun k_ hk => ⟨Kd.fresh' (Kd.R_lt (uR HO401)) k_ hk, Kd.fresh' (Kd.R_lt (uR HO404)) k_ hk⟩)); (case aO => exact (by (with_reducible repeat (first | apply Kd.R_alloc | apply Kd.R_drewN | apply Kd.R_drew)); exact Kd.R_mono HO413.out (fun _ hk => ⟨hk.1.2, hk.2⟩))); (case aS => exact (below_size (uB HB))); (case aL => have := LMc19.out; omega); intro v415 w31 ho hb hg hat; rw [← Ny414.out] at ho; have n0_ := Aside0.mk (Kd.R_after (ok := (fun k_ => some k_ ≠ (.slice Ao27 t402.length co27 : Value).ownBlock)) (by (with_reducible repeat (first | apply Kd.R_alloc | apply Kd.R_drewN | apply Kd.R_drew)); exact Kd.R_mono HO401.out (fun _ hk => ⟨hk.1.2, hk.2⟩)) hg hat); have n1_ := Aside0.mk (Kd.R_after (ok := (fun k_ => some k_ ≠ (.slice Ao25 t399.length co25 : Value).ownBlock)) (by (with_reducible repeat (first | apply Kd.R_alloc | apply Kd.R_drewN | apply Kd.R_drew)); exact Kd.R_mono HO404.out (fun _ hk => ⟨hk.1.2, hk.2⟩)) hg hat); have n2_ := Aside0.mk (Kd.R_over' (uR HO407) (Kd.R_typed (uR HO413)) (by decide) hg); have n3_ := Aside0.mk (Kd.R_over' (uR HO410) (Kd.R_typed (uR HO413)) (by decide) hg); have n4_ := Aside0.mk (hb); have n5_ := Aside0.mk (ho); clear HO401; clear HO404; clear HO407; clear HO410; clear HB; clear HO413; have HO401 := n0_; have HO404 := n1_; have HO407 := n2_; have HO410 := n3_; have HB := n4_; have HO416 := n5_; clear n0_ n1_ n2_ n3_ n4_ n5_; clear ho hb hg hat) | ((with_reducible refine gate_builtin (b := .append) (xs := #[.tmp 43, .tmp 44]) rfl ?_); (try (refine gate_guard (by rfl) ?_; dsimp only)); at_builtin; refine Kd.R_append_rows k35 (w0 := w) w.heap.size rfl (.tmp 43) (.tmp 44) 30 35 (.agg #[(.string ⟨#[]⟩), (.string ⟨#[]⟩)]) 32 rfl Try.underlying30 info35 rfl (by decide) (by omega) v415 y414 l2 _ _ _ (fun k_ => some k_ ≠ (.slice Ao25 t399.length co25 : Value).ownBlock ∧ some k_ ≠ (.slice Ao27 t402.length co27 : Value).ownBlock) (fun _ => False) rfl rfl ?aO ?aR (fun _ _ h => h) (fun _ h => h.elim) ?aF ?aB ?aS ?aL ?_; (case aR => exact uC (Kd.C_below HR2.out HB.out)); (case aB => exact (uB HB)); (case aF => exact (fun k_ hk => ⟨Kd.fresh' (Kd.R_lt (uR HO401)) k_ hk, Kd.fresh' (Kd.R_lt (uR HO404)) k_ hk⟩)); (case aO => exact (uR HO416)); (case aS => exact (below_size (uB HB))); (case aL => have := LMc20.out; omega); intro v418 w32 ho hb hg hat; rw [← Ny417.out] at ho; have n0_ := Aside0.mk (Kd.R_after (ok := (fun k_ => some k_ ≠ (.slice Ao27 t402.length co27 : Value).ownBlock)) (uR HO401) hg hat); have n1_ := Aside0.mk (Kd.R_after (ok := (fun k_ => some k_ ≠ (.slice Ao25 t399.length co25 : Value).ownBlock)) (uR HO404) hg hat); have n2_ := Aside0.mk (Kd.R_over' (uR HO407) (Kd.R_typed (uR HO416)) (by decide) hg); have n3_ := Aside0.mk (Kd.R_over' (uR HO410) (Kd.R_typed (uR HO416)) (by decide) hg); have n4_ := Aside0.mk (hb); have n5_ := Aside0.mk (ho); clear HO401; clear HO404; clear HO407; clear HO410; clear HB; clear HO416; have HO401 := n0_; have HO404 := n1_; have HO407 := n2_; have HO410 := n3_; have HB := n4_; have HO419 := n5_; clear n0_ n1_ n2_ n3_ n4_ n5_; clear ho hb hg hat; obtain ⟨Ao33, co33, eo33⟩ := Kd.R_slice HO419.out; subst eo33) | ((with_reducible refine gate_callee (f := 17) rfl ?_); refine goesL_ (some 46) rfl rfl Try.func17 (by kernel_rfl) rfl #[.slice Ao33 y417.length co33] rfl (by (try simp only [List.map_toArray, List.map_cons, List.map_nil]); first | done | rfl | (simp only [List.length_drop, List.length_take]; rfl)) ?_; (with_reducible refine (folkmootref03_Union.calls kj3 _ _ y417 t420 _ ?side1 ?side2 A21.out).mono ?_); (case side1 => exact uC (Kd.R_reads' HO419.out).2.2); (case side2 => exact (Kd.R_reads' HO419.out).2.1); rintro e w34 ⟨v421, rfl, ho0, hb⟩; refine ⟨_, rfl, ?_⟩; replace HO407 := bR HO407 hb; replace HO410 := bR HO410 hb; have HO422 := lR (nR (nR (nR ho0 HO401) HO404) HO419) HB; replace HO401 := eR HO401 ho0 hb; replace HO404 := eR HO404 ho0 hb; replace HO419 := eR HO419 ho0 hb; replace HB := sB HB hb; (try clear hb); (try clear hb2); (try clear hk); (try clear hi); (try clear ho0); obtain ⟨Ao35, co35, eo35⟩ := Kd.R_slice HO422.out; subst eo35) | ((with_reducible refine gate_callee (f := 25) rfl ?_); refine goesL_ (some 47) rfl rfl Try.func25 (by kernel_rfl) rfl #[.slice A0 l0.length c0, .slice Ao35 t420.length co35] rfl (by (try simp only [List.map_toArray, List.map_cons, List.map_nil]); first | done | rfl | (simp only [List.length_drop, List.length_take]; rfl)) ?_; (with_reducible refine (topo_Touch.calls _ _ l0 _ _ t420 t423 _ ?side1 ?side2 ?side3 ?side4 A22.out).mono ?_); (case side1 => exact uC (Kd.C_below HR0.out HB.out)); (case side2 => exact HC0.out); (case side3 => exact uC (Kd.R_reads' HO422.out).2.2); (case side4 => exact (Kd.R_reads' HO422.out).2.1); rintro e w36 ⟨v424, rfl, ho0, hb⟩; refine ⟨_, rfl, ?_⟩; replace HO401 := bR HO401 hb; replace HO404 := bR HO404 hb; replace HO419 := bR HO419 hb; replace HO422 := bR HO422 hb; have HO425 := lR (nR (nR ho0 HO407) HO410) HB; replace HO407 := eR HO407 ho0 hb; replace HO410 := eR HO410 ho0 hb; replace HB := sB HB hb; (try clear hb); (try clear hb2); (try clear hk); (try clear hi); (try clear ho0)))
            go_loopg [12] kj3 (fun kq v12 w' => ∃ (x12_2 : Int), v12 = .int .i64 x12_2 ∧ Aside0 (folkmootlaw04_TopoTouches.l0 kq l0 t405 t408 t423 x12_2 = some true) ∧ Aside0 (kq ≤ kj3) ∧ Aside0 (Kd.R (Kd.int .i64) 3 w' w.heap.size (fun k_ => some k_ ≠ (v409 : Value).ownBlock ∧ some k_ ≠ (v424 : Value).ownBlock) v406 t405) ∧ Aside0 (Kd.R (Kd.int .i64) 3 w' w.heap.size (fun k_ => some k_ ≠ (v406 : Value).ownBlock ∧ some k_ ≠ (v424 : Value).ownBlock) v409 t408) ∧ Aside0 (Kd.R (Kd.int .i64) 3 w' w.heap.size (fun k_ => some k_ ≠ (v406 : Value).ownBlock ∧ some k_ ≠ (v409 : Value).ownBlock) v424 t423) ∧ Aside0 (Below w.heap.size w w'))
            case atStart => exact ⟨(0), (by first | rfl | (simp; done) | (simp [*]; done)), H', ⟨Nat.le_refl _⟩, ⟨by (with_reducible repeat (first | apply Kd.R_alloc | apply Kd.R_drewN | apply Kd.R_drew)); exact Kd.R_mono HO407.out (fun _ hk => ⟨hk.1.2, hk.2⟩)⟩, ⟨by (with_reducible repeat (first | apply Kd.R_alloc | apply Kd.R_drewN | apply Kd.R_drew)); exact Kd.R_mono HO410.out (fun _ hk => ⟨hk.1.2, hk.2⟩)⟩, ⟨by (with_reducible repeat (first | apply Kd.R_alloc | apply Kd.R_drewN | apply Kd.R_drew)); exact Kd.R_mono HO425.out (fun _ hk => ⟨hk.1.2, hk.2⟩)⟩, ⟨by repeat (first | (with_reducible first | exact HB.out | apply below_alloc | apply pw_below_drewN | apply below_drew1) | exact HB.out)⟩⟩
            case round =>
              clear H'
              try clear c1
              try clear c2
              try clear p2
              try clear c6
              try clear c8
              try clear c9
              try clear c10
              try clear c12
              try clear c17
              try clear c19
              try clear c20
              try clear c25
              try clear p2
              obtain ⟨x12_2, rfl, HA, HK2, HO_9, HO_10, HO_11, HB⟩ := hrel
              cases gk with
              | zero => exact absurd HA.out (by simp [folkmootlaw04_TopoTouches.l0])
              | succ k2 =>
                have H := HA.out
                clear HA
                simp only [folkmootlaw04_TopoTouches.l0] at H
                by_cases c37 : x12_2 < (l0.length : Int)
                · rw [if_pos c37] at H
                  have c37b0 : decide (x12_2 < (l0.length : Int)) = true := decide_eq_true c37
                  clear c37
                  replace H := Option.bind_eq_some_iff.mp H
                  obtain ⟨t436, A380, H⟩ := H
                  replace H : ((folkmootref04_In.f k2 t405 x12_2).bind fun t437 => (if t437 = true then (if (t436 != true) = true then (some false) else (folkmootlaw04_TopoTouches.l0 k2 l0 t405 t408 t423 (wrap64 (x12_2 + 1)))) else ((folkmootref04_In.f k2 t408 x12_2).bind fun t438 => (if (t436 != t438) = true then (some false) else (folkmootlaw04_TopoTouches.l0 k2 l0 t405 t408 t423 (wrap64 (x12_2 + 1))))))) = some true := H
                  have A38 := Aside0.mk A380
                  clear A380
                  replace H := Option.bind_eq_some_iff.mp H
                  obtain ⟨t437, A390, H⟩ := H
                  replace H : (if t437 = true then (if (t436 != true) = true then (some false) else (folkmootlaw04_TopoTouches.l0 k2 l0 t405 t408 t423 (wrap64 (x12_2 + 1)))) else ((folkmootref04_In.f k2 t408 x12_2).bind fun t438 => (if (t436 != t438) = true then (some false) else (folkmootlaw04_TopoTouches.l0 k2 l0 t405 t408 t423 (wrap64 (x12_2 + 1)))))) = some true := H
                  have A39 := Aside0.mk A390
                  clear A390
                  by_cases c40 : t437 = true
                  · subst c40
                    have H1 : (if (t436 != true) = true then (some false) else (folkmootlaw04_TopoTouches.l0 k2 l0 t405 t408 t423 (wrap64 (x12_2 + 1)))) = some true := by rw [if_pos rfl] at H; exact H
                    clear H
                    have H := H1
                    clear H1
                    by_cases c41 : (t436 != true) = true
                    · rw [if_pos c41] at H
                      have c41b0 : (t436 != true) = true := c41
                      (try (have c41e := bool_bne_t c41))
                      (try (have c41b1 : decide (t436 = true) = false := by simpa using c41))
                      (try (have c41b2 : (t436 == true) = false := by simpa using c41))
                      (try (have c41b3 : ¬ (t436 = true) := by simpa using c41))
                      clear c41
                      exact absurd H (by simp)
                    · rw [if_neg c41] at H
                      have c41b0 : (t436 != true) = false := by simpa using c41
                      (try (have c41e := bool_bne_f c41))
                      (try (have c41b1 : decide (t436 = true) = true := by simpa using c41))
                      (try (have c41b2 : (t436 == true) = true := by simpa using c41))
                      clear c41
                      have H' := Aside0.mk H
                      clear H
                      obtain ⟨Ao44, co44, eo44⟩ := Kd.R_slice HO_11.out
                      subst eo44
                      go_wp2_with (first | ((with_reducible refine gate_callee (f := 20) rfl ?_); refine goesL_ (some 56) rfl rfl Try.func20 (by kernel_rfl) rfl #[.slice Ao44 t423.length co44, .int .i64 x12_2] rfl (by (try simp only [List.map_toArray, List.map_cons, List.map_nil]); first | done | rfl | (simp only [List.length_drop, List.length_take]; rfl)) ?_; (with_reducible refine (folkmootref04_In.calls k2 _ _ t423 x12_2 t436 _ ?side1 ?side2 A38.out).mono ?_); (case side1 => exact uC (Kd.R_reads' HO_11.out).2.2); (case side2 => exact (Kd.R_reads' HO_11.out).2.1); rintro e w' ⟨rfl, ⟨nd, rfl⟩⟩; refine ⟨_, rfl, ?_⟩; obtain ⟨Ao45, co45, eo45⟩ := Kd.R_slice HO_9.out; subst eo45) | ((with_reducible refine gate_callee (f := 20) rfl ?_); refine goesL_ (some 59) rfl rfl Try.func20 (by kernel_rfl) rfl #[.slice Ao45 t405.length co45, .int .i64 x12_2] rfl (by (try simp only [List.map_toArray, List.map_cons, List.map_nil]); first | done | rfl | (simp only [List.length_drop, List.length_take]; rfl)) ?_; (with_reducible refine (folkmootref04_In.calls k2 _ _ t405 x12_2 true _ ?side1 ?side2 A39.out).mono ?_); (case side1 => exact uC (Kd.R_reads' HO_9.out).2.2); (case side2 => exact (Kd.R_reads' HO_9.out).2.1); rintro e w' ⟨rfl, ⟨nd, rfl⟩⟩; refine ⟨_, rfl, ?_⟩))
                      go_roundg k2
                      case measure => have := HJ3.out; have := HK2.out; omega
                      case rel => exact ⟨(wrap64 (x12_2 + 1)), (by first | rfl | (simp; done) | (simp [*]; done)), H', ⟨by have := HJ3.out; have := HK2.out; omega⟩, ⟨by (with_reducible repeat (first | apply Kd.R_alloc | apply Kd.R_drewN | apply Kd.R_drew)); exact HO_9.out⟩, ⟨by (with_reducible repeat (first | apply Kd.R_alloc | apply Kd.R_drewN | apply Kd.R_drew)); exact HO_10.out⟩, ⟨by (with_reducible repeat (first | apply Kd.R_alloc | apply Kd.R_drewN | apply Kd.R_drew)); exact HO_11.out⟩, ⟨by repeat (first | (with_reducible first | exact HB.out | apply below_alloc | apply pw_below_drewN | apply below_drew1) | exact HB.out)⟩⟩
                  · replace c40 := Bool.eq_false_iff.mpr c40
                    subst c40
                    have H1 : ((folkmootref04_In.f k2 t408 x12_2).bind fun t438 => (if (t436 != t438) = true then (some false) else (folkmootlaw04_TopoTouches.l0 k2 l0 t405 t408 t423 (wrap64 (x12_2 + 1))))) = some true := by rw [if_neg (show ¬ (false = true) by decide)] at H; exact H
                    clear H
                    have H := H1
                    clear H1
                    replace H := Option.bind_eq_some_iff.mp H
                    obtain ⟨t438, A460, H⟩ := H
                    replace H : (if (t436 != t438) = true then (some false) else (folkmootlaw04_TopoTouches.l0 k2 l0 t405 t408 t423 (wrap64 (x12_2 + 1)))) = some true := H
                    have A46 := Aside0.mk A460
                    clear A460
                    by_cases c47 : (t436 != t438) = true
                    · rw [if_pos c47] at H
                      have c47b0 : (t436 != t438) = true := c47
                      (try (have c47e := bool_bne_t c47))
                      (try (have c47b1 : decide (t436 = t438) = false := by simpa using c47))
                      (try (have c47b2 : (t436 == t438) = false := by simpa using c47))
                      (try (have c47b3 : ¬ (t436 = t438) := by simpa using c47))
                      clear c47
                      exact absurd H (by simp)
                    · rw [if_neg c47] at H
                      have c47b0 : (t436 != t438) = false := by simpa using c47
                      (try (have c47e := bool_bne_f c47))
                      (try (have c47b1 : decide (t436 = t438) = true := by simpa using c47))
                      (try (have c47b2 : (t436 == t438) = true := by simpa using c47))
                      clear c47
                      have H' := Aside0.mk H
                      clear H
                      obtain ⟨Ao51, co51, eo51⟩ := Kd.R_slice HO_11.out
                      subst eo51
                      go_wp2_with (first | ((with_reducible refine gate_callee (f := 20) rfl ?_); refine goesL_ (some 56) rfl rfl Try.func20 (by kernel_rfl) rfl #[.slice Ao51 t423.length co51, .int .i64 x12_2] rfl (by (try simp only [List.map_toArray, List.map_cons, List.map_nil]); first | done | rfl | (simp only [List.length_drop, List.length_take]; rfl)) ?_; (with_reducible refine (folkmootref04_In.calls k2 _ _ t423 x12_2 t436 _ ?side1 ?side2 A38.out).mono ?_); (case side1 => exact uC (Kd.R_reads' HO_11.out).2.2); (case side2 => exact (Kd.R_reads' HO_11.out).2.1); rintro e w' ⟨rfl, ⟨nd, rfl⟩⟩; refine ⟨_, rfl, ?_⟩; obtain ⟨Ao52, co52, eo52⟩ := Kd.R_slice HO_9.out; subst eo52) | ((with_reducible refine gate_callee (f := 20) rfl ?_); refine goesL_ (some 59) rfl rfl Try.func20 (by kernel_rfl) rfl #[.slice Ao52 t405.length co52, .int .i64 x12_2] rfl (by (try simp only [List.map_toArray, List.map_cons, List.map_nil]); first | done | rfl | (simp only [List.length_drop, List.length_take]; rfl)) ?_; (with_reducible refine (folkmootref04_In.calls k2 _ _ t405 x12_2 false _ ?side1 ?side2 A39.out).mono ?_); (case side1 => exact uC (Kd.R_reads' HO_9.out).2.2); (case side2 => exact (Kd.R_reads' HO_9.out).2.1); rintro e w' ⟨rfl, ⟨nd, rfl⟩⟩; refine ⟨_, rfl, ?_⟩; obtain ⟨Ao53, co53, eo53⟩ := Kd.R_slice HO_10.out; subst eo53) | (go_at_call 20; (with_reducible refine (folkmootref04_In.calls k2 _ _ t408 x12_2 t438 _ ?side1 ?side2 A46.out).mono ?_); (case side1 => exact uC (Kd.R_reads' HO_10.out).2.2); (case side2 => exact (Kd.R_reads' HO_10.out).2.1); rintro e w' ⟨rfl, ⟨nd, rfl⟩⟩))
                      go_roundg k2
                      case measure => have := HJ3.out; have := HK2.out; omega
                      case rel => exact ⟨(wrap64 (x12_2 + 1)), (by first | rfl | (simp; done) | (simp [*]; done)), H', ⟨by have := HJ3.out; have := HK2.out; omega⟩, ⟨by (with_reducible repeat (first | apply Kd.R_alloc | apply Kd.R_drewN | apply Kd.R_drew)); exact HO_9.out⟩, ⟨by (with_reducible repeat (first | apply Kd.R_alloc | apply Kd.R_drewN | apply Kd.R_drew)); exact HO_10.out⟩, ⟨by (with_reducible repeat (first | apply Kd.R_alloc | apply Kd.R_drewN | apply Kd.R_drew)); exact HO_11.out⟩, ⟨by repeat (first | (with_reducible first | exact HB.out | apply below_alloc | apply pw_below_drewN | apply below_drew1) | exact HB.out)⟩⟩
                · rw [if_neg c37] at H
                  have c37b0 : decide (x12_2 < (l0.length : Int)) = false := decide_eq_false c37
                  clear c37
                  replace H := Option.bind_eq_some_iff.mp H
                  obtain ⟨t426, A540, H⟩ := H
                  replace H : (if (t426.length : Int) = 0 then ((topo_Touch.f l0 (([(⟨(⟨#[]⟩ : ByteArray), (⟨#[]⟩ : ByteArray)⟩ : S35)] : List (S35)))).bind fun t432 => (if (t432.length : Int) = (l0.length : Int) then ((folkmootlaw04_live.f k2).bind fun t435 => (some t435)) else (some false))) else (some false)) = some true := H
                  have A54 := Aside0.mk A540
                  clear A540
                  by_cases c55 : (t426.length : Int) = 0
                  · rw [if_pos c55] at H
                    have c55b0 : ((t426.length : Int) == 0) = true := beq_iff_eq.mpr c55
                    have c55b1 : ((t426.length : Int) != 0) = false := bne_eq_false_iff_eq.mpr c55
                    clear c55
                    obtain ⟨y429, hy429⟩ : ∃ y_ : List (S35), y_ = (([(⟨(⟨#[]⟩ : ByteArray), (⟨#[]⟩ : ByteArray)⟩ : S35)] : List (S35))) := ⟨_, rfl⟩
                    replace H : ((topo_Touch.f l0 y429).bind fun t432 => (if (t432.length : Int) = (l0.length : Int) then ((folkmootlaw04_live.f k2).bind fun t435 => (some t435)) else (some false))) = some true := by first | (rw [hy429]; with_reducible exact H) | (have H2_ := (Option.bind_some _ _).symm.trans H; rw [hy429]; with_reducible exact H2_) | (have H2_ := (Option.bind_some _ _).symm.trans H; with_reducible exact H2_) | with_reducible exact H | (rw [hy429]; exact H) | exact H
                    have Ny429 := Aside0.mk hy429
                    clear hy429
                    replace H := Option.bind_eq_some_iff.mp H
                    obtain ⟨t432, A560, H⟩ := H
                    replace H : (if (t432.length : Int) = (l0.length : Int) then ((folkmootlaw04_live.f k2).bind fun t435 => (some t435)) else (some false)) = some true := H
                    have A56 := Aside0.mk A560
                    clear A560
                    by_cases c57 : (t432.length : Int) = (l0.length : Int)
                    · rw [if_pos c57] at H
                      have c57b0 : ((t432.length : Int) == (l0.length : Int)) = true := beq_iff_eq.mpr c57
                      have c57b1 : ((t432.length : Int) != (l0.length : Int)) = false := bne_eq_false_iff_eq.mpr c57
                      have c57b2 : (t432.length == l0.length) = true := by first | simpa using c57 | (simp at c57 ⊢; omega)
                      clear c57
                      replace H := Option.bind_eq_some_iff.mp H
                      obtain ⟨t435, A580, H⟩ := H
                      replace H : (some t435) = some true := H
                      have A58 := Aside0.mk A580
                      clear A580
                      have hrt_ := Aside0.mk (Option.some.inj H)
                      clear H
                      go_wp2_with (first | ((with_reducible refine gate_callee (f := 25) rfl ?_); refine goesL_ (some 67) rfl rfl Try.func25 (by kernel_rfl) rfl #[.slice A0 l0.length c0, .slice none 0 0] rfl (by (try simp only [List.map_toArray, List.map_cons, List.map_nil]); first | done | rfl | (simp only [List.length_drop, List.length_take]; rfl)) ?_; (refine (topo_Touch.calls _ _ l0 _ _ ([] : List (S35)) t426 _ ?side1 ?side2 ?side3 ?side4 A54.out).mono ?_); (case side1 => exact uC (Kd.C_below HR0.out HB.out)); (case side2 => exact HC0.out); (case side3 => exact Kd.C_nil _ _); (case side4 => exact Nat.le_refl _); rintro e w59 ⟨v427, rfl, ho0, hb⟩; refine ⟨_, rfl, ?_⟩; have HO428 := lR (nR (nR (nR ho0 HO_9) HO_10) HO_11) HB; replace HO_9 := eR HO_9 ho0 hb; replace HO_10 := eR HO_10 ho0 hb; replace HO_11 := eR HO_11 ho0 hb; replace HB := sB HB hb; (try clear hb); (try clear hb2); (try clear hk); (try clear hi); (try clear ho0); obtain ⟨Ao60, co60, eo60⟩ := Kd.R_slice HO428.out; subst eo60) | ((with_reducible refine gate_dst (N := 73) rfl ?_); (try (refine gate_guard (by rfl) ?_; dsimp only)); refine Kd.R_lit k35 _ 35 ?hg (N := 73) ?hd (xs := ([(⟨(⟨#[]⟩ : ByteArray), (⟨#[]⟩ : ByteArray)⟩ : S35)] : List (S35))) (inner := [.string (⟨#[]⟩ : ByteArray), .string (⟨#[]⟩ : ByteArray)]) (ok := fun _ => True) (okp := fun _ => True) ?hr ?hp (fun _ hk => hk) trivial (Below.refl _ _) (Nat.le_refl _) (by simp) ?_; (case hd => rfl); (case hg => rfl); (case hr => first | (go_simp; done) | (go_simp; rfl)); (case hp => exact (Reps.c2 (show Kd.M k35 _ _ _ (⟨(⟨#[]⟩ : ByteArray), (⟨#[]⟩ : ByteArray)⟩ : S35) [.string (⟨#[]⟩ : ByteArray), .string (⟨#[]⟩ : ByteArray)] from (k35_mkM _ _ _ (⟨(⟨#[]⟩ : ByteArray), (⟨#[]⟩ : ByteArray)⟩ : S35) )) (Reps.none _ _))); intro v430 w61 ho62 hb hg_ hnew_; clear hg_ hnew_; (first | rw [← Ny429.out] at ho62 | (simp only [Int.reduceToNat] at ho62; rw [← Ny429.out] at ho62)); replace HO_9 := bR HO_9 hb; replace HO_10 := bR HO_10 hb; replace HO_11 := bR HO_11 hb; replace HO428 := bR HO428 hb; have HO431 := lR ho62 HB; replace HB := sB HB hb; clear hb ho62; obtain ⟨Ao63, co63, eo63⟩ := Kd.R_slice HO431.out; subst eo63) | (go_at_call 25; (with_reducible refine (topo_Touch.calls _ _ l0 _ _ y429 t432 _ ?side1 ?side2 ?side3 ?side4 A56.out).mono ?_); (case side1 => exact uC (Kd.C_below HR0.out HB.out)); (case side2 => exact HC0.out); (case side3 => exact uC (Kd.R_reads' HO431.out).2.2); (case side4 => exact (Kd.R_reads' HO431.out).2.1); rintro e w64 ⟨v433, rfl, ho0, hb⟩; replace HO431 := bR HO431 hb; have HO434 := lR (Kd.R_new' (nR (nR (nR ho0 HO_9) HO_10) HO_11) (Kd.R_lt (uR HO428))) HB; replace HO_9 := eR HO_9 ho0 hb; replace HO_10 := eR HO_10 ho0 hb; replace HO_11 := eR HO_11 ho0 hb; replace HO428 := eR HO428 ho0 hb; replace HB := sB HB hb; (try clear hb); (try clear hb2); (try clear hk); (try clear hi); (try clear ho0); obtain ⟨Ao65, co65, eo65⟩ := Kd.R_slice HO434.out; subst eo65) | (go_at_call 10; (with_reducible refine (folkmootlaw04_live.calls k2  t435 _ A58.out).mono ?_); rintro e w66 ⟨rfl, hb⟩; replace HO_9 := bR HO_9 hb; replace HO_10 := bR HO_10 hb; replace HO_11 := bR HO_11 hb; replace HO428 := bR HO428 hb; replace HO431 := bR HO431 hb; replace HO434 := bR HO434 hb; replace HB := sB HB hb; (try clear hb); (try clear hb2); (try clear hk); (try clear hi)))
                      go_ret
                      exact ⟨by first | rfl | (exact congrArg (fun b_ => Ending.returned (Value.bool b_)) hrt_.out) | (simp [errW_none, errW_some] <;> rfl) | (simp [*, errW_none, errW_some] <;> rfl), by repeat (first | (with_reducible first | exact HB.out | apply below_alloc | apply pw_below_drewN | apply below_drew1) | exact HB.out)⟩
                    · rw [if_neg c57] at H
                      have c57b0 : ((t432.length : Int) == (l0.length : Int)) = false := beq_eq_false_iff_ne.mpr c57
                      have c57b1 : ((t432.length : Int) != (l0.length : Int)) = true := bne_iff_ne.mpr c57
                      have c57b2 : (t432.length == l0.length) = false := by first | simpa using c57 | (simp at c57 ⊢; omega)
                      exact absurd H (by simp)
                  · rw [if_neg c55] at H
                    have c55b0 : ((t426.length : Int) == 0) = false := beq_eq_false_iff_ne.mpr c55
                    have c55b1 : ((t426.length : Int) != 0) = true := bne_iff_ne.mpr c55
                    have c55b2 : ¬ (t426 = []) := fun h_ => c55 (by rw [h_]; rfl)
                    exact absurd H (by simp)
          · rw [if_neg c20] at H
            exact absurd H (by simp)
        · rw [if_neg c19] at H
          exact absurd H (by simp)

end Go.Proofs.Ytaedgbkeiankcaa.P
/- Plain: what a topology that may be is; the printed law TopoTouches comes to true. -/
namespace Go.Proofs.Ytaedgbkeiankcaa.P
open Go.RowKit Go.Proofs.YtaedgbkeiankcaaW.PrintWords
set_option linter.unusedVariables false
set_option linter.unusedSimpArgs false

/-- does a shard meet a set? by the texts -/
theorem meetP_iff (set : List Spn) (hc : Sp.Can (set.map toSp)) (x : Shd) (hx : Sp.Can ([x.f0].map toSp)) (hl : set.length + 1 < 4398046511104) : meetP set x = true ↔ ∃ k : Txt, Sp.mem ([x.f0].map toSp) k ∧ Sp.mem (set.map toSp) k := by
  have h := meetP_f set x hl
  unfold span_Meet.f span_Cut.f at h
  rw [if_pos (by simp; omega), Option.bind_some] at h
  have h2 := Option.some.inj h
  rw [← h2, decide_eq_true_iff]
  obtain ⟨h3, h4⟩ := cut_spec ([x.f0].length + set.length) [x.f0] set (Nat.le_refl _) hx hc
  constructor
  · intro hp
    have hne : (cutN ([x.f0].length + set.length) [x.f0] set) ≠ [] := by
      intro e; rw [e] at hp; simp at hp
    obtain ⟨y, hy⟩ := List.exists_mem_of_ne_nil _ hne
    exact ⟨(toSp y).f, (h4 _).1 ⟨toSp y, List.mem_map.2 ⟨y, hy, rfl⟩, Sp.full_in (h3.1 _ (List.mem_map.2 ⟨y, hy, rfl⟩))⟩⟩
  · rintro ⟨k, hk⟩
    have hm := (h4 k).2 hk
    cases e : cutN ([x.f0].length + set.length) [x.f0] set with
    | nil => rw [e] at hm; exact absurd hm (Sp.mem_nil k)
    | cons a l => simp
theorem topoB_iff (l : List Shd) (h : topoB l = true) : l.length ≠ 0 ∧ l.length ≤ 8 ∧ (∀ k, k < l.length - 1 → badS (beg l k) (l.getD k z37) = false) ∧ lastS (beg l (l.length - 1)) (l.getD (l.length - 1) z37) = true ∧ (∀ x ∈ l, nodesB x.f1 = true) := by
  unfold topoB at h
  rw [Bool.and_eq_true, Bool.and_eq_true, Bool.and_eq_true, decide_eq_true_iff, List.all_eq_true, List.all_eq_true] at h
  obtain ⟨⟨h0, h8⟩, h1, h2, h3⟩ := h
  exact ⟨h0, h8, fun k hk => by have := h1 k (List.mem_range.2 hk); simpa using this, h2, h3⟩
/-- each one begins where the last one has ended; each is whole -/
theorem topo_span (l : List Shd) (h : topoB l = true) (k : Nat) (hk : k < l.length) : (toSp l[k].f0).f = tx (beg l k) ∧ ((k + 1 = l.length ∧ (toSp l[k].f0).t = .nil) ∨ (k + 1 < l.length ∧ tx (beg l k) < (toSp l[k].f0).t ∧ (toSp l[k].f0).t ≠ .nil)) := by
  obtain ⟨h0, h8, h1, h2, h3⟩ := topoB_iff l h
  have hgd : l.getD k z37 = l[k] := by simp [List.getD_eq_getElem?_getD, hk]
  by_cases hl : k < l.length - 1
  · have hb := h1 k hl
    rw [hgd] at hb
    unfold badS at hb
    rw [Bool.or_eq_false_iff, Bool.or_eq_false_iff] at hb
    obtain ⟨b1, b2, b3⟩ := hb
    have e1 : l[k].f0.f0.toList = (beg l k).toList := by simpa using b1
    have e2 : Op.bytesLess (beg l k).toList l[k].f0.f1.toList = true := by simpa using b2
    refine ⟨by show (⟨l[k].f0.f0.toList⟩ : Txt) = ⟨(beg l k).toList⟩; rw [e1], .inr ⟨by omega, e2, fun e => ?_⟩⟩
    have e3 : l[k].f0.f1.toList = [] := (tx_nil _).1 e
    rw [e3] at e2
    have := Txt.nil_le ⟨(beg l k).toList⟩
    rw [Txt.le_def] at this
    exact absurd e2 (by rw [show Op.bytesLess (beg l k).toList [] = false from this]; simp)
  · have ek : k = l.length - 1 := by omega
    have hb := h2
    rw [← ek, hgd] at hb
    unfold lastS at hb
    rw [Bool.and_eq_true, beq_iff_eq, beq_iff_eq] at hb
    exact ⟨by show (⟨l[k].f0.f0.toList⟩ : Txt) = ⟨(beg l k).toList⟩; rw [hb.1], .inl ⟨by omega, (tx_nil _).2 hb.2⟩⟩
theorem topo_full (l : List Shd) (h : topoB l = true) (x : Shd) (hx : x ∈ l) : Sp.full (toSp x.f0) := by
  obtain ⟨k, hk, rfl⟩ := List.getElem_of_mem hx
  obtain ⟨h1, h2⟩ := topo_span l h k hk
  rcases h2 with ⟨_, h2⟩ | ⟨_, h2, _⟩
  · exact .inl h2
  · exact .inr (h1 ▸ h2)
theorem can_one {s : Sp} (h : Sp.full s) : Sp.Can [s] := Sp.can_cons h Sp.can_nil (fun t ht => by cases ht)
theorem meet_topo (l : List Shd) (h : topoB l = true) (x : Shd) (hx : x ∈ l) (set : List Spn) (hc : Sp.Can (set.map toSp)) (hl : set.length + 1 < 4398046511104) : meetP set x = true ↔ ∃ k : Txt, Sp.inn k (toSp x.f0) ∧ Sp.mem (set.map toSp) k := by
  rw [meetP_iff set hc x (can_one (topo_full l h x hx)) hl]
  constructor
  · rintro ⟨k, ⟨s, hs, h1⟩, h2⟩
    obtain rfl := List.mem_singleton.1 hs
    exact ⟨k, h1, h2⟩
  · rintro ⟨k, h1, h2⟩
    exact ⟨k, ⟨_, List.mem_singleton.2 rfl, h1⟩, h2⟩
theorem ttouch_f (l : List Shd) (set : List Spn) (hl : l.length < 4398046511104) (hs : set.length + 1 < 4398046511104) : topo_Touch.f l set = some (placesL (meetP set) l) := by unfold topo_Touch.f; rw [if_pos ⟨hl, hs⟩]
theorem touch_contains (l : List Shd) (p : Shd → Bool) (j : Nat) (hj : j < l.length) : (placesL p l).contains (j : Int) = p l[j] := by
  unfold placesL
  rw [places_contains, decide_eq_true hj, Bool.true_and]
  simp [List.getD_eq_getElem?_getD, hj]
theorem placesL_none (l : List Shd) (p : Shd → Bool) (h : ∀ x ∈ l, p x = false) : placesL p l = [] := by
  unfold placesL placesN
  rw [List.filter_eq_nil_iff.2 (fun j hj => by
    have hj := List.mem_range.1 hj
    rw [show l.getD j z37 = l[j] by simp [List.getD_eq_getElem?_getD, hj], h _ (List.getElem_mem hj)]
    simp)]
  rfl
theorem placesL_all (l : List Shd) (p : Shd → Bool) (h : ∀ x ∈ l, p x = true) : (placesL p l).length = l.length := by
  unfold placesL placesN
  rw [List.length_map, List.filter_eq_self.2 (fun j hj => by
    have hj := List.mem_range.1 hj
    rw [show l.getD j z37 = l[j] by simp [List.getD_eq_getElem?_getD, hj], h _ (List.getElem_mem hj)]), List.length_range]
theorem union_mem (l : List Spn) (k : Txt) : Sp.mem ((unionL l).map toSp) k ↔ Sp.mem ((l.filter fullSp).map toSp) k := (union_of l).mem k
theorem touches_l0 (l : List Shd) (a b : List Spn) (ht : topoB l = true) (ha : a.length ≤ 30) (hb : b.length ≤ 30) (hl : l.length ≤ 30) : ∀ (d i : Nat), i ≤ l.length → l.length - i = d →
    Ev (fun k => folkmootlaw04_TopoTouches.l0 k l (placesL (meetP (unionL a)) l) (placesL (meetP (unionL b)) l) (placesL (meetP (unionL (a ++ b))) l) (i : Int)) true := by
  have hal := union_len a
  have hbl := union_len b
  have hcl := union_len (a ++ b)
  rw [List.length_append] at hcl
  have pl : ∀ p, (placesL p l).length ≤ l.length := fun p => placesN_len _ _ _ _
  intro d
  induction d with
  | zero =>
    intro i hi hd
    have h1 : ¬ (i : Int) < (l.length : Int) := by omega
    have e0 := ttouch_f l [] (by omega) (by simp)
    have hn : placesL (meetP ([] : List Spn)) l = [] := placesL_none l _ fun x hx => by
      cases e : meetP ([] : List Spn) x with
      | false => rfl
      | true =>
        obtain ⟨k, _, h2⟩ := (meet_topo l ht x hx [] Sp.can_nil (by simp)).1 e
        exact absurd h2 (Sp.mem_nil k)
    rw [hn] at e0
    have hw : Sp.full (toSp (⟨(⟨#[]⟩ : ByteArray), (⟨#[]⟩ : ByteArray)⟩ : Spn)) := .inl ((tx_nil _).2 nil_list)
    have e1 := ttouch_f l [(⟨(⟨#[]⟩ : ByteArray), (⟨#[]⟩ : ByteArray)⟩ : Spn)] (by omega) (by simp)
    have hlen : (placesL (meetP [(⟨(⟨#[]⟩ : ByteArray), (⟨#[]⟩ : ByteArray)⟩ : Spn)]) l).length = l.length := placesL_all l _ fun x hx => by
      refine (meet_topo l ht x hx [(⟨(⟨#[]⟩ : ByteArray), (⟨#[]⟩ : ByteArray)⟩ : Spn)] (can_one hw) (by simp)).2 ⟨(toSp x.f0).f, Sp.full_in (topo_full l ht x hx), ⟨_, List.mem_singleton.2 rfl, ?_, .inl ((tx_nil _).2 nil_list)⟩⟩
      rw [show (toSp (⟨(⟨#[]⟩ : ByteArray), (⟨#[]⟩ : ByteArray)⟩ : Spn)).f = Txt.nil from (tx_nil _).2 nil_list]
      exact Txt.nil_le _
    have hlz : ((placesL (meetP [(⟨(⟨#[]⟩ : ByteArray), (⟨#[]⟩ : ByteArray)⟩ : Spn)]) l).length : Int) = (l.length : Int) := by rw [hlen]
    refine Ev.step (fun k => by simp only [folkmootlaw04_TopoTouches.l0, if_neg h1, e0, Option.bind_some, List.length_nil, Int.ofNat_zero, if_true, e1, if_pos hlz] <;> rfl) (Ev.bind tlive_ev (Ev.val _))
  | succ d ih =>
    intro i hi hd
    have h1 : (i : Int) < (l.length : Int) := by omega
    have hil : i < l.length := by omega
    have hw : wrap64 ((i : Int) + 1) = ((i + 1 : Nat) : Int) := by rw [wrap_in] <;> omega
    have pa := pl (meetP (unionL a))
    have pb := pl (meetP (unionL b))
    have pc := pl (meetP (unionL (a ++ b)))
    have ia := rin_ev (placesL (meetP (unionL a)) l) (i : Int) (by omega)
    have ib := rin_ev (placesL (meetP (unionL b)) l) (i : Int) (by omega)
    have ic := rin_ev (placesL (meetP (unionL (a ++ b))) l) (i : Int) (by omega)
    rw [touch_contains l _ i hil] at ia ib ic
    have hn := ih (i + 1) (by omega) (by omega)
    have hmem := List.getElem_mem hil
    have hor : meetP (unionL (a ++ b)) l[i] = (meetP (unionL a) l[i] || meetP (unionL b) l[i]) := Bool.eq_iff_iff.2 (by
      rw [Bool.or_eq_true, meet_topo l ht _ hmem _ (union_can _) (by omega), meet_topo l ht _ hmem _ (union_can _) (by omega), meet_topo l ht _ hmem _ (union_can _) (by omega)]
      constructor
      · rintro ⟨k, h1, h2⟩
        rw [union_mem, List.filter_append, List.map_append, Sp.mem_append] at h2
        rcases h2 with h2 | h2
        · exact .inl ⟨k, h1, (union_mem _ _).2 h2⟩
        · exact .inr ⟨k, h1, (union_mem _ _).2 h2⟩
      · rintro (⟨k, h1, h2⟩ | ⟨k, h1, h2⟩)
        · exact ⟨k, h1, by rw [union_mem, List.filter_append, List.map_append, Sp.mem_append]; exact .inl ((union_mem _ _).1 h2)⟩
        · exact ⟨k, h1, by rw [union_mem, List.filter_append, List.map_append, Sp.mem_append]; exact .inr ((union_mem _ _).1 h2)⟩)
    rw [hor] at ic
    generalize meetP (unionL a) l[i] = x at ia ic
    generalize meetP (unionL b) l[i] = y at ib ic
    refine Ev.step (fun k => by simp only [folkmootlaw04_TopoTouches.l0, if_pos h1] <;> rfl) (Ev.bind ic (Ev.bind ia ?_))
    cases x with
    | true =>
      simp only [if_true, Bool.true_or, bne_self_eq_false, Bool.false_eq_true, if_false, hw]
      exact hn
    | false =>
      simp only [Bool.false_eq_true, if_false, Bool.false_or]
      refine Ev.bind ib ?_
      simp only [bne_self_eq_false, Bool.false_eq_true, if_false, hw]
      exact hn
theorem touches_j0 (l : List Shd) (a b : List Spn) (c : Bool) (h : c = false → l.length ≤ 30 ∧ a.length ≤ 30 ∧ b.length ≤ 30 ∧ topoB l = true) : Ev (fun k => folkmootlaw04_TopoTouches.j0 k l a b c) true := by
  cases c with
  | true => exact Ev.step (fun k => by simp only [folkmootlaw04_TopoTouches.j0, if_true] <;> rfl) (Ev.bind tlive_ev (Ev.val _))
  | false =>
    obtain ⟨hl, ha, hb, ht⟩ := h rfl
    have hal := union_len a
    have hbl := union_len b
    have hcl := union_len (a ++ b)
    rw [List.length_append] at hcl
    have e1 : ([] : List Spn).length + a.length < 4398046511104 := by simp; omega
    have e2 : a.length + b.length < 4398046511104 := by omega
    refine Ev.step (fun k => by simp only [folkmootlaw04_TopoTouches.j0, Bool.false_eq_true, if_false] <;> rfl) (Ev.bind (refUnion_ev a (by omega)) (Ev.bind (refUnion_ev b (by omega)) ?_))
    simp only [ttouch_f l (unionL a) (by omega) (by omega), ttouch_f l (unionL b) (by omega) (by omega), Option.bind_some, if_pos e1, List.nil_append, if_pos e2]
    refine Ev.bind (refUnion_ev (a ++ b) (by rw [List.length_append]; omega)) ?_
    simp only [ttouch_f l (unionL (a ++ b)) (by omega) (by omega), Option.bind_some]
    exact touches_l0 l a b ht ha hb hl l.length 0 (Nat.zero_le _) (Nat.sub_zero _)
theorem topoTouches_pure (l : List Shd) (a b : List Spn) (hl : l.length ≤ 140737488351232) (ha : a.length ≤ 140737488351232) (hb : b.length ≤ 140737488351232) : ∃ k, folkmootlaw04_TopoTouches.f k l a b = some true := by
  obtain ⟨x, hx, hs⟩ := tsmall_ev l a (by omega) (by omega)
  obtain ⟨y, hy, hu⟩ := tsmall_ev l b (by omega) (by omega)
  refine Ev.rounds (g := fun k => folkmootlaw04_TopoTouches.f k l a b) (Ev.bind hx ?_)
  cases x with
  | false =>
    simp only [Bool.false_eq_true, if_false]
    exact touches_j0 l a b true (fun h => by cases h)
  | true =>
    simp only [if_true]
    refine Ev.bind hy ?_
    cases y with
    | false =>
      simp only [Bool.false_eq_true, if_false]
      exact touches_j0 l a b true (fun h => by cases h)
    | true =>
      simp only [if_true, tcheck_f, tnum_f, Option.bind_some]
      refine touches_j0 l a b _ (fun h => ⟨(hs rfl).1, (hs rfl).2, (hu rfl).2, ?_⟩)
      cases e : topoB l with
      | true => rfl
      | false => rw [e] at h; simp at h
end Go.Proofs.Ytaedgbkeiankcaa.P
