/- Texts of the proof of SpanSets, merged (Pxfmlaw03live, PLive, PRefS, PCut, PLess, PLessE). -/
import Derived.Test.YtjimijpkhmpilaaGSpanSets5
import Derived.Test.YtjimijpkhmpilaaGSpanSets12
import Derived.Test.YtjimijpkhmpilaaGSpanSets13
import Derived.Test.YtjimijpkhmpilaaGSpanSets7
import Derived.Test.YtjimijpkhmpilaaGSpanSets4
-- printed by a program of this session (wip/hp.py over the kit's print)
namespace Go.Proofs.Ytjimijpkhmpilaa.P
open Go.RowKit Go.Proofs.YtjimijpkhmpilaaW.PrintWords Go.Proofs.YtjimijpkhmpilaaW.PrintLast Go.Proofs.YtjimijpkhmpilaaW.PrintMore
attribute [local go_sem] str_leq str_gtr str_geq max2_str max2_int min2_int max_two min_two max_three min_three max_four min_four   -- for this text's walks alone
set_option linter.unusedVariables false
set_option linter.unusedSimpArgs false

/-! ### folkmootlaw03_live: function 11 -/
def folkmootlaw03_live.f (k : Nat)  : Option (Bool) := (span_Union.f (([(⟨(⟨#[97]⟩ : ByteArray), (⟨#[99]⟩ : ByteArray)⟩ : S34), (⟨(⟨#[98]⟩ : ByteArray), (⟨#[100]⟩ : ByteArray)⟩ : S34), (⟨(⟨#[100]⟩ : ByteArray), (⟨#[101]⟩ : ByteArray)⟩ : S34)] : List (S34)))).bind fun t129 => ((span_Point.f (⟨#[98]⟩ : ByteArray)).bind fun bt132 => ((span_Less.f k t129 (([(⟨bt132.1, bt132.2⟩ : S34)] : List (S34)))).bind fun t137 => ((folkmootref03_Same.f k t129 (([(⟨(⟨#[97]⟩ : ByteArray), (⟨#[101]⟩ : ByteArray)⟩ : S34)] : List (S34)))).bind fun t143 => (if t143 = true then ((folkmootref03_Same.f k t137 (([(⟨(⟨#[97]⟩ : ByteArray), (⟨#[98]⟩ : ByteArray)⟩ : S34), (⟨(⟨#[98, 0]⟩ : ByteArray), (⟨#[101]⟩ : ByteArray)⟩ : S34)] : List (S34)))).bind fun t147 => (if t147 = true then ((span_Has.f t129 (⟨#[98]⟩ : ByteArray)).bind fun t148 => (if t148 = true then ((span_Has.f t137 (⟨#[98]⟩ : ByteArray)).bind fun t149 => (if t149 = true then (some false) else ((span_Key.f (⟨#[]⟩ : ByteArray)).bind fun t150 => ((folkmootlaw03_num.f t150).bind fun t151 => (if t151 = 30 then ((span_Meet.f t129 t137).bind fun t152 => (some t152)) else (some false)))))) else (some false))) else (some false))) else (some false)))))
theorem folkmootlaw03_live.mono : ∀ k, LeO (folkmootlaw03_live.f k ) (folkmootlaw03_live.f (k + 1) ) := by
  intro  k
  unfold folkmootlaw03_live.f
  repeat' first
      | (with_reducible exact folkmootref03_Same.mono _ _ _)
      | (with_reducible exact span_Less.mono _ _ _)
      | (with_reducible exact LeO.refl _)
      | (with_reducible exact LeO.none _)
      | (with_reducible refine LeO.ite ?_ ?_)
      | (with_reducible refine LeO.bind ?_ (fun _ => ?_))
      | exact folkmootref03_Same.mono _ _ _
      | exact span_Less.mono _ _ _
      | exact LeO.none _
      | refine LeO.ite ?_ ?_
      | refine LeO.bind ?_ (fun _ => ?_)
set_option maxHeartbeats 8000000 in
set_option maxRecDepth 100000 in
theorem folkmootlaw03_live.calls (k : Nat)  (r : Bool) (w : World) (h : folkmootlaw03_live.f k  = some r) :
    Calls Try.prog 11 #[] w fun e w' => e = .returned (.bool r) ∧ Below w.heap.size w w' := by
  have hu34 := Try.underlying34
  have HB := Aside0.mk (Below.refl w.heap.size w)
  have H : ((span_Union.f (([(⟨(⟨#[97]⟩ : ByteArray), (⟨#[99]⟩ : ByteArray)⟩ : S34), (⟨(⟨#[98]⟩ : ByteArray), (⟨#[100]⟩ : ByteArray)⟩ : S34), (⟨(⟨#[100]⟩ : ByteArray), (⟨#[101]⟩ : ByteArray)⟩ : S34)] : List (S34)))).bind fun t129 => ((span_Point.f (⟨#[98]⟩ : ByteArray)).bind fun bt132 => ((span_Less.f k t129 (([(⟨bt132.1, bt132.2⟩ : S34)] : List (S34)))).bind fun t137 => ((folkmootref03_Same.f k t129 (([(⟨(⟨#[97]⟩ : ByteArray), (⟨#[101]⟩ : ByteArray)⟩ : S34)] : List (S34)))).bind fun t143 => (if t143 = true then ((folkmootref03_Same.f k t137 (([(⟨(⟨#[97]⟩ : ByteArray), (⟨#[98]⟩ : ByteArray)⟩ : S34), (⟨(⟨#[98, 0]⟩ : ByteArray), (⟨#[101]⟩ : ByteArray)⟩ : S34)] : List (S34)))).bind fun t147 => (if t147 = true then ((span_Has.f t129 (⟨#[98]⟩ : ByteArray)).bind fun t148 => (if t148 = true then ((span_Has.f t137 (⟨#[98]⟩ : ByteArray)).bind fun t149 => (if t149 = true then (some false) else ((span_Key.f (⟨#[]⟩ : ByteArray)).bind fun t150 => ((folkmootlaw03_num.f t150).bind fun t151 => (if t151 = 30 then ((span_Meet.f t129 t137).bind fun t152 => (some t152)) else (some false)))))) else (some false))) else (some false))) else (some false)))))) = some r := h
  clear h
  obtain ⟨y126, hy126⟩ : ∃ y_ : List (S34), y_ = (([(⟨(⟨#[97]⟩ : ByteArray), (⟨#[99]⟩ : ByteArray)⟩ : S34), (⟨(⟨#[98]⟩ : ByteArray), (⟨#[100]⟩ : ByteArray)⟩ : S34), (⟨(⟨#[100]⟩ : ByteArray), (⟨#[101]⟩ : ByteArray)⟩ : S34)] : List (S34))) := ⟨_, rfl⟩
  replace H : ((span_Union.f y126).bind fun t129 => ((span_Point.f (⟨#[98]⟩ : ByteArray)).bind fun bt132 => ((span_Less.f k t129 (([(⟨bt132.1, bt132.2⟩ : S34)] : List (S34)))).bind fun t137 => ((folkmootref03_Same.f k t129 (([(⟨(⟨#[97]⟩ : ByteArray), (⟨#[101]⟩ : ByteArray)⟩ : S34)] : List (S34)))).bind fun t143 => (if t143 = true then ((folkmootref03_Same.f k t137 (([(⟨(⟨#[97]⟩ : ByteArray), (⟨#[98]⟩ : ByteArray)⟩ : S34), (⟨(⟨#[98, 0]⟩ : ByteArray), (⟨#[101]⟩ : ByteArray)⟩ : S34)] : List (S34)))).bind fun t147 => (if t147 = true then ((span_Has.f t129 (⟨#[98]⟩ : ByteArray)).bind fun t148 => (if t148 = true then ((span_Has.f t137 (⟨#[98]⟩ : ByteArray)).bind fun t149 => (if t149 = true then (some false) else ((span_Key.f (⟨#[]⟩ : ByteArray)).bind fun t150 => ((folkmootlaw03_num.f t150).bind fun t151 => (if t151 = 30 then ((span_Meet.f t129 t137).bind fun t152 => (some t152)) else (some false)))))) else (some false))) else (some false))) else (some false)))))) = some r := by first | (rw [hy126]; with_reducible exact H) | (have H2_ := (Option.bind_some _ _).symm.trans H; rw [hy126]; with_reducible exact H2_) | (have H2_ := (Option.bind_some _ _).symm.trans H; with_reducible exact H2_) | with_reducible exact H | (rw [hy126]; exact H) | exact H
  have Ny126 := Aside0.mk hy126
  clear hy126
  replace H := Option.bind_eq_some_iff.mp H
  obtain ⟨t129, A10, H⟩ := H
  replace H : ((span_Point.f (⟨#[98]⟩ : ByteArray)).bind fun bt132 => ((span_Less.f k t129 (([(⟨bt132.1, bt132.2⟩ : S34)] : List (S34)))).bind fun t137 => ((folkmootref03_Same.f k t129 (([(⟨(⟨#[97]⟩ : ByteArray), (⟨#[101]⟩ : ByteArray)⟩ : S34)] : List (S34)))).bind fun t143 => (if t143 = true then ((folkmootref03_Same.f k t137 (([(⟨(⟨#[97]⟩ : ByteArray), (⟨#[98]⟩ : ByteArray)⟩ : S34), (⟨(⟨#[98, 0]⟩ : ByteArray), (⟨#[101]⟩ : ByteArray)⟩ : S34)] : List (S34)))).bind fun t147 => (if t147 = true then ((span_Has.f t129 (⟨#[98]⟩ : ByteArray)).bind fun t148 => (if t148 = true then ((span_Has.f t137 (⟨#[98]⟩ : ByteArray)).bind fun t149 => (if t149 = true then (some false) else ((span_Key.f (⟨#[]⟩ : ByteArray)).bind fun t150 => ((folkmootlaw03_num.f t150).bind fun t151 => (if t151 = 30 then ((span_Meet.f t129 t137).bind fun t152 => (some t152)) else (some false)))))) else (some false))) else (some false))) else (some false))))) = some r := H
  have A1 := Aside0.mk A10
  clear A10
  replace H := Option.bind_eq_some_iff.mp H
  obtain ⟨⟨t132, t133⟩, A20, H⟩ := H
  replace H : ((span_Less.f k t129 (([(⟨t132, t133⟩ : S34)] : List (S34)))).bind fun t137 => ((folkmootref03_Same.f k t129 (([(⟨(⟨#[97]⟩ : ByteArray), (⟨#[101]⟩ : ByteArray)⟩ : S34)] : List (S34)))).bind fun t143 => (if t143 = true then ((folkmootref03_Same.f k t137 (([(⟨(⟨#[97]⟩ : ByteArray), (⟨#[98]⟩ : ByteArray)⟩ : S34), (⟨(⟨#[98, 0]⟩ : ByteArray), (⟨#[101]⟩ : ByteArray)⟩ : S34)] : List (S34)))).bind fun t147 => (if t147 = true then ((span_Has.f t129 (⟨#[98]⟩ : ByteArray)).bind fun t148 => (if t148 = true then ((span_Has.f t137 (⟨#[98]⟩ : ByteArray)).bind fun t149 => (if t149 = true then (some false) else ((span_Key.f (⟨#[]⟩ : ByteArray)).bind fun t150 => ((folkmootlaw03_num.f t150).bind fun t151 => (if t151 = 30 then ((span_Meet.f t129 t137).bind fun t152 => (some t152)) else (some false)))))) else (some false))) else (some false))) else (some false)))) = some r := H
  have A2 := Aside0.mk A20
  clear A20
  obtain ⟨y134, hy134⟩ : ∃ y_ : List (S34), y_ = (([(⟨t132, t133⟩ : S34)] : List (S34))) := ⟨_, rfl⟩
  replace H : ((span_Less.f k t129 y134).bind fun t137 => ((folkmootref03_Same.f k t129 (([(⟨(⟨#[97]⟩ : ByteArray), (⟨#[101]⟩ : ByteArray)⟩ : S34)] : List (S34)))).bind fun t143 => (if t143 = true then ((folkmootref03_Same.f k t137 (([(⟨(⟨#[97]⟩ : ByteArray), (⟨#[98]⟩ : ByteArray)⟩ : S34), (⟨(⟨#[98, 0]⟩ : ByteArray), (⟨#[101]⟩ : ByteArray)⟩ : S34)] : List (S34)))).bind fun t147 => (if t147 = true then ((span_Has.f t129 (⟨#[98]⟩ : ByteArray)).bind fun t148 => (if t148 = true then ((span_Has.f t137 (⟨#[98]⟩ : ByteArray)).bind fun t149 => (if t149 = true then (some false) else ((span_Key.f (⟨#[]⟩ : ByteArray)).bind fun t150 => ((folkmootlaw03_num.f t150).bind fun t151 => (if t151 = 30 then ((span_Meet.f t129 t137).bind fun t152 => (some t152)) else (some false)))))) else (some false))) else (some false))) else (some false)))) = some r := by first | (rw [hy134]; with_reducible exact H) | (have H2_ := (Option.bind_some _ _).symm.trans H; rw [hy134]; with_reducible exact H2_) | (have H2_ := (Option.bind_some _ _).symm.trans H; with_reducible exact H2_) | with_reducible exact H | (rw [hy134]; exact H) | exact H
  have Ny134 := Aside0.mk hy134
  clear hy134
  replace H := Option.bind_eq_some_iff.mp H
  obtain ⟨t137, A30, H⟩ := H
  replace H : ((folkmootref03_Same.f k t129 (([(⟨(⟨#[97]⟩ : ByteArray), (⟨#[101]⟩ : ByteArray)⟩ : S34)] : List (S34)))).bind fun t143 => (if t143 = true then ((folkmootref03_Same.f k t137 (([(⟨(⟨#[97]⟩ : ByteArray), (⟨#[98]⟩ : ByteArray)⟩ : S34), (⟨(⟨#[98, 0]⟩ : ByteArray), (⟨#[101]⟩ : ByteArray)⟩ : S34)] : List (S34)))).bind fun t147 => (if t147 = true then ((span_Has.f t129 (⟨#[98]⟩ : ByteArray)).bind fun t148 => (if t148 = true then ((span_Has.f t137 (⟨#[98]⟩ : ByteArray)).bind fun t149 => (if t149 = true then (some false) else ((span_Key.f (⟨#[]⟩ : ByteArray)).bind fun t150 => ((folkmootlaw03_num.f t150).bind fun t151 => (if t151 = 30 then ((span_Meet.f t129 t137).bind fun t152 => (some t152)) else (some false)))))) else (some false))) else (some false))) else (some false))) = some r := H
  have A3 := Aside0.mk A30
  clear A30
  obtain ⟨y140, hy140⟩ : ∃ y_ : List (S34), y_ = (([(⟨(⟨#[97]⟩ : ByteArray), (⟨#[101]⟩ : ByteArray)⟩ : S34)] : List (S34))) := ⟨_, rfl⟩
  replace H : ((folkmootref03_Same.f k t129 y140).bind fun t143 => (if t143 = true then ((folkmootref03_Same.f k t137 (([(⟨(⟨#[97]⟩ : ByteArray), (⟨#[98]⟩ : ByteArray)⟩ : S34), (⟨(⟨#[98, 0]⟩ : ByteArray), (⟨#[101]⟩ : ByteArray)⟩ : S34)] : List (S34)))).bind fun t147 => (if t147 = true then ((span_Has.f t129 (⟨#[98]⟩ : ByteArray)).bind fun t148 => (if t148 = true then ((span_Has.f t137 (⟨#[98]⟩ : ByteArray)).bind fun t149 => (if t149 = true then (some false) else ((span_Key.f (⟨#[]⟩ : ByteArray)).bind fun t150 => ((folkmootlaw03_num.f t150).bind fun t151 => (if t151 = 30 then ((span_Meet.f t129 t137).bind fun t152 => (some t152)) else (some false)))))) else (some false))) else (some false))) else (some false))) = some r := by first | (rw [hy140]; with_reducible exact H) | (have H2_ := (Option.bind_some _ _).symm.trans H; rw [hy140]; with_reducible exact H2_) | (have H2_ := (Option.bind_some _ _).symm.trans H; with_reducible exact H2_) | with_reducible exact H | (rw [hy140]; exact H) | exact H
  have Ny140 := Aside0.mk hy140
  clear hy140
  replace H := Option.bind_eq_some_iff.mp H
  obtain ⟨t143, A40, H⟩ := H
  replace H : (if t143 = true then ((folkmootref03_Same.f k t137 (([(⟨(⟨#[97]⟩ : ByteArray), (⟨#[98]⟩ : ByteArray)⟩ : S34), (⟨(⟨#[98, 0]⟩ : ByteArray), (⟨#[101]⟩ : ByteArray)⟩ : S34)] : List (S34)))).bind fun t147 => (if t147 = true then ((span_Has.f t129 (⟨#[98]⟩ : ByteArray)).bind fun t148 => (if t148 = true then ((span_Has.f t137 (⟨#[98]⟩ : ByteArray)).bind fun t149 => (if t149 = true then (some false) else ((span_Key.f (⟨#[]⟩ : ByteArray)).bind fun t150 => ((folkmootlaw03_num.f t150).bind fun t151 => (if t151 = 30 then ((span_Meet.f t129 t137).bind fun t152 => (some t152)) else (some false)))))) else (some false))) else (some false))) else (some false)) = some r := H
  have A4 := Aside0.mk A40
  clear A40
  by_cases c5 : t143 = true
  · subst c5
    have H1 : ((folkmootref03_Same.f k t137 (([(⟨(⟨#[97]⟩ : ByteArray), (⟨#[98]⟩ : ByteArray)⟩ : S34), (⟨(⟨#[98, 0]⟩ : ByteArray), (⟨#[101]⟩ : ByteArray)⟩ : S34)] : List (S34)))).bind fun t147 => (if t147 = true then ((span_Has.f t129 (⟨#[98]⟩ : ByteArray)).bind fun t148 => (if t148 = true then ((span_Has.f t137 (⟨#[98]⟩ : ByteArray)).bind fun t149 => (if t149 = true then (some false) else ((span_Key.f (⟨#[]⟩ : ByteArray)).bind fun t150 => ((folkmootlaw03_num.f t150).bind fun t151 => (if t151 = 30 then ((span_Meet.f t129 t137).bind fun t152 => (some t152)) else (some false)))))) else (some false))) else (some false))) = some r := by rw [if_pos rfl] at H; exact H
    clear H
    have H := H1
    clear H1
    obtain ⟨y144, hy144⟩ : ∃ y_ : List (S34), y_ = (([(⟨(⟨#[97]⟩ : ByteArray), (⟨#[98]⟩ : ByteArray)⟩ : S34), (⟨(⟨#[98, 0]⟩ : ByteArray), (⟨#[101]⟩ : ByteArray)⟩ : S34)] : List (S34))) := ⟨_, rfl⟩
    replace H : ((folkmootref03_Same.f k t137 y144).bind fun t147 => (if t147 = true then ((span_Has.f t129 (⟨#[98]⟩ : ByteArray)).bind fun t148 => (if t148 = true then ((span_Has.f t137 (⟨#[98]⟩ : ByteArray)).bind fun t149 => (if t149 = true then (some false) else ((span_Key.f (⟨#[]⟩ : ByteArray)).bind fun t150 => ((folkmootlaw03_num.f t150).bind fun t151 => (if t151 = 30 then ((span_Meet.f t129 t137).bind fun t152 => (some t152)) else (some false)))))) else (some false))) else (some false))) = some r := by first | (rw [hy144]; with_reducible exact H) | (have H2_ := (Option.bind_some _ _).symm.trans H; rw [hy144]; with_reducible exact H2_) | (have H2_ := (Option.bind_some _ _).symm.trans H; with_reducible exact H2_) | with_reducible exact H | (rw [hy144]; exact H) | exact H
    have Ny144 := Aside0.mk hy144
    clear hy144
    replace H := Option.bind_eq_some_iff.mp H
    obtain ⟨t147, A60, H⟩ := H
    replace H : (if t147 = true then ((span_Has.f t129 (⟨#[98]⟩ : ByteArray)).bind fun t148 => (if t148 = true then ((span_Has.f t137 (⟨#[98]⟩ : ByteArray)).bind fun t149 => (if t149 = true then (some false) else ((span_Key.f (⟨#[]⟩ : ByteArray)).bind fun t150 => ((folkmootlaw03_num.f t150).bind fun t151 => (if t151 = 30 then ((span_Meet.f t129 t137).bind fun t152 => (some t152)) else (some false)))))) else (some false))) else (some false)) = some r := H
    have A6 := Aside0.mk A60
    clear A60
    by_cases c7 : t147 = true
    · subst c7
      have H1 : ((span_Has.f t129 (⟨#[98]⟩ : ByteArray)).bind fun t148 => (if t148 = true then ((span_Has.f t137 (⟨#[98]⟩ : ByteArray)).bind fun t149 => (if t149 = true then (some false) else ((span_Key.f (⟨#[]⟩ : ByteArray)).bind fun t150 => ((folkmootlaw03_num.f t150).bind fun t151 => (if t151 = 30 then ((span_Meet.f t129 t137).bind fun t152 => (some t152)) else (some false)))))) else (some false))) = some r := by rw [if_pos rfl] at H; exact H
      clear H
      have H := H1
      clear H1
      replace H := Option.bind_eq_some_iff.mp H
      obtain ⟨t148, A80, H⟩ := H
      replace H : (if t148 = true then ((span_Has.f t137 (⟨#[98]⟩ : ByteArray)).bind fun t149 => (if t149 = true then (some false) else ((span_Key.f (⟨#[]⟩ : ByteArray)).bind fun t150 => ((folkmootlaw03_num.f t150).bind fun t151 => (if t151 = 30 then ((span_Meet.f t129 t137).bind fun t152 => (some t152)) else (some false)))))) else (some false)) = some r := H
      have A8 := Aside0.mk A80
      clear A80
      by_cases c9 : t148 = true
      · subst c9
        have H1 : ((span_Has.f t137 (⟨#[98]⟩ : ByteArray)).bind fun t149 => (if t149 = true then (some false) else ((span_Key.f (⟨#[]⟩ : ByteArray)).bind fun t150 => ((folkmootlaw03_num.f t150).bind fun t151 => (if t151 = 30 then ((span_Meet.f t129 t137).bind fun t152 => (some t152)) else (some false)))))) = some r := by rw [if_pos rfl] at H; exact H
        clear H
        have H := H1
        clear H1
        replace H := Option.bind_eq_some_iff.mp H
        obtain ⟨t149, A100, H⟩ := H
        replace H : (if t149 = true then (some false) else ((span_Key.f (⟨#[]⟩ : ByteArray)).bind fun t150 => ((folkmootlaw03_num.f t150).bind fun t151 => (if t151 = 30 then ((span_Meet.f t129 t137).bind fun t152 => (some t152)) else (some false))))) = some r := H
        have A10 := Aside0.mk A100
        clear A100
        by_cases c11 : t149 = true
        · subst c11
          have H1 : (some false) = some r := by rw [if_pos rfl] at H; exact H
          clear H
          have H := H1
          clear H1
          obtain rfl := Option.some.inj H
          go_enter Try.func11, Try.ntmps11
          go_wp2_with (first | ((with_reducible refine gate_dst (N := 6) rfl ?_); (try (refine gate_guard (by rfl) ?_; dsimp only)); refine Kd.R_lit k34 _ 34 ?hg (N := 6) ?hd (xs := ([(⟨(⟨#[97]⟩ : ByteArray), (⟨#[99]⟩ : ByteArray)⟩ : S34), (⟨(⟨#[98]⟩ : ByteArray), (⟨#[100]⟩ : ByteArray)⟩ : S34), (⟨(⟨#[100]⟩ : ByteArray), (⟨#[101]⟩ : ByteArray)⟩ : S34)] : List (S34))) (inner := [.string (⟨#[97]⟩ : ByteArray), .string (⟨#[99]⟩ : ByteArray), .string (⟨#[98]⟩ : ByteArray), .string (⟨#[100]⟩ : ByteArray), .string (⟨#[100]⟩ : ByteArray), .string (⟨#[101]⟩ : ByteArray)]) (ok := fun _ => True) (okp := fun _ => True) ?hr ?hp (fun _ hk => hk) trivial (Below.refl _ _) (Nat.le_refl _) (by simp) ?_; (case hd => rfl); (case hg => rfl); (case hr => first | (go_simp; done) | (go_simp; rfl)); (case hp => exact (Reps.c2 (show Kd.M k34 _ _ _ (⟨(⟨#[97]⟩ : ByteArray), (⟨#[99]⟩ : ByteArray)⟩ : S34) [.string (⟨#[97]⟩ : ByteArray), .string (⟨#[99]⟩ : ByteArray)] from (k34_mkM _ _ _ (⟨(⟨#[97]⟩ : ByteArray), (⟨#[99]⟩ : ByteArray)⟩ : S34) )) (Reps.c2 (show Kd.M k34 _ _ _ (⟨(⟨#[98]⟩ : ByteArray), (⟨#[100]⟩ : ByteArray)⟩ : S34) [.string (⟨#[98]⟩ : ByteArray), .string (⟨#[100]⟩ : ByteArray)] from (k34_mkM _ _ _ (⟨(⟨#[98]⟩ : ByteArray), (⟨#[100]⟩ : ByteArray)⟩ : S34) )) (Reps.c2 (show Kd.M k34 _ _ _ (⟨(⟨#[100]⟩ : ByteArray), (⟨#[101]⟩ : ByteArray)⟩ : S34) [.string (⟨#[100]⟩ : ByteArray), .string (⟨#[101]⟩ : ByteArray)] from (k34_mkM _ _ _ (⟨(⟨#[100]⟩ : ByteArray), (⟨#[101]⟩ : ByteArray)⟩ : S34) )) (Reps.none _ _))))); intro v127 w12 ho13 hb hg_ hnew_; clear hg_ hnew_; (first | rw [← Ny126.out] at ho13 | (simp only [Int.reduceToNat] at ho13; rw [← Ny126.out] at ho13)); have n0_ := Aside0.mk (Kd.R_lower ho13 (below_size (by repeat (first | (with_reducible first | exact HB.out | apply below_alloc | apply pw_below_drewN | apply below_drew1) | exact HB.out)))); have n1_ := Aside0.mk (below_step (by repeat (first | (with_reducible first | exact HB.out | apply below_alloc | apply pw_below_drewN | apply below_drew1) | exact HB.out)) hb); clear HB; have HO128 := n0_; have HB := n1_; clear n0_ n1_; clear hb ho13; obtain ⟨Ao14, co14, eo14⟩ := Kd.R_slice HO128.out; subst eo14) | ((with_reducible refine gate_callee (f := 14) rfl ?_); refine goesL_ (some 7) rfl rfl Try.func14 (by kernel_rfl) rfl #[.slice Ao14 y126.length co14] rfl (by (try simp only [List.map_toArray, List.map_cons, List.map_nil]); first | done | rfl | (simp only [List.length_drop, List.length_take]; rfl)) ?_; (with_reducible refine (span_Union.calls _ _ y126 t129 _ ?side1 ?side2 A1.out).mono ?_); (case side1 => repeat (first | exact (Kd.R_reads' HO128.out).2.2 | (with_reducible refine Kd.C_alloc ?_ _) | (with_reducible refine Kd.C_drewN ?_ _) | (with_reducible refine Kd.C_drew ?_))); (case side2 => exact (Kd.R_reads' HO128.out).2.1); rintro e w15 ⟨v130, rfl, ho0, hb⟩; refine ⟨_, rfl, ?_⟩; have n0_ := Aside0.mk (Kd.R_elder' (by (with_reducible repeat (first | apply Kd.R_alloc | apply Kd.R_drewN | apply Kd.R_drew)); exact HO128.out) (Kd.R_base ho0) hb); have n1_ := Aside0.mk (Kd.R_lower (Kd.R_new' ho0 (Kd.R_lt (by (with_reducible repeat (first | apply Kd.R_alloc | apply Kd.R_drewN | apply Kd.R_drew)); exact HO128.out))) (below_size (by repeat (first | (with_reducible first | exact HB.out | apply below_alloc | apply pw_below_drewN | apply below_drew1) | exact HB.out)))); have n2_ := Aside0.mk (below_step (by repeat (first | (with_reducible first | exact HB.out | apply below_alloc | apply pw_below_drewN | apply below_drew1) | exact HB.out)) hb); clear HO128; clear HB; have HO128 := n0_; have HO131 := n1_; have HB := n2_; clear n0_ n1_ n2_; (try clear hb); (try clear hb2); (try clear hk); (try clear hi); (try clear ho0)) | ((with_reducible refine gate_callee (f := 24) rfl ?_); refine goesL_ (some 9) rfl rfl Try.func24 (by kernel_rfl) rfl #[.string (⟨#[98]⟩ : ByteArray)] rfl (by (try simp only [List.map_toArray, List.map_cons, List.map_nil]); first | done | rfl | (simp only [List.length_drop, List.length_take]; rfl)) ?_; (with_reducible refine (span_Point.calls (⟨#[98]⟩ : ByteArray) t132 t133 _ A2.out).mono ?_); rintro e w16 ⟨rfl, hb⟩; refine ⟨_, rfl, ?_⟩; have n0_ := Aside0.mk (Kd.R_below (by (with_reducible repeat (first | apply Kd.R_alloc | apply Kd.R_drewN | apply Kd.R_drew)); exact HO128.out) hb); have n1_ := Aside0.mk (Kd.R_below (by (with_reducible repeat (first | apply Kd.R_alloc | apply Kd.R_drewN | apply Kd.R_drew)); exact HO131.out) hb); have n2_ := Aside0.mk (below_step (by repeat (first | (with_reducible first | exact HB.out | apply below_alloc | apply pw_below_drewN | apply below_drew1) | exact HB.out)) hb); clear HO128; clear HO131; clear HB; have HO128 := n0_; have HO131 := n1_; have HB := n2_; clear n0_ n1_ n2_; (try clear hb); (try clear hb2); (try clear hk); (try clear hi)) | ((with_reducible refine gate_dst (N := 10) rfl ?_); (try (refine gate_guard (by rfl) ?_; dsimp only)); refine Kd.R_lit k34 _ 34 ?hg (N := 10) ?hd (xs := ([(⟨t132, t133⟩ : S34)] : List (S34))) (inner := [.string t132, .string t133]) (ok := fun _ => True) (okp := fun _ => True) ?hr ?hp (fun _ hk => hk) trivial (Below.refl _ _) (Nat.le_refl _) (by simp) ?_; (case hd => rfl); (case hg => rfl); (case hr => first | (go_simp; done) | (go_simp; rfl)); (case hp => exact (Reps.c2 (show Kd.M k34 _ _ _ (⟨t132, t133⟩ : S34) [.string t132, .string t133] from (k34_mkM _ _ _ (⟨t132, t133⟩ : S34) )) (Reps.none _ _))); intro v135 w17 ho18 hb hg_ hnew_; clear hg_ hnew_; (first | rw [← Ny134.out] at ho18 | (simp only [Int.reduceToNat] at ho18; rw [← Ny134.out] at ho18)); have n0_ := Aside0.mk (Kd.R_elder' (by (with_reducible repeat (first | apply Kd.R_alloc | apply Kd.R_drewN | apply Kd.R_drew)); exact HO128.out) (Kd.R_base ho18) hb); have n1_ := Aside0.mk (Kd.R_elder' (by (with_reducible repeat (first | apply Kd.R_alloc | apply Kd.R_drewN | apply Kd.R_drew)); exact HO131.out) (Kd.R_base ho18) hb); have n2_ := Aside0.mk (Kd.R_lower (Kd.R_new' (Kd.R_new' ho18 (Kd.R_lt (by (with_reducible repeat (first | apply Kd.R_alloc | apply Kd.R_drewN | apply Kd.R_drew)); exact HO128.out))) (Kd.R_lt (by (with_reducible repeat (first | apply Kd.R_alloc | apply Kd.R_drewN | apply Kd.R_drew)); exact HO131.out))) (below_size (by repeat (first | (with_reducible first | exact HB.out | apply below_alloc | apply pw_below_drewN | apply below_drew1) | exact HB.out)))); have n3_ := Aside0.mk (below_step (by repeat (first | (with_reducible first | exact HB.out | apply below_alloc | apply pw_below_drewN | apply below_drew1) | exact HB.out)) hb); clear HO128; clear HO131; clear HB; have HO128 := n0_; have HO131 := n1_; have HO136 := n2_; have HB := n3_; clear n0_ n1_ n2_ n3_; clear hb ho18; obtain ⟨Ao19, co19, eo19⟩ := Kd.R_slice HO131.out; subst eo19; obtain ⟨Ao20, co20, eo20⟩ := Kd.R_slice HO136.out; subst eo20) | ((with_reducible refine gate_callee (f := 18) rfl ?_); refine goesL_ (some 11) rfl rfl Try.func18 (by kernel_rfl) rfl #[.slice Ao19 t129.length co19, .slice Ao20 y134.length co20] rfl (by (try simp only [List.map_toArray, List.map_cons, List.map_nil]); first | done | rfl | (simp only [List.length_drop, List.length_take]; rfl)) ?_; (with_reducible refine (span_Less.calls k _ _ t129 _ _ y134 t137 _ ?side1 ?side2 ?side3 ?side4 A3.out).mono ?_); (case side1 => repeat (first | exact (Kd.R_reads' HO131.out).2.2 | (with_reducible refine Kd.C_alloc ?_ _) | (with_reducible refine Kd.C_drewN ?_ _) | (with_reducible refine Kd.C_drew ?_))); (case side2 => exact (Kd.R_reads' HO131.out).2.1); (case side3 => repeat (first | exact (Kd.R_reads' HO136.out).2.2 | (with_reducible refine Kd.C_alloc ?_ _) | (with_reducible refine Kd.C_drewN ?_ _) | (with_reducible refine Kd.C_drew ?_))); (case side4 => exact (Kd.R_reads' HO136.out).2.1); rintro e w21 ⟨v138, rfl, ho0, hb⟩; refine ⟨_, rfl, ?_⟩; have n0_ := Aside0.mk (Kd.R_elder' (by (with_reducible repeat (first | apply Kd.R_alloc | apply Kd.R_drewN | apply Kd.R_drew)); exact HO128.out) (Kd.R_base ho0) hb); have n1_ := Aside0.mk (Kd.R_elder' (by (with_reducible repeat (first | apply Kd.R_alloc | apply Kd.R_drewN | apply Kd.R_drew)); exact HO131.out) (Kd.R_base ho0) hb); have n2_ := Aside0.mk (Kd.R_elder' (by (with_reducible repeat (first | apply Kd.R_alloc | apply Kd.R_drewN | apply Kd.R_drew)); exact HO136.out) (Kd.R_base ho0) hb); have n3_ := Aside0.mk (Kd.R_lower (Kd.R_new' (Kd.R_new' (Kd.R_new' ho0 (Kd.R_lt (by (with_reducible repeat (first | apply Kd.R_alloc | apply Kd.R_drewN | apply Kd.R_drew)); exact HO128.out))) (Kd.R_lt (by (with_reducible repeat (first | apply Kd.R_alloc | apply Kd.R_drewN | apply Kd.R_drew)); exact HO131.out))) (Kd.R_lt (by (with_reducible repeat (first | apply Kd.R_alloc | apply Kd.R_drewN | apply Kd.R_drew)); exact HO136.out))) (below_size (by repeat (first | (with_reducible first | exact HB.out | apply below_alloc | apply pw_below_drewN | apply below_drew1) | exact HB.out)))); have n4_ := Aside0.mk (below_step (by repeat (first | (with_reducible first | exact HB.out | apply below_alloc | apply pw_below_drewN | apply below_drew1) | exact HB.out)) hb); clear HO128; clear HO131; clear HO136; clear HB; have HO128 := n0_; have HO131 := n1_; have HO136 := n2_; have HO139 := n3_; have HB := n4_; clear n0_ n1_ n2_ n3_ n4_; (try clear hb); (try clear hb2); (try clear hk); (try clear hi); (try clear ho0)) | ((with_reducible refine gate_dst (N := 14) rfl ?_); (try (refine gate_guard (by rfl) ?_; dsimp only)); refine Kd.R_lit k34 _ 34 ?hg (N := 14) ?hd (xs := ([(⟨(⟨#[97]⟩ : ByteArray), (⟨#[101]⟩ : ByteArray)⟩ : S34)] : List (S34))) (inner := [.string (⟨#[97]⟩ : ByteArray), .string (⟨#[101]⟩ : ByteArray)]) (ok := fun _ => True) (okp := fun _ => True) ?hr ?hp (fun _ hk => hk) trivial (Below.refl _ _) (Nat.le_refl _) (by simp) ?_; (case hd => rfl); (case hg => rfl); (case hr => first | (go_simp; done) | (go_simp; rfl)); (case hp => exact (Reps.c2 (show Kd.M k34 _ _ _ (⟨(⟨#[97]⟩ : ByteArray), (⟨#[101]⟩ : ByteArray)⟩ : S34) [.string (⟨#[97]⟩ : ByteArray), .string (⟨#[101]⟩ : ByteArray)] from (k34_mkM _ _ _ (⟨(⟨#[97]⟩ : ByteArray), (⟨#[101]⟩ : ByteArray)⟩ : S34) )) (Reps.none _ _))); intro v141 w22 ho23 hb hg_ hnew_; clear hg_ hnew_; (first | rw [← Ny140.out] at ho23 | (simp only [Int.reduceToNat] at ho23; rw [← Ny140.out] at ho23)); have n0_ := Aside0.mk (Kd.R_elder' (by (with_reducible repeat (first | apply Kd.R_alloc | apply Kd.R_drewN | apply Kd.R_drew)); exact HO128.out) (Kd.R_base ho23) hb); have n1_ := Aside0.mk (Kd.R_elder' (by (with_reducible repeat (first | apply Kd.R_alloc | apply Kd.R_drewN | apply Kd.R_drew)); exact HO131.out) (Kd.R_base ho23) hb); have n2_ := Aside0.mk (Kd.R_elder' (by (with_reducible repeat (first | apply Kd.R_alloc | apply Kd.R_drewN | apply Kd.R_drew)); exact HO136.out) (Kd.R_base ho23) hb); have n3_ := Aside0.mk (Kd.R_elder' (by (with_reducible repeat (first | apply Kd.R_alloc | apply Kd.R_drewN | apply Kd.R_drew)); exact HO139.out) (Kd.R_base ho23) hb); have n4_ := Aside0.mk (Kd.R_lower (Kd.R_new' (Kd.R_new' (Kd.R_new' (Kd.R_new' ho23 (Kd.R_lt (by (with_reducible repeat (first | apply Kd.R_alloc | apply Kd.R_drewN | apply Kd.R_drew)); exact HO128.out))) (Kd.R_lt (by (with_reducible repeat (first | apply Kd.R_alloc | apply Kd.R_drewN | apply Kd.R_drew)); exact HO131.out))) (Kd.R_lt (by (with_reducible repeat (first | apply Kd.R_alloc | apply Kd.R_drewN | apply Kd.R_drew)); exact HO136.out))) (Kd.R_lt (by (with_reducible repeat (first | apply Kd.R_alloc | apply Kd.R_drewN | apply Kd.R_drew)); exact HO139.out))) (below_size (by repeat (first | (with_reducible first | exact HB.out | apply below_alloc | apply pw_below_drewN | apply below_drew1) | exact HB.out)))); have n5_ := Aside0.mk (below_step (by repeat (first | (with_reducible first | exact HB.out | apply below_alloc | apply pw_below_drewN | apply below_drew1) | exact HB.out)) hb); clear HO128; clear HO131; clear HO136; clear HO139; clear HB; have HO128 := n0_; have HO131 := n1_; have HO136 := n2_; have HO139 := n3_; have HO142 := n4_; have HB := n5_; clear n0_ n1_ n2_ n3_ n4_ n5_; clear hb ho23; obtain ⟨Ao24, co24, eo24⟩ := Kd.R_slice HO142.out; subst eo24) | ((with_reducible refine gate_callee (f := 13) rfl ?_); refine goesL_ (some 15) rfl rfl Try.func13 (by kernel_rfl) rfl #[.slice Ao19 t129.length co19, .slice Ao24 y140.length co24] rfl (by (try simp only [List.map_toArray, List.map_cons, List.map_nil]); first | done | rfl | (simp only [List.length_drop, List.length_take]; rfl)) ?_; (with_reducible refine (folkmootref03_Same.calls k _ _ t129 _ _ y140 true _ ?side1 ?side2 ?side3 ?side4 A4.out).mono ?_); (case side1 => repeat (first | exact (Kd.R_reads' HO131.out).2.2 | (with_reducible refine Kd.C_alloc ?_ _) | (with_reducible refine Kd.C_drewN ?_ _) | (with_reducible refine Kd.C_drew ?_))); (case side2 => exact (Kd.R_reads' HO131.out).2.1); (case side3 => repeat (first | exact (Kd.R_reads' HO142.out).2.2 | (with_reducible refine Kd.C_alloc ?_ _) | (with_reducible refine Kd.C_drewN ?_ _) | (with_reducible refine Kd.C_drew ?_))); (case side4 => exact (Kd.R_reads' HO142.out).2.1); rintro e w' ⟨rfl, ⟨nd, rfl⟩⟩; refine ⟨_, rfl, ?_⟩) | ((with_reducible refine gate_dst (N := 20) rfl ?_); (try (refine gate_guard (by rfl) ?_; dsimp only)); refine Kd.R_lit k34 _ 34 ?hg (N := 20) ?hd (xs := ([(⟨(⟨#[97]⟩ : ByteArray), (⟨#[98]⟩ : ByteArray)⟩ : S34), (⟨(⟨#[98, 0]⟩ : ByteArray), (⟨#[101]⟩ : ByteArray)⟩ : S34)] : List (S34))) (inner := [.string (⟨#[97]⟩ : ByteArray), .string (⟨#[98]⟩ : ByteArray), .string (⟨#[98, 0]⟩ : ByteArray), .string (⟨#[101]⟩ : ByteArray)]) (ok := fun _ => True) (okp := fun _ => True) ?hr ?hp (fun _ hk => hk) trivial (Below.refl _ _) (Nat.le_refl _) (by simp) ?_; (case hd => rfl); (case hg => rfl); (case hr => first | (go_simp; done) | (go_simp; rfl)); (case hp => exact (Reps.c2 (show Kd.M k34 _ _ _ (⟨(⟨#[97]⟩ : ByteArray), (⟨#[98]⟩ : ByteArray)⟩ : S34) [.string (⟨#[97]⟩ : ByteArray), .string (⟨#[98]⟩ : ByteArray)] from (k34_mkM _ _ _ (⟨(⟨#[97]⟩ : ByteArray), (⟨#[98]⟩ : ByteArray)⟩ : S34) )) (Reps.c2 (show Kd.M k34 _ _ _ (⟨(⟨#[98, 0]⟩ : ByteArray), (⟨#[101]⟩ : ByteArray)⟩ : S34) [.string (⟨#[98, 0]⟩ : ByteArray), .string (⟨#[101]⟩ : ByteArray)] from (k34_mkM _ _ _ (⟨(⟨#[98, 0]⟩ : ByteArray), (⟨#[101]⟩ : ByteArray)⟩ : S34) )) (Reps.none _ _)))); intro v145 w25 ho26 hb hg_ hnew_; clear hg_ hnew_; (first | rw [← Ny144.out] at ho26 | (simp only [Int.reduceToNat] at ho26; rw [← Ny144.out] at ho26)); have n0_ := Aside0.mk (Kd.R_elder' (by (with_reducible repeat (first | apply Kd.R_alloc | apply Kd.R_drewN | apply Kd.R_drew)); exact HO128.out) (Kd.R_base ho26) hb); have n1_ := Aside0.mk (Kd.R_elder' (by (with_reducible repeat (first | apply Kd.R_alloc | apply Kd.R_drewN | apply Kd.R_drew)); exact HO131.out) (Kd.R_base ho26) hb); have n2_ := Aside0.mk (Kd.R_elder' (by (with_reducible repeat (first | apply Kd.R_alloc | apply Kd.R_drewN | apply Kd.R_drew)); exact HO136.out) (Kd.R_base ho26) hb); have n3_ := Aside0.mk (Kd.R_elder' (by (with_reducible repeat (first | apply Kd.R_alloc | apply Kd.R_drewN | apply Kd.R_drew)); exact HO139.out) (Kd.R_base ho26) hb); have n4_ := Aside0.mk (Kd.R_elder' (by (with_reducible repeat (first | apply Kd.R_alloc | apply Kd.R_drewN | apply Kd.R_drew)); exact HO142.out) (Kd.R_base ho26) hb); have n5_ := Aside0.mk (Kd.R_lower (Kd.R_new' (Kd.R_new' (Kd.R_new' (Kd.R_new' (Kd.R_new' ho26 (Kd.R_lt (by (with_reducible repeat (first | apply Kd.R_alloc | apply Kd.R_drewN | apply Kd.R_drew)); exact HO128.out))) (Kd.R_lt (by (with_reducible repeat (first | apply Kd.R_alloc | apply Kd.R_drewN | apply Kd.R_drew)); exact HO131.out))) (Kd.R_lt (by (with_reducible repeat (first | apply Kd.R_alloc | apply Kd.R_drewN | apply Kd.R_drew)); exact HO136.out))) (Kd.R_lt (by (with_reducible repeat (first | apply Kd.R_alloc | apply Kd.R_drewN | apply Kd.R_drew)); exact HO139.out))) (Kd.R_lt (by (with_reducible repeat (first | apply Kd.R_alloc | apply Kd.R_drewN | apply Kd.R_drew)); exact HO142.out))) (below_size (by repeat (first | (with_reducible first | exact HB.out | apply below_alloc | apply pw_below_drewN | apply below_drew1) | exact HB.out)))); have n6_ := Aside0.mk (below_step (by repeat (first | (with_reducible first | exact HB.out | apply below_alloc | apply pw_below_drewN | apply below_drew1) | exact HB.out)) hb); clear HO128; clear HO131; clear HO136; clear HO139; clear HO142; clear HB; have HO128 := n0_; have HO131 := n1_; have HO136 := n2_; have HO139 := n3_; have HO142 := n4_; have HO146 := n5_; have HB := n6_; clear n0_ n1_ n2_ n3_ n4_ n5_ n6_; clear hb ho26; obtain ⟨Ao27, co27, eo27⟩ := Kd.R_slice HO139.out; subst eo27; obtain ⟨Ao28, co28, eo28⟩ := Kd.R_slice HO146.out; subst eo28) | (go_at_call 13; (with_reducible refine (folkmootref03_Same.calls k _ _ t137 _ _ y144 true _ ?side1 ?side2 ?side3 ?side4 A6.out).mono ?_); (case side1 => repeat (first | exact (Kd.R_reads' HO139.out).2.2 | (with_reducible refine Kd.C_alloc ?_ _) | (with_reducible refine Kd.C_drewN ?_ _) | (with_reducible refine Kd.C_drew ?_))); (case side2 => exact (Kd.R_reads' HO139.out).2.1); (case side3 => repeat (first | exact (Kd.R_reads' HO146.out).2.2 | (with_reducible refine Kd.C_alloc ?_ _) | (with_reducible refine Kd.C_drewN ?_ _) | (with_reducible refine Kd.C_drew ?_))); (case side4 => exact (Kd.R_reads' HO146.out).2.1); rintro e w' ⟨rfl, ⟨nd, rfl⟩⟩) | (go_at_call 20; (with_reducible refine (span_Has.calls _ _ t129 (⟨#[98]⟩ : ByteArray) true _ ?side1 ?side2 A8.out).mono ?_); (case side1 => repeat (first | exact (Kd.R_reads' HO131.out).2.2 | (with_reducible refine Kd.C_alloc ?_ _) | (with_reducible refine Kd.C_drewN ?_ _) | (with_reducible refine Kd.C_drew ?_))); (case side2 => exact (Kd.R_reads' HO131.out).2.1); rintro e w29 ⟨rfl, hb⟩; have n0_ := Aside0.mk (Kd.R_below (by (with_reducible repeat (first | apply Kd.R_alloc | apply Kd.R_drewN | apply Kd.R_drew)); exact HO128.out) hb); have n1_ := Aside0.mk (Kd.R_below (by (with_reducible repeat (first | apply Kd.R_alloc | apply Kd.R_drewN | apply Kd.R_drew)); exact HO131.out) hb); have n2_ := Aside0.mk (Kd.R_below (by (with_reducible repeat (first | apply Kd.R_alloc | apply Kd.R_drewN | apply Kd.R_drew)); exact HO136.out) hb); have n3_ := Aside0.mk (Kd.R_below (by (with_reducible repeat (first | apply Kd.R_alloc | apply Kd.R_drewN | apply Kd.R_drew)); exact HO139.out) hb); have n4_ := Aside0.mk (Kd.R_below (by (with_reducible repeat (first | apply Kd.R_alloc | apply Kd.R_drewN | apply Kd.R_drew)); exact HO142.out) hb); have n5_ := Aside0.mk (Kd.R_below (by (with_reducible repeat (first | apply Kd.R_alloc | apply Kd.R_drewN | apply Kd.R_drew)); exact HO146.out) hb); have n6_ := Aside0.mk (below_step (by repeat (first | (with_reducible first | exact HB.out | apply below_alloc | apply pw_below_drewN | apply below_drew1) | exact HB.out)) hb); clear HO128; clear HO131; clear HO136; clear HO139; clear HO142; clear HO146; clear HB; have HO128 := n0_; have HO131 := n1_; have HO136 := n2_; have HO139 := n3_; have HO142 := n4_; have HO146 := n5_; have HB := n6_; clear n0_ n1_ n2_ n3_ n4_ n5_ n6_; (try clear hb); (try clear hb2); (try clear hk); (try clear hi)) | (go_at_call 20; (with_reducible refine (span_Has.calls _ _ t137 (⟨#[98]⟩ : ByteArray) true _ ?side1 ?side2 A10.out).mono ?_); (case side1 => repeat (first | exact (Kd.R_reads' HO139.out).2.2 | (with_reducible refine Kd.C_alloc ?_ _) | (with_reducible refine Kd.C_drewN ?_ _) | (with_reducible refine Kd.C_drew ?_))); (case side2 => exact (Kd.R_reads' HO139.out).2.1); rintro e w30 ⟨rfl, hb⟩; have n0_ := Aside0.mk (Kd.R_below (by (with_reducible repeat (first | apply Kd.R_alloc | apply Kd.R_drewN | apply Kd.R_drew)); exact HO128.out) hb); have n1_ := Aside0.mk (Kd.R_below (by (with_reducible repeat (first | apply Kd.R_alloc | apply Kd.R_drewN | apply Kd.R_drew)); exact HO131.out) hb); have n2_ := Aside0.mk (Kd.R_below (by (with_reducible repeat (first | apply Kd.R_alloc | apply Kd.R_drewN | apply Kd.R_drew)); exact HO136.out) hb); have n3_ := Aside0.mk (Kd.R_below (by (with_reducible repeat (first | apply Kd.R_alloc | apply Kd.R_drewN | apply Kd.R_drew)); exact HO139.out) hb); have n4_ := Aside0.mk (Kd.R_below (by (with_reducible repeat (first | apply Kd.R_alloc | apply Kd.R_drewN | apply Kd.R_drew)); exact HO142.out) hb); have n5_ := Aside0.mk (Kd.R_below (by (with_reducible repeat (first | apply Kd.R_alloc | apply Kd.R_drewN | apply Kd.R_drew)); exact HO146.out) hb); have n6_ := Aside0.mk (below_step (by repeat (first | (with_reducible first | exact HB.out | apply below_alloc | apply pw_below_drewN | apply below_drew1) | exact HB.out)) hb); clear HO128; clear HO131; clear HO136; clear HO139; clear HO142; clear HO146; clear HB; have HO128 := n0_; have HO131 := n1_; have HO136 := n2_; have HO139 := n3_; have HO142 := n4_; have HO146 := n5_; have HB := n6_; clear n0_ n1_ n2_ n3_ n4_ n5_ n6_; (try clear hb); (try clear hb2); (try clear hk); (try clear hi)))
          go_ret
          exact ⟨by first | rfl | (simp [errW_none, errW_some] <;> rfl) | (simp [*, errW_none, errW_some] <;> rfl), by repeat (first | (with_reducible first | exact HB.out | apply below_alloc | apply pw_below_drewN | apply below_drew1) | exact HB.out)⟩
        · replace c11 := Bool.eq_false_iff.mpr c11
          subst c11
          have H1 : ((span_Key.f (⟨#[]⟩ : ByteArray)).bind fun t150 => ((folkmootlaw03_num.f t150).bind fun t151 => (if t151 = 30 then ((span_Meet.f t129 t137).bind fun t152 => (some t152)) else (some false)))) = some r := by rw [if_neg (show ¬ (false = true) by decide)] at H; exact H
          clear H
          have H := H1
          clear H1
          replace H := Option.bind_eq_some_iff.mp H
          obtain ⟨t150, A310, H⟩ := H
          replace H : ((folkmootlaw03_num.f t150).bind fun t151 => (if t151 = 30 then ((span_Meet.f t129 t137).bind fun t152 => (some t152)) else (some false))) = some r := H
          have A31 := Aside0.mk A310
          clear A310
          replace H := Option.bind_eq_some_iff.mp H
          obtain ⟨t151, A320, H⟩ := H
          replace H : (if t151 = 30 then ((span_Meet.f t129 t137).bind fun t152 => (some t152)) else (some false)) = some r := H
          have A32 := Aside0.mk A320
          clear A320
          by_cases c33 : t151 = 30
          · rw [if_pos c33] at H
            have c33b0 : (t151 == 30) = true := beq_iff_eq.mpr c33
            have c33b1 : (t151 != 30) = false := bne_eq_false_iff_eq.mpr c33
            clear c33
            replace H := Option.bind_eq_some_iff.mp H
            obtain ⟨t152, A340, H⟩ := H
            replace H : (some t152) = some r := H
            have A34 := Aside0.mk A340
            clear A340
            obtain rfl := Option.some.inj H
            go_enter Try.func11, Try.ntmps11
            go_wp2_with (first | ((with_reducible refine gate_dst (N := 6) rfl ?_); (try (refine gate_guard (by rfl) ?_; dsimp only)); refine Kd.R_lit k34 _ 34 ?hg (N := 6) ?hd (xs := ([(⟨(⟨#[97]⟩ : ByteArray), (⟨#[99]⟩ : ByteArray)⟩ : S34), (⟨(⟨#[98]⟩ : ByteArray), (⟨#[100]⟩ : ByteArray)⟩ : S34), (⟨(⟨#[100]⟩ : ByteArray), (⟨#[101]⟩ : ByteArray)⟩ : S34)] : List (S34))) (inner := [.string (⟨#[97]⟩ : ByteArray), .string (⟨#[99]⟩ : ByteArray), .string (⟨#[98]⟩ : ByteArray), .string (⟨#[100]⟩ : ByteArray), .string (⟨#[100]⟩ : ByteArray), .string (⟨#[101]⟩ : ByteArray)]) (ok := fun _ => True) (okp := fun _ => True) ?hr ?hp (fun _ hk => hk) trivial (Below.refl _ _) (Nat.le_refl _) (by simp) ?_; (case hd => rfl); (case hg => rfl); (case hr => first | (go_simp; done) | (go_simp; rfl)); (case hp => exact (Reps.c2 (show Kd.M k34 _ _ _ (⟨(⟨#[97]⟩ : ByteArray), (⟨#[99]⟩ : ByteArray)⟩ : S34) [.string (⟨#[97]⟩ : ByteArray), .string (⟨#[99]⟩ : ByteArray)] from (k34_mkM _ _ _ (⟨(⟨#[97]⟩ : ByteArray), (⟨#[99]⟩ : ByteArray)⟩ : S34) )) (Reps.c2 (show Kd.M k34 _ _ _ (⟨(⟨#[98]⟩ : ByteArray), (⟨#[100]⟩ : ByteArray)⟩ : S34) [.string (⟨#[98]⟩ : ByteArray), .string (⟨#[100]⟩ : ByteArray)] from (k34_mkM _ _ _ (⟨(⟨#[98]⟩ : ByteArray), (⟨#[100]⟩ : ByteArray)⟩ : S34) )) (Reps.c2 (show Kd.M k34 _ _ _ (⟨(⟨#[100]⟩ : ByteArray), (⟨#[101]⟩ : ByteArray)⟩ : S34) [.string (⟨#[100]⟩ : ByteArray), .string (⟨#[101]⟩ : ByteArray)] from (k34_mkM _ _ _ (⟨(⟨#[100]⟩ : ByteArray), (⟨#[101]⟩ : ByteArray)⟩ : S34) )) (Reps.none _ _))))); intro v127 w35 ho36 hb hg_ hnew_; clear hg_ hnew_; (first | rw [← Ny126.out] at ho36 | (simp only [Int.reduceToNat] at ho36; rw [← Ny126.out] at ho36)); have n0_ := Aside0.mk (Kd.R_lower ho36 (below_size (by repeat (first | (with_reducible first | exact HB.out | apply below_alloc | apply pw_below_drewN | apply below_drew1) | exact HB.out)))); have n1_ := Aside0.mk (below_step (by repeat (first | (with_reducible first | exact HB.out | apply below_alloc | apply pw_below_drewN | apply below_drew1) | exact HB.out)) hb); clear HB; have HO128 := n0_; have HB := n1_; clear n0_ n1_; clear hb ho36; obtain ⟨Ao37, co37, eo37⟩ := Kd.R_slice HO128.out; subst eo37) | ((with_reducible refine gate_callee (f := 14) rfl ?_); refine goesL_ (some 7) rfl rfl Try.func14 (by kernel_rfl) rfl #[.slice Ao37 y126.length co37] rfl (by (try simp only [List.map_toArray, List.map_cons, List.map_nil]); first | done | rfl | (simp only [List.length_drop, List.length_take]; rfl)) ?_; (with_reducible refine (span_Union.calls _ _ y126 t129 _ ?side1 ?side2 A1.out).mono ?_); (case side1 => repeat (first | exact (Kd.R_reads' HO128.out).2.2 | (with_reducible refine Kd.C_alloc ?_ _) | (with_reducible refine Kd.C_drewN ?_ _) | (with_reducible refine Kd.C_drew ?_))); (case side2 => exact (Kd.R_reads' HO128.out).2.1); rintro e w38 ⟨v130, rfl, ho0, hb⟩; refine ⟨_, rfl, ?_⟩; have n0_ := Aside0.mk (Kd.R_elder' (by (with_reducible repeat (first | apply Kd.R_alloc | apply Kd.R_drewN | apply Kd.R_drew)); exact HO128.out) (Kd.R_base ho0) hb); have n1_ := Aside0.mk (Kd.R_lower (Kd.R_new' ho0 (Kd.R_lt (by (with_reducible repeat (first | apply Kd.R_alloc | apply Kd.R_drewN | apply Kd.R_drew)); exact HO128.out))) (below_size (by repeat (first | (with_reducible first | exact HB.out | apply below_alloc | apply pw_below_drewN | apply below_drew1) | exact HB.out)))); have n2_ := Aside0.mk (below_step (by repeat (first | (with_reducible first | exact HB.out | apply below_alloc | apply pw_below_drewN | apply below_drew1) | exact HB.out)) hb); clear HO128; clear HB; have HO128 := n0_; have HO131 := n1_; have HB := n2_; clear n0_ n1_ n2_; (try clear hb); (try clear hb2); (try clear hk); (try clear hi); (try clear ho0)) | ((with_reducible refine gate_callee (f := 24) rfl ?_); refine goesL_ (some 9) rfl rfl Try.func24 (by kernel_rfl) rfl #[.string (⟨#[98]⟩ : ByteArray)] rfl (by (try simp only [List.map_toArray, List.map_cons, List.map_nil]); first | done | rfl | (simp only [List.length_drop, List.length_take]; rfl)) ?_; (with_reducible refine (span_Point.calls (⟨#[98]⟩ : ByteArray) t132 t133 _ A2.out).mono ?_); rintro e w39 ⟨rfl, hb⟩; refine ⟨_, rfl, ?_⟩; have n0_ := Aside0.mk (Kd.R_below (by (with_reducible repeat (first | apply Kd.R_alloc | apply Kd.R_drewN | apply Kd.R_drew)); exact HO128.out) hb); have n1_ := Aside0.mk (Kd.R_below (by (with_reducible repeat (first | apply Kd.R_alloc | apply Kd.R_drewN | apply Kd.R_drew)); exact HO131.out) hb); have n2_ := Aside0.mk (below_step (by repeat (first | (with_reducible first | exact HB.out | apply below_alloc | apply pw_below_drewN | apply below_drew1) | exact HB.out)) hb); clear HO128; clear HO131; clear HB; have HO128 := n0_; have HO131 := n1_; have HB := n2_; clear n0_ n1_ n2_; (try clear hb); (try clear hb2); (try clear hk); (try clear hi)) | ((with_reducible refine gate_dst (N := 10) rfl ?_); (try (refine gate_guard (by rfl) ?_; dsimp only)); refine Kd.R_lit k34 _ 34 ?hg (N := 10) ?hd (xs := ([(⟨t132, t133⟩ : S34)] : List (S34))) (inner := [.string t132, .string t133]) (ok := fun _ => True) (okp := fun _ => True) ?hr ?hp (fun _ hk => hk) trivial (Below.refl _ _) (Nat.le_refl _) (by simp) ?_; (case hd => rfl); (case hg => rfl); (case hr => first | (go_simp; done) | (go_simp; rfl)); (case hp => exact (Reps.c2 (show Kd.M k34 _ _ _ (⟨t132, t133⟩ : S34) [.string t132, .string t133] from (k34_mkM _ _ _ (⟨t132, t133⟩ : S34) )) (Reps.none _ _))); intro v135 w40 ho41 hb hg_ hnew_; clear hg_ hnew_; (first | rw [← Ny134.out] at ho41 | (simp only [Int.reduceToNat] at ho41; rw [← Ny134.out] at ho41)); have n0_ := Aside0.mk (Kd.R_elder' (by (with_reducible repeat (first | apply Kd.R_alloc | apply Kd.R_drewN | apply Kd.R_drew)); exact HO128.out) (Kd.R_base ho41) hb); have n1_ := Aside0.mk (Kd.R_elder' (by (with_reducible repeat (first | apply Kd.R_alloc | apply Kd.R_drewN | apply Kd.R_drew)); exact HO131.out) (Kd.R_base ho41) hb); have n2_ := Aside0.mk (Kd.R_lower (Kd.R_new' (Kd.R_new' ho41 (Kd.R_lt (by (with_reducible repeat (first | apply Kd.R_alloc | apply Kd.R_drewN | apply Kd.R_drew)); exact HO128.out))) (Kd.R_lt (by (with_reducible repeat (first | apply Kd.R_alloc | apply Kd.R_drewN | apply Kd.R_drew)); exact HO131.out))) (below_size (by repeat (first | (with_reducible first | exact HB.out | apply below_alloc | apply pw_below_drewN | apply below_drew1) | exact HB.out)))); have n3_ := Aside0.mk (below_step (by repeat (first | (with_reducible first | exact HB.out | apply below_alloc | apply pw_below_drewN | apply below_drew1) | exact HB.out)) hb); clear HO128; clear HO131; clear HB; have HO128 := n0_; have HO131 := n1_; have HO136 := n2_; have HB := n3_; clear n0_ n1_ n2_ n3_; clear hb ho41; obtain ⟨Ao42, co42, eo42⟩ := Kd.R_slice HO131.out; subst eo42; obtain ⟨Ao43, co43, eo43⟩ := Kd.R_slice HO136.out; subst eo43) | ((with_reducible refine gate_callee (f := 18) rfl ?_); refine goesL_ (some 11) rfl rfl Try.func18 (by kernel_rfl) rfl #[.slice Ao42 t129.length co42, .slice Ao43 y134.length co43] rfl (by (try simp only [List.map_toArray, List.map_cons, List.map_nil]); first | done | rfl | (simp only [List.length_drop, List.length_take]; rfl)) ?_; (with_reducible refine (span_Less.calls k _ _ t129 _ _ y134 t137 _ ?side1 ?side2 ?side3 ?side4 A3.out).mono ?_); (case side1 => repeat (first | exact (Kd.R_reads' HO131.out).2.2 | (with_reducible refine Kd.C_alloc ?_ _) | (with_reducible refine Kd.C_drewN ?_ _) | (with_reducible refine Kd.C_drew ?_))); (case side2 => exact (Kd.R_reads' HO131.out).2.1); (case side3 => repeat (first | exact (Kd.R_reads' HO136.out).2.2 | (with_reducible refine Kd.C_alloc ?_ _) | (with_reducible refine Kd.C_drewN ?_ _) | (with_reducible refine Kd.C_drew ?_))); (case side4 => exact (Kd.R_reads' HO136.out).2.1); rintro e w44 ⟨v138, rfl, ho0, hb⟩; refine ⟨_, rfl, ?_⟩; have n0_ := Aside0.mk (Kd.R_elder' (by (with_reducible repeat (first | apply Kd.R_alloc | apply Kd.R_drewN | apply Kd.R_drew)); exact HO128.out) (Kd.R_base ho0) hb); have n1_ := Aside0.mk (Kd.R_elder' (by (with_reducible repeat (first | apply Kd.R_alloc | apply Kd.R_drewN | apply Kd.R_drew)); exact HO131.out) (Kd.R_base ho0) hb); have n2_ := Aside0.mk (Kd.R_elder' (by (with_reducible repeat (first | apply Kd.R_alloc | apply Kd.R_drewN | apply Kd.R_drew)); exact HO136.out) (Kd.R_base ho0) hb); have n3_ := Aside0.mk (Kd.R_lower (Kd.R_new' (Kd.R_new' (Kd.R_new' ho0 (Kd.R_lt (by (with_reducible repeat (first | apply Kd.R_alloc | apply Kd.R_drewN | apply Kd.R_drew)); exact HO128.out))) (Kd.R_lt (by (with_reducible repeat (first | apply Kd.R_alloc | apply Kd.R_drewN | apply Kd.R_drew)); exact HO131.out))) (Kd.R_lt (by (with_reducible repeat (first | apply Kd.R_alloc | apply Kd.R_drewN | apply Kd.R_drew)); exact HO136.out))) (below_size (by repeat (first | (with_reducible first | exact HB.out | apply below_alloc | apply pw_below_drewN | apply below_drew1) | exact HB.out)))); have n4_ := Aside0.mk (below_step (by repeat (first | (with_reducible first | exact HB.out | apply below_alloc | apply pw_below_drewN | apply below_drew1) | exact HB.out)) hb); clear HO128; clear HO131; clear HO136; clear HB; have HO128 := n0_; have HO131 := n1_; have HO136 := n2_; have HO139 := n3_; have HB := n4_; clear n0_ n1_ n2_ n3_ n4_; (try clear hb); (try clear hb2); (try clear hk); (try clear hi); (try clear ho0)) | ((with_reducible refine gate_dst (N := 14) rfl ?_); (try (refine gate_guard (by rfl) ?_; dsimp only)); refine Kd.R_lit k34 _ 34 ?hg (N := 14) ?hd (xs := ([(⟨(⟨#[97]⟩ : ByteArray), (⟨#[101]⟩ : ByteArray)⟩ : S34)] : List (S34))) (inner := [.string (⟨#[97]⟩ : ByteArray), .string (⟨#[101]⟩ : ByteArray)]) (ok := fun _ => True) (okp := fun _ => True) ?hr ?hp (fun _ hk => hk) trivial (Below.refl _ _) (Nat.le_refl _) (by simp) ?_; (case hd => rfl); (case hg => rfl); (case hr => first | (go_simp; done) | (go_simp; rfl)); (case hp => exact (Reps.c2 (show Kd.M k34 _ _ _ (⟨(⟨#[97]⟩ : ByteArray), (⟨#[101]⟩ : ByteArray)⟩ : S34) [.string (⟨#[97]⟩ : ByteArray), .string (⟨#[101]⟩ : ByteArray)] from (k34_mkM _ _ _ (⟨(⟨#[97]⟩ : ByteArray), (⟨#[101]⟩ : ByteArray)⟩ : S34) )) (Reps.none _ _))); intro v141 w45 ho46 hb hg_ hnew_; clear hg_ hnew_; (first | rw [← Ny140.out] at ho46 | (simp only [Int.reduceToNat] at ho46; rw [← Ny140.out] at ho46)); have n0_ := Aside0.mk (Kd.R_elder' (by (with_reducible repeat (first | apply Kd.R_alloc | apply Kd.R_drewN | apply Kd.R_drew)); exact HO128.out) (Kd.R_base ho46) hb); have n1_ := Aside0.mk (Kd.R_elder' (by (with_reducible repeat (first | apply Kd.R_alloc | apply Kd.R_drewN | apply Kd.R_drew)); exact HO131.out) (Kd.R_base ho46) hb); have n2_ := Aside0.mk (Kd.R_elder' (by (with_reducible repeat (first | apply Kd.R_alloc | apply Kd.R_drewN | apply Kd.R_drew)); exact HO136.out) (Kd.R_base ho46) hb); have n3_ := Aside0.mk (Kd.R_elder' (by (with_reducible repeat (first | apply Kd.R_alloc | apply Kd.R_drewN | apply Kd.R_drew)); exact HO139.out) (Kd.R_base ho46) hb); have n4_ := Aside0.mk (Kd.R_lower (Kd.R_new' (Kd.R_new' (Kd.R_new' (Kd.R_new' ho46 (Kd.R_lt (by (with_reducible repeat (first | apply Kd.R_alloc | apply Kd.R_drewN | apply Kd.R_drew)); exact HO128.out))) (Kd.R_lt (by (with_reducible repeat (first | apply Kd.R_alloc | apply Kd.R_drewN | apply Kd.R_drew)); exact HO131.out))) (Kd.R_lt (by (with_reducible repeat (first | apply Kd.R_alloc | apply Kd.R_drewN | apply Kd.R_drew)); exact HO136.out))) (Kd.R_lt (by (with_reducible repeat (first | apply Kd.R_alloc | apply Kd.R_drewN | apply Kd.R_drew)); exact HO139.out))) (below_size (by repeat (first | (with_reducible first | exact HB.out | apply below_alloc | apply pw_below_drewN | apply below_drew1) | exact HB.out)))); have n5_ := Aside0.mk (below_step (by repeat (first | (with_reducible first | exact HB.out | apply below_alloc | apply pw_below_drewN | apply below_drew1) | exact HB.out)) hb); clear HO128; clear HO131; clear HO136; clear HO139; clear HB; have HO128 := n0_; have HO131 := n1_; have HO136 := n2_; have HO139 := n3_; have HO142 := n4_; have HB := n5_; clear n0_ n1_ n2_ n3_ n4_ n5_; clear hb ho46; obtain ⟨Ao47, co47, eo47⟩ := Kd.R_slice HO142.out; subst eo47) | ((with_reducible refine gate_callee (f := 13) rfl ?_); refine goesL_ (some 15) rfl rfl Try.func13 (by kernel_rfl) rfl #[.slice Ao42 t129.length co42, .slice Ao47 y140.length co47] rfl (by (try simp only [List.map_toArray, List.map_cons, List.map_nil]); first | done | rfl | (simp only [List.length_drop, List.length_take]; rfl)) ?_; (with_reducible refine (folkmootref03_Same.calls k _ _ t129 _ _ y140 true _ ?side1 ?side2 ?side3 ?side4 A4.out).mono ?_); (case side1 => repeat (first | exact (Kd.R_reads' HO131.out).2.2 | (with_reducible refine Kd.C_alloc ?_ _) | (with_reducible refine Kd.C_drewN ?_ _) | (with_reducible refine Kd.C_drew ?_))); (case side2 => exact (Kd.R_reads' HO131.out).2.1); (case side3 => repeat (first | exact (Kd.R_reads' HO142.out).2.2 | (with_reducible refine Kd.C_alloc ?_ _) | (with_reducible refine Kd.C_drewN ?_ _) | (with_reducible refine Kd.C_drew ?_))); (case side4 => exact (Kd.R_reads' HO142.out).2.1); rintro e w' ⟨rfl, ⟨nd, rfl⟩⟩; refine ⟨_, rfl, ?_⟩) | ((with_reducible refine gate_dst (N := 20) rfl ?_); (try (refine gate_guard (by rfl) ?_; dsimp only)); refine Kd.R_lit k34 _ 34 ?hg (N := 20) ?hd (xs := ([(⟨(⟨#[97]⟩ : ByteArray), (⟨#[98]⟩ : ByteArray)⟩ : S34), (⟨(⟨#[98, 0]⟩ : ByteArray), (⟨#[101]⟩ : ByteArray)⟩ : S34)] : List (S34))) (inner := [.string (⟨#[97]⟩ : ByteArray), .string (⟨#[98]⟩ : ByteArray), .string (⟨#[98, 0]⟩ : ByteArray), .string (⟨#[101]⟩ : ByteArray)]) (ok := fun _ => True) (okp := fun _ => True) ?hr ?hp (fun _ hk => hk) trivial (Below.refl _ _) (Nat.le_refl _) (by simp) ?_; (case hd => rfl); (case hg => rfl); (case hr => first | (go_simp; done) | (go_simp; rfl)); (case hp => exact (Reps.c2 (show Kd.M k34 _ _ _ (⟨(⟨#[97]⟩ : ByteArray), (⟨#[98]⟩ : ByteArray)⟩ : S34) [.string (⟨#[97]⟩ : ByteArray), .string (⟨#[98]⟩ : ByteArray)] from (k34_mkM _ _ _ (⟨(⟨#[97]⟩ : ByteArray), (⟨#[98]⟩ : ByteArray)⟩ : S34) )) (Reps.c2 (show Kd.M k34 _ _ _ (⟨(⟨#[98, 0]⟩ : ByteArray), (⟨#[101]⟩ : ByteArray)⟩ : S34) [.string (⟨#[98, 0]⟩ : ByteArray), .string (⟨#[101]⟩ : ByteArray)] from (k34_mkM _ _ _ (⟨(⟨#[98, 0]⟩ : ByteArray), (⟨#[101]⟩ : ByteArray)⟩ : S34) )) (Reps.none _ _)))); intro v145 w48 ho49 hb hg_ hnew_; clear hg_ hnew_; (first | rw [← Ny144.out] at ho49 | (simp only [Int.reduceToNat] at ho49; rw [← Ny144.out] at ho49)); have n0_ := Aside0.mk (Kd.R_elder' (by (with_reducible repeat (first | apply Kd.R_alloc | apply Kd.R_drewN | apply Kd.R_drew)); exact HO128.out) (Kd.R_base ho49) hb); have n1_ := Aside0.mk (Kd.R_elder' (by (with_reducible repeat (first | apply Kd.R_alloc | apply Kd.R_drewN | apply Kd.R_drew)); exact HO131.out) (Kd.R_base ho49) hb); have n2_ := Aside0.mk (Kd.R_elder' (by (with_reducible repeat (first | apply Kd.R_alloc | apply Kd.R_drewN | apply Kd.R_drew)); exact HO136.out) (Kd.R_base ho49) hb); have n3_ := Aside0.mk (Kd.R_elder' (by (with_reducible repeat (first | apply Kd.R_alloc | apply Kd.R_drewN | apply Kd.R_drew)); exact HO139.out) (Kd.R_base ho49) hb); have n4_ := Aside0.mk (Kd.R_elder' (by (with_reducible repeat (first | apply Kd.R_alloc | apply Kd.R_drewN | apply Kd.R_drew)); exact HO142.out) (Kd.R_base ho49) hb); have n5_ := Aside0.mk (Kd.R_lower (Kd.R_new' (Kd.R_new' (Kd.R_new' (Kd.R_new' (Kd.R_new' ho49 (Kd.R_lt (by (with_reducible repeat (first | apply Kd.R_alloc | apply Kd.R_drewN | apply Kd.R_drew)); exact HO128.out))) (Kd.R_lt (by (with_reducible repeat (first | apply Kd.R_alloc | apply Kd.R_drewN | apply Kd.R_drew)); exact HO131.out))) (Kd.R_lt (by (with_reducible repeat (first | apply Kd.R_alloc | apply Kd.R_drewN | apply Kd.R_drew)); exact HO136.out))) (Kd.R_lt (by (with_reducible repeat (first | apply Kd.R_alloc | apply Kd.R_drewN | apply Kd.R_drew)); exact HO139.out))) (Kd.R_lt (by (with_reducible repeat (first | apply Kd.R_alloc | apply Kd.R_drewN | apply Kd.R_drew)); exact HO142.out))) (below_size (by repeat (first | (with_reducible first | exact HB.out | apply below_alloc | apply pw_below_drewN | apply below_drew1) | exact HB.out)))); have n6_ := Aside0.mk (below_step (by repeat (first | (with_reducible first | exact HB.out | apply below_alloc | apply pw_below_drewN | apply below_drew1) | exact HB.out)) hb); clear HO128; clear HO131; clear HO136; clear HO139; clear HO142; clear HB; have HO128 := n0_; have HO131 := n1_; have HO136 := n2_; have HO139 := n3_; have HO142 := n4_; have HO146 := n5_; have HB := n6_; clear n0_ n1_ n2_ n3_ n4_ n5_ n6_; clear hb ho49; obtain ⟨Ao50, co50, eo50⟩ := Kd.R_slice HO139.out; subst eo50; obtain ⟨Ao51, co51, eo51⟩ := Kd.R_slice HO146.out; subst eo51) | (go_at_call 13; (with_reducible refine (folkmootref03_Same.calls k _ _ t137 _ _ y144 true _ ?side1 ?side2 ?side3 ?side4 A6.out).mono ?_); (case side1 => repeat (first | exact (Kd.R_reads' HO139.out).2.2 | (with_reducible refine Kd.C_alloc ?_ _) | (with_reducible refine Kd.C_drewN ?_ _) | (with_reducible refine Kd.C_drew ?_))); (case side2 => exact (Kd.R_reads' HO139.out).2.1); (case side3 => repeat (first | exact (Kd.R_reads' HO146.out).2.2 | (with_reducible refine Kd.C_alloc ?_ _) | (with_reducible refine Kd.C_drewN ?_ _) | (with_reducible refine Kd.C_drew ?_))); (case side4 => exact (Kd.R_reads' HO146.out).2.1); rintro e w' ⟨rfl, ⟨nd, rfl⟩⟩) | (go_at_call 20; (with_reducible refine (span_Has.calls _ _ t129 (⟨#[98]⟩ : ByteArray) true _ ?side1 ?side2 A8.out).mono ?_); (case side1 => repeat (first | exact (Kd.R_reads' HO131.out).2.2 | (with_reducible refine Kd.C_alloc ?_ _) | (with_reducible refine Kd.C_drewN ?_ _) | (with_reducible refine Kd.C_drew ?_))); (case side2 => exact (Kd.R_reads' HO131.out).2.1); rintro e w52 ⟨rfl, hb⟩; have n0_ := Aside0.mk (Kd.R_below (by (with_reducible repeat (first | apply Kd.R_alloc | apply Kd.R_drewN | apply Kd.R_drew)); exact HO128.out) hb); have n1_ := Aside0.mk (Kd.R_below (by (with_reducible repeat (first | apply Kd.R_alloc | apply Kd.R_drewN | apply Kd.R_drew)); exact HO131.out) hb); have n2_ := Aside0.mk (Kd.R_below (by (with_reducible repeat (first | apply Kd.R_alloc | apply Kd.R_drewN | apply Kd.R_drew)); exact HO136.out) hb); have n3_ := Aside0.mk (Kd.R_below (by (with_reducible repeat (first | apply Kd.R_alloc | apply Kd.R_drewN | apply Kd.R_drew)); exact HO139.out) hb); have n4_ := Aside0.mk (Kd.R_below (by (with_reducible repeat (first | apply Kd.R_alloc | apply Kd.R_drewN | apply Kd.R_drew)); exact HO142.out) hb); have n5_ := Aside0.mk (Kd.R_below (by (with_reducible repeat (first | apply Kd.R_alloc | apply Kd.R_drewN | apply Kd.R_drew)); exact HO146.out) hb); have n6_ := Aside0.mk (below_step (by repeat (first | (with_reducible first | exact HB.out | apply below_alloc | apply pw_below_drewN | apply below_drew1) | exact HB.out)) hb); clear HO128; clear HO131; clear HO136; clear HO139; clear HO142; clear HO146; clear HB; have HO128 := n0_; have HO131 := n1_; have HO136 := n2_; have HO139 := n3_; have HO142 := n4_; have HO146 := n5_; have HB := n6_; clear n0_ n1_ n2_ n3_ n4_ n5_ n6_; (try clear hb); (try clear hb2); (try clear hk); (try clear hi)) | (go_at_call 20; (with_reducible refine (span_Has.calls _ _ t137 (⟨#[98]⟩ : ByteArray) false _ ?side1 ?side2 A10.out).mono ?_); (case side1 => repeat (first | exact (Kd.R_reads' HO139.out).2.2 | (with_reducible refine Kd.C_alloc ?_ _) | (with_reducible refine Kd.C_drewN ?_ _) | (with_reducible refine Kd.C_drew ?_))); (case side2 => exact (Kd.R_reads' HO139.out).2.1); rintro e w53 ⟨rfl, hb⟩; have n0_ := Aside0.mk (Kd.R_below (by (with_reducible repeat (first | apply Kd.R_alloc | apply Kd.R_drewN | apply Kd.R_drew)); exact HO128.out) hb); have n1_ := Aside0.mk (Kd.R_below (by (with_reducible repeat (first | apply Kd.R_alloc | apply Kd.R_drewN | apply Kd.R_drew)); exact HO131.out) hb); have n2_ := Aside0.mk (Kd.R_below (by (with_reducible repeat (first | apply Kd.R_alloc | apply Kd.R_drewN | apply Kd.R_drew)); exact HO136.out) hb); have n3_ := Aside0.mk (Kd.R_below (by (with_reducible repeat (first | apply Kd.R_alloc | apply Kd.R_drewN | apply Kd.R_drew)); exact HO139.out) hb); have n4_ := Aside0.mk (Kd.R_below (by (with_reducible repeat (first | apply Kd.R_alloc | apply Kd.R_drewN | apply Kd.R_drew)); exact HO142.out) hb); have n5_ := Aside0.mk (Kd.R_below (by (with_reducible repeat (first | apply Kd.R_alloc | apply Kd.R_drewN | apply Kd.R_drew)); exact HO146.out) hb); have n6_ := Aside0.mk (below_step (by repeat (first | (with_reducible first | exact HB.out | apply below_alloc | apply pw_below_drewN | apply below_drew1) | exact HB.out)) hb); clear HO128; clear HO131; clear HO136; clear HO139; clear HO142; clear HO146; clear HB; have HO128 := n0_; have HO131 := n1_; have HO136 := n2_; have HO139 := n3_; have HO142 := n4_; have HO146 := n5_; have HB := n6_; clear n0_ n1_ n2_ n3_ n4_ n5_ n6_; (try clear hb); (try clear hb2); (try clear hk); (try clear hi)) | (go_at_call 26; (with_reducible refine (span_Key.calls (⟨#[]⟩ : ByteArray) t150 _ A31.out).mono ?_); rintro e w' ⟨rfl, ⟨nd, rfl⟩⟩) | (go_at_call 25; (with_reducible refine (folkmootlaw03_num.calls t150 t151 _ A32.out).mono ?_); rintro e w' ⟨rfl, ⟨nd, rfl⟩⟩) | (go_at_call 22; (with_reducible refine (span_Meet.calls _ _ t129 _ _ t137 t152 _ ?side1 ?side2 ?side3 ?side4 A34.out).mono ?_); (case side1 => repeat (first | exact (Kd.R_reads' HO131.out).2.2 | (with_reducible refine Kd.C_alloc ?_ _) | (with_reducible refine Kd.C_drewN ?_ _) | (with_reducible refine Kd.C_drew ?_))); (case side2 => exact (Kd.R_reads' HO131.out).2.1); (case side3 => repeat (first | exact (Kd.R_reads' HO139.out).2.2 | (with_reducible refine Kd.C_alloc ?_ _) | (with_reducible refine Kd.C_drewN ?_ _) | (with_reducible refine Kd.C_drew ?_))); (case side4 => exact (Kd.R_reads' HO139.out).2.1); rintro e w54 ⟨rfl, hb⟩; have n0_ := Aside0.mk (Kd.R_below (by (with_reducible repeat (first | apply Kd.R_alloc | apply Kd.R_drewN | apply Kd.R_drew)); exact HO128.out) hb); have n1_ := Aside0.mk (Kd.R_below (by (with_reducible repeat (first | apply Kd.R_alloc | apply Kd.R_drewN | apply Kd.R_drew)); exact HO131.out) hb); have n2_ := Aside0.mk (Kd.R_below (by (with_reducible repeat (first | apply Kd.R_alloc | apply Kd.R_drewN | apply Kd.R_drew)); exact HO136.out) hb); have n3_ := Aside0.mk (Kd.R_below (by (with_reducible repeat (first | apply Kd.R_alloc | apply Kd.R_drewN | apply Kd.R_drew)); exact HO139.out) hb); have n4_ := Aside0.mk (Kd.R_below (by (with_reducible repeat (first | apply Kd.R_alloc | apply Kd.R_drewN | apply Kd.R_drew)); exact HO142.out) hb); have n5_ := Aside0.mk (Kd.R_below (by (with_reducible repeat (first | apply Kd.R_alloc | apply Kd.R_drewN | apply Kd.R_drew)); exact HO146.out) hb); have n6_ := Aside0.mk (below_step (by repeat (first | (with_reducible first | exact HB.out | apply below_alloc | apply pw_below_drewN | apply below_drew1) | exact HB.out)) hb); clear HO128; clear HO131; clear HO136; clear HO139; clear HO142; clear HO146; clear HB; have HO128 := n0_; have HO131 := n1_; have HO136 := n2_; have HO139 := n3_; have HO142 := n4_; have HO146 := n5_; have HB := n6_; clear n0_ n1_ n2_ n3_ n4_ n5_ n6_; (try clear hb); (try clear hb2); (try clear hk); (try clear hi)))
            go_ret
            exact ⟨by first | rfl | (simp [errW_none, errW_some] <;> rfl) | (simp [*, errW_none, errW_some] <;> rfl), by repeat (first | (with_reducible first | exact HB.out | apply below_alloc | apply pw_below_drewN | apply below_drew1) | exact HB.out)⟩
          · rw [if_neg c33] at H
            have c33b0 : (t151 == 30) = false := beq_eq_false_iff_ne.mpr c33
            have c33b1 : (t151 != 30) = true := bne_iff_ne.mpr c33
            obtain rfl := Option.some.inj H
            go_enter Try.func11, Try.ntmps11
            go_wp2_with (first | ((with_reducible refine gate_dst (N := 6) rfl ?_); (try (refine gate_guard (by rfl) ?_; dsimp only)); refine Kd.R_lit k34 _ 34 ?hg (N := 6) ?hd (xs := ([(⟨(⟨#[97]⟩ : ByteArray), (⟨#[99]⟩ : ByteArray)⟩ : S34), (⟨(⟨#[98]⟩ : ByteArray), (⟨#[100]⟩ : ByteArray)⟩ : S34), (⟨(⟨#[100]⟩ : ByteArray), (⟨#[101]⟩ : ByteArray)⟩ : S34)] : List (S34))) (inner := [.string (⟨#[97]⟩ : ByteArray), .string (⟨#[99]⟩ : ByteArray), .string (⟨#[98]⟩ : ByteArray), .string (⟨#[100]⟩ : ByteArray), .string (⟨#[100]⟩ : ByteArray), .string (⟨#[101]⟩ : ByteArray)]) (ok := fun _ => True) (okp := fun _ => True) ?hr ?hp (fun _ hk => hk) trivial (Below.refl _ _) (Nat.le_refl _) (by simp) ?_; (case hd => rfl); (case hg => rfl); (case hr => first | (go_simp; done) | (go_simp; rfl)); (case hp => exact (Reps.c2 (show Kd.M k34 _ _ _ (⟨(⟨#[97]⟩ : ByteArray), (⟨#[99]⟩ : ByteArray)⟩ : S34) [.string (⟨#[97]⟩ : ByteArray), .string (⟨#[99]⟩ : ByteArray)] from (k34_mkM _ _ _ (⟨(⟨#[97]⟩ : ByteArray), (⟨#[99]⟩ : ByteArray)⟩ : S34) )) (Reps.c2 (show Kd.M k34 _ _ _ (⟨(⟨#[98]⟩ : ByteArray), (⟨#[100]⟩ : ByteArray)⟩ : S34) [.string (⟨#[98]⟩ : ByteArray), .string (⟨#[100]⟩ : ByteArray)] from (k34_mkM _ _ _ (⟨(⟨#[98]⟩ : ByteArray), (⟨#[100]⟩ : ByteArray)⟩ : S34) )) (Reps.c2 (show Kd.M k34 _ _ _ (⟨(⟨#[100]⟩ : ByteArray), (⟨#[101]⟩ : ByteArray)⟩ : S34) [.string (⟨#[100]⟩ : ByteArray), .string (⟨#[101]⟩ : ByteArray)] from (k34_mkM _ _ _ (⟨(⟨#[100]⟩ : ByteArray), (⟨#[101]⟩ : ByteArray)⟩ : S34) )) (Reps.none _ _))))); intro v127 w55 ho56 hb hg_ hnew_; clear hg_ hnew_; (first | rw [← Ny126.out] at ho56 | (simp only [Int.reduceToNat] at ho56; rw [← Ny126.out] at ho56)); have n0_ := Aside0.mk (Kd.R_lower ho56 (below_size (by repeat (first | (with_reducible first | exact HB.out | apply below_alloc | apply pw_below_drewN | apply below_drew1) | exact HB.out)))); have n1_ := Aside0.mk (below_step (by repeat (first | (with_reducible first | exact HB.out | apply below_alloc | apply pw_below_drewN | apply below_drew1) | exact HB.out)) hb); clear HB; have HO128 := n0_; have HB := n1_; clear n0_ n1_; clear hb ho56; obtain ⟨Ao57, co57, eo57⟩ := Kd.R_slice HO128.out; subst eo57) | ((with_reducible refine gate_callee (f := 14) rfl ?_); refine goesL_ (some 7) rfl rfl Try.func14 (by kernel_rfl) rfl #[.slice Ao57 y126.length co57] rfl (by (try simp only [List.map_toArray, List.map_cons, List.map_nil]); first | done | rfl | (simp only [List.length_drop, List.length_take]; rfl)) ?_; (with_reducible refine (span_Union.calls _ _ y126 t129 _ ?side1 ?side2 A1.out).mono ?_); (case side1 => repeat (first | exact (Kd.R_reads' HO128.out).2.2 | (with_reducible refine Kd.C_alloc ?_ _) | (with_reducible refine Kd.C_drewN ?_ _) | (with_reducible refine Kd.C_drew ?_))); (case side2 => exact (Kd.R_reads' HO128.out).2.1); rintro e w58 ⟨v130, rfl, ho0, hb⟩; refine ⟨_, rfl, ?_⟩; have n0_ := Aside0.mk (Kd.R_elder' (by (with_reducible repeat (first | apply Kd.R_alloc | apply Kd.R_drewN | apply Kd.R_drew)); exact HO128.out) (Kd.R_base ho0) hb); have n1_ := Aside0.mk (Kd.R_lower (Kd.R_new' ho0 (Kd.R_lt (by (with_reducible repeat (first | apply Kd.R_alloc | apply Kd.R_drewN | apply Kd.R_drew)); exact HO128.out))) (below_size (by repeat (first | (with_reducible first | exact HB.out | apply below_alloc | apply pw_below_drewN | apply below_drew1) | exact HB.out)))); have n2_ := Aside0.mk (below_step (by repeat (first | (with_reducible first | exact HB.out | apply below_alloc | apply pw_below_drewN | apply below_drew1) | exact HB.out)) hb); clear HO128; clear HB; have HO128 := n0_; have HO131 := n1_; have HB := n2_; clear n0_ n1_ n2_; (try clear hb); (try clear hb2); (try clear hk); (try clear hi); (try clear ho0)) | ((with_reducible refine gate_callee (f := 24) rfl ?_); refine goesL_ (some 9) rfl rfl Try.func24 (by kernel_rfl) rfl #[.string (⟨#[98]⟩ : ByteArray)] rfl (by (try simp only [List.map_toArray, List.map_cons, List.map_nil]); first | done | rfl | (simp only [List.length_drop, List.length_take]; rfl)) ?_; (with_reducible refine (span_Point.calls (⟨#[98]⟩ : ByteArray) t132 t133 _ A2.out).mono ?_); rintro e w59 ⟨rfl, hb⟩; refine ⟨_, rfl, ?_⟩; have n0_ := Aside0.mk (Kd.R_below (by (with_reducible repeat (first | apply Kd.R_alloc | apply Kd.R_drewN | apply Kd.R_drew)); exact HO128.out) hb); have n1_ := Aside0.mk (Kd.R_below (by (with_reducible repeat (first | apply Kd.R_alloc | apply Kd.R_drewN | apply Kd.R_drew)); exact HO131.out) hb); have n2_ := Aside0.mk (below_step (by repeat (first | (with_reducible first | exact HB.out | apply below_alloc | apply pw_below_drewN | apply below_drew1) | exact HB.out)) hb); clear HO128; clear HO131; clear HB; have HO128 := n0_; have HO131 := n1_; have HB := n2_; clear n0_ n1_ n2_; (try clear hb); (try clear hb2); (try clear hk); (try clear hi)) | ((with_reducible refine gate_dst (N := 10) rfl ?_); (try (refine gate_guard (by rfl) ?_; dsimp only)); refine Kd.R_lit k34 _ 34 ?hg (N := 10) ?hd (xs := ([(⟨t132, t133⟩ : S34)] : List (S34))) (inner := [.string t132, .string t133]) (ok := fun _ => True) (okp := fun _ => True) ?hr ?hp (fun _ hk => hk) trivial (Below.refl _ _) (Nat.le_refl _) (by simp) ?_; (case hd => rfl); (case hg => rfl); (case hr => first | (go_simp; done) | (go_simp; rfl)); (case hp => exact (Reps.c2 (show Kd.M k34 _ _ _ (⟨t132, t133⟩ : S34) [.string t132, .string t133] from (k34_mkM _ _ _ (⟨t132, t133⟩ : S34) )) (Reps.none _ _))); intro v135 w60 ho61 hb hg_ hnew_; clear hg_ hnew_; (first | rw [← Ny134.out] at ho61 | (simp only [Int.reduceToNat] at ho61; rw [← Ny134.out] at ho61)); have n0_ := Aside0.mk (Kd.R_elder' (by (with_reducible repeat (first | apply Kd.R_alloc | apply Kd.R_drewN | apply Kd.R_drew)); exact HO128.out) (Kd.R_base ho61) hb); have n1_ := Aside0.mk (Kd.R_elder' (by (with_reducible repeat (first | apply Kd.R_alloc | apply Kd.R_drewN | apply Kd.R_drew)); exact HO131.out) (Kd.R_base ho61) hb); have n2_ := Aside0.mk (Kd.R_lower (Kd.R_new' (Kd.R_new' ho61 (Kd.R_lt (by (with_reducible repeat (first | apply Kd.R_alloc | apply Kd.R_drewN | apply Kd.R_drew)); exact HO128.out))) (Kd.R_lt (by (with_reducible repeat (first | apply Kd.R_alloc | apply Kd.R_drewN | apply Kd.R_drew)); exact HO131.out))) (below_size (by repeat (first | (with_reducible first | exact HB.out | apply below_alloc | apply pw_below_drewN | apply below_drew1) | exact HB.out)))); have n3_ := Aside0.mk (below_step (by repeat (first | (with_reducible first | exact HB.out | apply below_alloc | apply pw_below_drewN | apply below_drew1) | exact HB.out)) hb); clear HO128; clear HO131; clear HB; have HO128 := n0_; have HO131 := n1_; have HO136 := n2_; have HB := n3_; clear n0_ n1_ n2_ n3_; clear hb ho61; obtain ⟨Ao62, co62, eo62⟩ := Kd.R_slice HO131.out; subst eo62; obtain ⟨Ao63, co63, eo63⟩ := Kd.R_slice HO136.out; subst eo63) | ((with_reducible refine gate_callee (f := 18) rfl ?_); refine goesL_ (some 11) rfl rfl Try.func18 (by kernel_rfl) rfl #[.slice Ao62 t129.length co62, .slice Ao63 y134.length co63] rfl (by (try simp only [List.map_toArray, List.map_cons, List.map_nil]); first | done | rfl | (simp only [List.length_drop, List.length_take]; rfl)) ?_; (with_reducible refine (span_Less.calls k _ _ t129 _ _ y134 t137 _ ?side1 ?side2 ?side3 ?side4 A3.out).mono ?_); (case side1 => repeat (first | exact (Kd.R_reads' HO131.out).2.2 | (with_reducible refine Kd.C_alloc ?_ _) | (with_reducible refine Kd.C_drewN ?_ _) | (with_reducible refine Kd.C_drew ?_))); (case side2 => exact (Kd.R_reads' HO131.out).2.1); (case side3 => repeat (first | exact (Kd.R_reads' HO136.out).2.2 | (with_reducible refine Kd.C_alloc ?_ _) | (with_reducible refine Kd.C_drewN ?_ _) | (with_reducible refine Kd.C_drew ?_))); (case side4 => exact (Kd.R_reads' HO136.out).2.1); rintro e w64 ⟨v138, rfl, ho0, hb⟩; refine ⟨_, rfl, ?_⟩; have n0_ := Aside0.mk (Kd.R_elder' (by (with_reducible repeat (first | apply Kd.R_alloc | apply Kd.R_drewN | apply Kd.R_drew)); exact HO128.out) (Kd.R_base ho0) hb); have n1_ := Aside0.mk (Kd.R_elder' (by (with_reducible repeat (first | apply Kd.R_alloc | apply Kd.R_drewN | apply Kd.R_drew)); exact HO131.out) (Kd.R_base ho0) hb); have n2_ := Aside0.mk (Kd.R_elder' (by (with_reducible repeat (first | apply Kd.R_alloc | apply Kd.R_drewN | apply Kd.R_drew)); exact HO136.out) (Kd.R_base ho0) hb); have n3_ := Aside0.mk (Kd.R_lower (Kd.R_new' (Kd.R_new' (Kd.R_new' ho0 (Kd.R_lt (by (with_reducible repeat (first | apply Kd.R_alloc | apply Kd.R_drewN | apply Kd.R_drew)); exact HO128.out))) (Kd.R_lt (by (with_reducible repeat (first | apply Kd.R_alloc | apply Kd.R_drewN | apply Kd.R_drew)); exact HO131.out))) (Kd.R_lt (by (with_reducible repeat (first | apply Kd.R_alloc | apply Kd.R_drewN | apply Kd.R_drew)); exact HO136.out))) (below_size (by repeat (first | (with_reducible first | exact HB.out | apply below_alloc | apply pw_below_drewN | apply below_drew1) | exact HB.out)))); have n4_ := Aside0.mk (below_step (by repeat (first | (with_reducible first | exact HB.out | apply below_alloc | apply pw_below_drewN | apply below_drew1) | exact HB.out)) hb); clear HO128; clear HO131; clear HO136; clear HB; have HO128 := n0_; have HO131 := n1_; have HO136 := n2_; have HO139 := n3_; have HB := n4_; clear n0_ n1_ n2_ n3_ n4_; (try clear hb); (try clear hb2); (try clear hk); (try clear hi); (try clear ho0)) | ((with_reducible refine gate_dst (N := 14) rfl ?_); (try (refine gate_guard (by rfl) ?_; dsimp only)); refine Kd.R_lit k34 _ 34 ?hg (N := 14) ?hd (xs := ([(⟨(⟨#[97]⟩ : ByteArray), (⟨#[101]⟩ : ByteArray)⟩ : S34)] : List (S34))) (inner := [.string (⟨#[97]⟩ : ByteArray), .string (⟨#[101]⟩ : ByteArray)]) (ok := fun _ => True) (okp := fun _ => True) ?hr ?hp (fun _ hk => hk) trivial (Below.refl _ _) (Nat.le_refl _) (by simp) ?_; (case hd => rfl); (case hg => rfl); (case hr => first | (go_simp; done) | (go_simp; rfl)); (case hp => exact (Reps.c2 (show Kd.M k34 _ _ _ (⟨(⟨#[97]⟩ : ByteArray), (⟨#[101]⟩ : ByteArray)⟩ : S34) [.string (⟨#[97]⟩ : ByteArray), .string (⟨#[101]⟩ : ByteArray)] from (k34_mkM _ _ _ (⟨(⟨#[97]⟩ : ByteArray), (⟨#[101]⟩ : ByteArray)⟩ : S34) )) (Reps.none _ _))); intro v141 w65 ho66 hb hg_ hnew_; clear hg_ hnew_; (first | rw [← Ny140.out] at ho66 | (simp only [Int.reduceToNat] at ho66; rw [← Ny140.out] at ho66)); have n0_ := Aside0.mk (Kd.R_elder' (by (with_reducible repeat (first | apply Kd.R_alloc | apply Kd.R_drewN | apply Kd.R_drew)); exact HO128.out) (Kd.R_base ho66) hb); have n1_ := Aside0.mk (Kd.R_elder' (by (with_reducible repeat (first | apply Kd.R_alloc | apply Kd.R_drewN | apply Kd.R_drew)); exact HO131.out) (Kd.R_base ho66) hb); have n2_ := Aside0.mk (Kd.R_elder' (by (with_reducible repeat (first | apply Kd.R_alloc | apply Kd.R_drewN | apply Kd.R_drew)); exact HO136.out) (Kd.R_base ho66) hb); have n3_ := Aside0.mk (Kd.R_elder' (by (with_reducible repeat (first | apply Kd.R_alloc | apply Kd.R_drewN | apply Kd.R_drew)); exact HO139.out) (Kd.R_base ho66) hb); have n4_ := Aside0.mk (Kd.R_lower (Kd.R_new' (Kd.R_new' (Kd.R_new' (Kd.R_new' ho66 (Kd.R_lt (by (with_reducible repeat (first | apply Kd.R_alloc | apply Kd.R_drewN | apply Kd.R_drew)); exact HO128.out))) (Kd.R_lt (by (with_reducible repeat (first | apply Kd.R_alloc | apply Kd.R_drewN | apply Kd.R_drew)); exact HO131.out))) (Kd.R_lt (by (with_reducible repeat (first | apply Kd.R_alloc | apply Kd.R_drewN | apply Kd.R_drew)); exact HO136.out))) (Kd.R_lt (by (with_reducible repeat (first | apply Kd.R_alloc | apply Kd.R_drewN | apply Kd.R_drew)); exact HO139.out))) (below_size (by repeat (first | (with_reducible first | exact HB.out | apply below_alloc | apply pw_below_drewN | apply below_drew1) | exact HB.out)))); have n5_ := Aside0.mk (below_step (by repeat (first | (with_reducible first | exact HB.out | apply below_alloc | apply pw_below_drewN | apply below_drew1) | exact HB.out)) hb); clear HO128; clear HO131; clear HO136; clear HO139; clear HB; have HO128 := n0_; have HO131 := n1_; have HO136 := n2_; have HO139 := n3_; have HO142 := n4_; have HB := n5_; clear n0_ n1_ n2_ n3_ n4_ n5_; clear hb ho66; obtain ⟨Ao67, co67, eo67⟩ := Kd.R_slice HO142.out; subst eo67) | ((with_reducible refine gate_callee (f := 13) rfl ?_); refine goesL_ (some 15) rfl rfl Try.func13 (by kernel_rfl) rfl #[.slice Ao62 t129.length co62, .slice Ao67 y140.length co67] rfl (by (try simp only [List.map_toArray, List.map_cons, List.map_nil]); first | done | rfl | (simp only [List.length_drop, List.length_take]; rfl)) ?_; (with_reducible refine (folkmootref03_Same.calls k _ _ t129 _ _ y140 true _ ?side1 ?side2 ?side3 ?side4 A4.out).mono ?_); (case side1 => repeat (first | exact (Kd.R_reads' HO131.out).2.2 | (with_reducible refine Kd.C_alloc ?_ _) | (with_reducible refine Kd.C_drewN ?_ _) | (with_reducible refine Kd.C_drew ?_))); (case side2 => exact (Kd.R_reads' HO131.out).2.1); (case side3 => repeat (first | exact (Kd.R_reads' HO142.out).2.2 | (with_reducible refine Kd.C_alloc ?_ _) | (with_reducible refine Kd.C_drewN ?_ _) | (with_reducible refine Kd.C_drew ?_))); (case side4 => exact (Kd.R_reads' HO142.out).2.1); rintro e w' ⟨rfl, ⟨nd, rfl⟩⟩; refine ⟨_, rfl, ?_⟩) | ((with_reducible refine gate_dst (N := 20) rfl ?_); (try (refine gate_guard (by rfl) ?_; dsimp only)); refine Kd.R_lit k34 _ 34 ?hg (N := 20) ?hd (xs := ([(⟨(⟨#[97]⟩ : ByteArray), (⟨#[98]⟩ : ByteArray)⟩ : S34), (⟨(⟨#[98, 0]⟩ : ByteArray), (⟨#[101]⟩ : ByteArray)⟩ : S34)] : List (S34))) (inner := [.string (⟨#[97]⟩ : ByteArray), .string (⟨#[98]⟩ : ByteArray), .string (⟨#[98, 0]⟩ : ByteArray), .string (⟨#[101]⟩ : ByteArray)]) (ok := fun _ => True) (okp := fun _ => True) ?hr ?hp (fun _ hk => hk) trivial (Below.refl _ _) (Nat.le_refl _) (by simp) ?_; (case hd => rfl); (case hg => rfl); (case hr => first | (go_simp; done) | (go_simp; rfl)); (case hp => exact (Reps.c2 (show Kd.M k34 _ _ _ (⟨(⟨#[97]⟩ : ByteArray), (⟨#[98]⟩ : ByteArray)⟩ : S34) [.string (⟨#[97]⟩ : ByteArray), .string (⟨#[98]⟩ : ByteArray)] from (k34_mkM _ _ _ (⟨(⟨#[97]⟩ : ByteArray), (⟨#[98]⟩ : ByteArray)⟩ : S34) )) (Reps.c2 (show Kd.M k34 _ _ _ (⟨(⟨#[98, 0]⟩ : ByteArray), (⟨#[101]⟩ : ByteArray)⟩ : S34) [.string (⟨#[98, 0]⟩ : ByteArray), .string (⟨#[101]⟩ : ByteArray)] from (k34_mkM _ _ _ (⟨(⟨#[98, 0]⟩ : ByteArray), (⟨#[101]⟩ : ByteArray)⟩ : S34) )) (Reps.none _ _)))); intro v145 w68 ho69 hb hg_ hnew_; clear hg_ hnew_; (first | rw [← Ny144.out] at ho69 | (simp only [Int.reduceToNat] at ho69; rw [← Ny144.out] at ho69)); have n0_ := Aside0.mk (Kd.R_elder' (by (with_reducible repeat (first | apply Kd.R_alloc | apply Kd.R_drewN | apply Kd.R_drew)); exact HO128.out) (Kd.R_base ho69) hb); have n1_ := Aside0.mk (Kd.R_elder' (by (with_reducible repeat (first | apply Kd.R_alloc | apply Kd.R_drewN | apply Kd.R_drew)); exact HO131.out) (Kd.R_base ho69) hb); have n2_ := Aside0.mk (Kd.R_elder' (by (with_reducible repeat (first | apply Kd.R_alloc | apply Kd.R_drewN | apply Kd.R_drew)); exact HO136.out) (Kd.R_base ho69) hb); have n3_ := Aside0.mk (Kd.R_elder' (by (with_reducible repeat (first | apply Kd.R_alloc | apply Kd.R_drewN | apply Kd.R_drew)); exact HO139.out) (Kd.R_base ho69) hb); have n4_ := Aside0.mk (Kd.R_elder' (by (with_reducible repeat (first | apply Kd.R_alloc | apply Kd.R_drewN | apply Kd.R_drew)); exact HO142.out) (Kd.R_base ho69) hb); have n5_ := Aside0.mk (Kd.R_lower (Kd.R_new' (Kd.R_new' (Kd.R_new' (Kd.R_new' (Kd.R_new' ho69 (Kd.R_lt (by (with_reducible repeat (first | apply Kd.R_alloc | apply Kd.R_drewN | apply Kd.R_drew)); exact HO128.out))) (Kd.R_lt (by (with_reducible repeat (first | apply Kd.R_alloc | apply Kd.R_drewN | apply Kd.R_drew)); exact HO131.out))) (Kd.R_lt (by (with_reducible repeat (first | apply Kd.R_alloc | apply Kd.R_drewN | apply Kd.R_drew)); exact HO136.out))) (Kd.R_lt (by (with_reducible repeat (first | apply Kd.R_alloc | apply Kd.R_drewN | apply Kd.R_drew)); exact HO139.out))) (Kd.R_lt (by (with_reducible repeat (first | apply Kd.R_alloc | apply Kd.R_drewN | apply Kd.R_drew)); exact HO142.out))) (below_size (by repeat (first | (with_reducible first | exact HB.out | apply below_alloc | apply pw_below_drewN | apply below_drew1) | exact HB.out)))); have n6_ := Aside0.mk (below_step (by repeat (first | (with_reducible first | exact HB.out | apply below_alloc | apply pw_below_drewN | apply below_drew1) | exact HB.out)) hb); clear HO128; clear HO131; clear HO136; clear HO139; clear HO142; clear HB; have HO128 := n0_; have HO131 := n1_; have HO136 := n2_; have HO139 := n3_; have HO142 := n4_; have HO146 := n5_; have HB := n6_; clear n0_ n1_ n2_ n3_ n4_ n5_ n6_; clear hb ho69; obtain ⟨Ao70, co70, eo70⟩ := Kd.R_slice HO139.out; subst eo70; obtain ⟨Ao71, co71, eo71⟩ := Kd.R_slice HO146.out; subst eo71) | (go_at_call 13; (with_reducible refine (folkmootref03_Same.calls k _ _ t137 _ _ y144 true _ ?side1 ?side2 ?side3 ?side4 A6.out).mono ?_); (case side1 => repeat (first | exact (Kd.R_reads' HO139.out).2.2 | (with_reducible refine Kd.C_alloc ?_ _) | (with_reducible refine Kd.C_drewN ?_ _) | (with_reducible refine Kd.C_drew ?_))); (case side2 => exact (Kd.R_reads' HO139.out).2.1); (case side3 => repeat (first | exact (Kd.R_reads' HO146.out).2.2 | (with_reducible refine Kd.C_alloc ?_ _) | (with_reducible refine Kd.C_drewN ?_ _) | (with_reducible refine Kd.C_drew ?_))); (case side4 => exact (Kd.R_reads' HO146.out).2.1); rintro e w' ⟨rfl, ⟨nd, rfl⟩⟩) | (go_at_call 20; (with_reducible refine (span_Has.calls _ _ t129 (⟨#[98]⟩ : ByteArray) true _ ?side1 ?side2 A8.out).mono ?_); (case side1 => repeat (first | exact (Kd.R_reads' HO131.out).2.2 | (with_reducible refine Kd.C_alloc ?_ _) | (with_reducible refine Kd.C_drewN ?_ _) | (with_reducible refine Kd.C_drew ?_))); (case side2 => exact (Kd.R_reads' HO131.out).2.1); rintro e w72 ⟨rfl, hb⟩; have n0_ := Aside0.mk (Kd.R_below (by (with_reducible repeat (first | apply Kd.R_alloc | apply Kd.R_drewN | apply Kd.R_drew)); exact HO128.out) hb); have n1_ := Aside0.mk (Kd.R_below (by (with_reducible repeat (first | apply Kd.R_alloc | apply Kd.R_drewN | apply Kd.R_drew)); exact HO131.out) hb); have n2_ := Aside0.mk (Kd.R_below (by (with_reducible repeat (first | apply Kd.R_alloc | apply Kd.R_drewN | apply Kd.R_drew)); exact HO136.out) hb); have n3_ := Aside0.mk (Kd.R_below (by (with_reducible repeat (first | apply Kd.R_alloc | apply Kd.R_drewN | apply Kd.R_drew)); exact HO139.out) hb); have n4_ := Aside0.mk (Kd.R_below (by (with_reducible repeat (first | apply Kd.R_alloc | apply Kd.R_drewN | apply Kd.R_drew)); exact HO142.out) hb); have n5_ := Aside0.mk (Kd.R_below (by (with_reducible repeat (first | apply Kd.R_alloc | apply Kd.R_drewN | apply Kd.R_drew)); exact HO146.out) hb); have n6_ := Aside0.mk (below_step (by repeat (first | (with_reducible first | exact HB.out | apply below_alloc | apply pw_below_drewN | apply below_drew1) | exact HB.out)) hb); clear HO128; clear HO131; clear HO136; clear HO139; clear HO142; clear HO146; clear HB; have HO128 := n0_; have HO131 := n1_; have HO136 := n2_; have HO139 := n3_; have HO142 := n4_; have HO146 := n5_; have HB := n6_; clear n0_ n1_ n2_ n3_ n4_ n5_ n6_; (try clear hb); (try clear hb2); (try clear hk); (try clear hi)) | (go_at_call 20; (with_reducible refine (span_Has.calls _ _ t137 (⟨#[98]⟩ : ByteArray) false _ ?side1 ?side2 A10.out).mono ?_); (case side1 => repeat (first | exact (Kd.R_reads' HO139.out).2.2 | (with_reducible refine Kd.C_alloc ?_ _) | (with_reducible refine Kd.C_drewN ?_ _) | (with_reducible refine Kd.C_drew ?_))); (case side2 => exact (Kd.R_reads' HO139.out).2.1); rintro e w73 ⟨rfl, hb⟩; have n0_ := Aside0.mk (Kd.R_below (by (with_reducible repeat (first | apply Kd.R_alloc | apply Kd.R_drewN | apply Kd.R_drew)); exact HO128.out) hb); have n1_ := Aside0.mk (Kd.R_below (by (with_reducible repeat (first | apply Kd.R_alloc | apply Kd.R_drewN | apply Kd.R_drew)); exact HO131.out) hb); have n2_ := Aside0.mk (Kd.R_below (by (with_reducible repeat (first | apply Kd.R_alloc | apply Kd.R_drewN | apply Kd.R_drew)); exact HO136.out) hb); have n3_ := Aside0.mk (Kd.R_below (by (with_reducible repeat (first | apply Kd.R_alloc | apply Kd.R_drewN | apply Kd.R_drew)); exact HO139.out) hb); have n4_ := Aside0.mk (Kd.R_below (by (with_reducible repeat (first | apply Kd.R_alloc | apply Kd.R_drewN | apply Kd.R_drew)); exact HO142.out) hb); have n5_ := Aside0.mk (Kd.R_below (by (with_reducible repeat (first | apply Kd.R_alloc | apply Kd.R_drewN | apply Kd.R_drew)); exact HO146.out) hb); have n6_ := Aside0.mk (below_step (by repeat (first | (with_reducible first | exact HB.out | apply below_alloc | apply pw_below_drewN | apply below_drew1) | exact HB.out)) hb); clear HO128; clear HO131; clear HO136; clear HO139; clear HO142; clear HO146; clear HB; have HO128 := n0_; have HO131 := n1_; have HO136 := n2_; have HO139 := n3_; have HO142 := n4_; have HO146 := n5_; have HB := n6_; clear n0_ n1_ n2_ n3_ n4_ n5_ n6_; (try clear hb); (try clear hb2); (try clear hk); (try clear hi)) | (go_at_call 26; (with_reducible refine (span_Key.calls (⟨#[]⟩ : ByteArray) t150 _ A31.out).mono ?_); rintro e w' ⟨rfl, ⟨nd, rfl⟩⟩) | (go_at_call 25; (with_reducible refine (folkmootlaw03_num.calls t150 t151 _ A32.out).mono ?_); rintro e w' ⟨rfl, ⟨nd, rfl⟩⟩))
            go_ret
            exact ⟨by first | rfl | (simp [errW_none, errW_some] <;> rfl) | (simp [*, errW_none, errW_some] <;> rfl), by repeat (first | (with_reducible first | exact HB.out | apply below_alloc | apply pw_below_drewN | apply below_drew1) | exact HB.out)⟩
      · replace c9 := Bool.eq_false_iff.mpr c9
        subst c9
        have H1 : (some false) = some r := by rw [if_neg (show ¬ (false = true) by decide)] at H; exact H
        clear H
        have H := H1
        clear H1
        obtain rfl := Option.some.inj H
        go_enter Try.func11, Try.ntmps11
        go_wp2_with (first | ((with_reducible refine gate_dst (N := 6) rfl ?_); (try (refine gate_guard (by rfl) ?_; dsimp only)); refine Kd.R_lit k34 _ 34 ?hg (N := 6) ?hd (xs := ([(⟨(⟨#[97]⟩ : ByteArray), (⟨#[99]⟩ : ByteArray)⟩ : S34), (⟨(⟨#[98]⟩ : ByteArray), (⟨#[100]⟩ : ByteArray)⟩ : S34), (⟨(⟨#[100]⟩ : ByteArray), (⟨#[101]⟩ : ByteArray)⟩ : S34)] : List (S34))) (inner := [.string (⟨#[97]⟩ : ByteArray), .string (⟨#[99]⟩ : ByteArray), .string (⟨#[98]⟩ : ByteArray), .string (⟨#[100]⟩ : ByteArray), .string (⟨#[100]⟩ : ByteArray), .string (⟨#[101]⟩ : ByteArray)]) (ok := fun _ => True) (okp := fun _ => True) ?hr ?hp (fun _ hk => hk) trivial (Below.refl _ _) (Nat.le_refl _) (by simp) ?_; (case hd => rfl); (case hg => rfl); (case hr => first | (go_simp; done) | (go_simp; rfl)); (case hp => exact (Reps.c2 (show Kd.M k34 _ _ _ (⟨(⟨#[97]⟩ : ByteArray), (⟨#[99]⟩ : ByteArray)⟩ : S34) [.string (⟨#[97]⟩ : ByteArray), .string (⟨#[99]⟩ : ByteArray)] from (k34_mkM _ _ _ (⟨(⟨#[97]⟩ : ByteArray), (⟨#[99]⟩ : ByteArray)⟩ : S34) )) (Reps.c2 (show Kd.M k34 _ _ _ (⟨(⟨#[98]⟩ : ByteArray), (⟨#[100]⟩ : ByteArray)⟩ : S34) [.string (⟨#[98]⟩ : ByteArray), .string (⟨#[100]⟩ : ByteArray)] from (k34_mkM _ _ _ (⟨(⟨#[98]⟩ : ByteArray), (⟨#[100]⟩ : ByteArray)⟩ : S34) )) (Reps.c2 (show Kd.M k34 _ _ _ (⟨(⟨#[100]⟩ : ByteArray), (⟨#[101]⟩ : ByteArray)⟩ : S34) [.string (⟨#[100]⟩ : ByteArray), .string (⟨#[101]⟩ : ByteArray)] from (k34_mkM _ _ _ (⟨(⟨#[100]⟩ : ByteArray), (⟨#[101]⟩ : ByteArray)⟩ : S34) )) (Reps.none _ _))))); intro v127 w74 ho75 hb hg_ hnew_; clear hg_ hnew_; (first | rw [← Ny126.out] at ho75 | (simp only [Int.reduceToNat] at ho75; rw [← Ny126.out] at ho75)); have n0_ := Aside0.mk (Kd.R_lower ho75 (below_size (by repeat (first | (with_reducible first | exact HB.out | apply below_alloc | apply pw_below_drewN | apply below_drew1) | exact HB.out)))); have n1_ := Aside0.mk (below_step (by repeat (first | (with_reducible first | exact HB.out | apply below_alloc | apply pw_below_drewN | apply below_drew1) | exact HB.out)) hb); clear HB; have HO128 := n0_; have HB := n1_; clear n0_ n1_; clear hb ho75; obtain ⟨Ao76, co76, eo76⟩ := Kd.R_slice HO128.out; subst eo76) | ((with_reducible refine gate_callee (f := 14) rfl ?_); refine goesL_ (some 7) rfl rfl Try.func14 (by kernel_rfl) rfl #[.slice Ao76 y126.length co76] rfl (by (try simp only [List.map_toArray, List.map_cons, List.map_nil]); first | done | rfl | (simp only [List.length_drop, List.length_take]; rfl)) ?_; (with_reducible refine (span_Union.calls _ _ y126 t129 _ ?side1 ?side2 A1.out).mono ?_); (case side1 => repeat (first | exact (Kd.R_reads' HO128.out).2.2 | (with_reducible refine Kd.C_alloc ?_ _) | (with_reducible refine Kd.C_drewN ?_ _) | (with_reducible refine Kd.C_drew ?_))); (case side2 => exact (Kd.R_reads' HO128.out).2.1); rintro e w77 ⟨v130, rfl, ho0, hb⟩; refine ⟨_, rfl, ?_⟩; have n0_ := Aside0.mk (Kd.R_elder' (by (with_reducible repeat (first | apply Kd.R_alloc | apply Kd.R_drewN | apply Kd.R_drew)); exact HO128.out) (Kd.R_base ho0) hb); have n1_ := Aside0.mk (Kd.R_lower (Kd.R_new' ho0 (Kd.R_lt (by (with_reducible repeat (first | apply Kd.R_alloc | apply Kd.R_drewN | apply Kd.R_drew)); exact HO128.out))) (below_size (by repeat (first | (with_reducible first | exact HB.out | apply below_alloc | apply pw_below_drewN | apply below_drew1) | exact HB.out)))); have n2_ := Aside0.mk (below_step (by repeat (first | (with_reducible first | exact HB.out | apply below_alloc | apply pw_below_drewN | apply below_drew1) | exact HB.out)) hb); clear HO128; clear HB; have HO128 := n0_; have HO131 := n1_; have HB := n2_; clear n0_ n1_ n2_; (try clear hb); (try clear hb2); (try clear hk); (try clear hi); (try clear ho0)) | ((with_reducible refine gate_callee (f := 24) rfl ?_); refine goesL_ (some 9) rfl rfl Try.func24 (by kernel_rfl) rfl #[.string (⟨#[98]⟩ : ByteArray)] rfl (by (try simp only [List.map_toArray, List.map_cons, List.map_nil]); first | done | rfl | (simp only [List.length_drop, List.length_take]; rfl)) ?_; (with_reducible refine (span_Point.calls (⟨#[98]⟩ : ByteArray) t132 t133 _ A2.out).mono ?_); rintro e w78 ⟨rfl, hb⟩; refine ⟨_, rfl, ?_⟩; have n0_ := Aside0.mk (Kd.R_below (by (with_reducible repeat (first | apply Kd.R_alloc | apply Kd.R_drewN | apply Kd.R_drew)); exact HO128.out) hb); have n1_ := Aside0.mk (Kd.R_below (by (with_reducible repeat (first | apply Kd.R_alloc | apply Kd.R_drewN | apply Kd.R_drew)); exact HO131.out) hb); have n2_ := Aside0.mk (below_step (by repeat (first | (with_reducible first | exact HB.out | apply below_alloc | apply pw_below_drewN | apply below_drew1) | exact HB.out)) hb); clear HO128; clear HO131; clear HB; have HO128 := n0_; have HO131 := n1_; have HB := n2_; clear n0_ n1_ n2_; (try clear hb); (try clear hb2); (try clear hk); (try clear hi)) | ((with_reducible refine gate_dst (N := 10) rfl ?_); (try (refine gate_guard (by rfl) ?_; dsimp only)); refine Kd.R_lit k34 _ 34 ?hg (N := 10) ?hd (xs := ([(⟨t132, t133⟩ : S34)] : List (S34))) (inner := [.string t132, .string t133]) (ok := fun _ => True) (okp := fun _ => True) ?hr ?hp (fun _ hk => hk) trivial (Below.refl _ _) (Nat.le_refl _) (by simp) ?_; (case hd => rfl); (case hg => rfl); (case hr => first | (go_simp; done) | (go_simp; rfl)); (case hp => exact (Reps.c2 (show Kd.M k34 _ _ _ (⟨t132, t133⟩ : S34) [.string t132, .string t133] from (k34_mkM _ _ _ (⟨t132, t133⟩ : S34) )) (Reps.none _ _))); intro v135 w79 ho80 hb hg_ hnew_; clear hg_ hnew_; (first | rw [← Ny134.out] at ho80 | (simp only [Int.reduceToNat] at ho80; rw [← Ny134.out] at ho80)); have n0_ := Aside0.mk (Kd.R_elder' (by (with_reducible repeat (first | apply Kd.R_alloc | apply Kd.R_drewN | apply Kd.R_drew)); exact HO128.out) (Kd.R_base ho80) hb); have n1_ := Aside0.mk (Kd.R_elder' (by (with_reducible repeat (first | apply Kd.R_alloc | apply Kd.R_drewN | apply Kd.R_drew)); exact HO131.out) (Kd.R_base ho80) hb); have n2_ := Aside0.mk (Kd.R_lower (Kd.R_new' (Kd.R_new' ho80 (Kd.R_lt (by (with_reducible repeat (first | apply Kd.R_alloc | apply Kd.R_drewN | apply Kd.R_drew)); exact HO128.out))) (Kd.R_lt (by (with_reducible repeat (first | apply Kd.R_alloc | apply Kd.R_drewN | apply Kd.R_drew)); exact HO131.out))) (below_size (by repeat (first | (with_reducible first | exact HB.out | apply below_alloc | apply pw_below_drewN | apply below_drew1) | exact HB.out)))); have n3_ := Aside0.mk (below_step (by repeat (first | (with_reducible first | exact HB.out | apply below_alloc | apply pw_below_drewN | apply below_drew1) | exact HB.out)) hb); clear HO128; clear HO131; clear HB; have HO128 := n0_; have HO131 := n1_; have HO136 := n2_; have HB := n3_; clear n0_ n1_ n2_ n3_; clear hb ho80; obtain ⟨Ao81, co81, eo81⟩ := Kd.R_slice HO131.out; subst eo81; obtain ⟨Ao82, co82, eo82⟩ := Kd.R_slice HO136.out; subst eo82) | ((with_reducible refine gate_callee (f := 18) rfl ?_); refine goesL_ (some 11) rfl rfl Try.func18 (by kernel_rfl) rfl #[.slice Ao81 t129.length co81, .slice Ao82 y134.length co82] rfl (by (try simp only [List.map_toArray, List.map_cons, List.map_nil]); first | done | rfl | (simp only [List.length_drop, List.length_take]; rfl)) ?_; (with_reducible refine (span_Less.calls k _ _ t129 _ _ y134 t137 _ ?side1 ?side2 ?side3 ?side4 A3.out).mono ?_); (case side1 => repeat (first | exact (Kd.R_reads' HO131.out).2.2 | (with_reducible refine Kd.C_alloc ?_ _) | (with_reducible refine Kd.C_drewN ?_ _) | (with_reducible refine Kd.C_drew ?_))); (case side2 => exact (Kd.R_reads' HO131.out).2.1); (case side3 => repeat (first | exact (Kd.R_reads' HO136.out).2.2 | (with_reducible refine Kd.C_alloc ?_ _) | (with_reducible refine Kd.C_drewN ?_ _) | (with_reducible refine Kd.C_drew ?_))); (case side4 => exact (Kd.R_reads' HO136.out).2.1); rintro e w83 ⟨v138, rfl, ho0, hb⟩; refine ⟨_, rfl, ?_⟩; have n0_ := Aside0.mk (Kd.R_elder' (by (with_reducible repeat (first | apply Kd.R_alloc | apply Kd.R_drewN | apply Kd.R_drew)); exact HO128.out) (Kd.R_base ho0) hb); have n1_ := Aside0.mk (Kd.R_elder' (by (with_reducible repeat (first | apply Kd.R_alloc | apply Kd.R_drewN | apply Kd.R_drew)); exact HO131.out) (Kd.R_base ho0) hb); have n2_ := Aside0.mk (Kd.R_elder' (by (with_reducible repeat (first | apply Kd.R_alloc | apply Kd.R_drewN | apply Kd.R_drew)); exact HO136.out) (Kd.R_base ho0) hb); have n3_ := Aside0.mk (Kd.R_lower (Kd.R_new' (Kd.R_new' (Kd.R_new' ho0 (Kd.R_lt (by (with_reducible repeat (first | apply Kd.R_alloc | apply Kd.R_drewN | apply Kd.R_drew)); exact HO128.out))) (Kd.R_lt (by (with_reducible repeat (first | apply Kd.R_alloc | apply Kd.R_drewN | apply Kd.R_drew)); exact HO131.out))) (Kd.R_lt (by (with_reducible repeat (first | apply Kd.R_alloc | apply Kd.R_drewN | apply Kd.R_drew)); exact HO136.out))) (below_size (by repeat (first | (with_reducible first | exact HB.out | apply below_alloc | apply pw_below_drewN | apply below_drew1) | exact HB.out)))); have n4_ := Aside0.mk (below_step (by repeat (first | (with_reducible first | exact HB.out | apply below_alloc | apply pw_below_drewN | apply below_drew1) | exact HB.out)) hb); clear HO128; clear HO131; clear HO136; clear HB; have HO128 := n0_; have HO131 := n1_; have HO136 := n2_; have HO139 := n3_; have HB := n4_; clear n0_ n1_ n2_ n3_ n4_; (try clear hb); (try clear hb2); (try clear hk); (try clear hi); (try clear ho0)) | ((with_reducible refine gate_dst (N := 14) rfl ?_); (try (refine gate_guard (by rfl) ?_; dsimp only)); refine Kd.R_lit k34 _ 34 ?hg (N := 14) ?hd (xs := ([(⟨(⟨#[97]⟩ : ByteArray), (⟨#[101]⟩ : ByteArray)⟩ : S34)] : List (S34))) (inner := [.string (⟨#[97]⟩ : ByteArray), .string (⟨#[101]⟩ : ByteArray)]) (ok := fun _ => True) (okp := fun _ => True) ?hr ?hp (fun _ hk => hk) trivial (Below.refl _ _) (Nat.le_refl _) (by simp) ?_; (case hd => rfl); (case hg => rfl); (case hr => first | (go_simp; done) | (go_simp; rfl)); (case hp => exact (Reps.c2 (show Kd.M k34 _ _ _ (⟨(⟨#[97]⟩ : ByteArray), (⟨#[101]⟩ : ByteArray)⟩ : S34) [.string (⟨#[97]⟩ : ByteArray), .string (⟨#[101]⟩ : ByteArray)] from (k34_mkM _ _ _ (⟨(⟨#[97]⟩ : ByteArray), (⟨#[101]⟩ : ByteArray)⟩ : S34) )) (Reps.none _ _))); intro v141 w84 ho85 hb hg_ hnew_; clear hg_ hnew_; (first | rw [← Ny140.out] at ho85 | (simp only [Int.reduceToNat] at ho85; rw [← Ny140.out] at ho85)); have n0_ := Aside0.mk (Kd.R_elder' (by (with_reducible repeat (first | apply Kd.R_alloc | apply Kd.R_drewN | apply Kd.R_drew)); exact HO128.out) (Kd.R_base ho85) hb); have n1_ := Aside0.mk (Kd.R_elder' (by (with_reducible repeat (first | apply Kd.R_alloc | apply Kd.R_drewN | apply Kd.R_drew)); exact HO131.out) (Kd.R_base ho85) hb); have n2_ := Aside0.mk (Kd.R_elder' (by (with_reducible repeat (first | apply Kd.R_alloc | apply Kd.R_drewN | apply Kd.R_drew)); exact HO136.out) (Kd.R_base ho85) hb); have n3_ := Aside0.mk (Kd.R_elder' (by (with_reducible repeat (first | apply Kd.R_alloc | apply Kd.R_drewN | apply Kd.R_drew)); exact HO139.out) (Kd.R_base ho85) hb); have n4_ := Aside0.mk (Kd.R_lower (Kd.R_new' (Kd.R_new' (Kd.R_new' (Kd.R_new' ho85 (Kd.R_lt (by (with_reducible repeat (first | apply Kd.R_alloc | apply Kd.R_drewN | apply Kd.R_drew)); exact HO128.out))) (Kd.R_lt (by (with_reducible repeat (first | apply Kd.R_alloc | apply Kd.R_drewN | apply Kd.R_drew)); exact HO131.out))) (Kd.R_lt (by (with_reducible repeat (first | apply Kd.R_alloc | apply Kd.R_drewN | apply Kd.R_drew)); exact HO136.out))) (Kd.R_lt (by (with_reducible repeat (first | apply Kd.R_alloc | apply Kd.R_drewN | apply Kd.R_drew)); exact HO139.out))) (below_size (by repeat (first | (with_reducible first | exact HB.out | apply below_alloc | apply pw_below_drewN | apply below_drew1) | exact HB.out)))); have n5_ := Aside0.mk (below_step (by repeat (first | (with_reducible first | exact HB.out | apply below_alloc | apply pw_below_drewN | apply below_drew1) | exact HB.out)) hb); clear HO128; clear HO131; clear HO136; clear HO139; clear HB; have HO128 := n0_; have HO131 := n1_; have HO136 := n2_; have HO139 := n3_; have HO142 := n4_; have HB := n5_; clear n0_ n1_ n2_ n3_ n4_ n5_; clear hb ho85; obtain ⟨Ao86, co86, eo86⟩ := Kd.R_slice HO142.out; subst eo86) | ((with_reducible refine gate_callee (f := 13) rfl ?_); refine goesL_ (some 15) rfl rfl Try.func13 (by kernel_rfl) rfl #[.slice Ao81 t129.length co81, .slice Ao86 y140.length co86] rfl (by (try simp only [List.map_toArray, List.map_cons, List.map_nil]); first | done | rfl | (simp only [List.length_drop, List.length_take]; rfl)) ?_; (with_reducible refine (folkmootref03_Same.calls k _ _ t129 _ _ y140 true _ ?side1 ?side2 ?side3 ?side4 A4.out).mono ?_); (case side1 => repeat (first | exact (Kd.R_reads' HO131.out).2.2 | (with_reducible refine Kd.C_alloc ?_ _) | (with_reducible refine Kd.C_drewN ?_ _) | (with_reducible refine Kd.C_drew ?_))); (case side2 => exact (Kd.R_reads' HO131.out).2.1); (case side3 => repeat (first | exact (Kd.R_reads' HO142.out).2.2 | (with_reducible refine Kd.C_alloc ?_ _) | (with_reducible refine Kd.C_drewN ?_ _) | (with_reducible refine Kd.C_drew ?_))); (case side4 => exact (Kd.R_reads' HO142.out).2.1); rintro e w' ⟨rfl, ⟨nd, rfl⟩⟩; refine ⟨_, rfl, ?_⟩) | ((with_reducible refine gate_dst (N := 20) rfl ?_); (try (refine gate_guard (by rfl) ?_; dsimp only)); refine Kd.R_lit k34 _ 34 ?hg (N := 20) ?hd (xs := ([(⟨(⟨#[97]⟩ : ByteArray), (⟨#[98]⟩ : ByteArray)⟩ : S34), (⟨(⟨#[98, 0]⟩ : ByteArray), (⟨#[101]⟩ : ByteArray)⟩ : S34)] : List (S34))) (inner := [.string (⟨#[97]⟩ : ByteArray), .string (⟨#[98]⟩ : ByteArray), .string (⟨#[98, 0]⟩ : ByteArray), .string (⟨#[101]⟩ : ByteArray)]) (ok := fun _ => True) (okp := fun _ => True) ?hr ?hp (fun _ hk => hk) trivial (Below.refl _ _) (Nat.le_refl _) (by simp) ?_; (case hd => rfl); (case hg => rfl); (case hr => first | (go_simp; done) | (go_simp; rfl)); (case hp => exact (Reps.c2 (show Kd.M k34 _ _ _ (⟨(⟨#[97]⟩ : ByteArray), (⟨#[98]⟩ : ByteArray)⟩ : S34) [.string (⟨#[97]⟩ : ByteArray), .string (⟨#[98]⟩ : ByteArray)] from (k34_mkM _ _ _ (⟨(⟨#[97]⟩ : ByteArray), (⟨#[98]⟩ : ByteArray)⟩ : S34) )) (Reps.c2 (show Kd.M k34 _ _ _ (⟨(⟨#[98, 0]⟩ : ByteArray), (⟨#[101]⟩ : ByteArray)⟩ : S34) [.string (⟨#[98, 0]⟩ : ByteArray), .string (⟨#[101]⟩ : ByteArray)] from (k34_mkM _ _ _ (⟨(⟨#[98, 0]⟩ : ByteArray), (⟨#[101]⟩ : ByteArray)⟩ : S34) )) (Reps.none _ _)))); intro v145 w87 ho88 hb hg_ hnew_; clear hg_ hnew_; (first | rw [← Ny144.out] at ho88 | (simp only [Int.reduceToNat] at ho88; rw [← Ny144.out] at ho88)); have n0_ := Aside0.mk (Kd.R_elder' (by (with_reducible repeat (first | apply Kd.R_alloc | apply Kd.R_drewN | apply Kd.R_drew)); exact HO128.out) (Kd.R_base ho88) hb); have n1_ := Aside0.mk (Kd.R_elder' (by (with_reducible repeat (first | apply Kd.R_alloc | apply Kd.R_drewN | apply Kd.R_drew)); exact HO131.out) (Kd.R_base ho88) hb); have n2_ := Aside0.mk (Kd.R_elder' (by (with_reducible repeat (first | apply Kd.R_alloc | apply Kd.R_drewN | apply Kd.R_drew)); exact HO136.out) (Kd.R_base ho88) hb); have n3_ := Aside0.mk (Kd.R_elder' (by (with_reducible repeat (first | apply Kd.R_alloc | apply Kd.R_drewN | apply Kd.R_drew)); exact HO139.out) (Kd.R_base ho88) hb); have n4_ := Aside0.mk (Kd.R_elder' (by (with_reducible repeat (first | apply Kd.R_alloc | apply Kd.R_drewN | apply Kd.R_drew)); exact HO142.out) (Kd.R_base ho88) hb); have n5_ := Aside0.mk (Kd.R_lower (Kd.R_new' (Kd.R_new' (Kd.R_new' (Kd.R_new' (Kd.R_new' ho88 (Kd.R_lt (by (with_reducible repeat (first | apply Kd.R_alloc | apply Kd.R_drewN | apply Kd.R_drew)); exact HO128.out))) (Kd.R_lt (by (with_reducible repeat (first | apply Kd.R_alloc | apply Kd.R_drewN | apply Kd.R_drew)); exact HO131.out))) (Kd.R_lt (by (with_reducible repeat (first | apply Kd.R_alloc | apply Kd.R_drewN | apply Kd.R_drew)); exact HO136.out))) (Kd.R_lt (by (with_reducible repeat (first | apply Kd.R_alloc | apply Kd.R_drewN | apply Kd.R_drew)); exact HO139.out))) (Kd.R_lt (by (with_reducible repeat (first | apply Kd.R_alloc | apply Kd.R_drewN | apply Kd.R_drew)); exact HO142.out))) (below_size (by repeat (first | (with_reducible first | exact HB.out | apply below_alloc | apply pw_below_drewN | apply below_drew1) | exact HB.out)))); have n6_ := Aside0.mk (below_step (by repeat (first | (with_reducible first | exact HB.out | apply below_alloc | apply pw_below_drewN | apply below_drew1) | exact HB.out)) hb); clear HO128; clear HO131; clear HO136; clear HO139; clear HO142; clear HB; have HO128 := n0_; have HO131 := n1_; have HO136 := n2_; have HO139 := n3_; have HO142 := n4_; have HO146 := n5_; have HB := n6_; clear n0_ n1_ n2_ n3_ n4_ n5_ n6_; clear hb ho88; obtain ⟨Ao89, co89, eo89⟩ := Kd.R_slice HO139.out; subst eo89; obtain ⟨Ao90, co90, eo90⟩ := Kd.R_slice HO146.out; subst eo90) | (go_at_call 13; (with_reducible refine (folkmootref03_Same.calls k _ _ t137 _ _ y144 true _ ?side1 ?side2 ?side3 ?side4 A6.out).mono ?_); (case side1 => repeat (first | exact (Kd.R_reads' HO139.out).2.2 | (with_reducible refine Kd.C_alloc ?_ _) | (with_reducible refine Kd.C_drewN ?_ _) | (with_reducible refine Kd.C_drew ?_))); (case side2 => exact (Kd.R_reads' HO139.out).2.1); (case side3 => repeat (first | exact (Kd.R_reads' HO146.out).2.2 | (with_reducible refine Kd.C_alloc ?_ _) | (with_reducible refine Kd.C_drewN ?_ _) | (with_reducible refine Kd.C_drew ?_))); (case side4 => exact (Kd.R_reads' HO146.out).2.1); rintro e w' ⟨rfl, ⟨nd, rfl⟩⟩) | (go_at_call 20; (with_reducible refine (span_Has.calls _ _ t129 (⟨#[98]⟩ : ByteArray) false _ ?side1 ?side2 A8.out).mono ?_); (case side1 => repeat (first | exact (Kd.R_reads' HO131.out).2.2 | (with_reducible refine Kd.C_alloc ?_ _) | (with_reducible refine Kd.C_drewN ?_ _) | (with_reducible refine Kd.C_drew ?_))); (case side2 => exact (Kd.R_reads' HO131.out).2.1); rintro e w91 ⟨rfl, hb⟩; have n0_ := Aside0.mk (Kd.R_below (by (with_reducible repeat (first | apply Kd.R_alloc | apply Kd.R_drewN | apply Kd.R_drew)); exact HO128.out) hb); have n1_ := Aside0.mk (Kd.R_below (by (with_reducible repeat (first | apply Kd.R_alloc | apply Kd.R_drewN | apply Kd.R_drew)); exact HO131.out) hb); have n2_ := Aside0.mk (Kd.R_below (by (with_reducible repeat (first | apply Kd.R_alloc | apply Kd.R_drewN | apply Kd.R_drew)); exact HO136.out) hb); have n3_ := Aside0.mk (Kd.R_below (by (with_reducible repeat (first | apply Kd.R_alloc | apply Kd.R_drewN | apply Kd.R_drew)); exact HO139.out) hb); have n4_ := Aside0.mk (Kd.R_below (by (with_reducible repeat (first | apply Kd.R_alloc | apply Kd.R_drewN | apply Kd.R_drew)); exact HO142.out) hb); have n5_ := Aside0.mk (Kd.R_below (by (with_reducible repeat (first | apply Kd.R_alloc | apply Kd.R_drewN | apply Kd.R_drew)); exact HO146.out) hb); have n6_ := Aside0.mk (below_step (by repeat (first | (with_reducible first | exact HB.out | apply below_alloc | apply pw_below_drewN | apply below_drew1) | exact HB.out)) hb); clear HO128; clear HO131; clear HO136; clear HO139; clear HO142; clear HO146; clear HB; have HO128 := n0_; have HO131 := n1_; have HO136 := n2_; have HO139 := n3_; have HO142 := n4_; have HO146 := n5_; have HB := n6_; clear n0_ n1_ n2_ n3_ n4_ n5_ n6_; (try clear hb); (try clear hb2); (try clear hk); (try clear hi)))
        go_ret
        exact ⟨by first | rfl | (simp [errW_none, errW_some] <;> rfl) | (simp [*, errW_none, errW_some] <;> rfl), by repeat (first | (with_reducible first | exact HB.out | apply below_alloc | apply pw_below_drewN | apply below_drew1) | exact HB.out)⟩
    · replace c7 := Bool.eq_false_iff.mpr c7
      subst c7
      have H1 : (some false) = some r := by rw [if_neg (show ¬ (false = true) by decide)] at H; exact H
      clear H
      have H := H1
      clear H1
      obtain rfl := Option.some.inj H
      go_enter Try.func11, Try.ntmps11
      go_wp2_with (first | ((with_reducible refine gate_dst (N := 6) rfl ?_); (try (refine gate_guard (by rfl) ?_; dsimp only)); refine Kd.R_lit k34 _ 34 ?hg (N := 6) ?hd (xs := ([(⟨(⟨#[97]⟩ : ByteArray), (⟨#[99]⟩ : ByteArray)⟩ : S34), (⟨(⟨#[98]⟩ : ByteArray), (⟨#[100]⟩ : ByteArray)⟩ : S34), (⟨(⟨#[100]⟩ : ByteArray), (⟨#[101]⟩ : ByteArray)⟩ : S34)] : List (S34))) (inner := [.string (⟨#[97]⟩ : ByteArray), .string (⟨#[99]⟩ : ByteArray), .string (⟨#[98]⟩ : ByteArray), .string (⟨#[100]⟩ : ByteArray), .string (⟨#[100]⟩ : ByteArray), .string (⟨#[101]⟩ : ByteArray)]) (ok := fun _ => True) (okp := fun _ => True) ?hr ?hp (fun _ hk => hk) trivial (Below.refl _ _) (Nat.le_refl _) (by simp) ?_; (case hd => rfl); (case hg => rfl); (case hr => first | (go_simp; done) | (go_simp; rfl)); (case hp => exact (Reps.c2 (show Kd.M k34 _ _ _ (⟨(⟨#[97]⟩ : ByteArray), (⟨#[99]⟩ : ByteArray)⟩ : S34) [.string (⟨#[97]⟩ : ByteArray), .string (⟨#[99]⟩ : ByteArray)] from (k34_mkM _ _ _ (⟨(⟨#[97]⟩ : ByteArray), (⟨#[99]⟩ : ByteArray)⟩ : S34) )) (Reps.c2 (show Kd.M k34 _ _ _ (⟨(⟨#[98]⟩ : ByteArray), (⟨#[100]⟩ : ByteArray)⟩ : S34) [.string (⟨#[98]⟩ : ByteArray), .string (⟨#[100]⟩ : ByteArray)] from (k34_mkM _ _ _ (⟨(⟨#[98]⟩ : ByteArray), (⟨#[100]⟩ : ByteArray)⟩ : S34) )) (Reps.c2 (show Kd.M k34 _ _ _ (⟨(⟨#[100]⟩ : ByteArray), (⟨#[101]⟩ : ByteArray)⟩ : S34) [.string (⟨#[100]⟩ : ByteArray), .string (⟨#[101]⟩ : ByteArray)] from (k34_mkM _ _ _ (⟨(⟨#[100]⟩ : ByteArray), (⟨#[101]⟩ : ByteArray)⟩ : S34) )) (Reps.none _ _))))); intro v127 w92 ho93 hb hg_ hnew_; clear hg_ hnew_; (first | rw [← Ny126.out] at ho93 | (simp only [Int.reduceToNat] at ho93; rw [← Ny126.out] at ho93)); have n0_ := Aside0.mk (Kd.R_lower ho93 (below_size (by repeat (first | (with_reducible first | exact HB.out | apply below_alloc | apply pw_below_drewN | apply below_drew1) | exact HB.out)))); have n1_ := Aside0.mk (below_step (by repeat (first | (with_reducible first | exact HB.out | apply below_alloc | apply pw_below_drewN | apply below_drew1) | exact HB.out)) hb); clear HB; have HO128 := n0_; have HB := n1_; clear n0_ n1_; clear hb ho93; obtain ⟨Ao94, co94, eo94⟩ := Kd.R_slice HO128.out; subst eo94) | ((with_reducible refine gate_callee (f := 14) rfl ?_); refine goesL_ (some 7) rfl rfl Try.func14 (by kernel_rfl) rfl #[.slice Ao94 y126.length co94] rfl (by (try simp only [List.map_toArray, List.map_cons, List.map_nil]); first | done | rfl | (simp only [List.length_drop, List.length_take]; rfl)) ?_; (with_reducible refine (span_Union.calls _ _ y126 t129 _ ?side1 ?side2 A1.out).mono ?_); (case side1 => repeat (first | exact (Kd.R_reads' HO128.out).2.2 | (with_reducible refine Kd.C_alloc ?_ _) | (with_reducible refine Kd.C_drewN ?_ _) | (with_reducible refine Kd.C_drew ?_))); (case side2 => exact (Kd.R_reads' HO128.out).2.1); rintro e w95 ⟨v130, rfl, ho0, hb⟩; refine ⟨_, rfl, ?_⟩; have n0_ := Aside0.mk (Kd.R_elder' (by (with_reducible repeat (first | apply Kd.R_alloc | apply Kd.R_drewN | apply Kd.R_drew)); exact HO128.out) (Kd.R_base ho0) hb); have n1_ := Aside0.mk (Kd.R_lower (Kd.R_new' ho0 (Kd.R_lt (by (with_reducible repeat (first | apply Kd.R_alloc | apply Kd.R_drewN | apply Kd.R_drew)); exact HO128.out))) (below_size (by repeat (first | (with_reducible first | exact HB.out | apply below_alloc | apply pw_below_drewN | apply below_drew1) | exact HB.out)))); have n2_ := Aside0.mk (below_step (by repeat (first | (with_reducible first | exact HB.out | apply below_alloc | apply pw_below_drewN | apply below_drew1) | exact HB.out)) hb); clear HO128; clear HB; have HO128 := n0_; have HO131 := n1_; have HB := n2_; clear n0_ n1_ n2_; (try clear hb); (try clear hb2); (try clear hk); (try clear hi); (try clear ho0)) | ((with_reducible refine gate_callee (f := 24) rfl ?_); refine goesL_ (some 9) rfl rfl Try.func24 (by kernel_rfl) rfl #[.string (⟨#[98]⟩ : ByteArray)] rfl (by (try simp only [List.map_toArray, List.map_cons, List.map_nil]); first | done | rfl | (simp only [List.length_drop, List.length_take]; rfl)) ?_; (with_reducible refine (span_Point.calls (⟨#[98]⟩ : ByteArray) t132 t133 _ A2.out).mono ?_); rintro e w96 ⟨rfl, hb⟩; refine ⟨_, rfl, ?_⟩; have n0_ := Aside0.mk (Kd.R_below (by (with_reducible repeat (first | apply Kd.R_alloc | apply Kd.R_drewN | apply Kd.R_drew)); exact HO128.out) hb); have n1_ := Aside0.mk (Kd.R_below (by (with_reducible repeat (first | apply Kd.R_alloc | apply Kd.R_drewN | apply Kd.R_drew)); exact HO131.out) hb); have n2_ := Aside0.mk (below_step (by repeat (first | (with_reducible first | exact HB.out | apply below_alloc | apply pw_below_drewN | apply below_drew1) | exact HB.out)) hb); clear HO128; clear HO131; clear HB; have HO128 := n0_; have HO131 := n1_; have HB := n2_; clear n0_ n1_ n2_; (try clear hb); (try clear hb2); (try clear hk); (try clear hi)) | ((with_reducible refine gate_dst (N := 10) rfl ?_); (try (refine gate_guard (by rfl) ?_; dsimp only)); refine Kd.R_lit k34 _ 34 ?hg (N := 10) ?hd (xs := ([(⟨t132, t133⟩ : S34)] : List (S34))) (inner := [.string t132, .string t133]) (ok := fun _ => True) (okp := fun _ => True) ?hr ?hp (fun _ hk => hk) trivial (Below.refl _ _) (Nat.le_refl _) (by simp) ?_; (case hd => rfl); (case hg => rfl); (case hr => first | (go_simp; done) | (go_simp; rfl)); (case hp => exact (Reps.c2 (show Kd.M k34 _ _ _ (⟨t132, t133⟩ : S34) [.string t132, .string t133] from (k34_mkM _ _ _ (⟨t132, t133⟩ : S34) )) (Reps.none _ _))); intro v135 w97 ho98 hb hg_ hnew_; clear hg_ hnew_; (first | rw [← Ny134.out] at ho98 | (simp only [Int.reduceToNat] at ho98; rw [← Ny134.out] at ho98)); have n0_ := Aside0.mk (Kd.R_elder' (by (with_reducible repeat (first | apply Kd.R_alloc | apply Kd.R_drewN | apply Kd.R_drew)); exact HO128.out) (Kd.R_base ho98) hb); have n1_ := Aside0.mk (Kd.R_elder' (by (with_reducible repeat (first | apply Kd.R_alloc | apply Kd.R_drewN | apply Kd.R_drew)); exact HO131.out) (Kd.R_base ho98) hb); have n2_ := Aside0.mk (Kd.R_lower (Kd.R_new' (Kd.R_new' ho98 (Kd.R_lt (by (with_reducible repeat (first | apply Kd.R_alloc | apply Kd.R_drewN | apply Kd.R_drew)); exact HO128.out))) (Kd.R_lt (by (with_reducible repeat (first | apply Kd.R_alloc | apply Kd.R_drewN | apply Kd.R_drew)); exact HO131.out))) (below_size (by repeat (first | (with_reducible first | exact HB.out | apply below_alloc | apply pw_below_drewN | apply below_drew1) | exact HB.out)))); have n3_ := Aside0.mk (below_step (by repeat (first | (with_reducible first | exact HB.out | apply below_alloc | apply pw_below_drewN | apply below_drew1) | exact HB.out)) hb); clear HO128; clear HO131; clear HB; have HO128 := n0_; have HO131 := n1_; have HO136 := n2_; have HB := n3_; clear n0_ n1_ n2_ n3_; clear hb ho98; obtain ⟨Ao99, co99, eo99⟩ := Kd.R_slice HO131.out; subst eo99; obtain ⟨Ao100, co100, eo100⟩ := Kd.R_slice HO136.out; subst eo100) | ((with_reducible refine gate_callee (f := 18) rfl ?_); refine goesL_ (some 11) rfl rfl Try.func18 (by kernel_rfl) rfl #[.slice Ao99 t129.length co99, .slice Ao100 y134.length co100] rfl (by (try simp only [List.map_toArray, List.map_cons, List.map_nil]); first | done | rfl | (simp only [List.length_drop, List.length_take]; rfl)) ?_; (with_reducible refine (span_Less.calls k _ _ t129 _ _ y134 t137 _ ?side1 ?side2 ?side3 ?side4 A3.out).mono ?_); (case side1 => repeat (first | exact (Kd.R_reads' HO131.out).2.2 | (with_reducible refine Kd.C_alloc ?_ _) | (with_reducible refine Kd.C_drewN ?_ _) | (with_reducible refine Kd.C_drew ?_))); (case side2 => exact (Kd.R_reads' HO131.out).2.1); (case side3 => repeat (first | exact (Kd.R_reads' HO136.out).2.2 | (with_reducible refine Kd.C_alloc ?_ _) | (with_reducible refine Kd.C_drewN ?_ _) | (with_reducible refine Kd.C_drew ?_))); (case side4 => exact (Kd.R_reads' HO136.out).2.1); rintro e w101 ⟨v138, rfl, ho0, hb⟩; refine ⟨_, rfl, ?_⟩; have n0_ := Aside0.mk (Kd.R_elder' (by (with_reducible repeat (first | apply Kd.R_alloc | apply Kd.R_drewN | apply Kd.R_drew)); exact HO128.out) (Kd.R_base ho0) hb); have n1_ := Aside0.mk (Kd.R_elder' (by (with_reducible repeat (first | apply Kd.R_alloc | apply Kd.R_drewN | apply Kd.R_drew)); exact HO131.out) (Kd.R_base ho0) hb); have n2_ := Aside0.mk (Kd.R_elder' (by (with_reducible repeat (first | apply Kd.R_alloc | apply Kd.R_drewN | apply Kd.R_drew)); exact HO136.out) (Kd.R_base ho0) hb); have n3_ := Aside0.mk (Kd.R_lower (Kd.R_new' (Kd.R_new' (Kd.R_new' ho0 (Kd.R_lt (by (with_reducible repeat (first | apply Kd.R_alloc | apply Kd.R_drewN | apply Kd.R_drew)); exact HO128.out))) (Kd.R_lt (by (with_reducible repeat (first | apply Kd.R_alloc | apply Kd.R_drewN | apply Kd.R_drew)); exact HO131.out))) (Kd.R_lt (by (with_reducible repeat (first | apply Kd.R_alloc | apply Kd.R_drewN | apply Kd.R_drew)); exact HO136.out))) (below_size (by repeat (first | (with_reducible first | exact HB.out | apply below_alloc | apply pw_below_drewN | apply below_drew1) | exact HB.out)))); have n4_ := Aside0.mk (below_step (by repeat (first | (with_reducible first | exact HB.out | apply below_alloc | apply pw_below_drewN | apply below_drew1) | exact HB.out)) hb); clear HO128; clear HO131; clear HO136; clear HB; have HO128 := n0_; have HO131 := n1_; have HO136 := n2_; have HO139 := n3_; have HB := n4_; clear n0_ n1_ n2_ n3_ n4_; (try clear hb); (try clear hb2); (try clear hk); (try clear hi); (try clear ho0)) | ((with_reducible refine gate_dst (N := 14) rfl ?_); (try (refine gate_guard (by rfl) ?_; dsimp only)); refine Kd.R_lit k34 _ 34 ?hg (N := 14) ?hd (xs := ([(⟨(⟨#[97]⟩ : ByteArray), (⟨#[101]⟩ : ByteArray)⟩ : S34)] : List (S34))) (inner := [.string (⟨#[97]⟩ : ByteArray), .string (⟨#[101]⟩ : ByteArray)]) (ok := fun _ => True) (okp := fun _ => True) ?hr ?hp (fun _ hk => hk) trivial (Below.refl _ _) (Nat.le_refl _) (by simp) ?_; (case hd => rfl); (case hg => rfl); (case hr => first | (go_simp; done) | (go_simp; rfl)); (case hp => exact (Reps.c2 (show Kd.M k34 _ _ _ (⟨(⟨#[97]⟩ : ByteArray), (⟨#[101]⟩ : ByteArray)⟩ : S34) [.string (⟨#[97]⟩ : ByteArray), .string (⟨#[101]⟩ : ByteArray)] from (k34_mkM _ _ _ (⟨(⟨#[97]⟩ : ByteArray), (⟨#[101]⟩ : ByteArray)⟩ : S34) )) (Reps.none _ _))); intro v141 w102 ho103 hb hg_ hnew_; clear hg_ hnew_; (first | rw [← Ny140.out] at ho103 | (simp only [Int.reduceToNat] at ho103; rw [← Ny140.out] at ho103)); have n0_ := Aside0.mk (Kd.R_elder' (by (with_reducible repeat (first | apply Kd.R_alloc | apply Kd.R_drewN | apply Kd.R_drew)); exact HO128.out) (Kd.R_base ho103) hb); have n1_ := Aside0.mk (Kd.R_elder' (by (with_reducible repeat (first | apply Kd.R_alloc | apply Kd.R_drewN | apply Kd.R_drew)); exact HO131.out) (Kd.R_base ho103) hb); have n2_ := Aside0.mk (Kd.R_elder' (by (with_reducible repeat (first | apply Kd.R_alloc | apply Kd.R_drewN | apply Kd.R_drew)); exact HO136.out) (Kd.R_base ho103) hb); have n3_ := Aside0.mk (Kd.R_elder' (by (with_reducible repeat (first | apply Kd.R_alloc | apply Kd.R_drewN | apply Kd.R_drew)); exact HO139.out) (Kd.R_base ho103) hb); have n4_ := Aside0.mk (Kd.R_lower (Kd.R_new' (Kd.R_new' (Kd.R_new' (Kd.R_new' ho103 (Kd.R_lt (by (with_reducible repeat (first | apply Kd.R_alloc | apply Kd.R_drewN | apply Kd.R_drew)); exact HO128.out))) (Kd.R_lt (by (with_reducible repeat (first | apply Kd.R_alloc | apply Kd.R_drewN | apply Kd.R_drew)); exact HO131.out))) (Kd.R_lt (by (with_reducible repeat (first | apply Kd.R_alloc | apply Kd.R_drewN | apply Kd.R_drew)); exact HO136.out))) (Kd.R_lt (by (with_reducible repeat (first | apply Kd.R_alloc | apply Kd.R_drewN | apply Kd.R_drew)); exact HO139.out))) (below_size (by repeat (first | (with_reducible first | exact HB.out | apply below_alloc | apply pw_below_drewN | apply below_drew1) | exact HB.out)))); have n5_ := Aside0.mk (below_step (by repeat (first | (with_reducible first | exact HB.out | apply below_alloc | apply pw_below_drewN | apply below_drew1) | exact HB.out)) hb); clear HO128; clear HO131; clear HO136; clear HO139; clear HB; have HO128 := n0_; have HO131 := n1_; have HO136 := n2_; have HO139 := n3_; have HO142 := n4_; have HB := n5_; clear n0_ n1_ n2_ n3_ n4_ n5_; clear hb ho103; obtain ⟨Ao104, co104, eo104⟩ := Kd.R_slice HO142.out; subst eo104) | ((with_reducible refine gate_callee (f := 13) rfl ?_); refine goesL_ (some 15) rfl rfl Try.func13 (by kernel_rfl) rfl #[.slice Ao99 t129.length co99, .slice Ao104 y140.length co104] rfl (by (try simp only [List.map_toArray, List.map_cons, List.map_nil]); first | done | rfl | (simp only [List.length_drop, List.length_take]; rfl)) ?_; (with_reducible refine (folkmootref03_Same.calls k _ _ t129 _ _ y140 true _ ?side1 ?side2 ?side3 ?side4 A4.out).mono ?_); (case side1 => repeat (first | exact (Kd.R_reads' HO131.out).2.2 | (with_reducible refine Kd.C_alloc ?_ _) | (with_reducible refine Kd.C_drewN ?_ _) | (with_reducible refine Kd.C_drew ?_))); (case side2 => exact (Kd.R_reads' HO131.out).2.1); (case side3 => repeat (first | exact (Kd.R_reads' HO142.out).2.2 | (with_reducible refine Kd.C_alloc ?_ _) | (with_reducible refine Kd.C_drewN ?_ _) | (with_reducible refine Kd.C_drew ?_))); (case side4 => exact (Kd.R_reads' HO142.out).2.1); rintro e w' ⟨rfl, ⟨nd, rfl⟩⟩; refine ⟨_, rfl, ?_⟩) | ((with_reducible refine gate_dst (N := 20) rfl ?_); (try (refine gate_guard (by rfl) ?_; dsimp only)); refine Kd.R_lit k34 _ 34 ?hg (N := 20) ?hd (xs := ([(⟨(⟨#[97]⟩ : ByteArray), (⟨#[98]⟩ : ByteArray)⟩ : S34), (⟨(⟨#[98, 0]⟩ : ByteArray), (⟨#[101]⟩ : ByteArray)⟩ : S34)] : List (S34))) (inner := [.string (⟨#[97]⟩ : ByteArray), .string (⟨#[98]⟩ : ByteArray), .string (⟨#[98, 0]⟩ : ByteArray), .string (⟨#[101]⟩ : ByteArray)]) (ok := fun _ => True) (okp := fun _ => True) ?hr ?hp (fun _ hk => hk) trivial (Below.refl _ _) (Nat.le_refl _) (by simp) ?_; (case hd => rfl); (case hg => rfl); (case hr => first | (go_simp; done) | (go_simp; rfl)); (case hp => exact (Reps.c2 (show Kd.M k34 _ _ _ (⟨(⟨#[97]⟩ : ByteArray), (⟨#[98]⟩ : ByteArray)⟩ : S34) [.string (⟨#[97]⟩ : ByteArray), .string (⟨#[98]⟩ : ByteArray)] from (k34_mkM _ _ _ (⟨(⟨#[97]⟩ : ByteArray), (⟨#[98]⟩ : ByteArray)⟩ : S34) )) (Reps.c2 (show Kd.M k34 _ _ _ (⟨(⟨#[98, 0]⟩ : ByteArray), (⟨#[101]⟩ : ByteArray)⟩ : S34) [.string (⟨#[98, 0]⟩ : ByteArray), .string (⟨#[101]⟩ : ByteArray)] from (k34_mkM _ _ _ (⟨(⟨#[98, 0]⟩ : ByteArray), (⟨#[101]⟩ : ByteArray)⟩ : S34) )) (Reps.none _ _)))); intro v145 w105 ho106 hb hg_ hnew_; clear hg_ hnew_; (first | rw [← Ny144.out] at ho106 | (simp only [Int.reduceToNat] at ho106; rw [← Ny144.out] at ho106)); have n0_ := Aside0.mk (Kd.R_elder' (by (with_reducible repeat (first | apply Kd.R_alloc | apply Kd.R_drewN | apply Kd.R_drew)); exact HO128.out) (Kd.R_base ho106) hb); have n1_ := Aside0.mk (Kd.R_elder' (by (with_reducible repeat (first | apply Kd.R_alloc | apply Kd.R_drewN | apply Kd.R_drew)); exact HO131.out) (Kd.R_base ho106) hb); have n2_ := Aside0.mk (Kd.R_elder' (by (with_reducible repeat (first | apply Kd.R_alloc | apply Kd.R_drewN | apply Kd.R_drew)); exact HO136.out) (Kd.R_base ho106) hb); have n3_ := Aside0.mk (Kd.R_elder' (by (with_reducible repeat (first | apply Kd.R_alloc | apply Kd.R_drewN | apply Kd.R_drew)); exact HO139.out) (Kd.R_base ho106) hb); have n4_ := Aside0.mk (Kd.R_elder' (by (with_reducible repeat (first | apply Kd.R_alloc | apply Kd.R_drewN | apply Kd.R_drew)); exact HO142.out) (Kd.R_base ho106) hb); have n5_ := Aside0.mk (Kd.R_lower (Kd.R_new' (Kd.R_new' (Kd.R_new' (Kd.R_new' (Kd.R_new' ho106 (Kd.R_lt (by (with_reducible repeat (first | apply Kd.R_alloc | apply Kd.R_drewN | apply Kd.R_drew)); exact HO128.out))) (Kd.R_lt (by (with_reducible repeat (first | apply Kd.R_alloc | apply Kd.R_drewN | apply Kd.R_drew)); exact HO131.out))) (Kd.R_lt (by (with_reducible repeat (first | apply Kd.R_alloc | apply Kd.R_drewN | apply Kd.R_drew)); exact HO136.out))) (Kd.R_lt (by (with_reducible repeat (first | apply Kd.R_alloc | apply Kd.R_drewN | apply Kd.R_drew)); exact HO139.out))) (Kd.R_lt (by (with_reducible repeat (first | apply Kd.R_alloc | apply Kd.R_drewN | apply Kd.R_drew)); exact HO142.out))) (below_size (by repeat (first | (with_reducible first | exact HB.out | apply below_alloc | apply pw_below_drewN | apply below_drew1) | exact HB.out)))); have n6_ := Aside0.mk (below_step (by repeat (first | (with_reducible first | exact HB.out | apply below_alloc | apply pw_below_drewN | apply below_drew1) | exact HB.out)) hb); clear HO128; clear HO131; clear HO136; clear HO139; clear HO142; clear HB; have HO128 := n0_; have HO131 := n1_; have HO136 := n2_; have HO139 := n3_; have HO142 := n4_; have HO146 := n5_; have HB := n6_; clear n0_ n1_ n2_ n3_ n4_ n5_ n6_; clear hb ho106; obtain ⟨Ao107, co107, eo107⟩ := Kd.R_slice HO139.out; subst eo107; obtain ⟨Ao108, co108, eo108⟩ := Kd.R_slice HO146.out; subst eo108) | (go_at_call 13; (with_reducible refine (folkmootref03_Same.calls k _ _ t137 _ _ y144 false _ ?side1 ?side2 ?side3 ?side4 A6.out).mono ?_); (case side1 => repeat (first | exact (Kd.R_reads' HO139.out).2.2 | (with_reducible refine Kd.C_alloc ?_ _) | (with_reducible refine Kd.C_drewN ?_ _) | (with_reducible refine Kd.C_drew ?_))); (case side2 => exact (Kd.R_reads' HO139.out).2.1); (case side3 => repeat (first | exact (Kd.R_reads' HO146.out).2.2 | (with_reducible refine Kd.C_alloc ?_ _) | (with_reducible refine Kd.C_drewN ?_ _) | (with_reducible refine Kd.C_drew ?_))); (case side4 => exact (Kd.R_reads' HO146.out).2.1); rintro e w' ⟨rfl, ⟨nd, rfl⟩⟩))
      go_ret
      exact ⟨by first | rfl | (simp [errW_none, errW_some] <;> rfl) | (simp [*, errW_none, errW_some] <;> rfl), by repeat (first | (with_reducible first | exact HB.out | apply below_alloc | apply pw_below_drewN | apply below_drew1) | exact HB.out)⟩
  · replace c5 := Bool.eq_false_iff.mpr c5
    subst c5
    have H1 : (some false) = some r := by rw [if_neg (show ¬ (false = true) by decide)] at H; exact H
    clear H
    have H := H1
    clear H1
    obtain rfl := Option.some.inj H
    go_enter Try.func11, Try.ntmps11
    go_wp2_with (first | ((with_reducible refine gate_dst (N := 6) rfl ?_); (try (refine gate_guard (by rfl) ?_; dsimp only)); refine Kd.R_lit k34 _ 34 ?hg (N := 6) ?hd (xs := ([(⟨(⟨#[97]⟩ : ByteArray), (⟨#[99]⟩ : ByteArray)⟩ : S34), (⟨(⟨#[98]⟩ : ByteArray), (⟨#[100]⟩ : ByteArray)⟩ : S34), (⟨(⟨#[100]⟩ : ByteArray), (⟨#[101]⟩ : ByteArray)⟩ : S34)] : List (S34))) (inner := [.string (⟨#[97]⟩ : ByteArray), .string (⟨#[99]⟩ : ByteArray), .string (⟨#[98]⟩ : ByteArray), .string (⟨#[100]⟩ : ByteArray), .string (⟨#[100]⟩ : ByteArray), .string (⟨#[101]⟩ : ByteArray)]) (ok := fun _ => True) (okp := fun _ => True) ?hr ?hp (fun _ hk => hk) trivial (Below.refl _ _) (Nat.le_refl _) (by simp) ?_; (case hd => rfl); (case hg => rfl); (case hr => first | (go_simp; done) | (go_simp; rfl)); (case hp => exact (Reps.c2 (show Kd.M k34 _ _ _ (⟨(⟨#[97]⟩ : ByteArray), (⟨#[99]⟩ : ByteArray)⟩ : S34) [.string (⟨#[97]⟩ : ByteArray), .string (⟨#[99]⟩ : ByteArray)] from (k34_mkM _ _ _ (⟨(⟨#[97]⟩ : ByteArray), (⟨#[99]⟩ : ByteArray)⟩ : S34) )) (Reps.c2 (show Kd.M k34 _ _ _ (⟨(⟨#[98]⟩ : ByteArray), (⟨#[100]⟩ : ByteArray)⟩ : S34) [.string (⟨#[98]⟩ : ByteArray), .string (⟨#[100]⟩ : ByteArray)] from (k34_mkM _ _ _ (⟨(⟨#[98]⟩ : ByteArray), (⟨#[100]⟩ : ByteArray)⟩ : S34) )) (Reps.c2 (show Kd.M k34 _ _ _ (⟨(⟨#[100]⟩ : ByteArray), (⟨#[101]⟩ : ByteArray)⟩ : S34) [.string (⟨#[100]⟩ : ByteArray), .string (⟨#[101]⟩ : ByteArray)] from (k34_mkM _ _ _ (⟨(⟨#[100]⟩ : ByteArray), (⟨#[101]⟩ : ByteArray)⟩ : S34) )) (Reps.none _ _))))); intro v127 w109 ho110 hb hg_ hnew_; clear hg_ hnew_; (first | rw [← Ny126.out] at ho110 | (simp only [Int.reduceToNat] at ho110; rw [← Ny126.out] at ho110)); have n0_ := Aside0.mk (Kd.R_lower ho110 (below_size (by repeat (first | (with_reducible first | exact HB.out | apply below_alloc | apply pw_below_drewN | apply below_drew1) | exact HB.out)))); have n1_ := Aside0.mk (below_step (by repeat (first | (with_reducible first | exact HB.out | apply below_alloc | apply pw_below_drewN | apply below_drew1) | exact HB.out)) hb); clear HB; have HO128 := n0_; have HB := n1_; clear n0_ n1_; clear hb ho110; obtain ⟨Ao111, co111, eo111⟩ := Kd.R_slice HO128.out; subst eo111) | ((with_reducible refine gate_callee (f := 14) rfl ?_); refine goesL_ (some 7) rfl rfl Try.func14 (by kernel_rfl) rfl #[.slice Ao111 y126.length co111] rfl (by (try simp only [List.map_toArray, List.map_cons, List.map_nil]); first | done | rfl | (simp only [List.length_drop, List.length_take]; rfl)) ?_; (with_reducible refine (span_Union.calls _ _ y126 t129 _ ?side1 ?side2 A1.out).mono ?_); (case side1 => repeat (first | exact (Kd.R_reads' HO128.out).2.2 | (with_reducible refine Kd.C_alloc ?_ _) | (with_reducible refine Kd.C_drewN ?_ _) | (with_reducible refine Kd.C_drew ?_))); (case side2 => exact (Kd.R_reads' HO128.out).2.1); rintro e w112 ⟨v130, rfl, ho0, hb⟩; refine ⟨_, rfl, ?_⟩; have n0_ := Aside0.mk (Kd.R_elder' (by (with_reducible repeat (first | apply Kd.R_alloc | apply Kd.R_drewN | apply Kd.R_drew)); exact HO128.out) (Kd.R_base ho0) hb); have n1_ := Aside0.mk (Kd.R_lower (Kd.R_new' ho0 (Kd.R_lt (by (with_reducible repeat (first | apply Kd.R_alloc | apply Kd.R_drewN | apply Kd.R_drew)); exact HO128.out))) (below_size (by repeat (first | (with_reducible first | exact HB.out | apply below_alloc | apply pw_below_drewN | apply below_drew1) | exact HB.out)))); have n2_ := Aside0.mk (below_step (by repeat (first | (with_reducible first | exact HB.out | apply below_alloc | apply pw_below_drewN | apply below_drew1) | exact HB.out)) hb); clear HO128; clear HB; have HO128 := n0_; have HO131 := n1_; have HB := n2_; clear n0_ n1_ n2_; (try clear hb); (try clear hb2); (try clear hk); (try clear hi); (try clear ho0)) | ((with_reducible refine gate_callee (f := 24) rfl ?_); refine goesL_ (some 9) rfl rfl Try.func24 (by kernel_rfl) rfl #[.string (⟨#[98]⟩ : ByteArray)] rfl (by (try simp only [List.map_toArray, List.map_cons, List.map_nil]); first | done | rfl | (simp only [List.length_drop, List.length_take]; rfl)) ?_; (with_reducible refine (span_Point.calls (⟨#[98]⟩ : ByteArray) t132 t133 _ A2.out).mono ?_); rintro e w113 ⟨rfl, hb⟩; refine ⟨_, rfl, ?_⟩; have n0_ := Aside0.mk (Kd.R_below (by (with_reducible repeat (first | apply Kd.R_alloc | apply Kd.R_drewN | apply Kd.R_drew)); exact HO128.out) hb); have n1_ := Aside0.mk (Kd.R_below (by (with_reducible repeat (first | apply Kd.R_alloc | apply Kd.R_drewN | apply Kd.R_drew)); exact HO131.out) hb); have n2_ := Aside0.mk (below_step (by repeat (first | (with_reducible first | exact HB.out | apply below_alloc | apply pw_below_drewN | apply below_drew1) | exact HB.out)) hb); clear HO128; clear HO131; clear HB; have HO128 := n0_; have HO131 := n1_; have HB := n2_; clear n0_ n1_ n2_; (try clear hb); (try clear hb2); (try clear hk); (try clear hi)) | ((with_reducible refine gate_dst (N := 10) rfl ?_); (try (refine gate_guard (by rfl) ?_; dsimp only)); refine Kd.R_lit k34 _ 34 ?hg (N := 10) ?hd (xs := ([(⟨t132, t133⟩ : S34)] : List (S34))) (inner := [.string t132, .string t133]) (ok := fun _ => True) (okp := fun _ => True) ?hr ?hp (fun _ hk => hk) trivial (Below.refl _ _) (Nat.le_refl _) (by simp) ?_; (case hd => rfl); (case hg => rfl); (case hr => first | (go_simp; done) | (go_simp; rfl)); (case hp => exact (Reps.c2 (show Kd.M k34 _ _ _ (⟨t132, t133⟩ : S34) [.string t132, .string t133] from (k34_mkM _ _ _ (⟨t132, t133⟩ : S34) )) (Reps.none _ _))); intro v135 w114 ho115 hb hg_ hnew_; clear hg_ hnew_; (first | rw [← Ny134.out] at ho115 | (simp only [Int.reduceToNat] at ho115; rw [← Ny134.out] at ho115)); have n0_ := Aside0.mk (Kd.R_elder' (by (with_reducible repeat (first | apply Kd.R_alloc | apply Kd.R_drewN | apply Kd.R_drew)); exact HO128.out) (Kd.R_base ho115) hb); have n1_ := Aside0.mk (Kd.R_elder' (by (with_reducible repeat (first | apply Kd.R_alloc | apply Kd.R_drewN | apply Kd.R_drew)); exact HO131.out) (Kd.R_base ho115) hb); have n2_ := Aside0.mk (Kd.R_lower (Kd.R_new' (Kd.R_new' ho115 (Kd.R_lt (by (with_reducible repeat (first | apply Kd.R_alloc | apply Kd.R_drewN | apply Kd.R_drew)); exact HO128.out))) (Kd.R_lt (by (with_reducible repeat (first | apply Kd.R_alloc | apply Kd.R_drewN | apply Kd.R_drew)); exact HO131.out))) (below_size (by repeat (first | (with_reducible first | exact HB.out | apply below_alloc | apply pw_below_drewN | apply below_drew1) | exact HB.out)))); have n3_ := Aside0.mk (below_step (by repeat (first | (with_reducible first | exact HB.out | apply below_alloc | apply pw_below_drewN | apply below_drew1) | exact HB.out)) hb); clear HO128; clear HO131; clear HB; have HO128 := n0_; have HO131 := n1_; have HO136 := n2_; have HB := n3_; clear n0_ n1_ n2_ n3_; clear hb ho115; obtain ⟨Ao116, co116, eo116⟩ := Kd.R_slice HO131.out; subst eo116; obtain ⟨Ao117, co117, eo117⟩ := Kd.R_slice HO136.out; subst eo117) | ((with_reducible refine gate_callee (f := 18) rfl ?_); refine goesL_ (some 11) rfl rfl Try.func18 (by kernel_rfl) rfl #[.slice Ao116 t129.length co116, .slice Ao117 y134.length co117] rfl (by (try simp only [List.map_toArray, List.map_cons, List.map_nil]); first | done | rfl | (simp only [List.length_drop, List.length_take]; rfl)) ?_; (with_reducible refine (span_Less.calls k _ _ t129 _ _ y134 t137 _ ?side1 ?side2 ?side3 ?side4 A3.out).mono ?_); (case side1 => repeat (first | exact (Kd.R_reads' HO131.out).2.2 | (with_reducible refine Kd.C_alloc ?_ _) | (with_reducible refine Kd.C_drewN ?_ _) | (with_reducible refine Kd.C_drew ?_))); (case side2 => exact (Kd.R_reads' HO131.out).2.1); (case side3 => repeat (first | exact (Kd.R_reads' HO136.out).2.2 | (with_reducible refine Kd.C_alloc ?_ _) | (with_reducible refine Kd.C_drewN ?_ _) | (with_reducible refine Kd.C_drew ?_))); (case side4 => exact (Kd.R_reads' HO136.out).2.1); rintro e w118 ⟨v138, rfl, ho0, hb⟩; refine ⟨_, rfl, ?_⟩; have n0_ := Aside0.mk (Kd.R_elder' (by (with_reducible repeat (first | apply Kd.R_alloc | apply Kd.R_drewN | apply Kd.R_drew)); exact HO128.out) (Kd.R_base ho0) hb); have n1_ := Aside0.mk (Kd.R_elder' (by (with_reducible repeat (first | apply Kd.R_alloc | apply Kd.R_drewN | apply Kd.R_drew)); exact HO131.out) (Kd.R_base ho0) hb); have n2_ := Aside0.mk (Kd.R_elder' (by (with_reducible repeat (first | apply Kd.R_alloc | apply Kd.R_drewN | apply Kd.R_drew)); exact HO136.out) (Kd.R_base ho0) hb); have n3_ := Aside0.mk (Kd.R_lower (Kd.R_new' (Kd.R_new' (Kd.R_new' ho0 (Kd.R_lt (by (with_reducible repeat (first | apply Kd.R_alloc | apply Kd.R_drewN | apply Kd.R_drew)); exact HO128.out))) (Kd.R_lt (by (with_reducible repeat (first | apply Kd.R_alloc | apply Kd.R_drewN | apply Kd.R_drew)); exact HO131.out))) (Kd.R_lt (by (with_reducible repeat (first | apply Kd.R_alloc | apply Kd.R_drewN | apply Kd.R_drew)); exact HO136.out))) (below_size (by repeat (first | (with_reducible first | exact HB.out | apply below_alloc | apply pw_below_drewN | apply below_drew1) | exact HB.out)))); have n4_ := Aside0.mk (below_step (by repeat (first | (with_reducible first | exact HB.out | apply below_alloc | apply pw_below_drewN | apply below_drew1) | exact HB.out)) hb); clear HO128; clear HO131; clear HO136; clear HB; have HO128 := n0_; have HO131 := n1_; have HO136 := n2_; have HO139 := n3_; have HB := n4_; clear n0_ n1_ n2_ n3_ n4_; (try clear hb); (try clear hb2); (try clear hk); (try clear hi); (try clear ho0)) | ((with_reducible refine gate_dst (N := 14) rfl ?_); (try (refine gate_guard (by rfl) ?_; dsimp only)); refine Kd.R_lit k34 _ 34 ?hg (N := 14) ?hd (xs := ([(⟨(⟨#[97]⟩ : ByteArray), (⟨#[101]⟩ : ByteArray)⟩ : S34)] : List (S34))) (inner := [.string (⟨#[97]⟩ : ByteArray), .string (⟨#[101]⟩ : ByteArray)]) (ok := fun _ => True) (okp := fun _ => True) ?hr ?hp (fun _ hk => hk) trivial (Below.refl _ _) (Nat.le_refl _) (by simp) ?_; (case hd => rfl); (case hg => rfl); (case hr => first | (go_simp; done) | (go_simp; rfl)); (case hp => exact (Reps.c2 (show Kd.M k34 _ _ _ (⟨(⟨#[97]⟩ : ByteArray), (⟨#[101]⟩ : ByteArray)⟩ : S34) [.string (⟨#[97]⟩ : ByteArray), .string (⟨#[101]⟩ : ByteArray)] from (k34_mkM _ _ _ (⟨(⟨#[97]⟩ : ByteArray), (⟨#[101]⟩ : ByteArray)⟩ : S34) )) (Reps.none _ _))); intro v141 w119 ho120 hb hg_ hnew_; clear hg_ hnew_; (first | rw [← Ny140.out] at ho120 | (simp only [Int.reduceToNat] at ho120; rw [← Ny140.out] at ho120)); have n0_ := Aside0.mk (Kd.R_elder' (by (with_reducible repeat (first | apply Kd.R_alloc | apply Kd.R_drewN | apply Kd.R_drew)); exact HO128.out) (Kd.R_base ho120) hb); have n1_ := Aside0.mk (Kd.R_elder' (by (with_reducible repeat (first | apply Kd.R_alloc | apply Kd.R_drewN | apply Kd.R_drew)); exact HO131.out) (Kd.R_base ho120) hb); have n2_ := Aside0.mk (Kd.R_elder' (by (with_reducible repeat (first | apply Kd.R_alloc | apply Kd.R_drewN | apply Kd.R_drew)); exact HO136.out) (Kd.R_base ho120) hb); have n3_ := Aside0.mk (Kd.R_elder' (by (with_reducible repeat (first | apply Kd.R_alloc | apply Kd.R_drewN | apply Kd.R_drew)); exact HO139.out) (Kd.R_base ho120) hb); have n4_ := Aside0.mk (Kd.R_lower (Kd.R_new' (Kd.R_new' (Kd.R_new' (Kd.R_new' ho120 (Kd.R_lt (by (with_reducible repeat (first | apply Kd.R_alloc | apply Kd.R_drewN | apply Kd.R_drew)); exact HO128.out))) (Kd.R_lt (by (with_reducible repeat (first | apply Kd.R_alloc | apply Kd.R_drewN | apply Kd.R_drew)); exact HO131.out))) (Kd.R_lt (by (with_reducible repeat (first | apply Kd.R_alloc | apply Kd.R_drewN | apply Kd.R_drew)); exact HO136.out))) (Kd.R_lt (by (with_reducible repeat (first | apply Kd.R_alloc | apply Kd.R_drewN | apply Kd.R_drew)); exact HO139.out))) (below_size (by repeat (first | (with_reducible first | exact HB.out | apply below_alloc | apply pw_below_drewN | apply below_drew1) | exact HB.out)))); have n5_ := Aside0.mk (below_step (by repeat (first | (with_reducible first | exact HB.out | apply below_alloc | apply pw_below_drewN | apply below_drew1) | exact HB.out)) hb); clear HO128; clear HO131; clear HO136; clear HO139; clear HB; have HO128 := n0_; have HO131 := n1_; have HO136 := n2_; have HO139 := n3_; have HO142 := n4_; have HB := n5_; clear n0_ n1_ n2_ n3_ n4_ n5_; clear hb ho120; obtain ⟨Ao121, co121, eo121⟩ := Kd.R_slice HO142.out; subst eo121) | ((with_reducible refine gate_callee (f := 13) rfl ?_); refine goesL_ (some 15) rfl rfl Try.func13 (by kernel_rfl) rfl #[.slice Ao116 t129.length co116, .slice Ao121 y140.length co121] rfl (by (try simp only [List.map_toArray, List.map_cons, List.map_nil]); first | done | rfl | (simp only [List.length_drop, List.length_take]; rfl)) ?_; (with_reducible refine (folkmootref03_Same.calls k _ _ t129 _ _ y140 false _ ?side1 ?side2 ?side3 ?side4 A4.out).mono ?_); (case side1 => repeat (first | exact (Kd.R_reads' HO131.out).2.2 | (with_reducible refine Kd.C_alloc ?_ _) | (with_reducible refine Kd.C_drewN ?_ _) | (with_reducible refine Kd.C_drew ?_))); (case side2 => exact (Kd.R_reads' HO131.out).2.1); (case side3 => repeat (first | exact (Kd.R_reads' HO142.out).2.2 | (with_reducible refine Kd.C_alloc ?_ _) | (with_reducible refine Kd.C_drewN ?_ _) | (with_reducible refine Kd.C_drew ?_))); (case side4 => exact (Kd.R_reads' HO142.out).2.1); rintro e w' ⟨rfl, ⟨nd, rfl⟩⟩; refine ⟨_, rfl, ?_⟩))
    go_ret
    exact ⟨by first | rfl | (simp [errW_none, errW_some] <;> rfl) | (simp [*, errW_none, errW_some] <;> rfl), by repeat (first | (with_reducible first | exact HB.out | apply below_alloc | apply pw_below_drewN | apply below_drew1) | exact HB.out)⟩

end Go.Proofs.Ytjimijpkhmpilaa.P
/- Plain: live comes to true; small; an element read. -/
namespace Go.Proofs.Ytjimijpkhmpilaa.P
open Go.RowKit Go.Proofs.YtjimijpkhmpilaaW.PrintWords
set_option linter.unusedVariables false

def liveL : List S34 := [(⟨(⟨#[97]⟩ : ByteArray), (⟨#[99]⟩ : ByteArray)⟩ : S34), (⟨(⟨#[98]⟩ : ByteArray), (⟨#[100]⟩ : ByteArray)⟩ : S34), (⟨(⟨#[100]⟩ : ByteArray), (⟨#[101]⟩ : ByteArray)⟩ : S34)]
theorem live_union : span_Union.f liveL = some [(⟨(⟨#[97]⟩ : ByteArray), (⟨#[101]⟩ : ByteArray)⟩ : S34)] := by
  have hf : liveL.filter fullSp = liveL := by kernel_rfl
  have hr : Rises ltFrom liveL := by
    unfold Rises liveL
    refine List.Pairwise.cons ?_ (List.Pairwise.cons ?_ (List.Pairwise.cons ?_ List.Pairwise.nil))
    · intro x hx
      simp only [List.mem_cons, List.not_mem_nil, or_false] at hx
      rcases hx with rfl | rfl <;> kernel_rfl
    · intro x hx
      simp only [List.mem_cons, List.not_mem_nil, or_false] at hx
      subst hx
      kernel_rfl
    · intro x hx
      cases hx
  have h := (union_one liveL liveL (by rw [hf]) hr).1
  unfold span_Union.f
  rw [if_pos (by decide), ← h]
  exact (show some (mergeAll liveL) = some [(⟨(⟨#[97]⟩ : ByteArray), (⟨#[101]⟩ : ByteArray)⟩ : S34)] by kernel_rfl)
theorem live_val : folkmootlaw03_live.f 30 = some true := by
  have h : folkmootlaw03_live.f 30 = (span_Union.f liveL).bind fun t129 => ((span_Point.f (⟨#[98]⟩ : ByteArray)).bind fun bt132 => ((span_Less.f 30 t129 (([(⟨bt132.1, bt132.2⟩ : S34)] : List (S34)))).bind fun t137 => ((folkmootref03_Same.f 30 t129 (([(⟨(⟨#[97]⟩ : ByteArray), (⟨#[101]⟩ : ByteArray)⟩ : S34)] : List (S34)))).bind fun t143 => (if t143 = true then ((folkmootref03_Same.f 30 t137 (([(⟨(⟨#[97]⟩ : ByteArray), (⟨#[98]⟩ : ByteArray)⟩ : S34), (⟨(⟨#[98, 0]⟩ : ByteArray), (⟨#[101]⟩ : ByteArray)⟩ : S34)] : List (S34)))).bind fun t147 => (if t147 = true then ((span_Has.f t129 (⟨#[98]⟩ : ByteArray)).bind fun t148 => (if t148 = true then ((span_Has.f t137 (⟨#[98]⟩ : ByteArray)).bind fun t149 => (if t149 = true then (some false) else ((span_Key.f (⟨#[]⟩ : ByteArray)).bind fun t150 => ((folkmootlaw03_num.f t150).bind fun t151 => (if t151 = 30 then ((span_Meet.f t129 t137).bind fun t152 => (some t152)) else (some false)))))) else (some false))) else (some false))) else (some false))))) := rfl
  rw [h, live_union]
  exact (show ((some [(⟨(⟨#[97]⟩ : ByteArray), (⟨#[101]⟩ : ByteArray)⟩ : S34)] : Option (List S34)).bind fun t129 => ((span_Point.f (⟨#[98]⟩ : ByteArray)).bind fun bt132 => ((span_Less.f 30 t129 (([(⟨bt132.1, bt132.2⟩ : S34)] : List (S34)))).bind fun t137 => ((folkmootref03_Same.f 30 t129 (([(⟨(⟨#[97]⟩ : ByteArray), (⟨#[101]⟩ : ByteArray)⟩ : S34)] : List (S34)))).bind fun t143 => (if t143 = true then ((folkmootref03_Same.f 30 t137 (([(⟨(⟨#[97]⟩ : ByteArray), (⟨#[98]⟩ : ByteArray)⟩ : S34), (⟨(⟨#[98, 0]⟩ : ByteArray), (⟨#[101]⟩ : ByteArray)⟩ : S34)] : List (S34)))).bind fun t147 => (if t147 = true then ((span_Has.f t129 (⟨#[98]⟩ : ByteArray)).bind fun t148 => (if t148 = true then ((span_Has.f t137 (⟨#[98]⟩ : ByteArray)).bind fun t149 => (if t149 = true then (some false) else ((span_Key.f (⟨#[]⟩ : ByteArray)).bind fun t150 => ((folkmootlaw03_num.f t150).bind fun t151 => (if t151 = 30 then ((span_Meet.f t129 t137).bind fun t152 => (some t152)) else (some false)))))) else (some false))) else (some false))) else (some false)))))) = some true by kernel_rfl)
theorem live_ev : Ev (fun k => folkmootlaw03_live.f k) true := Ev.of (g := fun k => folkmootlaw03_live.f k) folkmootlaw03_live.mono live_val
theorem rd_at (l : List S34) (i : Nat) (hi : i < l.length) : rd_T34 l (i : Int) = l[i] := by simp [rd_T34, List.getD_eq_getElem?_getD, hi]
theorem union_of (l : List S34) : Sp.Of ((l.filter fullSp).map toSp) ((unionL l).map toSp) := (union_one l _ (List.mergeSort_perm _ _) (sorted_rises _)).2
theorem small_l0 (l : List S34) (hl : l.length ≤ 9223372036854775806) : ∀ (d i : Nat) (x : Int), i ≤ l.length → l.length - i = d → ∃ b, Ev (fun k => folkmootlaw03_small.l0 k l x (i : Int)) b ∧ (b = true → l.length ≤ 30) := by
  have he : ∀ x : Int, ∃ b, (if (l.length : Int) ≤ 30 then (some (decide (x ≤ 4000))) else (some false)) = some b ∧ (b = true → l.length ≤ 30) := by
    intro x
    by_cases c : (l.length : Int) ≤ 30
    · exact ⟨_, by rw [if_pos c], fun _ => by omega⟩
    · exact ⟨false, by rw [if_neg c], fun h => by cases h⟩
  intro d
  induction d with
  | zero =>
    intro i x hi hd
    have h1 : ¬ (i : Int) < (l.length : Int) := by omega
    obtain ⟨b, hb, hb2⟩ := he x
    exact ⟨b, Ev.step (f := fun _ => some b) (fun k => by simp only [folkmootlaw03_small.l0, if_neg h1, hb]) (Ev.val _), hb2⟩
  | succ d ih =>
    intro i x hi hd
    have h1 : (i : Int) < (l.length : Int) := by omega
    have h0 : (0 : Int) ≤ (i : Int) := by omega
    have hw : wrap64 ((i : Int) + 1) = ((i + 1 : Nat) : Int) := by rw [wrap_in] <;> omega
    by_cases h2 : (i : Int) ≤ 128
    · obtain ⟨b, hb, hb2⟩ := ih (i + 1) (wrap64 ((wrap64 (x + (((rd_T34 l (i : Int)).f0).size : Int))) + (((rd_T34 l (i : Int)).f1).size : Int))) (by omega) (by omega)
      exact ⟨b, Ev.step (fun k => by simp only [folkmootlaw03_small.l0, if_pos h1, if_pos h2, if_pos h0, hw]) hb, hb2⟩
    · obtain ⟨b, hb, hb2⟩ := he x
      exact ⟨b, Ev.step (f := fun _ => some b) (fun k => by simp only [folkmootlaw03_small.l0, if_pos h1, if_neg h2, hb]) (Ev.val _), hb2⟩
theorem small_ev (l : List S34) (hl : l.length ≤ 9223372036854775806) : ∃ b, Ev (fun k => folkmootlaw03_small.f k l) b ∧ (b = true → l.length ≤ 30) := small_l0 l hl l.length 0 0 (by omega) (by omega)
end Go.Proofs.Ytjimijpkhmpilaa.P
/- Plain: the reference's set, as printed, comes to the canonical list of the set that is wanted. -/
namespace Go.Proofs.Ytjimijpkhmpilaa.P
open Go.RowKit Go.Proofs.YtjimijpkhmpilaaW.PrintWords
set_option linter.unusedVariables false

/-! ### marks -/
theorem insM_spec (t : ByteArray) : ∀ l : List ByteArray, (l.map tx).Pairwise (· < ·) → ((insM t l).map tx).Pairwise (· < ·) ∧ ∀ x, x ∈ (insM t l).map tx ↔ x = tx t ∨ x ∈ l.map tx
  | [], _ => by simp [insM]
  | x :: l, h => by
    rw [List.map_cons] at h
    obtain ⟨h1, h2⟩ := List.pairwise_cons.1 h
    obtain ⟨h3, h4⟩ := insM_spec t l h2
    unfold insM
    by_cases c : Op.bytesLess x.toList t.toList = true
    · have c' : tx x < tx t := c
      rw [if_pos c, List.map_cons]
      refine ⟨List.pairwise_cons.2 ⟨fun y hy => ?_, h3⟩, fun y => ?_⟩
      · rcases (h4 y).1 hy with rfl | hy
        · exact c'
        · exact h1 y hy
      · rw [List.mem_cons, List.map_cons, List.mem_cons, h4]
        grind
    · rw [if_neg c]
      by_cases e : x.toList = t.toList
      · have e' : tx x = tx t := by unfold tx; rw [e]
        rw [if_pos e, List.map_cons]
        refine ⟨List.pairwise_cons.2 ⟨h1, h2⟩, fun y => ?_⟩
        rw [List.mem_cons, e']
        grind
      · rw [if_neg e]
        have hlt : tx t < tx x := by
          rcases bytesLess_tri x.toList t.toList with h | h | h
          · exact absurd h c
          · exact absurd h e
          · exact h
        rw [List.map_cons, List.map_cons]
        refine ⟨List.pairwise_cons.2 ⟨fun y hy => ?_, List.pairwise_cons.2 ⟨h1, h2⟩⟩, fun y => ?_⟩
        · rcases List.mem_cons.1 hy with rfl | hy
          · exact hlt
          · have := h1 y hy; grind
        · rw [List.mem_cons]
theorem midM_spec (out : List ByteArray) (x : S34) (h : (out.map tx).Pairwise (· < ·)) : ((midM out x 2).map tx).Pairwise (· < ·) ∧ ∀ y, y ∈ (midM out x 2).map tx ↔ (y = tx x.f0 ∨ (tx x.f1 ≠ .nil ∧ y = tx x.f1)) ∨ y ∈ out.map tx := by
  obtain ⟨h1, h2⟩ := insM_spec x.f0 out h
  obtain ⟨h3, h4⟩ := insM_spec x.f1 _ h1
  simp only [midM]
  by_cases c : x.f1.toList = []
  · rw [if_pos c]
    refine ⟨h1, fun y => ?_⟩
    have := (tx_nil x.f1).2 c
    rw [h2]
    grind
  · rw [if_neg c]
    refine ⟨h3, fun y => ?_⟩
    have : tx x.f1 ≠ .nil := fun e => c ((tx_nil x.f1).1 e)
    rw [h4, h2]
    grind
theorem marks_from (l : List S34) : ∀ out : List ByteArray, (out.map tx).Pairwise (· < ·) → ((l.foldl (fun out x => midM out x 2) out).map tx).Pairwise (· < ·) ∧ ∀ y, y ∈ (l.foldl (fun out x => midM out x 2) out).map tx ↔ y ∈ out.map tx ∨ ∃ x ∈ l, y = tx x.f0 ∨ (tx x.f1 ≠ .nil ∧ y = tx x.f1) := by
  induction l with
  | nil => intro out h; exact ⟨h, fun y => by simp⟩
  | cons x l ih =>
    intro out h
    obtain ⟨h1, h2⟩ := midM_spec out x h
    obtain ⟨h3, h4⟩ := ih _ h1
    refine ⟨h3, fun y => ?_⟩
    rw [List.foldl_cons, h4, h2]
    simp only [List.mem_cons, exists_eq_or_imp]
    grind
theorem marks_rise (l : List S34) : ((marksL l).map tx).Pairwise (· < ·) := (marks_from l [] List.Pairwise.nil).1
theorem marks_cover (l a : List S34) (h : ∀ x ∈ a, x ∈ l) : Sp.Covers ((marksL l).map tx) (a.map toSp) := by
  intro s hs
  obtain ⟨x, hx, rfl⟩ := List.mem_map.1 hs
  exact ⟨((marks_from l [] List.Pairwise.nil).2 _).2 (.inr ⟨x, h x hx, .inl rfl⟩), fun hn => ((marks_from l [] List.Pairwise.nil).2 _).2 (.inr ⟨x, h x hx, .inr ⟨hn, rfl⟩⟩)⟩
theorem marks_len (l : List S34) : (marksL l).length ≤ 2 * l.length := by
  have := marksL_len l l.length
  rwa [List.take_length] at this
/-! ### in -/
theorem inSp_iff (k : ByteArray) (x : S34) : inSp k x = true ↔ Sp.inn (tx k) (toSp x) := by
  unfold inSp Sp.inn toSp
  simp only [Bool.and_eq_true, Bool.not_eq_true', Bool.or_eq_true, List.isEmpty_iff, ← tx_nil]
  exact Iff.rfl
theorem any_iff (l : List S34) (k : ByteArray) : l.any (inSp k) = true ↔ Sp.mem (l.map toSp) (tx k) := by
  rw [List.any_eq_true]
  constructor
  · rintro ⟨x, hx, h⟩
    exact ⟨toSp x, List.mem_map.2 ⟨x, hx, rfl⟩, (inSp_iff k x).1 h⟩
  · rintro ⟨s, hs, h⟩
    obtain ⟨x, hx, rfl⟩ := List.mem_map.1 hs
    exact ⟨x, hx, (inSp_iff k x).2 h⟩
theorem in_val (x : S34) (k : ByteArray) : folkmootref03_in.f x.f0 x.f1 k = some (inSp k x) := by
  unfold folkmootref03_in.f inSp
  cases h1 : Op.bytesLess k.toList x.f0.toList with
  | true => simp
  | false =>
    by_cases h2 : x.f1.toList = []
    · simp [h2]
    · have : x.f1.toList.isEmpty = false := by simpa using h2
      simp [h2]
theorem has_l0 (l : List S34) (a : ByteArray) (hl : l.length ≤ 9223372036854775806) : ∀ (d i : Nat), i ≤ l.length → l.length - i = d → Ev (fun k => folkmootref03_Has.l0 k l a (i : Int)) ((l.drop i).any (inSp a)) := by
  intro d
  induction d with
  | zero =>
    intro i hi hd
    have h1 : ¬ (i : Int) < (l.length : Int) := by omega
    rw [List.drop_eq_nil_of_le (by omega)]
    exact Ev.step (fun k => by simp only [folkmootref03_Has.l0, if_neg h1]; rfl) (Ev.val _)
  | succ d ih =>
    intro i hi hd
    have h1 : (i : Int) < (l.length : Int) := by omega
    have h0 : (0 : Int) ≤ (i : Int) := by omega
    have hil : i < l.length := by omega
    have hw : wrap64 ((i : Int) + 1) = ((i + 1 : Nat) : Int) := by rw [wrap_in] <;> omega
    rw [List.drop_eq_getElem_cons hil, List.any_cons]
    cases c : inSp a l[i] with
    | true =>
      exact Ev.step (fun k => by simp only [folkmootref03_Has.l0, if_pos h1, if_pos h0, rd_at l i hil, in_val, c, Option.bind_some, if_true]) (Ev.eq (Ev.val true) (by simp))
    | false =>
      exact Ev.step (fun k => by simp only [folkmootref03_Has.l0, if_pos h1, if_pos h0, rd_at l i hil, in_val, c, Option.bind_some, Bool.false_eq_true, if_false, hw]) (Ev.eq (ih (i + 1) (by omega) (by omega)) (by simp))
theorem has_ev (l : List S34) (a : ByteArray) (hl : l.length ≤ 9223372036854775806) : Ev (fun k => folkmootref03_Has.f k l a) (l.any (inSp a)) := has_l0 l a hl l.length 0 (by omega) (by omega)
/-! ### set -/
def opW (w : Int) (x y : Bool) : Bool := if w = 2 then x && !y else if w = 1 then x && y else x || y
def tailS : Option ByteArray → List S34
  | none => []
  | some f => [(⟨f, (⟨#[]⟩ : ByteArray)⟩ : S34)]
def bldS (P : ByteArray → Bool) : Option ByteArray → List ByteArray → List S34
  | o, [] => tailS o
  | none, m :: M => if P m then bldS P (some m) M else bldS P none M
  | some f, m :: M => if P m then bldS P (some f) M else (⟨f, m⟩ : S34) :: bldS P none M
theorem nil_list : (⟨#[]⟩ : ByteArray).toList = [] := by
  first | rfl | kernel_rfl | decide | simp
theorem bldS_map (P : ByteArray → Bool) (Q : Txt → Bool) (h : ∀ x, P x = Q (tx x)) : ∀ (M : List ByteArray) (o : Option ByteArray), (bldS P o M).map toSp = Sp.bld Q (o.map tx) (M.map tx)
  | [], none => rfl
  | [], some f => by
    have : tx (⟨#[]⟩ : ByteArray) = .nil := (tx_nil _).2 nil_list
    simp [bldS, tailS, Sp.bld, toSp, this]
  | m :: M, none => by
    simp only [bldS, Sp.bld, Option.map_none, List.map_cons, h]
    split
    · exact bldS_map P Q h M (some m)
    · exact bldS_map P Q h M none
  | m :: M, some f => by
    simp only [bldS, Sp.bld, Option.map_some, List.map_cons, h]
    split
    · exact bldS_map P Q h M (some f)
    · rw [List.map_cons, bldS_map P Q h M none]
      rfl
section
variable (a b : List S34) (w : Int) (m : List ByteArray)
theorem set_j3 (out : List S34) (op : Bool) (i : Int) (is : Bool) {r : List S34} (h : Ev (fun k => folkmootref03_set.j4 k a b w m out op i is (is && !op)) r) : Ev (fun k => folkmootref03_set.j3 k a b w m out op i is) r := by
  cases is with
  | true => exact Ev.step (fun k => by simp only [folkmootref03_set.j3, if_true] <;> rfl) h
  | false => exact Ev.step (fun k => by simp only [folkmootref03_set.j3, Bool.false_eq_true, if_false] <;> rfl) h
theorem set_j2 (out : List S34) (op : Bool) (i : Int) (X Y Z is : Bool) (h2 : w = 2 → is = (X && !Y)) (h1 : w ≠ 2 → is = Z) {r : List S34} (h : Ev (fun k => folkmootref03_set.j3 k a b w m out op i is) r) : Ev (fun k => folkmootref03_set.j2 k a b w m out op i X Y Z) r := by
  by_cases c : w = 2
  · obtain rfl := h2 c
    cases X with
    | true => exact Ev.step (fun k => by simp only [folkmootref03_set.j2, if_pos c, if_true] <;> rfl) h
    | false => exact Ev.step (fun k => by simp only [folkmootref03_set.j2, if_pos c, Bool.false_eq_true, if_false] <;> rfl) h
  · obtain rfl := h1 c
    exact Ev.step (fun k => by simp only [folkmootref03_set.j2, if_neg c] <;> rfl) h
theorem set_j1 (out : List S34) (op : Bool) (i : Int) (X Y : Bool) {r : List S34} (h : Ev (fun k => folkmootref03_set.j4 k a b w m out op i (opW w X Y) (opW w X Y && !op)) r) : Ev (fun k => folkmootref03_set.j1 k a b w m out op i X Y (X || Y)) r := by
  have h3 := set_j3 a b w m out op i _ h
  by_cases c : w = 1
  · have h2 := set_j2 a b w m out op i X Y (X && Y) (opW w X Y) (fun e => by unfold opW; rw [if_pos e]) (fun e => by unfold opW; rw [if_neg e, if_pos c]) h3
    cases X with
    | true => exact Ev.step (fun k => by simp only [folkmootref03_set.j1, if_pos c, if_true] <;> rfl) (by simpa only [Bool.true_and] using h2)
    | false => exact Ev.step (fun k => by simp only [folkmootref03_set.j1, if_pos c, Bool.false_eq_true, if_false] <;> rfl) (by simpa only [Bool.false_and] using h2)
  · have h2 := set_j2 a b w m out op i X Y (X || Y) (opW w X Y) (fun e => by unfold opW; rw [if_pos e]) (fun e => by unfold opW; rw [if_neg e, if_neg c]) h3
    exact Ev.step (fun k => by simp only [folkmootref03_set.j1, if_neg c] <;> rfl) h2
theorem set_l0 (ha : a.length ≤ 9223372036854775806) (hb : b.length ≤ 9223372036854775806) (hm : m.length < 4398046511104) : ∀ (d i : Nat) (D : List S34) (o : Option ByteArray), i ≤ m.length → m.length - i = d → (D ++ tailS o).length ≤ i →
    Ev (fun k => folkmootref03_set.l0 k a b w m (D ++ tailS o) o.isSome (i : Int)) (D ++ bldS (fun x => opW w (a.any (inSp x)) (b.any (inSp x))) o (m.drop i)) := by
  intro d
  induction d with
  | zero =>
    intro i D o hi hd hD
    have h1 : ¬ (i : Int) < (m.length : Int) := by omega
    rw [List.drop_eq_nil_of_le (by omega)]
    exact Ev.step (fun k => by simp only [folkmootref03_set.l0, if_neg h1]; rfl) (Ev.eq (Ev.val _) (by cases o <;> rfl))
  | succ d ih =>
    intro i D o hi hd hD
    have h1 : (i : Int) < (m.length : Int) := by omega
    have h0 : (0 : Int) ≤ (i : Int) := by omega
    have him : i < m.length := by omega
    have hw : wrap64 ((i : Int) + 1) = ((i + 1 : Nat) : Int) := by rw [wrap_in] <;> omega
    have hrd : rdOf ByteArray.empty m (i : Int) = m[i] := by simp [rdOf, List.getD_eq_getElem?_getD, him]
    rw [List.drop_eq_getElem_cons him]
    have hx : Ev (fun k => folkmootref03_set.j4 k a b w m (D ++ tailS o) o.isSome (i : Int) (opW w (a.any (inSp m[i])) (b.any (inSp m[i]))) (opW w (a.any (inSp m[i])) (b.any (inSp m[i])) && !o.isSome)) (D ++ bldS (fun x => opW w (a.any (inSp x)) (b.any (inSp x))) o (m[i] :: m.drop (i + 1))) := by
      have hsz : (D ++ tailS o).length < 4398046511104 := by omega
      cases o with
      | none =>
        cases c : opW w (a.any (inSp m[i])) (b.any (inSp m[i])) with
        | true =>
          have hsz' : D.length < 4398046511104 := by simp [tailS] at hsz; omega
          refine Ev.step (f := fun k => folkmootref03_set.l0 k a b w m (D ++ tailS (some m[i])) true ((i + 1 : Nat) : Int)) (fun k => ?_) (Ev.eq (ih (i + 1) D (some m[i]) (by omega) (by omega) (by simp [tailS] at hD ⊢; omega)) (by simp only [bldS, c, if_true]))
          simp only [folkmootref03_set.j4, Option.isSome_none, Bool.not_false, Bool.and_self, if_true, if_pos h0, if_pos h1, if_pos hsz', Option.bind_some, hrd, hw, tailS, List.append_nil]
        | false =>
          refine Ev.step (f := fun k => folkmootref03_set.l0 k a b w m (D ++ tailS none) false ((i + 1 : Nat) : Int)) (fun k => ?_) (Ev.eq (ih (i + 1) D none (by omega) (by omega) (by omega)) (by simp only [bldS, c, Bool.false_eq_true, if_false]))
          simp only [folkmootref03_set.j4, Option.isSome_none, Bool.false_and, Bool.false_eq_true, if_false, hw]
      | some f =>
        cases c : opW w (a.any (inSp m[i])) (b.any (inSp m[i])) with
        | true =>
          refine Ev.step (f := fun k => folkmootref03_set.l0 k a b w m (D ++ tailS (some f)) true ((i + 1 : Nat) : Int)) (fun k => ?_) (Ev.eq (ih (i + 1) D (some f) (by omega) (by omega) (by omega)) (by simp only [bldS, c, if_true]))
          simp only [folkmootref03_set.j4, Option.isSome_some, Bool.not_true, Bool.and_false, Bool.false_eq_true, if_false, if_true, hw]
        | false =>
          have hlen : (D ++ tailS (some f)).length = D.length + 1 := by simp [tailS]
          have hw2 : wrap64 (((D ++ tailS (some f)).length : Int) - 1) = (D.length : Int) := by rw [hlen, wrap_in] <;> omega
          have hd0 : (0 : Int) ≤ (D.length : Int) := by omega
          have hd1 : (D.length : Int) < ((D ++ tailS (some f)).length : Int) := by omega
          have hset : (D ++ tailS (some f)).set D.length (⟨(rd_T34 (D ++ tailS (some f)) (D.length : Int)).f0, m[i]⟩ : S34) = (D ++ [(⟨f, m[i]⟩ : S34)]) ++ tailS none := by
            rw [rd_at _ D.length (by omega)]
            simp [tailS]
          refine Ev.step (f := fun k => folkmootref03_set.l0 k a b w m ((D ++ [(⟨f, m[i]⟩ : S34)]) ++ tailS none) false ((i + 1 : Nat) : Int)) (fun k => ?_) (Ev.eq (ih (i + 1) (D ++ [(⟨f, m[i]⟩ : S34)]) none (by omega) (by omega) (by simp [tailS] at hD ⊢; omega)) (by simp only [bldS, c, Bool.false_eq_true, if_false, List.append_assoc, List.singleton_append]))
          simp only [folkmootref03_set.j4, Option.isSome_some, Bool.false_and, Bool.false_eq_true, if_false, if_true, if_pos h0, if_pos h1, hw2, if_pos hd0, if_pos hd1, Int.toNat_natCast, hset, hrd, hw]
    have hj := set_j1 a b w m (D ++ tailS o) o.isSome (i : Int) (a.any (inSp m[i])) (b.any (inSp m[i])) hx
    refine Ev.step (fun k => by simp only [folkmootref03_set.l0, if_pos h1, if_pos h0, hrd]; rfl) (Ev.bind (has_ev a m[i] ha) (Ev.bind (has_ev b m[i] hb) ?_))
    cases c : a.any (inSp m[i]) with
    | true => simp only [if_true]; rw [c] at hj; exact hj
    | false => simp only [Bool.false_eq_true, if_false]; rw [c] at hj; exact hj
end
def bk (t : Txt) : ByteArray := ⟨t.l.toArray⟩
theorem tx_bk (t : Txt) : tx (bk t) = t := by
  unfold tx bk
  rw [← toList_data]
theorem bk_tx (x : ByteArray) : bk (tx x) = x := tx_inj (tx_bk (tx x))
/-- THE REFERENCE's SET -/
theorem set_ev (a b : List S34) (w : Int) (h : a.length + b.length < 1099511627776) : ∃ s, Ev (fun k => folkmootref03_set.f k a b w) s ∧ Sp.Can (s.map toSp) ∧ ∀ k, Sp.mem (s.map toSp) (tx k) ↔ opW w (a.any (inSp k)) (b.any (inSp k)) = true := by
  have hm := marks_len (a ++ b)
  rw [List.length_append] at hm
  have hMf : folkmootref03_marks.f (a ++ b) = some (marksL (a ++ b)) := by unfold folkmootref03_marks.f; rw [if_pos (by rw [List.length_append]; exact h)]
  have key := set_l0 a b w (marksL (a ++ b)) (by omega) (by omega) (by omega) (marksL (a ++ b)).length 0 [] none (by omega) (by omega) (by simp [tailS])
  refine ⟨_, Ev.congr (fun k => ?_) key, ?_⟩
  · have h1 : (([] : List S34)).length + a.length < 4398046511104 := by simp; omega
    have h2 : (([] : List S34) ++ a).length + b.length < 4398046511104 := by simp; omega
    simp only [folkmootref03_set.f, Option.bind_some, if_pos h1, if_pos h2]
    rw [List.nil_append, hMf]
    rfl
  · rw [List.nil_append, List.drop_zero, bldS_map _ (fun t => opW w ((fun t => a.any (inSp (bk t))) t) ((fun t => b.any (inSp (bk t))) t)) (fun x => by simp only [bk_tx])]
    have h0 : opW w false false = false := by unfold opW; split <;> (try split) <;> rfl
    have hc := Sp.ref_set (marks_rise (a ++ b)) (marks_cover (a ++ b) a (fun x hx => by simp [hx])) (marks_cover (a ++ b) b (fun x hx => by simp [hx])) (opW w) h0 (fun t => a.any (inSp (bk t))) (fun t => b.any (inSp (bk t))) (fun t => by rw [any_iff, tx_bk]) (fun t => by rw [any_iff, tx_bk])
    refine ⟨hc.1, fun k => ?_⟩
    have := hc.2 (tx k)
    simp only [bk_tx] at this
    exact this
theorem can_eq {a b : List S34} (ha : Sp.Can (a.map toSp)) (hb : Sp.Can (b.map toSp)) (h : ∀ k : ByteArray, Sp.mem (a.map toSp) (tx k) ↔ Sp.mem (b.map toSp) (tx k)) : a = b :=
  map_inj (fun h => toSp_inj h) (Sp.can_unique _ _ ha hb fun k => by have := h (bk k); rwa [tx_bk] at this)
theorem any_full (l : List S34) (k : ByteArray) : (l.filter fullSp).any (inSp k) = l.any (inSp k) := by
  rw [List.any_filter]
  congr 1
  funext x
  cases c : inSp k x with
  | false => simp
  | true =>
    have h1 := (inSp_iff k x).1 c
    have : fullSp x = true := (fullSp_iff x).2 (by
      unfold Sp.full
      obtain ⟨h2, h3 | h3⟩ := h1
      · exact .inl h3
      · right
        grind)
    rw [this]
    rfl
theorem union_any (l : List S34) (k : ByteArray) : (unionL l).any (inSp k) = l.any (inSp k) := by
  rw [← any_full l]
  exact Bool.eq_iff_iff.2 (by rw [any_iff, any_iff, (union_of l).mem])
theorem union_can (l : List S34) : Sp.Can ((unionL l).map toSp) := (union_of l).can
theorem union_len (l : List S34) : (unionL l).length ≤ l.length := by
  have := (union_of l).len
  rw [List.length_map, List.length_map] at this
  have := List.length_filter_le fullSp l
  omega
theorem eq_of_any {a b : List S34} (ha : Sp.Can (a.map toSp)) (hb : Sp.Can (b.map toSp)) (h : ∀ k : ByteArray, a.any (inSp k) = b.any (inSp k)) : a = b :=
  can_eq ha hb fun k => by rw [← any_iff, ← any_iff, h k]
theorem refUnion_ev (l : List S34) (h : l.length < 1099511627776) : Ev (fun k => folkmootref03_Union.f k l) (unionL l) := by
  obtain ⟨s, h1, h2, h3⟩ := set_ev l [] 0 (by simpa using h)
  have e : s = unionL l := eq_of_any h2 (union_can l) fun k => by
    rw [union_any]
    refine Bool.eq_iff_iff.2 ?_
    rw [any_iff, h3]
    simp [opW]
  subst e
  exact Ev.bind h1 (Ev.val _)
theorem same_l0 (l : List S34) (hl : l.length ≤ 9223372036854775806) : ∀ (d i : Nat), i ≤ l.length → l.length - i = d → Ev (fun k => folkmootref03_Same.l0 k l l (i : Int)) true := by
  intro d
  induction d with
  | zero =>
    intro i hi hd
    have h1 : ¬ (i : Int) < (l.length : Int) := by omega
    exact Ev.step (fun k => by simp only [folkmootref03_Same.l0, if_neg h1] <;> rfl) (Ev.val _)
  | succ d ih =>
    intro i hi hd
    have h1 : (i : Int) < (l.length : Int) := by omega
    have h0 : (0 : Int) ≤ (i : Int) := by omega
    have hw : wrap64 ((i : Int) + 1) = ((i + 1 : Nat) : Int) := by rw [wrap_in] <;> omega
    exact Ev.step (fun k => by simp only [folkmootref03_Same.l0, if_pos h1, if_pos h0, beq_self_eq_true, Bool.not_true, Bool.or_self, Bool.false_eq_true, if_false, hw] <;> rfl) (ih (i + 1) (by omega) (by omega))
theorem same_ev (l : List S34) (hl : l.length ≤ 9223372036854775806) : Ev (fun k => folkmootref03_Same.f k l l) true :=
  Ev.congr (fun k => by simp only [folkmootref03_Same.f, if_true] <;> rfl) (same_l0 l hl l.length 0 (by omega) (by omega))
theorem refSet_ev (l : List S34) (hc : Sp.Can (l.map toSp)) (h : l.length < 1099511627776) : Ev (fun k => folkmootref03_Set.f k l) true := by
  have e : unionL l = l := eq_of_any (union_can l) hc fun k => union_any l k
  have hu := refUnion_ev l h
  rw [e] at hu
  exact Ev.bind hu (Ev.bind (same_ev l (by omega)) (Ev.val _))
end Go.Proofs.Ytjimijpkhmpilaa.P
/- Plain: what span.Cut comes to, of two sets: the set of both. -/
namespace Go.Proofs.Ytjimijpkhmpilaa.P
open Go.RowKit Go.Proofs.YtjimijpkhmpilaaW.PrintWords
set_option linter.unusedVariables false

theorem least_or (a b : ByteArray) : (tx (leastV a b) = tx a ∧ (tx b = .nil ∨ (tx a ≠ .nil ∧ tx a ≤ tx b))) ∨ (tx (leastV a b) = tx b ∧ tx b ≠ .nil ∧ (tx a = .nil ∨ tx b < tx a)) := by
  unfold leastV
  by_cases h1 : a.toList = []
  · have e1 := (tx_nil a).2 h1
    rw [if_pos h1]
    by_cases h2 : b.toList = []
    · have e2 := (tx_nil b).2 h2
      exact .inl ⟨by rw [e1, e2], .inl e2⟩
    · exact .inr ⟨rfl, fun e => h2 ((tx_nil b).1 e), .inl e1⟩
  · rw [if_neg h1]
    have e1 : tx a ≠ .nil := fun e => h1 ((tx_nil a).1 e)
    by_cases h2 : b.toList = []
    · rw [if_pos h2]
      exact .inl ⟨rfl, .inl ((tx_nil b).2 h2)⟩
    · rw [if_neg h2]
      have e2 : tx b ≠ .nil := fun e => h2 ((tx_nil b).1 e)
      by_cases h3 : Op.bytesLess b.toList a.toList = true
      · rw [if_pos h3]
        exact .inr ⟨rfl, e2, .inr h3⟩
      · rw [if_neg h3]
        exact .inl ⟨rfl, .inr ⟨e1, Bool.eq_false_iff.2 h3⟩⟩
theorem mxs_or (a b : ByteArray) : (tx (mxs a b) = tx a ∧ tx b ≤ tx a) ∨ (tx (mxs a b) = tx b ∧ tx a ≤ tx b) := by
  unfold mxs
  split
  · rename_i h
    exact .inr ⟨rfl, bytesLess_asymm h⟩
  · rename_i h
    exact .inl ⟨rfl, Bool.eq_false_iff.2 h⟩
theorem both_in (s t : S34) (k : Txt) : Sp.inn k (toSp (bothV s t)) ↔ Sp.inn k (toSp s) ∧ Sp.inn k (toSp t) := by
  have h1 := least_or s.f1 t.f1
  have h2 := mxs_or s.f0 t.f0
  unfold Sp.inn toSp bothV
  dsimp only
  grind
theorem in_full {k : Txt} {s : Sp} (h : Sp.inn k s) : Sp.full s := by
  unfold Sp.inn at h
  unfold Sp.full
  grind
theorem cut_spec : ∀ (n : Nat) (a b : List S34), a.length + b.length ≤ n → Sp.Can (a.map toSp) → Sp.Can (b.map toSp) → Sp.Can ((cutN n a b).map toSp) ∧ ∀ k : Txt, Sp.mem ((cutN n a b).map toSp) k ↔ Sp.mem (a.map toSp) k ∧ Sp.mem (b.map toSp) k
  | n, [], b, _, _, _ => by
    rw [cutN_nil]
    exact ⟨Sp.can_nil, fun k => by simp [Sp.mem_nil]⟩
  | n, s :: a, [], _, _, _ => by
    rw [cutN_nil2]
    exact ⟨Sp.can_nil, fun k => by simp [Sp.mem_nil]⟩
  | 0, s :: a, t :: b, h, _, _ => by simp at h
  | n + 1, s :: a, t :: b, h, ha, hb => by
    simp only [List.length_cons] at h
    rw [List.map_cons] at ha hb
    have hL := least_or s.f1 t.f1
    have hbi := both_in s t
    have hbt : (toSp (bothV s t)).t = tx (leastV s.f1 t.f1) := rfl
    have hst : (toSp s).t = tx s.f1 := rfl
    have htt : (toSp t).t = tx t.f1 := rfl
    -- what is behind
    obtain ⟨hc, hm, hg⟩ : Sp.Can ((if (bothV s t).f1.toList = s.f1.toList then cutN n a (t :: b) else cutN n (s :: a) b).map toSp) ∧
        (∀ k, (Sp.mem (toSp s :: a.map toSp) k ∧ Sp.mem (toSp t :: b.map toSp) k) ↔ Sp.inn k (toSp (bothV s t)) ∨ Sp.mem ((if (bothV s t).f1.toList = s.f1.toList then cutN n a (t :: b) else cutN n (s :: a) b).map toSp) k) ∧
        (∀ k, Sp.mem ((if (bothV s t).f1.toList = s.f1.toList then cutN n a (t :: b) else cutN n (s :: a) b).map toSp) k → (toSp (bothV s t)).t ≠ .nil ∧ (toSp (bothV s t)).t < k) := by
      by_cases c : (bothV s t).f1.toList = s.f1.toList
      · have c' : tx (leastV s.f1 t.f1) = tx s.f1 := by unfold tx; exact congrArg Txt.mk c
        simp only [if_pos c]
        obtain ⟨h1, h2⟩ := cut_spec n a (t :: b) (by simp only [List.length_cons]; omega) ha.tail (by rw [List.map_cons]; exact hb)
        rw [List.map_cons] at h2
        refine ⟨h1, fun k => ?_, fun k hk => ?_⟩
        · rw [h2, hbi, Sp.mem_cons, Sp.mem_cons]
          have hb1 := fun h => hb.behind (k := k) h
          rw [htt] at hb1
          unfold Sp.inn
          rw [hst, htt]
          grind
        · have := ha.behind ((h2 k).1 hk).1
          rw [hbt, c']
          exact this
      · have c' : tx (leastV s.f1 t.f1) ≠ tx s.f1 := fun e => c (congrArg Txt.l e)
        simp only [if_neg c]
        obtain ⟨h1, h2⟩ := cut_spec n (s :: a) b (by simp only [List.length_cons]; omega) (by rw [List.map_cons]; exact ha) hb.tail
        rw [List.map_cons] at h2
        have hL2 : tx (leastV s.f1 t.f1) = tx t.f1 ∧ tx t.f1 ≠ .nil ∧ (tx s.f1 = .nil ∨ tx t.f1 < tx s.f1) := by
          rcases hL with h | h
          · exact absurd h.1 c'
          · exact h
        refine ⟨h1, fun k => ?_, fun k hk => ?_⟩
        · rw [h2, hbi, Sp.mem_cons, Sp.mem_cons]
          have ha1 := fun h => ha.behind (k := k) h
          rw [hst] at ha1
          unfold Sp.inn
          rw [hst, htt]
          grind
        · have := hb.behind ((h2 k).1 hk).2
          rw [hbt, hL2.1]
          exact this
    unfold cutN
    generalize (if (bothV s t).f1.toList = s.f1.toList then cutN n a (t :: b) else cutN n (s :: a) b) = R at *
    by_cases cf : fullSp (bothV s t) = true
    · rw [if_pos cf, List.singleton_append, List.map_cons]
      refine ⟨Sp.can_cons ((fullSp_iff _).1 cf) hc (fun x hx => ?_), fun k => ?_⟩
      · exact hg x.f ⟨x, hx, Sp.full_in (hc.1 x hx)⟩
      · rw [Sp.mem_cons, List.map_cons, List.map_cons, hm]
    · rw [if_neg cf, List.nil_append]
      refine ⟨hc, fun k => ?_⟩
      rw [List.map_cons, List.map_cons, hm]
      constructor
      · exact .inr
      · rintro (h | h)
        · exact absurd ((fullSp_iff _).2 (in_full h)) cf
        · exact h
end Go.Proofs.Ytjimijpkhmpilaa.P
/- Plain: what span.Less comes to, of two sets: the set of what is in the first alone. -/
namespace Go.Proofs.Ytjimijpkhmpilaa.P
open Go.RowKit Go.Proofs.YtjimijpkhmpilaaW.PrintWords
set_option linter.unusedVariables false

def beforeB (e k : ByteArray) : Bool := if e.toList = [] then false else !(Op.bytesLess k.toList e.toList)
def leftB (t r : ByteArray) : Bool := if t.toList = [] then false else if r.toList = [] then true else Op.bytesLess t.toList r.toList
theorem before_iff (e k : ByteArray) : beforeB e k = true ↔ tx e ≠ .nil ∧ tx e ≤ tx k := by
  unfold beforeB
  by_cases h : e.toList = []
  · rw [if_pos h]
    have := (tx_nil e).2 h
    grind
  · rw [if_neg h]
    have h1 : tx e ≠ .nil := fun x => h ((tx_nil e).1 x)
    rw [Bool.not_eq_true']
    exact ⟨fun h => ⟨h1, h⟩, fun h => h.2⟩
theorem left_iff (t r : ByteArray) : leftB t r = true ↔ tx t ≠ .nil ∧ (tx r = .nil ∨ tx t < tx r) := by
  unfold leftB
  by_cases h : t.toList = []
  · rw [if_pos h]
    have := (tx_nil t).2 h
    grind
  · rw [if_neg h]
    have h1 : tx t ≠ .nil := fun x => h ((tx_nil t).1 x)
    by_cases h2 : r.toList = []
    · rw [if_pos h2]
      have := (tx_nil r).2 h2
      grind
    · rw [if_neg h2]
      have h3 : tx r ≠ .nil := fun x => h2 ((tx_nil r).1 x)
      exact ⟨fun h => ⟨h1, .inr h⟩, fun h => h.2.resolve_left h3⟩
def lessOne (rt : ByteArray) : ByteArray → List S34 → List S34
  | rf, [] => [⟨rf, rt⟩]
  | rf, t :: b => if beforeB t.f1 rf = true then lessOne rt rf b else if beforeB rt t.f0 = true then [⟨rf, rt⟩] else
      (if Op.bytesLess rf.toList t.f0.toList = true then [⟨rf, t.f0⟩] else []) ++ (if leftB t.f1 rt = true then lessOne rt t.f1 b else [])
def lessAll (a b : List S34) : List S34 := a.flatMap fun s => lessOne s.f1 s.f0 b
theorem can_append {A B : List Sp} (hA : Sp.Can A) (hB : Sp.Can B) (h : ∀ x ∈ A, ∀ y ∈ B, Sp.gap x y) : Sp.Can (A ++ B) :=
  ⟨fun x hx => by rcases List.mem_append.1 hx with hx | hx; exact hA.1 x hx; exact hB.1 x hx, List.pairwise_append.2 ⟨hA.2, hB.2, h⟩⟩
theorem one_spec (rt : ByteArray) : ∀ (b : List S34) (rf : ByteArray), Sp.full ⟨tx rf, tx rt⟩ → Sp.Can (b.map toSp) → Sp.Can ((lessOne rt rf b).map toSp) ∧ ∀ k : Txt, Sp.mem ((lessOne rt rf b).map toSp) k ↔ Sp.inn k ⟨tx rf, tx rt⟩ ∧ ¬ Sp.mem (b.map toSp) k
  | [], rf, hf, _ => ⟨Sp.can_cons hf Sp.can_nil (fun _ h => by cases h), fun k => by simp [lessOne, Sp.mem_cons, Sp.mem_nil, toSp]⟩
  | t :: b, rf, hf, hb => by
    rw [List.map_cons] at hb
    have hbe := fun k h => hb.behind (k := k) h
    have hge := fun k h => hb.ge (k := k) h
    have htf := hb.head
    have e1 : (toSp t).f = tx t.f0 := rfl
    have e2 : (toSp t).t = tx t.f1 := rfl
    rw [e2] at hbe
    rw [e1] at hge
    unfold Sp.full at hf htf
    rw [e1, e2] at htf
    dsimp only at hf
    unfold lessOne
    by_cases c1 : beforeB t.f1 rf = true
    · rw [if_pos c1]
      obtain ⟨h1, h2⟩ := one_spec rt b rf hf hb.tail
      refine ⟨h1, fun k => ?_⟩
      have := (before_iff _ _).1 c1
      rw [h2, List.map_cons, Sp.mem_cons]
      unfold Sp.inn
      rw [e1, e2]
      dsimp only
      grind
    · rw [if_neg c1]
      by_cases c2 : beforeB rt t.f0 = true
      · rw [if_pos c2]
        have h3 := (before_iff _ _).1 c2
        refine ⟨Sp.can_cons hf Sp.can_nil (fun _ h => by cases h), fun k => ?_⟩
        rw [List.map_cons, List.map_cons, Sp.mem_cons, List.map_nil]
        have hg := hge k
        have hn := Sp.mem_nil k
        have e3 : toSp (⟨rf, rt⟩ : S34) = ⟨tx rf, tx rt⟩ := rfl
        rw [e3]
        unfold Sp.inn
        dsimp only
        grind
      · rw [if_neg c2]
        have n1 := fun h => c1 ((before_iff _ _).2 h)
        have n2 := fun h => c2 ((before_iff _ _).2 h)
        have hR : Sp.Can ((if leftB t.f1 rt = true then lessOne rt t.f1 b else []).map toSp) ∧ ∀ k, Sp.mem ((if leftB t.f1 rt = true then lessOne rt t.f1 b else []).map toSp) k ↔ leftB t.f1 rt = true ∧ Sp.inn k ⟨tx t.f1, tx rt⟩ ∧ ¬ Sp.mem (b.map toSp) k := by
          by_cases c3 : leftB t.f1 rt = true
          · have h4 := (left_iff _ _).1 c3
            obtain ⟨h1, h2⟩ := one_spec rt b t.f1 h4.2 hb.tail
            rw [if_pos c3]
            exact ⟨h1, fun k => by rw [h2]; simp [c3]⟩
          · rw [if_neg c3]
            exact ⟨Sp.can_nil, fun k => by simp [Sp.mem_nil, c3]⟩
        generalize (if leftB t.f1 rt = true then lessOne rt t.f1 b else []) = R at *
        obtain ⟨hRc, hRm⟩ := hR
        have hlf := left_iff t.f1 rt
        have hmem : ∀ k, (Sp.inn k ⟨tx rf, tx rt⟩ ∧ ¬ Sp.mem (toSp t :: b.map toSp) k) ↔ (tx rf < tx t.f0 ∧ Sp.inn k ⟨tx rf, tx t.f0⟩) ∨ Sp.mem (R.map toSp) k := by
          intro k
          have hbk := hbe k
          have hnn : tx rf < tx t.f0 → tx t.f0 ≠ .nil := Sp.not_nil
          rw [hRm, hlf, Sp.mem_cons]
          unfold Sp.inn
          rw [e1, e2]
          dsimp only
          grind
        by_cases c4 : Op.bytesLess rf.toList t.f0.toList = true
        · have c4' : tx rf < tx t.f0 := c4
          rw [if_pos c4, List.singleton_append, List.map_cons]
          have e3 : toSp (⟨rf, t.f0⟩ : S34) = ⟨tx rf, tx t.f0⟩ := rfl
          rw [e3]
          refine ⟨Sp.can_cons (.inr c4') hRc (fun x hx => ?_), fun k => ?_⟩
          · have h5 := (hRm x.f).1 ⟨x, hx, Sp.full_in (hRc.1 x hx)⟩
            have h6 := h5.2.1.1
            have h7 := (hlf.1 h5.1).1
            refine ⟨Sp.not_nil c4', ?_⟩
            dsimp only at h6 ⊢
            grind
          · rw [Sp.mem_cons, List.map_cons, hmem]
            grind
        · have c4' : ¬ tx rf < tx t.f0 := c4
          rw [if_neg c4, List.nil_append]
          refine ⟨hRc, fun k => ?_⟩
          rw [List.map_cons, hmem]
          grind
theorem all_spec (b : List S34) (hb : Sp.Can (b.map toSp)) : ∀ a : List S34, Sp.Can (a.map toSp) → Sp.Can ((lessAll a b).map toSp) ∧ ∀ k : Txt, Sp.mem ((lessAll a b).map toSp) k ↔ Sp.mem (a.map toSp) k ∧ ¬ Sp.mem (b.map toSp) k
  | [], _ => ⟨Sp.can_nil, fun k => by simp [lessAll, Sp.mem_nil]⟩
  | s :: a, ha => by
    rw [List.map_cons] at ha
    obtain ⟨h1, h2⟩ := all_spec b hb a ha.tail
    obtain ⟨h3, h4⟩ := one_spec s.f1 b s.f0 ha.head hb
    have e : lessAll (s :: a) b = lessOne s.f1 s.f0 b ++ lessAll a b := by simp [lessAll]
    rw [e, List.map_append]
    refine ⟨can_append h3 h1 (fun x hx y hy => ?_), fun k => ?_⟩
    · obtain ⟨h5, h6⟩ := ha.behind ((h2 y.f).1 ⟨y, hy, Sp.full_in (h1.1 y hy)⟩).1
      have h7 := ((h4 x.f).1 ⟨x, hx, Sp.full_in (h3.1 x hx)⟩).1
      have h8 : ¬ Sp.inn (tx s.f1) x := fun hi => by
        have h9 := ((h4 _).1 ⟨x, hx, hi⟩).1
        unfold Sp.inn at h9
        have e2 : (toSp s).t = tx s.f1 := rfl
        rw [e2] at h5
        dsimp only at h9
        grind
      have e2 : (toSp s).t = tx s.f1 := rfl
      rw [e2] at h5 h6
      unfold Sp.inn at h7 h8
      dsimp only at h7
      unfold Sp.gap
      grind
    · rw [Sp.mem_append, h2, h4, List.map_cons, Sp.mem_cons]
      have e2 : toSp s = ⟨tx s.f0, tx s.f1⟩ := rfl
      rw [e2]
      grind
theorem one_len (rt : ByteArray) : ∀ (b : List S34) (rf : ByteArray), (lessOne rt rf b).length ≤ b.length + 1
  | [], rf => by simp [lessOne]
  | t :: b, rf => by
    have h1 := one_len rt b rf
    have h2 := one_len rt b t.f1
    unfold lessOne
    rw [List.length_cons]
    split
    · omega
    · split
      · simp
      · rw [List.length_append]
        split <;> split <;> simp <;> omega
theorem all_len (a b : List S34) : (lessAll a b).length ≤ a.length * (b.length + 1) := by
  induction a with
  | nil => simp [lessAll]
  | cons s a ih =>
    have h1 := one_len s.f1 b s.f0
    have e : lessAll (s :: a) b = lessOne s.f1 s.f0 b ++ lessAll a b := by simp [lessAll]
    rw [e, List.length_append, List.length_cons, Nat.add_mul, Nat.one_mul]
    omega
theorem cut_len : ∀ (n : Nat) (a b : List S34), (cutN n a b).length ≤ n
  | n, [], b => by rw [cutN_nil]; exact Nat.zero_le _
  | n, s :: a, [] => by rw [cutN_nil2]; exact Nat.zero_le _
  | 0, s :: a, t :: b => by simp [cutN]
  | n + 1, s :: a, t :: b => by
    have h1 := cut_len n a (t :: b)
    have h2 := cut_len n (s :: a) b
    unfold cutN
    rw [List.length_append]
    split <;> split <;> simp <;> omega
end Go.Proofs.Ytjimijpkhmpilaa.P
/- Plain: span.Less, as printed, comes to lessAll. -/
namespace Go.Proofs.Ytjimijpkhmpilaa.P
open Go.RowKit Go.Proofs.YtjimijpkhmpilaaW.PrintWords
set_option linter.unusedVariables false

theorem before_f (e k : ByteArray) : span_end_before.f e k = some (beforeB e k) := by
  unfold span_end_before.f beforeB
  split <;> rfl
theorem left_br {α : Type} (g : Bool → α) (t r : ByteArray) : (if t.toList = ([] : List UInt8) then g false else (if r.toList = ([] : List UInt8) then g true else g (Op.bytesLess t.toList r.toList))) = g (leftB t r) := by
  unfold leftB
  split
  · rfl
  · split <;> rfl
theorem rd_out (l : List S34) (x y : List S34) (h : x = y) : l ++ x = l ++ y := by rw [h]
section
variable (a b : List S34)
theorem less_l1 (hb : b.length ≤ 1000) (i : Nat) (hi : i < 1000) (rt : ByteArray)
    (hnext : ∀ out : List S34, out.length ≤ (i + 1) * 1001 → Ev (fun k => span_Less.l0 k b out a (a.length : Int) ((i + 1 : Nat) : Int)) (out ++ lessAll (a.drop (i + 1)) b)) :
    ∀ (d j : Nat) (out : List S34) (rf : ByteArray), j ≤ b.length → b.length - j = d → out.length ≤ i * 1001 + j →
      Ev (fun k => span_Less.l1 k b out false a (a.length : Int) (i : Int) b (b.length : Int) (j : Int) rf rt) (out ++ lessAll (a.drop (i + 1)) b) ∧
      Ev (fun k => span_Less.l1 k b out true a (a.length : Int) (i : Int) b (b.length : Int) (j : Int) rf rt) (out ++ (lessOne rt rf (b.drop j) ++ lessAll (a.drop (i + 1)) b)) := by
  have hwi : wrap64 ((i : Int) + 1) = ((i + 1 : Nat) : Int) := by rw [wrap_in] <;> omega
  intro d
  induction d with
  | zero =>
    intro j out rf hj hd ho
    have h1 : ¬ (j : Int) < (b.length : Int) := by omega
    have hl : out.length < 4398046511104 := by omega
    refine ⟨Ev.step (fun k => by simp only [span_Less.l1, if_neg h1, Bool.false_eq_true, if_false, hwi] <;> rfl) (hnext out (by omega)), ?_⟩
    rw [List.drop_eq_nil_of_le (by omega)]
    exact Ev.step (fun k => by simp only [span_Less.l1, if_neg h1, if_true, if_pos hl, hwi] <;> rfl) (Ev.eq (hnext (out ++ [⟨rf, rt⟩]) (by simp; omega)) (by simp [lessOne]))
  | succ d ih =>
    intro j out rf hj hd ho
    have h1 : (j : Int) < (b.length : Int) := by omega
    have h0 : (0 : Int) ≤ (j : Int) := by omega
    have hjl : j < b.length := by omega
    have hw : wrap64 ((j : Int) + 1) = ((j + 1 : Nat) : Int) := by rw [wrap_in] <;> omega
    have hl : out.length < 4398046511104 := by omega
    obtain ⟨ihF, ihT⟩ := ih (j + 1) out rf (by omega) (by omega) (by omega)
    constructor
    · exact Ev.step (fun k => by simp only [span_Less.l1, if_pos h1, if_pos h0, Bool.false_eq_true, if_false] <;> rfl)
        (Ev.step (fun k => by simp only [span_Less.j2, if_true, hw] <;> rfl) ihF)
    · rw [List.drop_eq_getElem_cons hjl]
      refine Ev.step (fun k => by simp only [span_Less.l1, if_pos h1, if_pos h0, if_true, rd_at b j hjl, before_f, Option.bind_some] <;> rfl) ?_
      generalize b[j] = t
      unfold lessOne
      cases c1 : beforeB t.f1 rf with
      | true =>
        simp only [if_true]
        exact Ev.step (fun k => by simp only [span_Less.j2, if_true, hw] <;> rfl) ihT
      | false =>
        simp only [Bool.false_eq_true, if_false]
        cases c2 : beforeB rt t.f0 with
        | true =>
          simp only [if_true]
          exact Ev.step (fun k => by simp only [span_Less.j2, Bool.false_eq_true, if_false, before_f, c2, Option.bind_some, if_true, if_pos hl, hwi] <;> rfl) (Ev.eq (hnext (out ++ [⟨rf, rt⟩]) (by simp; omega)) (by simp))
        | false =>
          simp only [Bool.false_eq_true, if_false]
          have hend : ∀ out' : List S34, out'.length ≤ i * 1001 + (j + 1) → Ev (fun k => span_Less.l1 k b out' (leftB t.f1 rt) a (a.length : Int) (i : Int) b (b.length : Int) ((j + 1 : Nat) : Int) t.f1 rt) (out' ++ ((if leftB t.f1 rt = true then lessOne rt t.f1 (b.drop (j + 1)) else []) ++ lessAll (a.drop (i + 1)) b)) := by
            intro out' h'
            obtain ⟨f1, f2⟩ := ih (j + 1) out' t.f1 (by omega) (by omega) (by omega)
            cases leftB t.f1 rt with
            | true => simpa using f2
            | false => simpa using f1
          cases c4 : Op.bytesLess rf.toList t.f0.toList with
          | true =>
            refine Ev.step (fun k => ?_) (Ev.eq (hend (out ++ [⟨rf, t.f0⟩]) (by simp; omega)) (by simp))
            simp only [span_Less.j2, Bool.false_eq_true, if_false, before_f, c2, Option.bind_some, c4, if_true, if_pos hl, hw]
            exact left_br (fun v => span_Less.l1 k b (out ++ [⟨rf, t.f0⟩]) v a (a.length : Int) (i : Int) b (b.length : Int) ((j + 1 : Nat) : Int) t.f1 rt) _ _
          | false =>
            refine Ev.step (fun k => ?_) (Ev.eq (hend out (by omega)) (by simp))
            simp only [span_Less.j2, Bool.false_eq_true, if_false, before_f, c2, Option.bind_some, c4, hw]
            exact left_br (fun v => span_Less.l1 k b out v a (a.length : Int) (i : Int) b (b.length : Int) ((j + 1 : Nat) : Int) t.f1 rt) _ _
theorem less_l0 (ha : a.length ≤ 1000) (hb : b.length ≤ 1000) : ∀ (d i : Nat) (out : List S34), i ≤ a.length → a.length - i = d → out.length ≤ i * 1001 → Ev (fun k => span_Less.l0 k b out a (a.length : Int) (i : Int)) (out ++ lessAll (a.drop i) b) := by
  intro d
  induction d with
  | zero =>
    intro i out hi hd ho
    have h1 : ¬ (i : Int) < (a.length : Int) := by omega
    rw [List.drop_eq_nil_of_le (by omega)]
    exact Ev.step (fun k => by simp only [span_Less.l0, if_neg h1] <;> rfl) (Ev.eq (Ev.val out) (by simp [lessAll]))
  | succ d ih =>
    intro i out hi hd ho
    have h1 : (i : Int) < (a.length : Int) := by omega
    have h0 : (0 : Int) ≤ (i : Int) := by omega
    have hil : i < a.length := by omega
    have e : lessAll (a.drop i) b = lessOne a[i].f1 a[i].f0 (b.drop 0) ++ lessAll (a.drop (i + 1)) b := by
      rw [List.drop_eq_getElem_cons hil, List.drop_zero]
      simp only [lessAll, List.flatMap_cons]
    rw [e]
    have h2 := (less_l1 a b hb i (by omega) a[i].f1 (fun out' h' => ih (i + 1) out' (by omega) (by omega) h') b.length 0 out a[i].f0 (Nat.zero_le _) (Nat.sub_zero _) (Nat.le_trans ho (Nat.le_add_right _ _))).2
    refine Ev.step (fun k => ?_) h2
    simp only [span_Less.l0, if_pos h1, if_pos h0, rd_at a i hil]
    rfl
theorem less_ev (ha : a.length ≤ 1000) (hb : b.length ≤ 1000) : Ev (fun k => span_Less.f k a b) (lessAll a b) := less_l0 a b ha hb a.length 0 [] (by omega) (by omega) (by simp)
end
end Go.Proofs.Ytjimijpkhmpilaa.P
