/- Texts of the proofs of SpanAway, SpanEach, SpanOrder, SpanPoints, SpanSets, merged (Pxfmlaw03live, PLive, PRefS). -/
import Derived.Test.YtjimijpkhmpilaaGa0d5d060
import Derived.Test.YtjimijpkhmpilaaGdf599b72
import Derived.Test.YtjimijpkhmpilaaG9a93296c
import Derived.Test.YtjimijpkhmpilaaG4db347a2
import Derived.Test.YtjimijpkhmpilaaGac77b561
import Derived.Test.YtjimijpkhmpilaaG02e6d2f7
import Derived.Test.YtjimijpkhmpilaaG2a678e12
-- printed by a program of this session (wip/hp.py over the kit's print)
namespace Go.Proofs.Ytjimijpkhmpilaa.P
open Go.RowKit Go.Proofs.YtjimijpkhmpilaaW.PrintWords Go.Proofs.YtjimijpkhmpilaaW.PrintLast Go.Proofs.YtjimijpkhmpilaaW.PrintMore
attribute [local go_sem] str_leq str_gtr str_geq max2_str max2_int min2_int max_two min_two max_three min_three max_four min_four   -- for this text's walks alone
set_option linter.unusedVariables false
set_option linter.unusedSimpArgs false

/-! ### folkmootlaw03_live: function 11 -/
def folkmootlaw03_live.f (k : Nat)  : Option (Bool) := (span_Union.f (([(⟨(⟨#[97]⟩ : ByteArray), (⟨#[99]⟩ : ByteArray)⟩ : S34), (⟨(⟨#[98]⟩ : ByteArray), (⟨#[100]⟩ : ByteArray)⟩ : S34), (⟨(⟨#[100]⟩ : ByteArray), (⟨#[101]⟩ : ByteArray)⟩ : S34)] : List (S34)))).bind fun t129 => ((span_Point.f (⟨#[98]⟩ : ByteArray)).bind fun bt132 => ((span_Less.f k t129 (([(⟨bt132.1, bt132.2⟩ : S34)] : List (S34)))).bind fun t137 => ((folkmootref03_Same.f k t129 (([(⟨(⟨#[97]⟩ : ByteArray), (⟨#[101]⟩ : ByteArray)⟩ : S34)] : List (S34)))).bind fun t143 => (if t143 = true then ((folkmootref03_Same.f k t137 (([(⟨(⟨#[97]⟩ : ByteArray), (⟨#[98]⟩ : ByteArray)⟩ : S34), (⟨(⟨#[98, 0]⟩ : ByteArray), (⟨#[101]⟩ : ByteArray)⟩ : S34)] : List (S34)))).bind fun t147 => (if t147 = true then ((span_Has.f t129 (⟨#[98]⟩ : ByteArray)).bind fun t148 => (if t148 = true then ((span_Has.f t137 (⟨#[98]⟩ : ByteArray)).bind fun t149 => (if t149 = true then (some false) else ((span_Key.f (⟨#[]⟩ : ByteArray)).bind fun t150 => ((folkmootlaw03_num.f t150).bind fun t151 => (if t151 = 30 then ((span_Meet.f t129 t137).bind fun t152 => (some t152)) else (some false)))))) else (some false))) else (some false))) else (some false)))))
theorem folkmootlaw03_live.mono : ∀ k, LeO (folkmootlaw03_live.f k ) (folkmootlaw03_live.f (k + 1) ) := by
  intro  k
  unfold folkmootlaw03_live.f
  repeat' first
      | (with_reducible exact folkmootref03_Same.mono _ _ _)
      | (with_reducible exact span_Less.mono _ _ _)
      | (with_reducible exact LeO.refl _)
      | (with_reducible exact LeO.none _)
      | (with_reducible refine LeO.ite ?_ ?_)
      | (with_reducible refine LeO.bind ?_ (fun _ => ?_))
      | exact folkmootref03_Same.mono _ _ _
      | exact span_Less.mono _ _ _
      | exact LeO.none _
      | refine LeO.ite ?_ ?_
      | refine LeO.bind ?_ (fun _ => ?_)
set_option maxHeartbeats 8000000 in
set_option maxRecDepth 100000 in
theorem folkmootlaw03_live.calls (k : Nat)  (r : Bool) (w : World) (h : folkmootlaw03_live.f k  = some r) :
    Calls Try.prog 11 #[] w fun e w' => e = .returned (.bool r) ∧ Below w.heap.size w w' := by
  have hu34 := Try.underlying34
  have HB := Aside0.mk (Below.refl w.heap.size w)
  have H : ((span_Union.f (([(⟨(⟨#[97]⟩ : ByteArray), (⟨#[99]⟩ : ByteArray)⟩ : S34), (⟨(⟨#[98]⟩ : ByteArray), (⟨#[100]⟩ : ByteArray)⟩ : S34), (⟨(⟨#[100]⟩ : ByteArray), (⟨#[101]⟩ : ByteArray)⟩ : S34)] : List (S34)))).bind fun t129 => ((span_Point.f (⟨#[98]⟩ : ByteArray)).bind fun bt132 => ((span_Less.f k t129 (([(⟨bt132.1, bt132.2⟩ : S34)] : List (S34)))).bind fun t137 => ((folkmootref03_Same.f k t129 (([(⟨(⟨#[97]⟩ : ByteArray), (⟨#[101]⟩ : ByteArray)⟩ : S34)] : List (S34)))).bind fun t143 => (if t143 = true then ((folkmootref03_Same.f k t137 (([(⟨(⟨#[97]⟩ : ByteArray), (⟨#[98]⟩ : ByteArray)⟩ : S34), (⟨(⟨#[98, 0]⟩ : ByteArray), (⟨#[101]⟩ : ByteArray)⟩ : S34)] : List (S34)))).bind fun t147 => (if t147 = true then ((span_Has.f t129 (⟨#[98]⟩ : ByteArray)).bind fun t148 => (if t148 = true then ((span_Has.f t137 (⟨#[98]⟩ : ByteArray)).bind fun t149 => (if t149 = true then (some false) else ((span_Key.f (⟨#[]⟩ : ByteArray)).bind fun t150 => ((folkmootlaw03_num.f t150).bind fun t151 => (if t151 = 30 then ((span_Meet.f t129 t137).bind fun t152 => (some t152)) else (some false)))))) else (some false))) else (some false))) else (some false)))))) = some r := h
  clear h
  obtain ⟨y126, hy126⟩ : ∃ y_ : List (S34), y_ = (([(⟨(⟨#[97]⟩ : ByteArray), (⟨#[99]⟩ : ByteArray)⟩ : S34), (⟨(⟨#[98]⟩ : ByteArray), (⟨#[100]⟩ : ByteArray)⟩ : S34), (⟨(⟨#[100]⟩ : ByteArray), (⟨#[101]⟩ : ByteArray)⟩ : S34)] : List (S34))) := ⟨_, rfl⟩
  replace H : ((span_Union.f y126).bind fun t129 => ((span_Point.f (⟨#[98]⟩ : ByteArray)).bind fun bt132 => ((span_Less.f k t129 (([(⟨bt132.1, bt132.2⟩ : S34)] : List (S34)))).bind fun t137 => ((folkmootref03_Same.f k t129 (([(⟨(⟨#[97]⟩ : ByteArray), (⟨#[101]⟩ : ByteArray)⟩ : S34)] : List (S34)))).bind fun t143 => (if t143 = true then ((folkmootref03_Same.f k t137 (([(⟨(⟨#[97]⟩ : ByteArray), (⟨#[98]⟩ : ByteArray)⟩ : S34), (⟨(⟨#[98, 0]⟩ : ByteArray), (⟨#[101]⟩ : ByteArray)⟩ : S34)] : List (S34)))).bind fun t147 => (if t147 = true then ((span_Has.f t129 (⟨#[98]⟩ : ByteArray)).bind fun t148 => (if t148 = true then ((span_Has.f t137 (⟨#[98]⟩ : ByteArray)).bind fun t149 => (if t149 = true then (some false) else ((span_Key.f (⟨#[]⟩ : ByteArray)).bind fun t150 => ((folkmootlaw03_num.f t150).bind fun t151 => (if t151 = 30 then ((span_Meet.f t129 t137).bind fun t152 => (some t152)) else (some false)))))) else (some false))) else (some false))) else (some false)))))) = some r := by first | (rw [hy126]; with_reducible exact H) | (have H2_ := (Option.bind_some _ _).symm.trans H; rw [hy126]; with_reducible exact H2_) | (have H2_ := (Option.bind_some _ _).symm.trans H; with_reducible exact H2_) | with_reducible exact H | (rw [hy126]; exact H) | exact H
  have Ny126 := Aside0.mk hy126
  clear hy126
  replace H := Option.bind_eq_some_iff.mp H
  obtain ⟨t129, A10, H⟩ := H
  replace H : ((span_Point.f (⟨#[98]⟩ : ByteArray)).bind fun bt132 => ((span_Less.f k t129 (([(⟨bt132.1, bt132.2⟩ : S34)] : List (S34)))).bind fun t137 => ((folkmootref03_Same.f k t129 (([(⟨(⟨#[97]⟩ : ByteArray), (⟨#[101]⟩ : ByteArray)⟩ : S34)] : List (S34)))).bind fun t143 => (if t143 = true then ((folkmootref03_Same.f k t137 (([(⟨(⟨#[97]⟩ : ByteArray), (⟨#[98]⟩ : ByteArray)⟩ : S34), (⟨(⟨#[98, 0]⟩ : ByteArray), (⟨#[101]⟩ : ByteArray)⟩ : S34)] : List (S34)))).bind fun t147 => (if t147 = true then ((span_Has.f t129 (⟨#[98]⟩ : ByteArray)).bind fun t148 => (if t148 = true then ((span_Has.f t137 (⟨#[98]⟩ : ByteArray)).bind fun t149 => (if t149 = true then (some false) else ((span_Key.f (⟨#[]⟩ : ByteArray)).bind fun t150 => ((folkmootlaw03_num.f t150).bind fun t151 => (if t151 = 30 then ((span_Meet.f t129 t137).bind fun t152 => (some t152)) else (some false)))))) else (some false))) else (some false))) else (some false))))) = some r := H
  have A1 := Aside0.mk A10
  clear A10
  replace H := Option.bind_eq_some_iff.mp H
  obtain ⟨⟨t132, t133⟩, A20, H⟩ := H
  replace H : ((span_Less.f k t129 (([(⟨t132, t133⟩ : S34)] : List (S34)))).bind fun t137 => ((folkmootref03_Same.f k t129 (([(⟨(⟨#[97]⟩ : ByteArray), (⟨#[101]⟩ : ByteArray)⟩ : S34)] : List (S34)))).bind fun t143 => (if t143 = true then ((folkmootref03_Same.f k t137 (([(⟨(⟨#[97]⟩ : ByteArray), (⟨#[98]⟩ : ByteArray)⟩ : S34), (⟨(⟨#[98, 0]⟩ : ByteArray), (⟨#[101]⟩ : ByteArray)⟩ : S34)] : List (S34)))).bind fun t147 => (if t147 = true then ((span_Has.f t129 (⟨#[98]⟩ : ByteArray)).bind fun t148 => (if t148 = true then ((span_Has.f t137 (⟨#[98]⟩ : ByteArray)).bind fun t149 => (if t149 = true then (some false) else ((span_Key.f (⟨#[]⟩ : ByteArray)).bind fun t150 => ((folkmootlaw03_num.f t150).bind fun t151 => (if t151 = 30 then ((span_Meet.f t129 t137).bind fun t152 => (some t152)) else (some false)))))) else (some false))) else (some false))) else (some false)))) = some r := H
  have A2 := Aside0.mk A20
  clear A20
  obtain ⟨y134, hy134⟩ : ∃ y_ : List (S34), y_ = (([(⟨t132, t133⟩ : S34)] : List (S34))) := ⟨_, rfl⟩
  replace H : ((span_Less.f k t129 y134).bind fun t137 => ((folkmootref03_Same.f k t129 (([(⟨(⟨#[97]⟩ : ByteArray), (⟨#[101]⟩ : ByteArray)⟩ : S34)] : List (S34)))).bind fun t143 => (if t143 = true then ((folkmootref03_Same.f k t137 (([(⟨(⟨#[97]⟩ : ByteArray), (⟨#[98]⟩ : ByteArray)⟩ : S34), (⟨(⟨#[98, 0]⟩ : ByteArray), (⟨#[101]⟩ : ByteArray)⟩ : S34)] : List (S34)))).bind fun t147 => (if t147 = true then ((span_Has.f t129 (⟨#[98]⟩ : ByteArray)).bind fun t148 => (if t148 = true then ((span_Has.f t137 (⟨#[98]⟩ : ByteArray)).bind fun t149 => (if t149 = true then (some false) else ((span_Key.f (⟨#[]⟩ : ByteArray)).bind fun t150 => ((folkmootlaw03_num.f t150).bind fun t151 => (if t151 = 30 then ((span_Meet.f t129 t137).bind fun t152 => (some t152)) else (some false)))))) else (some false))) else (some false))) else (some false)))) = some r := by first | (rw [hy134]; with_reducible exact H) | (have H2_ := (Option.bind_some _ _).symm.trans H; rw [hy134]; with_reducible exact H2_) | (have H2_ := (Option.bind_some _ _).symm.trans H; with_reducible exact H2_) | with_reducible exact H | (rw [hy134]; exact H) | exact H
  have Ny134 := Aside0.mk hy134
  clear hy134
  replace H := Option.bind_eq_some_iff.mp H
  obtain ⟨t137, A30, H⟩ := H
  replace H : ((folkmootref03_Same.f k t129 (([(⟨(⟨#[97]⟩ : ByteArray), (⟨#[101]⟩ : ByteArray)⟩ : S34)] : List (S34)))).bind fun t143 => (if t143 = true then ((folkmootref03_Same.f k t137 (([(⟨(⟨#[97]⟩ : ByteArray), (⟨#[98]⟩ : ByteArray)⟩ : S34), (⟨(⟨#[98, 0]⟩ : ByteArray), (⟨#[101]⟩ : ByteArray)⟩ : S34)] : List (S34)))).bind fun t147 => (if t147 = true then ((span_Has.f t129 (⟨#[98]⟩ : ByteArray)).bind fun t148 => (if t148 = true then ((span_Has.f t137 (⟨#[98]⟩ : ByteArray)).bind fun t149 => (if t149 = true then (some false) else ((span_Key.f (⟨#[]⟩ : ByteArray)).bind fun t150 => ((folkmootlaw03_num.f t150).bind fun t151 => (if t151 = 30 then ((span_Meet.f t129 t137).bind fun t152 => (some t152)) else (some false)))))) else (some false))) else (some false))) else (some false))) = some r := H
  have A3 := Aside0.mk A30
  clear A30
  obtain ⟨y140, hy140⟩ : ∃ y_ : List (S34), y_ = (([(⟨(⟨#[97]⟩ : ByteArray), (⟨#[101]⟩ : ByteArray)⟩ : S34)] : List (S34))) := ⟨_, rfl⟩
  replace H : ((folkmootref03_Same.f k t129 y140).bind fun t143 => (if t143 = true then ((folkmootref03_Same.f k t137 (([(⟨(⟨#[97]⟩ : ByteArray), (⟨#[98]⟩ : ByteArray)⟩ : S34), (⟨(⟨#[98, 0]⟩ : ByteArray), (⟨#[101]⟩ : ByteArray)⟩ : S34)] : List (S34)))).bind fun t147 => (if t147 = true then ((span_Has.f t129 (⟨#[98]⟩ : ByteArray)).bind fun t148 => (if t148 = true then ((span_Has.f t137 (⟨#[98]⟩ : ByteArray)).bind fun t149 => (if t149 = true then (some false) else ((span_Key.f (⟨#[]⟩ : ByteArray)).bind fun t150 => ((folkmootlaw03_num.f t150).bind fun t151 => (if t151 = 30 then ((span_Meet.f t129 t137).bind fun t152 => (some t152)) else (some false)))))) else (some false))) else (some false))) else (some false))) = some r := by first | (rw [hy140]; with_reducible exact H) | (have H2_ := (Option.bind_some _ _).symm.trans H; rw [hy140]; with_reducible exact H2_) | (have H2_ := (Option.bind_some _ _).symm.trans H; with_reducible exact H2_) | with_reducible exact H | (rw [hy140]; exact H) | exact H
  have Ny140 := Aside0.mk hy140
  clear hy140
  replace H := Option.bind_eq_some_iff.mp H
  obtain ⟨t143, A40, H⟩ := H
  replace H : (if t143 = true then ((folkmootref03_Same.f k t137 (([(⟨(⟨#[97]⟩ : ByteArray), (⟨#[98]⟩ : ByteArray)⟩ : S34), (⟨(⟨#[98, 0]⟩ : ByteArray), (⟨#[101]⟩ : ByteArray)⟩ : S34)] : List (S34)))).bind fun t147 => (if t147 = true then ((span_Has.f t129 (⟨#[98]⟩ : ByteArray)).bind fun t148 => (if t148 = true then ((span_Has.f t137 (⟨#[98]⟩ : ByteArray)).bind fun t149 => (if t149 = true then (some false) else ((span_Key.f (⟨#[]⟩ : ByteArray)).bind fun t150 => ((folkmootlaw03_num.f t150).bind fun t151 => (if t151 = 30 then ((span_Meet.f t129 t137).bind fun t152 => (some t152)) else (some false)))))) else (some false))) else (some false))) else (some false)) = some r := H
  have A4 := Aside0.mk A40
  clear A40
  by_cases c5 : t143 = true
  · subst c5
    have H1 : ((folkmootref03_Same.f k t137 (([(⟨(⟨#[97]⟩ : ByteArray), (⟨#[98]⟩ : ByteArray)⟩ : S34), (⟨(⟨#[98, 0]⟩ : ByteArray), (⟨#[101]⟩ : ByteArray)⟩ : S34)] : List (S34)))).bind fun t147 => (if t147 = true then ((span_Has.f t129 (⟨#[98]⟩ : ByteArray)).bind fun t148 => (if t148 = true then ((span_Has.f t137 (⟨#[98]⟩ : ByteArray)).bind fun t149 => (if t149 = true then (some false) else ((span_Key.f (⟨#[]⟩ : ByteArray)).bind fun t150 => ((folkmootlaw03_num.f t150).bind fun t151 => (if t151 = 30 then ((span_Meet.f t129 t137).bind fun t152 => (some t152)) else (some false)))))) else (some false))) else (some false))) = some r := by rw [if_pos rfl] at H; exact H
    clear H
    have H := H1
    clear H1
    obtain ⟨y144, hy144⟩ : ∃ y_ : List (S34), y_ = (([(⟨(⟨#[97]⟩ : ByteArray), (⟨#[98]⟩ : ByteArray)⟩ : S34), (⟨(⟨#[98, 0]⟩ : ByteArray), (⟨#[101]⟩ : ByteArray)⟩ : S34)] : List (S34))) := ⟨_, rfl⟩
    replace H : ((folkmootref03_Same.f k t137 y144).bind fun t147 => (if t147 = true then ((span_Has.f t129 (⟨#[98]⟩ : ByteArray)).bind fun t148 => (if t148 = true then ((span_Has.f t137 (⟨#[98]⟩ : ByteArray)).bind fun t149 => (if t149 = true then (some false) else ((span_Key.f (⟨#[]⟩ : ByteArray)).bind fun t150 => ((folkmootlaw03_num.f t150).bind fun t151 => (if t151 = 30 then ((span_Meet.f t129 t137).bind fun t152 => (some t152)) else (some false)))))) else (some false))) else (some false))) = some r := by first | (rw [hy144]; with_reducible exact H) | (have H2_ := (Option.bind_some _ _).symm.trans H; rw [hy144]; with_reducible exact H2_) | (have H2_ := (Option.bind_some _ _).symm.trans H; with_reducible exact H2_) | with_reducible exact H | (rw [hy144]; exact H) | exact H
    have Ny144 := Aside0.mk hy144
    clear hy144
    replace H := Option.bind_eq_some_iff.mp H
    obtain ⟨t147, A60, H⟩ := H
    replace H : (if t147 = true then ((span_Has.f t129 (⟨#[98]⟩ : ByteArray)).bind fun t148 => (if t148 = true then ((span_Has.f t137 (⟨#[98]⟩ : ByteArray)).bind fun t149 => (if t149 = true then (some false) else ((span_Key.f (⟨#[]⟩ : ByteArray)).bind fun t150 => ((folkmootlaw03_num.f t150).bind fun t151 => (if t151 = 30 then ((span_Meet.f t129 t137).bind fun t152 => (some t152)) else (some false)))))) else (some false))) else (some false)) = some r := H
    have A6 := Aside0.mk A60
    clear A60
    by_cases c7 : t147 = true
    · subst c7
      have H1 : ((span_Has.f t129 (⟨#[98]⟩ : ByteArray)).bind fun t148 => (if t148 = true then ((span_Has.f t137 (⟨#[98]⟩ : ByteArray)).bind fun t149 => (if t149 = true then (some false) else ((span_Key.f (⟨#[]⟩ : ByteArray)).bind fun t150 => ((folkmootlaw03_num.f t150).bind fun t151 => (if t151 = 30 then ((span_Meet.f t129 t137).bind fun t152 => (some t152)) else (some false)))))) else (some false))) = some r := by rw [if_pos rfl] at H; exact H
      clear H
      have H := H1
      clear H1
      replace H := Option.bind_eq_some_iff.mp H
      obtain ⟨t148, A80, H⟩ := H
      replace H : (if t148 = true then ((span_Has.f t137 (⟨#[98]⟩ : ByteArray)).bind fun t149 => (if t149 = true then (some false) else ((span_Key.f (⟨#[]⟩ : ByteArray)).bind fun t150 => ((folkmootlaw03_num.f t150).bind fun t151 => (if t151 = 30 then ((span_Meet.f t129 t137).bind fun t152 => (some t152)) else (some false)))))) else (some false)) = some r := H
      have A8 := Aside0.mk A80
      clear A80
      by_cases c9 : t148 = true
      · subst c9
        have H1 : ((span_Has.f t137 (⟨#[98]⟩ : ByteArray)).bind fun t149 => (if t149 = true then (some false) else ((span_Key.f (⟨#[]⟩ : ByteArray)).bind fun t150 => ((folkmootlaw03_num.f t150).bind fun t151 => (if t151 = 30 then ((span_Meet.f t129 t137).bind fun t152 => (some t152)) else (some false)))))) = some r := by rw [if_pos rfl] at H; exact H
        clear H
        have H := H1
        clear H1
        replace H := Option.bind_eq_some_iff.mp H
        obtain ⟨t149, A100, H⟩ := H
        replace H : (if t149 = true then (some false) else ((span_Key.f (⟨#[]⟩ : ByteArray)).bind fun t150 => ((folkmootlaw03_num.f t150).bind fun t151 => (if t151 = 30 then ((span_Meet.f t129 t137).bind fun t152 => (some t152)) else (some false))))) = some r := H
        have A10 := Aside0.mk A100
        clear A100
        by_cases c11 : t149 = true
        · subst c11
          have H1 : (some false) = some r := by rw [if_pos rfl] at H; exact H
          clear H
          have H := H1
          clear H1
          obtain rfl := Option.some.inj H
          go_enter Try.func11, Try.ntmps11
          go_wp2_with (first | ((with_reducible refine gate_dst (N := 6) rfl ?_); (try (refine gate_guard (by rfl) ?_; dsimp only)); refine Kd.R_lit k34 _ 34 ?hg (N := 6) ?hd (xs := ([(⟨(⟨#[97]⟩ : ByteArray), (⟨#[99]⟩ : ByteArray)⟩ : S34), (⟨(⟨#[98]⟩ : ByteArray), (⟨#[100]⟩ : ByteArray)⟩ : S34), (⟨(⟨#[100]⟩ : ByteArray), (⟨#[101]⟩ : ByteArray)⟩ : S34)] : List (S34))) (inner := [.string (⟨#[97]⟩ : ByteArray), .string (⟨#[99]⟩ : ByteArray), .string (⟨#[98]⟩ : ByteArray), .string (⟨#[100]⟩ : ByteArray), .string (⟨#[100]⟩ : ByteArray), .string (⟨#[101]⟩ : ByteArray)]) (ok := fun _ => True) (okp := fun _ => True) ?hr ?hp (fun _ hk => hk) trivial (Below.refl _ _) (Nat.le_refl _) (by simp) ?_; (case hd => rfl); (case hg => rfl); (case hr => first | (go_simp; done) | (go_simp; rfl)); (case hp => exact (Reps.c2 (show Kd.M k34 _ _ _ (⟨(⟨#[97]⟩ : ByteArray), (⟨#[99]⟩ : ByteArray)⟩ : S34) [.string (⟨#[97]⟩ : ByteArray), .string (⟨#[99]⟩ : ByteArray)] from (k34_mkM _ _ _ (⟨(⟨#[97]⟩ : ByteArray), (⟨#[99]⟩ : ByteArray)⟩ : S34) )) (Reps.c2 (show Kd.M k34 _ _ _ (⟨(⟨#[98]⟩ : ByteArray), (⟨#[100]⟩ : ByteArray)⟩ : S34) [.string (⟨#[98]⟩ : ByteArray), .string (⟨#[100]⟩ : ByteArray)] from (k34_mkM _ _ _ (⟨(⟨#[98]⟩ : ByteArray), (⟨#[100]⟩ : ByteArray)⟩ : S34) )) (Reps.c2 (show Kd.M k34 _ _ _ (⟨(⟨#[100]⟩ : ByteArray), (⟨#[101]⟩ : ByteArray)⟩ : S34) [.string (⟨#[100]⟩ : ByteArray), .string (⟨#[101]⟩ : ByteArray)] from (k34_mkM _ _ _ (⟨(⟨#[100]⟩ : ByteArray), (⟨#[101]⟩ : ByteArray)⟩ : S34) )) (Reps.none _ _))))); intro v127 w12 ho13 hb hg_ hnew_; clear hg_ hnew_; (first | rw [← Ny126.out] at ho13 | (simp only [Int.reduceToNat] at ho13; rw [← Ny126.out] at ho13)); have HO128 := lR ho13 HB; replace HB := sB HB hb; clear hb ho13; obtain ⟨Ao14, co14, eo14⟩ := Kd.R_slice HO128.out; subst eo14) | ((with_reducible refine gate_callee (f := 14) rfl ?_); refine goesL_ (some 7) rfl rfl Try.func14 (by kernel_rfl) rfl #[.slice Ao14 y126.length co14] rfl (by (try simp only [List.map_toArray, List.map_cons, List.map_nil]); first | done | rfl | (simp only [List.length_drop, List.length_take]; rfl)) ?_; (with_reducible refine (span_Union.calls _ _ y126 t129 _ ?side1 ?side2 A1.out).mono ?_); (case side1 => exact uC (Kd.R_reads' HO128.out).2.2); (case side2 => exact (Kd.R_reads' HO128.out).2.1); rintro e w15 ⟨v130, rfl, ho0, hb⟩; refine ⟨_, rfl, ?_⟩; have HO131 := lR (nR ho0 HO128) HB; replace HO128 := eR HO128 ho0 hb; replace HB := sB HB hb; (try clear hb); (try clear hb2); (try clear hk); (try clear hi); (try clear ho0)) | ((with_reducible refine gate_callee (f := 24) rfl ?_); refine goesL_ (some 9) rfl rfl Try.func24 (by kernel_rfl) rfl #[.string (⟨#[98]⟩ : ByteArray)] rfl (by (try simp only [List.map_toArray, List.map_cons, List.map_nil]); first | done | rfl | (simp only [List.length_drop, List.length_take]; rfl)) ?_; (with_reducible refine (span_Point.calls (⟨#[98]⟩ : ByteArray) t132 t133 _ A2.out).mono ?_); rintro e w16 ⟨rfl, hb⟩; refine ⟨_, rfl, ?_⟩; replace HO128 := bR HO128 hb; replace HO131 := bR HO131 hb; replace HB := sB HB hb; (try clear hb); (try clear hb2); (try clear hk); (try clear hi)) | ((with_reducible refine gate_dst (N := 10) rfl ?_); (try (refine gate_guard (by rfl) ?_; dsimp only)); refine Kd.R_lit k34 _ 34 ?hg (N := 10) ?hd (xs := ([(⟨t132, t133⟩ : S34)] : List (S34))) (inner := [.string t132, .string t133]) (ok := fun _ => True) (okp := fun _ => True) ?hr ?hp (fun _ hk => hk) trivial (Below.refl _ _) (Nat.le_refl _) (by simp) ?_; (case hd => rfl); (case hg => rfl); (case hr => first | (go_simp; done) | (go_simp; rfl)); (case hp => exact (Reps.c2 (show Kd.M k34 _ _ _ (⟨t132, t133⟩ : S34) [.string t132, .string t133] from (k34_mkM _ _ _ (⟨t132, t133⟩ : S34) )) (Reps.none _ _))); intro v135 w17 ho18 hb hg_ hnew_; clear hg_ hnew_; (first | rw [← Ny134.out] at ho18 | (simp only [Int.reduceToNat] at ho18; rw [← Ny134.out] at ho18)); have HO136 := lR (nR (nR ho18 HO128) HO131) HB; replace HO128 := eR HO128 ho18 hb; replace HO131 := eR HO131 ho18 hb; replace HB := sB HB hb; clear hb ho18; obtain ⟨Ao19, co19, eo19⟩ := Kd.R_slice HO131.out; subst eo19; obtain ⟨Ao20, co20, eo20⟩ := Kd.R_slice HO136.out; subst eo20) | ((with_reducible refine gate_callee (f := 18) rfl ?_); refine goesL_ (some 11) rfl rfl Try.func18 (by kernel_rfl) rfl #[.slice Ao19 t129.length co19, .slice Ao20 y134.length co20] rfl (by (try simp only [List.map_toArray, List.map_cons, List.map_nil]); first | done | rfl | (simp only [List.length_drop, List.length_take]; rfl)) ?_; (with_reducible refine (span_Less.calls k _ _ t129 _ _ y134 t137 _ ?side1 ?side2 ?side3 ?side4 A3.out).mono ?_); (case side1 => exact uC (Kd.R_reads' HO131.out).2.2); (case side2 => exact (Kd.R_reads' HO131.out).2.1); (case side3 => exact uC (Kd.R_reads' HO136.out).2.2); (case side4 => exact (Kd.R_reads' HO136.out).2.1); rintro e w21 ⟨v138, rfl, ho0, hb⟩; refine ⟨_, rfl, ?_⟩; have HO139 := lR (nR (nR (nR ho0 HO128) HO131) HO136) HB; replace HO128 := eR HO128 ho0 hb; replace HO131 := eR HO131 ho0 hb; replace HO136 := eR HO136 ho0 hb; replace HB := sB HB hb; (try clear hb); (try clear hb2); (try clear hk); (try clear hi); (try clear ho0)) | ((with_reducible refine gate_dst (N := 14) rfl ?_); (try (refine gate_guard (by rfl) ?_; dsimp only)); refine Kd.R_lit k34 _ 34 ?hg (N := 14) ?hd (xs := ([(⟨(⟨#[97]⟩ : ByteArray), (⟨#[101]⟩ : ByteArray)⟩ : S34)] : List (S34))) (inner := [.string (⟨#[97]⟩ : ByteArray), .string (⟨#[101]⟩ : ByteArray)]) (ok := fun _ => True) (okp := fun _ => True) ?hr ?hp (fun _ hk => hk) trivial (Below.refl _ _) (Nat.le_refl _) (by simp) ?_; (case hd => rfl); (case hg => rfl); (case hr => first | (go_simp; done) | (go_simp; rfl)); (case hp => exact (Reps.c2 (show Kd.M k34 _ _ _ (⟨(⟨#[97]⟩ : ByteArray), (⟨#[101]⟩ : ByteArray)⟩ : S34) [.string (⟨#[97]⟩ : ByteArray), .string (⟨#[101]⟩ : ByteArray)] from (k34_mkM _ _ _ (⟨(⟨#[97]⟩ : ByteArray), (⟨#[101]⟩ : ByteArray)⟩ : S34) )) (Reps.none _ _))); intro v141 w22 ho23 hb hg_ hnew_; clear hg_ hnew_; (first | rw [← Ny140.out] at ho23 | (simp only [Int.reduceToNat] at ho23; rw [← Ny140.out] at ho23)); have HO142 := lR (Kd.R_new' (nR (nR (nR ho23 HO128) HO131) HO136) (Kd.R_lt (uR HO139))) HB; replace HO128 := eR HO128 ho23 hb; replace HO131 := eR HO131 ho23 hb; replace HO136 := eR HO136 ho23 hb; replace HO139 := eR HO139 ho23 hb; replace HB := sB HB hb; clear hb ho23; obtain ⟨Ao24, co24, eo24⟩ := Kd.R_slice HO142.out; subst eo24) | ((with_reducible refine gate_callee (f := 13) rfl ?_); refine goesL_ (some 15) rfl rfl Try.func13 (by kernel_rfl) rfl #[.slice Ao19 t129.length co19, .slice Ao24 y140.length co24] rfl (by (try simp only [List.map_toArray, List.map_cons, List.map_nil]); first | done | rfl | (simp only [List.length_drop, List.length_take]; rfl)) ?_; (with_reducible refine (folkmootref03_Same.calls k _ _ t129 _ _ y140 true _ ?side1 ?side2 ?side3 ?side4 A4.out).mono ?_); (case side1 => exact uC (Kd.R_reads' HO131.out).2.2); (case side2 => exact (Kd.R_reads' HO131.out).2.1); (case side3 => exact uC (Kd.R_reads' HO142.out).2.2); (case side4 => exact (Kd.R_reads' HO142.out).2.1); rintro e w' ⟨rfl, ⟨nd, rfl⟩⟩; refine ⟨_, rfl, ?_⟩) | ((with_reducible refine gate_dst (N := 20) rfl ?_); (try (refine gate_guard (by rfl) ?_; dsimp only)); refine Kd.R_lit k34 _ 34 ?hg (N := 20) ?hd (xs := ([(⟨(⟨#[97]⟩ : ByteArray), (⟨#[98]⟩ : ByteArray)⟩ : S34), (⟨(⟨#[98, 0]⟩ : ByteArray), (⟨#[101]⟩ : ByteArray)⟩ : S34)] : List (S34))) (inner := [.string (⟨#[97]⟩ : ByteArray), .string (⟨#[98]⟩ : ByteArray), .string (⟨#[98, 0]⟩ : ByteArray), .string (⟨#[101]⟩ : ByteArray)]) (ok := fun _ => True) (okp := fun _ => True) ?hr ?hp (fun _ hk => hk) trivial (Below.refl _ _) (Nat.le_refl _) (by simp) ?_; (case hd => rfl); (case hg => rfl); (case hr => first | (go_simp; done) | (go_simp; rfl)); (case hp => exact (Reps.c2 (show Kd.M k34 _ _ _ (⟨(⟨#[97]⟩ : ByteArray), (⟨#[98]⟩ : ByteArray)⟩ : S34) [.string (⟨#[97]⟩ : ByteArray), .string (⟨#[98]⟩ : ByteArray)] from (k34_mkM _ _ _ (⟨(⟨#[97]⟩ : ByteArray), (⟨#[98]⟩ : ByteArray)⟩ : S34) )) (Reps.c2 (show Kd.M k34 _ _ _ (⟨(⟨#[98, 0]⟩ : ByteArray), (⟨#[101]⟩ : ByteArray)⟩ : S34) [.string (⟨#[98, 0]⟩ : ByteArray), .string (⟨#[101]⟩ : ByteArray)] from (k34_mkM _ _ _ (⟨(⟨#[98, 0]⟩ : ByteArray), (⟨#[101]⟩ : ByteArray)⟩ : S34) )) (Reps.none _ _)))); intro v145 w25 ho26 hb hg_ hnew_; clear hg_ hnew_; (first | rw [← Ny144.out] at ho26 | (simp only [Int.reduceToNat] at ho26; rw [← Ny144.out] at ho26)); have HO146 := lR (Kd.R_new' (Kd.R_new' (nR (nR (nR ho26 HO128) HO131) HO136) (Kd.R_lt (uR HO139))) (Kd.R_lt (uR HO142))) HB; replace HO128 := eR HO128 ho26 hb; replace HO131 := eR HO131 ho26 hb; replace HO136 := eR HO136 ho26 hb; replace HO139 := eR HO139 ho26 hb; replace HO142 := eR HO142 ho26 hb; replace HB := sB HB hb; clear hb ho26; obtain ⟨Ao27, co27, eo27⟩ := Kd.R_slice HO139.out; subst eo27; obtain ⟨Ao28, co28, eo28⟩ := Kd.R_slice HO146.out; subst eo28) | (go_at_call 13; (with_reducible refine (folkmootref03_Same.calls k _ _ t137 _ _ y144 true _ ?side1 ?side2 ?side3 ?side4 A6.out).mono ?_); (case side1 => exact uC (Kd.R_reads' HO139.out).2.2); (case side2 => exact (Kd.R_reads' HO139.out).2.1); (case side3 => exact uC (Kd.R_reads' HO146.out).2.2); (case side4 => exact (Kd.R_reads' HO146.out).2.1); rintro e w' ⟨rfl, ⟨nd, rfl⟩⟩) | (go_at_call 20; (with_reducible refine (span_Has.calls _ _ t129 (⟨#[98]⟩ : ByteArray) true _ ?side1 ?side2 A8.out).mono ?_); (case side1 => exact uC (Kd.R_reads' HO131.out).2.2); (case side2 => exact (Kd.R_reads' HO131.out).2.1); rintro e w29 ⟨rfl, hb⟩; replace HO128 := bR HO128 hb; replace HO131 := bR HO131 hb; replace HO136 := bR HO136 hb; replace HO139 := bR HO139 hb; replace HO142 := bR HO142 hb; replace HO146 := bR HO146 hb; replace HB := sB HB hb; (try clear hb); (try clear hb2); (try clear hk); (try clear hi)) | (go_at_call 20; (with_reducible refine (span_Has.calls _ _ t137 (⟨#[98]⟩ : ByteArray) true _ ?side1 ?side2 A10.out).mono ?_); (case side1 => exact uC (Kd.R_reads' HO139.out).2.2); (case side2 => exact (Kd.R_reads' HO139.out).2.1); rintro e w30 ⟨rfl, hb⟩; replace HO128 := bR HO128 hb; replace HO131 := bR HO131 hb; replace HO136 := bR HO136 hb; replace HO139 := bR HO139 hb; replace HO142 := bR HO142 hb; replace HO146 := bR HO146 hb; replace HB := sB HB hb; (try clear hb); (try clear hb2); (try clear hk); (try clear hi)))
          go_ret
          exact ⟨by first | rfl | (simp [errW_none, errW_some] <;> rfl) | (simp [*, errW_none, errW_some] <;> rfl), by repeat (first | (with_reducible first | exact HB.out | apply below_alloc | apply pw_below_drewN | apply below_drew1) | exact HB.out)⟩
        · replace c11 := Bool.eq_false_iff.mpr c11
          subst c11
          have H1 : ((span_Key.f (⟨#[]⟩ : ByteArray)).bind fun t150 => ((folkmootlaw03_num.f t150).bind fun t151 => (if t151 = 30 then ((span_Meet.f t129 t137).bind fun t152 => (some t152)) else (some false)))) = some r := by rw [if_neg (show ¬ (false = true) by decide)] at H; exact H
          clear H
          have H := H1
          clear H1
          replace H := Option.bind_eq_some_iff.mp H
          obtain ⟨t150, A310, H⟩ := H
          replace H : ((folkmootlaw03_num.f t150).bind fun t151 => (if t151 = 30 then ((span_Meet.f t129 t137).bind fun t152 => (some t152)) else (some false))) = some r := H
          have A31 := Aside0.mk A310
          clear A310
          replace H := Option.bind_eq_some_iff.mp H
          obtain ⟨t151, A320, H⟩ := H
          replace H : (if t151 = 30 then ((span_Meet.f t129 t137).bind fun t152 => (some t152)) else (some false)) = some r := H
          have A32 := Aside0.mk A320
          clear A320
          by_cases c33 : t151 = 30
          · rw [if_pos c33] at H
            have c33b0 : (t151 == 30) = true := beq_iff_eq.mpr c33
            have c33b1 : (t151 != 30) = false := bne_eq_false_iff_eq.mpr c33
            clear c33
            replace H := Option.bind_eq_some_iff.mp H
            obtain ⟨t152, A340, H⟩ := H
            replace H : (some t152) = some r := H
            have A34 := Aside0.mk A340
            clear A340
            obtain rfl := Option.some.inj H
            go_enter Try.func11, Try.ntmps11
            go_wp2_with (first | ((with_reducible refine gate_dst (N := 6) rfl ?_); (try (refine gate_guard (by rfl) ?_; dsimp only)); refine Kd.R_lit k34 _ 34 ?hg (N := 6) ?hd (xs := ([(⟨(⟨#[97]⟩ : ByteArray), (⟨#[99]⟩ : ByteArray)⟩ : S34), (⟨(⟨#[98]⟩ : ByteArray), (⟨#[100]⟩ : ByteArray)⟩ : S34), (⟨(⟨#[100]⟩ : ByteArray), (⟨#[101]⟩ : ByteArray)⟩ : S34)] : List (S34))) (inner := [.string (⟨#[97]⟩ : ByteArray), .string (⟨#[99]⟩ : ByteArray), .string (⟨#[98]⟩ : ByteArray), .string (⟨#[100]⟩ : ByteArray), .string (⟨#[100]⟩ : ByteArray), .string (⟨#[101]⟩ : ByteArray)]) (ok := fun _ => True) (okp := fun _ => True) ?hr ?hp (fun _ hk => hk) trivial (Below.refl _ _) (Nat.le_refl _) (by simp) ?_; (case hd => rfl); (case hg => rfl); (case hr => first | (go_simp; done) | (go_simp; rfl)); (case hp => exact (Reps.c2 (show Kd.M k34 _ _ _ (⟨(⟨#[97]⟩ : ByteArray), (⟨#[99]⟩ : ByteArray)⟩ : S34) [.string (⟨#[97]⟩ : ByteArray), .string (⟨#[99]⟩ : ByteArray)] from (k34_mkM _ _ _ (⟨(⟨#[97]⟩ : ByteArray), (⟨#[99]⟩ : ByteArray)⟩ : S34) )) (Reps.c2 (show Kd.M k34 _ _ _ (⟨(⟨#[98]⟩ : ByteArray), (⟨#[100]⟩ : ByteArray)⟩ : S34) [.string (⟨#[98]⟩ : ByteArray), .string (⟨#[100]⟩ : ByteArray)] from (k34_mkM _ _ _ (⟨(⟨#[98]⟩ : ByteArray), (⟨#[100]⟩ : ByteArray)⟩ : S34) )) (Reps.c2 (show Kd.M k34 _ _ _ (⟨(⟨#[100]⟩ : ByteArray), (⟨#[101]⟩ : ByteArray)⟩ : S34) [.string (⟨#[100]⟩ : ByteArray), .string (⟨#[101]⟩ : ByteArray)] from (k34_mkM _ _ _ (⟨(⟨#[100]⟩ : ByteArray), (⟨#[101]⟩ : ByteArray)⟩ : S34) )) (Reps.none _ _))))); intro v127 w35 ho36 hb hg_ hnew_; clear hg_ hnew_; (first | rw [← Ny126.out] at ho36 | (simp only [Int.reduceToNat] at ho36; rw [← Ny126.out] at ho36)); have HO128 := lR ho36 HB; replace HB := sB HB hb; clear hb ho36; obtain ⟨Ao37, co37, eo37⟩ := Kd.R_slice HO128.out; subst eo37) | ((with_reducible refine gate_callee (f := 14) rfl ?_); refine goesL_ (some 7) rfl rfl Try.func14 (by kernel_rfl) rfl #[.slice Ao37 y126.length co37] rfl (by (try simp only [List.map_toArray, List.map_cons, List.map_nil]); first | done | rfl | (simp only [List.length_drop, List.length_take]; rfl)) ?_; (with_reducible refine (span_Union.calls _ _ y126 t129 _ ?side1 ?side2 A1.out).mono ?_); (case side1 => exact uC (Kd.R_reads' HO128.out).2.2); (case side2 => exact (Kd.R_reads' HO128.out).2.1); rintro e w38 ⟨v130, rfl, ho0, hb⟩; refine ⟨_, rfl, ?_⟩; have HO131 := lR (nR ho0 HO128) HB; replace HO128 := eR HO128 ho0 hb; replace HB := sB HB hb; (try clear hb); (try clear hb2); (try clear hk); (try clear hi); (try clear ho0)) | ((with_reducible refine gate_callee (f := 24) rfl ?_); refine goesL_ (some 9) rfl rfl Try.func24 (by kernel_rfl) rfl #[.string (⟨#[98]⟩ : ByteArray)] rfl (by (try simp only [List.map_toArray, List.map_cons, List.map_nil]); first | done | rfl | (simp only [List.length_drop, List.length_take]; rfl)) ?_; (with_reducible refine (span_Point.calls (⟨#[98]⟩ : ByteArray) t132 t133 _ A2.out).mono ?_); rintro e w39 ⟨rfl, hb⟩; refine ⟨_, rfl, ?_⟩; replace HO128 := bR HO128 hb; replace HO131 := bR HO131 hb; replace HB := sB HB hb; (try clear hb); (try clear hb2); (try clear hk); (try clear hi)) | ((with_reducible refine gate_dst (N := 10) rfl ?_); (try (refine gate_guard (by rfl) ?_; dsimp only)); refine Kd.R_lit k34 _ 34 ?hg (N := 10) ?hd (xs := ([(⟨t132, t133⟩ : S34)] : List (S34))) (inner := [.string t132, .string t133]) (ok := fun _ => True) (okp := fun _ => True) ?hr ?hp (fun _ hk => hk) trivial (Below.refl _ _) (Nat.le_refl _) (by simp) ?_; (case hd => rfl); (case hg => rfl); (case hr => first | (go_simp; done) | (go_simp; rfl)); (case hp => exact (Reps.c2 (show Kd.M k34 _ _ _ (⟨t132, t133⟩ : S34) [.string t132, .string t133] from (k34_mkM _ _ _ (⟨t132, t133⟩ : S34) )) (Reps.none _ _))); intro v135 w40 ho41 hb hg_ hnew_; clear hg_ hnew_; (first | rw [← Ny134.out] at ho41 | (simp only [Int.reduceToNat] at ho41; rw [← Ny134.out] at ho41)); have HO136 := lR (nR (nR ho41 HO128) HO131) HB; replace HO128 := eR HO128 ho41 hb; replace HO131 := eR HO131 ho41 hb; replace HB := sB HB hb; clear hb ho41; obtain ⟨Ao42, co42, eo42⟩ := Kd.R_slice HO131.out; subst eo42; obtain ⟨Ao43, co43, eo43⟩ := Kd.R_slice HO136.out; subst eo43) | ((with_reducible refine gate_callee (f := 18) rfl ?_); refine goesL_ (some 11) rfl rfl Try.func18 (by kernel_rfl) rfl #[.slice Ao42 t129.length co42, .slice Ao43 y134.length co43] rfl (by (try simp only [List.map_toArray, List.map_cons, List.map_nil]); first | done | rfl | (simp only [List.length_drop, List.length_take]; rfl)) ?_; (with_reducible refine (span_Less.calls k _ _ t129 _ _ y134 t137 _ ?side1 ?side2 ?side3 ?side4 A3.out).mono ?_); (case side1 => exact uC (Kd.R_reads' HO131.out).2.2); (case side2 => exact (Kd.R_reads' HO131.out).2.1); (case side3 => exact uC (Kd.R_reads' HO136.out).2.2); (case side4 => exact (Kd.R_reads' HO136.out).2.1); rintro e w44 ⟨v138, rfl, ho0, hb⟩; refine ⟨_, rfl, ?_⟩; have HO139 := lR (nR (nR (nR ho0 HO128) HO131) HO136) HB; replace HO128 := eR HO128 ho0 hb; replace HO131 := eR HO131 ho0 hb; replace HO136 := eR HO136 ho0 hb; replace HB := sB HB hb; (try clear hb); (try clear hb2); (try clear hk); (try clear hi); (try clear ho0)) | ((with_reducible refine gate_dst (N := 14) rfl ?_); (try (refine gate_guard (by rfl) ?_; dsimp only)); refine Kd.R_lit k34 _ 34 ?hg (N := 14) ?hd (xs := ([(⟨(⟨#[97]⟩ : ByteArray), (⟨#[101]⟩ : ByteArray)⟩ : S34)] : List (S34))) (inner := [.string (⟨#[97]⟩ : ByteArray), .string (⟨#[101]⟩ : ByteArray)]) (ok := fun _ => True) (okp := fun _ => True) ?hr ?hp (fun _ hk => hk) trivial (Below.refl _ _) (Nat.le_refl _) (by simp) ?_; (case hd => rfl); (case hg => rfl); (case hr => first | (go_simp; done) | (go_simp; rfl)); (case hp => exact (Reps.c2 (show Kd.M k34 _ _ _ (⟨(⟨#[97]⟩ : ByteArray), (⟨#[101]⟩ : ByteArray)⟩ : S34) [.string (⟨#[97]⟩ : ByteArray), .string (⟨#[101]⟩ : ByteArray)] from (k34_mkM _ _ _ (⟨(⟨#[97]⟩ : ByteArray), (⟨#[101]⟩ : ByteArray)⟩ : S34) )) (Reps.none _ _))); intro v141 w45 ho46 hb hg_ hnew_; clear hg_ hnew_; (first | rw [← Ny140.out] at ho46 | (simp only [Int.reduceToNat] at ho46; rw [← Ny140.out] at ho46)); have HO142 := lR (Kd.R_new' (nR (nR (nR ho46 HO128) HO131) HO136) (Kd.R_lt (uR HO139))) HB; replace HO128 := eR HO128 ho46 hb; replace HO131 := eR HO131 ho46 hb; replace HO136 := eR HO136 ho46 hb; replace HO139 := eR HO139 ho46 hb; replace HB := sB HB hb; clear hb ho46; obtain ⟨Ao47, co47, eo47⟩ := Kd.R_slice HO142.out; subst eo47) | ((with_reducible refine gate_callee (f := 13) rfl ?_); refine goesL_ (some 15) rfl rfl Try.func13 (by kernel_rfl) rfl #[.slice Ao42 t129.length co42, .slice Ao47 y140.length co47] rfl (by (try simp only [List.map_toArray, List.map_cons, List.map_nil]); first | done | rfl | (simp only [List.length_drop, List.length_take]; rfl)) ?_; (with_reducible refine (folkmootref03_Same.calls k _ _ t129 _ _ y140 true _ ?side1 ?side2 ?side3 ?side4 A4.out).mono ?_); (case side1 => exact uC (Kd.R_reads' HO131.out).2.2); (case side2 => exact (Kd.R_reads' HO131.out).2.1); (case side3 => exact uC (Kd.R_reads' HO142.out).2.2); (case side4 => exact (Kd.R_reads' HO142.out).2.1); rintro e w' ⟨rfl, ⟨nd, rfl⟩⟩; refine ⟨_, rfl, ?_⟩) | ((with_reducible refine gate_dst (N := 20) rfl ?_); (try (refine gate_guard (by rfl) ?_; dsimp only)); refine Kd.R_lit k34 _ 34 ?hg (N := 20) ?hd (xs := ([(⟨(⟨#[97]⟩ : ByteArray), (⟨#[98]⟩ : ByteArray)⟩ : S34), (⟨(⟨#[98, 0]⟩ : ByteArray), (⟨#[101]⟩ : ByteArray)⟩ : S34)] : List (S34))) (inner := [.string (⟨#[97]⟩ : ByteArray), .string (⟨#[98]⟩ : ByteArray), .string (⟨#[98, 0]⟩ : ByteArray), .string (⟨#[101]⟩ : ByteArray)]) (ok := fun _ => True) (okp := fun _ => True) ?hr ?hp (fun _ hk => hk) trivial (Below.refl _ _) (Nat.le_refl _) (by simp) ?_; (case hd => rfl); (case hg => rfl); (case hr => first | (go_simp; done) | (go_simp; rfl)); (case hp => exact (Reps.c2 (show Kd.M k34 _ _ _ (⟨(⟨#[97]⟩ : ByteArray), (⟨#[98]⟩ : ByteArray)⟩ : S34) [.string (⟨#[97]⟩ : ByteArray), .string (⟨#[98]⟩ : ByteArray)] from (k34_mkM _ _ _ (⟨(⟨#[97]⟩ : ByteArray), (⟨#[98]⟩ : ByteArray)⟩ : S34) )) (Reps.c2 (show Kd.M k34 _ _ _ (⟨(⟨#[98, 0]⟩ : ByteArray), (⟨#[101]⟩ : ByteArray)⟩ : S34) [.string (⟨#[98, 0]⟩ : ByteArray), .string (⟨#[101]⟩ : ByteArray)] from (k34_mkM _ _ _ (⟨(⟨#[98, 0]⟩ : ByteArray), (⟨#[101]⟩ : ByteArray)⟩ : S34) )) (Reps.none _ _)))); intro v145 w48 ho49 hb hg_ hnew_; clear hg_ hnew_; (first | rw [← Ny144.out] at ho49 | (simp only [Int.reduceToNat] at ho49; rw [← Ny144.out] at ho49)); have HO146 := lR (Kd.R_new' (Kd.R_new' (nR (nR (nR ho49 HO128) HO131) HO136) (Kd.R_lt (uR HO139))) (Kd.R_lt (uR HO142))) HB; replace HO128 := eR HO128 ho49 hb; replace HO131 := eR HO131 ho49 hb; replace HO136 := eR HO136 ho49 hb; replace HO139 := eR HO139 ho49 hb; replace HO142 := eR HO142 ho49 hb; replace HB := sB HB hb; clear hb ho49; obtain ⟨Ao50, co50, eo50⟩ := Kd.R_slice HO139.out; subst eo50; obtain ⟨Ao51, co51, eo51⟩ := Kd.R_slice HO146.out; subst eo51) | (go_at_call 13; (with_reducible refine (folkmootref03_Same.calls k _ _ t137 _ _ y144 true _ ?side1 ?side2 ?side3 ?side4 A6.out).mono ?_); (case side1 => exact uC (Kd.R_reads' HO139.out).2.2); (case side2 => exact (Kd.R_reads' HO139.out).2.1); (case side3 => exact uC (Kd.R_reads' HO146.out).2.2); (case side4 => exact (Kd.R_reads' HO146.out).2.1); rintro e w' ⟨rfl, ⟨nd, rfl⟩⟩) | (go_at_call 20; (with_reducible refine (span_Has.calls _ _ t129 (⟨#[98]⟩ : ByteArray) true _ ?side1 ?side2 A8.out).mono ?_); (case side1 => exact uC (Kd.R_reads' HO131.out).2.2); (case side2 => exact (Kd.R_reads' HO131.out).2.1); rintro e w52 ⟨rfl, hb⟩; replace HO128 := bR HO128 hb; replace HO131 := bR HO131 hb; replace HO136 := bR HO136 hb; replace HO139 := bR HO139 hb; replace HO142 := bR HO142 hb; replace HO146 := bR HO146 hb; replace HB := sB HB hb; (try clear hb); (try clear hb2); (try clear hk); (try clear hi)) | (go_at_call 20; (with_reducible refine (span_Has.calls _ _ t137 (⟨#[98]⟩ : ByteArray) false _ ?side1 ?side2 A10.out).mono ?_); (case side1 => exact uC (Kd.R_reads' HO139.out).2.2); (case side2 => exact (Kd.R_reads' HO139.out).2.1); rintro e w53 ⟨rfl, hb⟩; replace HO128 := bR HO128 hb; replace HO131 := bR HO131 hb; replace HO136 := bR HO136 hb; replace HO139 := bR HO139 hb; replace HO142 := bR HO142 hb; replace HO146 := bR HO146 hb; replace HB := sB HB hb; (try clear hb); (try clear hb2); (try clear hk); (try clear hi)) | (go_at_call 26; (with_reducible refine (span_Key.calls (⟨#[]⟩ : ByteArray) t150 _ A31.out).mono ?_); rintro e w' ⟨rfl, ⟨nd, rfl⟩⟩) | (go_at_call 25; (with_reducible refine (folkmootlaw03_num.calls t150 t151 _ A32.out).mono ?_); rintro e w' ⟨rfl, ⟨nd, rfl⟩⟩) | (go_at_call 22; (with_reducible refine (span_Meet.calls _ _ t129 _ _ t137 t152 _ ?side1 ?side2 ?side3 ?side4 A34.out).mono ?_); (case side1 => exact uC (Kd.R_reads' HO131.out).2.2); (case side2 => exact (Kd.R_reads' HO131.out).2.1); (case side3 => exact uC (Kd.R_reads' HO139.out).2.2); (case side4 => exact (Kd.R_reads' HO139.out).2.1); rintro e w54 ⟨rfl, hb⟩; replace HO128 := bR HO128 hb; replace HO131 := bR HO131 hb; replace HO136 := bR HO136 hb; replace HO139 := bR HO139 hb; replace HO142 := bR HO142 hb; replace HO146 := bR HO146 hb; replace HB := sB HB hb; (try clear hb); (try clear hb2); (try clear hk); (try clear hi)))
            go_ret
            exact ⟨by first | rfl | (simp [errW_none, errW_some] <;> rfl) | (simp [*, errW_none, errW_some] <;> rfl), by repeat (first | (with_reducible first | exact HB.out | apply below_alloc | apply pw_below_drewN | apply below_drew1) | exact HB.out)⟩
          · rw [if_neg c33] at H
            have c33b0 : (t151 == 30) = false := beq_eq_false_iff_ne.mpr c33
            have c33b1 : (t151 != 30) = true := bne_iff_ne.mpr c33
            obtain rfl := Option.some.inj H
            go_enter Try.func11, Try.ntmps11
            go_wp2_with (first | ((with_reducible refine gate_dst (N := 6) rfl ?_); (try (refine gate_guard (by rfl) ?_; dsimp only)); refine Kd.R_lit k34 _ 34 ?hg (N := 6) ?hd (xs := ([(⟨(⟨#[97]⟩ : ByteArray), (⟨#[99]⟩ : ByteArray)⟩ : S34), (⟨(⟨#[98]⟩ : ByteArray), (⟨#[100]⟩ : ByteArray)⟩ : S34), (⟨(⟨#[100]⟩ : ByteArray), (⟨#[101]⟩ : ByteArray)⟩ : S34)] : List (S34))) (inner := [.string (⟨#[97]⟩ : ByteArray), .string (⟨#[99]⟩ : ByteArray), .string (⟨#[98]⟩ : ByteArray), .string (⟨#[100]⟩ : ByteArray), .string (⟨#[100]⟩ : ByteArray), .string (⟨#[101]⟩ : ByteArray)]) (ok := fun _ => True) (okp := fun _ => True) ?hr ?hp (fun _ hk => hk) trivial (Below.refl _ _) (Nat.le_refl _) (by simp) ?_; (case hd => rfl); (case hg => rfl); (case hr => first | (go_simp; done) | (go_simp; rfl)); (case hp => exact (Reps.c2 (show Kd.M k34 _ _ _ (⟨(⟨#[97]⟩ : ByteArray), (⟨#[99]⟩ : ByteArray)⟩ : S34) [.string (⟨#[97]⟩ : ByteArray), .string (⟨#[99]⟩ : ByteArray)] from (k34_mkM _ _ _ (⟨(⟨#[97]⟩ : ByteArray), (⟨#[99]⟩ : ByteArray)⟩ : S34) )) (Reps.c2 (show Kd.M k34 _ _ _ (⟨(⟨#[98]⟩ : ByteArray), (⟨#[100]⟩ : ByteArray)⟩ : S34) [.string (⟨#[98]⟩ : ByteArray), .string (⟨#[100]⟩ : ByteArray)] from (k34_mkM _ _ _ (⟨(⟨#[98]⟩ : ByteArray), (⟨#[100]⟩ : ByteArray)⟩ : S34) )) (Reps.c2 (show Kd.M k34 _ _ _ (⟨(⟨#[100]⟩ : ByteArray), (⟨#[101]⟩ : ByteArray)⟩ : S34) [.string (⟨#[100]⟩ : ByteArray), .string (⟨#[101]⟩ : ByteArray)] from (k34_mkM _ _ _ (⟨(⟨#[100]⟩ : ByteArray), (⟨#[101]⟩ : ByteArray)⟩ : S34) )) (Reps.none _ _))))); intro v127 w55 ho56 hb hg_ hnew_; clear hg_ hnew_; (first | rw [← Ny126.out] at ho56 | (simp only [Int.reduceToNat] at ho56; rw [← Ny126.out] at ho56)); have HO128 := lR ho56 HB; replace HB := sB HB hb; clear hb ho56; obtain ⟨Ao57, co57, eo57⟩ := Kd.R_slice HO128.out; subst eo57) | ((with_reducible refine gate_callee (f := 14) rfl ?_); refine goesL_ (some 7) rfl rfl Try.func14 (by kernel_rfl) rfl #[.slice Ao57 y126.length co57] rfl (by (try simp only [List.map_toArray, List.map_cons, List.map_nil]); first | done | rfl | (simp only [List.length_drop, List.length_take]; rfl)) ?_; (with_reducible refine (span_Union.calls _ _ y126 t129 _ ?side1 ?side2 A1.out).mono ?_); (case side1 => exact uC (Kd.R_reads' HO128.out).2.2); (case side2 => exact (Kd.R_reads' HO128.out).2.1); rintro e w58 ⟨v130, rfl, ho0, hb⟩; refine ⟨_, rfl, ?_⟩; have HO131 := lR (nR ho0 HO128) HB; replace HO128 := eR HO128 ho0 hb; replace HB := sB HB hb; (try clear hb); (try clear hb2); (try clear hk); (try clear hi); (try clear ho0)) | ((with_reducible refine gate_callee (f := 24) rfl ?_); refine goesL_ (some 9) rfl rfl Try.func24 (by kernel_rfl) rfl #[.string (⟨#[98]⟩ : ByteArray)] rfl (by (try simp only [List.map_toArray, List.map_cons, List.map_nil]); first | done | rfl | (simp only [List.length_drop, List.length_take]; rfl)) ?_; (with_reducible refine (span_Point.calls (⟨#[98]⟩ : ByteArray) t132 t133 _ A2.out).mono ?_); rintro e w59 ⟨rfl, hb⟩; refine ⟨_, rfl, ?_⟩; replace HO128 := bR HO128 hb; replace HO131 := bR HO131 hb; replace HB := sB HB hb; (try clear hb); (try clear hb2); (try clear hk); (try clear hi)) | ((with_reducible refine gate_dst (N := 10) rfl ?_); (try (refine gate_guard (by rfl) ?_; dsimp only)); refine Kd.R_lit k34 _ 34 ?hg (N := 10) ?hd (xs := ([(⟨t132, t133⟩ : S34)] : List (S34))) (inner := [.string t132, .string t133]) (ok := fun _ => True) (okp := fun _ => True) ?hr ?hp (fun _ hk => hk) trivial (Below.refl _ _) (Nat.le_refl _) (by simp) ?_; (case hd => rfl); (case hg => rfl); (case hr => first | (go_simp; done) | (go_simp; rfl)); (case hp => exact (Reps.c2 (show Kd.M k34 _ _ _ (⟨t132, t133⟩ : S34) [.string t132, .string t133] from (k34_mkM _ _ _ (⟨t132, t133⟩ : S34) )) (Reps.none _ _))); intro v135 w60 ho61 hb hg_ hnew_; clear hg_ hnew_; (first | rw [← Ny134.out] at ho61 | (simp only [Int.reduceToNat] at ho61; rw [← Ny134.out] at ho61)); have HO136 := lR (nR (nR ho61 HO128) HO131) HB; replace HO128 := eR HO128 ho61 hb; replace HO131 := eR HO131 ho61 hb; replace HB := sB HB hb; clear hb ho61; obtain ⟨Ao62, co62, eo62⟩ := Kd.R_slice HO131.out; subst eo62; obtain ⟨Ao63, co63, eo63⟩ := Kd.R_slice HO136.out; subst eo63) | ((with_reducible refine gate_callee (f := 18) rfl ?_); refine goesL_ (some 11) rfl rfl Try.func18 (by kernel_rfl) rfl #[.slice Ao62 t129.length co62, .slice Ao63 y134.length co63] rfl (by (try simp only [List.map_toArray, List.map_cons, List.map_nil]); first | done | rfl | (simp only [List.length_drop, List.length_take]; rfl)) ?_; (with_reducible refine (span_Less.calls k _ _ t129 _ _ y134 t137 _ ?side1 ?side2 ?side3 ?side4 A3.out).mono ?_); (case side1 => exact uC (Kd.R_reads' HO131.out).2.2); (case side2 => exact (Kd.R_reads' HO131.out).2.1); (case side3 => exact uC (Kd.R_reads' HO136.out).2.2); (case side4 => exact (Kd.R_reads' HO136.out).2.1); rintro e w64 ⟨v138, rfl, ho0, hb⟩; refine ⟨_, rfl, ?_⟩; have HO139 := lR (nR (nR (nR ho0 HO128) HO131) HO136) HB; replace HO128 := eR HO128 ho0 hb; replace HO131 := eR HO131 ho0 hb; replace HO136 := eR HO136 ho0 hb; replace HB := sB HB hb; (try clear hb); (try clear hb2); (try clear hk); (try clear hi); (try clear ho0)) | ((with_reducible refine gate_dst (N := 14) rfl ?_); (try (refine gate_guard (by rfl) ?_; dsimp only)); refine Kd.R_lit k34 _ 34 ?hg (N := 14) ?hd (xs := ([(⟨(⟨#[97]⟩ : ByteArray), (⟨#[101]⟩ : ByteArray)⟩ : S34)] : List (S34))) (inner := [.string (⟨#[97]⟩ : ByteArray), .string (⟨#[101]⟩ : ByteArray)]) (ok := fun _ => True) (okp := fun _ => True) ?hr ?hp (fun _ hk => hk) trivial (Below.refl _ _) (Nat.le_refl _) (by simp) ?_; (case hd => rfl); (case hg => rfl); (case hr => first | (go_simp; done) | (go_simp; rfl)); (case hp => exact (Reps.c2 (show Kd.M k34 _ _ _ (⟨(⟨#[97]⟩ : ByteArray), (⟨#[101]⟩ : ByteArray)⟩ : S34) [.string (⟨#[97]⟩ : ByteArray), .string (⟨#[101]⟩ : ByteArray)] from (k34_mkM _ _ _ (⟨(⟨#[97]⟩ : ByteArray), (⟨#[101]⟩ : ByteArray)⟩ : S34) )) (Reps.none _ _))); intro v141 w65 ho66 hb hg_ hnew_; clear hg_ hnew_; (first | rw [← Ny140.out] at ho66 | (simp only [Int.reduceToNat] at ho66; rw [← Ny140.out] at ho66)); have HO142 := lR (Kd.R_new' (nR (nR (nR ho66 HO128) HO131) HO136) (Kd.R_lt (uR HO139))) HB; replace HO128 := eR HO128 ho66 hb; replace HO131 := eR HO131 ho66 hb; replace HO136 := eR HO136 ho66 hb; replace HO139 := eR HO139 ho66 hb; replace HB := sB HB hb; clear hb ho66; obtain ⟨Ao67, co67, eo67⟩ := Kd.R_slice HO142.out; subst eo67) | ((with_reducible refine gate_callee (f := 13) rfl ?_); refine goesL_ (some 15) rfl rfl Try.func13 (by kernel_rfl) rfl #[.slice Ao62 t129.length co62, .slice Ao67 y140.length co67] rfl (by (try simp only [List.map_toArray, List.map_cons, List.map_nil]); first | done | rfl | (simp only [List.length_drop, List.length_take]; rfl)) ?_; (with_reducible refine (folkmootref03_Same.calls k _ _ t129 _ _ y140 true _ ?side1 ?side2 ?side3 ?side4 A4.out).mono ?_); (case side1 => exact uC (Kd.R_reads' HO131.out).2.2); (case side2 => exact (Kd.R_reads' HO131.out).2.1); (case side3 => exact uC (Kd.R_reads' HO142.out).2.2); (case side4 => exact (Kd.R_reads' HO142.out).2.1); rintro e w' ⟨rfl, ⟨nd, rfl⟩⟩; refine ⟨_, rfl, ?_⟩) | ((with_reducible refine gate_dst (N := 20) rfl ?_); (try (refine gate_guard (by rfl) ?_; dsimp only)); refine Kd.R_lit k34 _ 34 ?hg (N := 20) ?hd (xs := ([(⟨(⟨#[97]⟩ : ByteArray), (⟨#[98]⟩ : ByteArray)⟩ : S34), (⟨(⟨#[98, 0]⟩ : ByteArray), (⟨#[101]⟩ : ByteArray)⟩ : S34)] : List (S34))) (inner := [.string (⟨#[97]⟩ : ByteArray), .string (⟨#[98]⟩ : ByteArray), .string (⟨#[98, 0]⟩ : ByteArray), .string (⟨#[101]⟩ : ByteArray)]) (ok := fun _ => True) (okp := fun _ => True) ?hr ?hp (fun _ hk => hk) trivial (Below.refl _ _) (Nat.le_refl _) (by simp) ?_; (case hd => rfl); (case hg => rfl); (case hr => first | (go_simp; done) | (go_simp; rfl)); (case hp => exact (Reps.c2 (show Kd.M k34 _ _ _ (⟨(⟨#[97]⟩ : ByteArray), (⟨#[98]⟩ : ByteArray)⟩ : S34) [.string (⟨#[97]⟩ : ByteArray), .string (⟨#[98]⟩ : ByteArray)] from (k34_mkM _ _ _ (⟨(⟨#[97]⟩ : ByteArray), (⟨#[98]⟩ : ByteArray)⟩ : S34) )) (Reps.c2 (show Kd.M k34 _ _ _ (⟨(⟨#[98, 0]⟩ : ByteArray), (⟨#[101]⟩ : ByteArray)⟩ : S34) [.string (⟨#[98, 0]⟩ : ByteArray), .string (⟨#[101]⟩ : ByteArray)] from (k34_mkM _ _ _ (⟨(⟨#[98, 0]⟩ : ByteArray), (⟨#[101]⟩ : ByteArray)⟩ : S34) )) (Reps.none _ _)))); intro v145 w68 ho69 hb hg_ hnew_; clear hg_ hnew_; (first | rw [← Ny144.out] at ho69 | (simp only [Int.reduceToNat] at ho69; rw [← Ny144.out] at ho69)); have HO146 := lR (Kd.R_new' (Kd.R_new' (nR (nR (nR ho69 HO128) HO131) HO136) (Kd.R_lt (uR HO139))) (Kd.R_lt (uR HO142))) HB; replace HO128 := eR HO128 ho69 hb; replace HO131 := eR HO131 ho69 hb; replace HO136 := eR HO136 ho69 hb; replace HO139 := eR HO139 ho69 hb; replace HO142 := eR HO142 ho69 hb; replace HB := sB HB hb; clear hb ho69; obtain ⟨Ao70, co70, eo70⟩ := Kd.R_slice HO139.out; subst eo70; obtain ⟨Ao71, co71, eo71⟩ := Kd.R_slice HO146.out; subst eo71) | (go_at_call 13; (with_reducible refine (folkmootref03_Same.calls k _ _ t137 _ _ y144 true _ ?side1 ?side2 ?side3 ?side4 A6.out).mono ?_); (case side1 => exact uC (Kd.R_reads' HO139.out).2.2); (case side2 => exact (Kd.R_reads' HO139.out).2.1); (case side3 => exact uC (Kd.R_reads' HO146.out).2.2); (case side4 => exact (Kd.R_reads' HO146.out).2.1); rintro e w' ⟨rfl, ⟨nd, rfl⟩⟩) | (go_at_call 20; (with_reducible refine (span_Has.calls _ _ t129 (⟨#[98]⟩ : ByteArray) true _ ?side1 ?side2 A8.out).mono ?_); (case side1 => exact uC (Kd.R_reads' HO131.out).2.2); (case side2 => exact (Kd.R_reads' HO131.out).2.1); rintro e w72 ⟨rfl, hb⟩; replace HO128 := bR HO128 hb; replace HO131 := bR HO131 hb; replace HO136 := bR HO136 hb; replace HO139 := bR HO139 hb; replace HO142 := bR HO142 hb; replace HO146 := bR HO146 hb; replace HB := sB HB hb; (try clear hb); (try clear hb2); (try clear hk); (try clear hi)) | (go_at_call 20; (with_reducible refine (span_Has.calls _ _ t137 (⟨#[98]⟩ : ByteArray) false _ ?side1 ?side2 A10.out).mono ?_); (case side1 => exact uC (Kd.R_reads' HO139.out).2.2); (case side2 => exact (Kd.R_reads' HO139.out).2.1); rintro e w73 ⟨rfl, hb⟩; replace HO128 := bR HO128 hb; replace HO131 := bR HO131 hb; replace HO136 := bR HO136 hb; replace HO139 := bR HO139 hb; replace HO142 := bR HO142 hb; replace HO146 := bR HO146 hb; replace HB := sB HB hb; (try clear hb); (try clear hb2); (try clear hk); (try clear hi)) | (go_at_call 26; (with_reducible refine (span_Key.calls (⟨#[]⟩ : ByteArray) t150 _ A31.out).mono ?_); rintro e w' ⟨rfl, ⟨nd, rfl⟩⟩) | (go_at_call 25; (with_reducible refine (folkmootlaw03_num.calls t150 t151 _ A32.out).mono ?_); rintro e w' ⟨rfl, ⟨nd, rfl⟩⟩))
            go_ret
            exact ⟨by first | rfl | (simp [errW_none, errW_some] <;> rfl) | (simp [*, errW_none, errW_some] <;> rfl), by repeat (first | (with_reducible first | exact HB.out | apply below_alloc | apply pw_below_drewN | apply below_drew1) | exact HB.out)⟩
      · replace c9 := Bool.eq_false_iff.mpr c9
        subst c9
        have H1 : (some false) = some r := by rw [if_neg (show ¬ (false = true) by decide)] at H; exact H
        clear H
        have H := H1
        clear H1
        obtain rfl := Option.some.inj H
        go_enter Try.func11, Try.ntmps11
        go_wp2_with (first | ((with_reducible refine gate_dst (N := 6) rfl ?_); (try (refine gate_guard (by rfl) ?_; dsimp only)); refine Kd.R_lit k34 _ 34 ?hg (N := 6) ?hd (xs := ([(⟨(⟨#[97]⟩ : ByteArray), (⟨#[99]⟩ : ByteArray)⟩ : S34), (⟨(⟨#[98]⟩ : ByteArray), (⟨#[100]⟩ : ByteArray)⟩ : S34), (⟨(⟨#[100]⟩ : ByteArray), (⟨#[101]⟩ : ByteArray)⟩ : S34)] : List (S34))) (inner := [.string (⟨#[97]⟩ : ByteArray), .string (⟨#[99]⟩ : ByteArray), .string (⟨#[98]⟩ : ByteArray), .string (⟨#[100]⟩ : ByteArray), .string (⟨#[100]⟩ : ByteArray), .string (⟨#[101]⟩ : ByteArray)]) (ok := fun _ => True) (okp := fun _ => True) ?hr ?hp (fun _ hk => hk) trivial (Below.refl _ _) (Nat.le_refl _) (by simp) ?_; (case hd => rfl); (case hg => rfl); (case hr => first | (go_simp; done) | (go_simp; rfl)); (case hp => exact (Reps.c2 (show Kd.M k34 _ _ _ (⟨(⟨#[97]⟩ : ByteArray), (⟨#[99]⟩ : ByteArray)⟩ : S34) [.string (⟨#[97]⟩ : ByteArray), .string (⟨#[99]⟩ : ByteArray)] from (k34_mkM _ _ _ (⟨(⟨#[97]⟩ : ByteArray), (⟨#[99]⟩ : ByteArray)⟩ : S34) )) (Reps.c2 (show Kd.M k34 _ _ _ (⟨(⟨#[98]⟩ : ByteArray), (⟨#[100]⟩ : ByteArray)⟩ : S34) [.string (⟨#[98]⟩ : ByteArray), .string (⟨#[100]⟩ : ByteArray)] from (k34_mkM _ _ _ (⟨(⟨#[98]⟩ : ByteArray), (⟨#[100]⟩ : ByteArray)⟩ : S34) )) (Reps.c2 (show Kd.M k34 _ _ _ (⟨(⟨#[100]⟩ : ByteArray), (⟨#[101]⟩ : ByteArray)⟩ : S34) [.string (⟨#[100]⟩ : ByteArray), .string (⟨#[101]⟩ : ByteArray)] from (k34_mkM _ _ _ (⟨(⟨#[100]⟩ : ByteArray), (⟨#[101]⟩ : ByteArray)⟩ : S34) )) (Reps.none _ _))))); intro v127 w74 ho75 hb hg_ hnew_; clear hg_ hnew_; (first | rw [← Ny126.out] at ho75 | (simp only [Int.reduceToNat] at ho75; rw [← Ny126.out] at ho75)); have HO128 := lR ho75 HB; replace HB := sB HB hb; clear hb ho75; obtain ⟨Ao76, co76, eo76⟩ := Kd.R_slice HO128.out; subst eo76) | ((with_reducible refine gate_callee (f := 14) rfl ?_); refine goesL_ (some 7) rfl rfl Try.func14 (by kernel_rfl) rfl #[.slice Ao76 y126.length co76] rfl (by (try simp only [List.map_toArray, List.map_cons, List.map_nil]); first | done | rfl | (simp only [List.length_drop, List.length_take]; rfl)) ?_; (with_reducible refine (span_Union.calls _ _ y126 t129 _ ?side1 ?side2 A1.out).mono ?_); (case side1 => exact uC (Kd.R_reads' HO128.out).2.2); (case side2 => exact (Kd.R_reads' HO128.out).2.1); rintro e w77 ⟨v130, rfl, ho0, hb⟩; refine ⟨_, rfl, ?_⟩; have HO131 := lR (nR ho0 HO128) HB; replace HO128 := eR HO128 ho0 hb; replace HB := sB HB hb; (try clear hb); (try clear hb2); (try clear hk); (try clear hi); (try clear ho0)) | ((with_reducible refine gate_callee (f := 24) rfl ?_); refine goesL_ (some 9) rfl rfl Try.func24 (by kernel_rfl) rfl #[.string (⟨#[98]⟩ : ByteArray)] rfl (by (try simp only [List.map_toArray, List.map_cons, List.map_nil]); first | done | rfl | (simp only [List.length_drop, List.length_take]; rfl)) ?_; (with_reducible refine (span_Point.calls (⟨#[98]⟩ : ByteArray) t132 t133 _ A2.out).mono ?_); rintro e w78 ⟨rfl, hb⟩; refine ⟨_, rfl, ?_⟩; replace HO128 := bR HO128 hb; replace HO131 := bR HO131 hb; replace HB := sB HB hb; (try clear hb); (try clear hb2); (try clear hk); (try clear hi)) | ((with_reducible refine gate_dst (N := 10) rfl ?_); (try (refine gate_guard (by rfl) ?_; dsimp only)); refine Kd.R_lit k34 _ 34 ?hg (N := 10) ?hd (xs := ([(⟨t132, t133⟩ : S34)] : List (S34))) (inner := [.string t132, .string t133]) (ok := fun _ => True) (okp := fun _ => True) ?hr ?hp (fun _ hk => hk) trivial (Below.refl _ _) (Nat.le_refl _) (by simp) ?_; (case hd => rfl); (case hg => rfl); (case hr => first | (go_simp; done) | (go_simp; rfl)); (case hp => exact (Reps.c2 (show Kd.M k34 _ _ _ (⟨t132, t133⟩ : S34) [.string t132, .string t133] from (k34_mkM _ _ _ (⟨t132, t133⟩ : S34) )) (Reps.none _ _))); intro v135 w79 ho80 hb hg_ hnew_; clear hg_ hnew_; (first | rw [← Ny134.out] at ho80 | (simp only [Int.reduceToNat] at ho80; rw [← Ny134.out] at ho80)); have HO136 := lR (nR (nR ho80 HO128) HO131) HB; replace HO128 := eR HO128 ho80 hb; replace HO131 := eR HO131 ho80 hb; replace HB := sB HB hb; clear hb ho80; obtain ⟨Ao81, co81, eo81⟩ := Kd.R_slice HO131.out; subst eo81; obtain ⟨Ao82, co82, eo82⟩ := Kd.R_slice HO136.out; subst eo82) | ((with_reducible refine gate_callee (f := 18) rfl ?_); refine goesL_ (some 11) rfl rfl Try.func18 (by kernel_rfl) rfl #[.slice Ao81 t129.length co81, .slice Ao82 y134.length co82] rfl (by (try simp only [List.map_toArray, List.map_cons, List.map_nil]); first | done | rfl | (simp only [List.length_drop, List.length_take]; rfl)) ?_; (with_reducible refine (span_Less.calls k _ _ t129 _ _ y134 t137 _ ?side1 ?side2 ?side3 ?side4 A3.out).mono ?_); (case side1 => exact uC (Kd.R_reads' HO131.out).2.2); (case side2 => exact (Kd.R_reads' HO131.out).2.1); (case side3 => exact uC (Kd.R_reads' HO136.out).2.2); (case side4 => exact (Kd.R_reads' HO136.out).2.1); rintro e w83 ⟨v138, rfl, ho0, hb⟩; refine ⟨_, rfl, ?_⟩; have HO139 := lR (nR (nR (nR ho0 HO128) HO131) HO136) HB; replace HO128 := eR HO128 ho0 hb; replace HO131 := eR HO131 ho0 hb; replace HO136 := eR HO136 ho0 hb; replace HB := sB HB hb; (try clear hb); (try clear hb2); (try clear hk); (try clear hi); (try clear ho0)) | ((with_reducible refine gate_dst (N := 14) rfl ?_); (try (refine gate_guard (by rfl) ?_; dsimp only)); refine Kd.R_lit k34 _ 34 ?hg (N := 14) ?hd (xs := ([(⟨(⟨#[97]⟩ : ByteArray), (⟨#[101]⟩ : ByteArray)⟩ : S34)] : List (S34))) (inner := [.string (⟨#[97]⟩ : ByteArray), .string (⟨#[101]⟩ : ByteArray)]) (ok := fun _ => True) (okp := fun _ => True) ?hr ?hp (fun _ hk => hk) trivial (Below.refl _ _) (Nat.le_refl _) (by simp) ?_; (case hd => rfl); (case hg => rfl); (case hr => first | (go_simp; done) | (go_simp; rfl)); (case hp => exact (Reps.c2 (show Kd.M k34 _ _ _ (⟨(⟨#[97]⟩ : ByteArray), (⟨#[101]⟩ : ByteArray)⟩ : S34) [.string (⟨#[97]⟩ : ByteArray), .string (⟨#[101]⟩ : ByteArray)] from (k34_mkM _ _ _ (⟨(⟨#[97]⟩ : ByteArray), (⟨#[101]⟩ : ByteArray)⟩ : S34) )) (Reps.none _ _))); intro v141 w84 ho85 hb hg_ hnew_; clear hg_ hnew_; (first | rw [← Ny140.out] at ho85 | (simp only [Int.reduceToNat] at ho85; rw [← Ny140.out] at ho85)); have HO142 := lR (Kd.R_new' (nR (nR (nR ho85 HO128) HO131) HO136) (Kd.R_lt (uR HO139))) HB; replace HO128 := eR HO128 ho85 hb; replace HO131 := eR HO131 ho85 hb; replace HO136 := eR HO136 ho85 hb; replace HO139 := eR HO139 ho85 hb; replace HB := sB HB hb; clear hb ho85; obtain ⟨Ao86, co86, eo86⟩ := Kd.R_slice HO142.out; subst eo86) | ((with_reducible refine gate_callee (f := 13) rfl ?_); refine goesL_ (some 15) rfl rfl Try.func13 (by kernel_rfl) rfl #[.slice Ao81 t129.length co81, .slice Ao86 y140.length co86] rfl (by (try simp only [List.map_toArray, List.map_cons, List.map_nil]); first | done | rfl | (simp only [List.length_drop, List.length_take]; rfl)) ?_; (with_reducible refine (folkmootref03_Same.calls k _ _ t129 _ _ y140 true _ ?side1 ?side2 ?side3 ?side4 A4.out).mono ?_); (case side1 => exact uC (Kd.R_reads' HO131.out).2.2); (case side2 => exact (Kd.R_reads' HO131.out).2.1); (case side3 => exact uC (Kd.R_reads' HO142.out).2.2); (case side4 => exact (Kd.R_reads' HO142.out).2.1); rintro e w' ⟨rfl, ⟨nd, rfl⟩⟩; refine ⟨_, rfl, ?_⟩) | ((with_reducible refine gate_dst (N := 20) rfl ?_); (try (refine gate_guard (by rfl) ?_; dsimp only)); refine Kd.R_lit k34 _ 34 ?hg (N := 20) ?hd (xs := ([(⟨(⟨#[97]⟩ : ByteArray), (⟨#[98]⟩ : ByteArray)⟩ : S34), (⟨(⟨#[98, 0]⟩ : ByteArray), (⟨#[101]⟩ : ByteArray)⟩ : S34)] : List (S34))) (inner := [.string (⟨#[97]⟩ : ByteArray), .string (⟨#[98]⟩ : ByteArray), .string (⟨#[98, 0]⟩ : ByteArray), .string (⟨#[101]⟩ : ByteArray)]) (ok := fun _ => True) (okp := fun _ => True) ?hr ?hp (fun _ hk => hk) trivial (Below.refl _ _) (Nat.le_refl _) (by simp) ?_; (case hd => rfl); (case hg => rfl); (case hr => first | (go_simp; done) | (go_simp; rfl)); (case hp => exact (Reps.c2 (show Kd.M k34 _ _ _ (⟨(⟨#[97]⟩ : ByteArray), (⟨#[98]⟩ : ByteArray)⟩ : S34) [.string (⟨#[97]⟩ : ByteArray), .string (⟨#[98]⟩ : ByteArray)] from (k34_mkM _ _ _ (⟨(⟨#[97]⟩ : ByteArray), (⟨#[98]⟩ : ByteArray)⟩ : S34) )) (Reps.c2 (show Kd.M k34 _ _ _ (⟨(⟨#[98, 0]⟩ : ByteArray), (⟨#[101]⟩ : ByteArray)⟩ : S34) [.string (⟨#[98, 0]⟩ : ByteArray), .string (⟨#[101]⟩ : ByteArray)] from (k34_mkM _ _ _ (⟨(⟨#[98, 0]⟩ : ByteArray), (⟨#[101]⟩ : ByteArray)⟩ : S34) )) (Reps.none _ _)))); intro v145 w87 ho88 hb hg_ hnew_; clear hg_ hnew_; (first | rw [← Ny144.out] at ho88 | (simp only [Int.reduceToNat] at ho88; rw [← Ny144.out] at ho88)); have HO146 := lR (Kd.R_new' (Kd.R_new' (nR (nR (nR ho88 HO128) HO131) HO136) (Kd.R_lt (uR HO139))) (Kd.R_lt (uR HO142))) HB; replace HO128 := eR HO128 ho88 hb; replace HO131 := eR HO131 ho88 hb; replace HO136 := eR HO136 ho88 hb; replace HO139 := eR HO139 ho88 hb; replace HO142 := eR HO142 ho88 hb; replace HB := sB HB hb; clear hb ho88; obtain ⟨Ao89, co89, eo89⟩ := Kd.R_slice HO139.out; subst eo89; obtain ⟨Ao90, co90, eo90⟩ := Kd.R_slice HO146.out; subst eo90) | (go_at_call 13; (with_reducible refine (folkmootref03_Same.calls k _ _ t137 _ _ y144 true _ ?side1 ?side2 ?side3 ?side4 A6.out).mono ?_); (case side1 => exact uC (Kd.R_reads' HO139.out).2.2); (case side2 => exact (Kd.R_reads' HO139.out).2.1); (case side3 => exact uC (Kd.R_reads' HO146.out).2.2); (case side4 => exact (Kd.R_reads' HO146.out).2.1); rintro e w' ⟨rfl, ⟨nd, rfl⟩⟩) | (go_at_call 20; (with_reducible refine (span_Has.calls _ _ t129 (⟨#[98]⟩ : ByteArray) false _ ?side1 ?side2 A8.out).mono ?_); (case side1 => exact uC (Kd.R_reads' HO131.out).2.2); (case side2 => exact (Kd.R_reads' HO131.out).2.1); rintro e w91 ⟨rfl, hb⟩; replace HO128 := bR HO128 hb; replace HO131 := bR HO131 hb; replace HO136 := bR HO136 hb; replace HO139 := bR HO139 hb; replace HO142 := bR HO142 hb; replace HO146 := bR HO146 hb; replace HB := sB HB hb; (try clear hb); (try clear hb2); (try clear hk); (try clear hi)))
        go_ret
        exact ⟨by first | rfl | (simp [errW_none, errW_some] <;> rfl) | (simp [*, errW_none, errW_some] <;> rfl), by repeat (first | (with_reducible first | exact HB.out | apply below_alloc | apply pw_below_drewN | apply below_drew1) | exact HB.out)⟩
    · replace c7 := Bool.eq_false_iff.mpr c7
      subst c7
      have H1 : (some false) = some r := by rw [if_neg (show ¬ (false = true) by decide)] at H; exact H
      clear H
      have H := H1
      clear H1
      obtain rfl := Option.some.inj H
      go_enter Try.func11, Try.ntmps11
      go_wp2_with (first | ((with_reducible refine gate_dst (N := 6) rfl ?_); (try (refine gate_guard (by rfl) ?_; dsimp only)); refine Kd.R_lit k34 _ 34 ?hg (N := 6) ?hd (xs := ([(⟨(⟨#[97]⟩ : ByteArray), (⟨#[99]⟩ : ByteArray)⟩ : S34), (⟨(⟨#[98]⟩ : ByteArray), (⟨#[100]⟩ : ByteArray)⟩ : S34), (⟨(⟨#[100]⟩ : ByteArray), (⟨#[101]⟩ : ByteArray)⟩ : S34)] : List (S34))) (inner := [.string (⟨#[97]⟩ : ByteArray), .string (⟨#[99]⟩ : ByteArray), .string (⟨#[98]⟩ : ByteArray), .string (⟨#[100]⟩ : ByteArray), .string (⟨#[100]⟩ : ByteArray), .string (⟨#[101]⟩ : ByteArray)]) (ok := fun _ => True) (okp := fun _ => True) ?hr ?hp (fun _ hk => hk) trivial (Below.refl _ _) (Nat.le_refl _) (by simp) ?_; (case hd => rfl); (case hg => rfl); (case hr => first | (go_simp; done) | (go_simp; rfl)); (case hp => exact (Reps.c2 (show Kd.M k34 _ _ _ (⟨(⟨#[97]⟩ : ByteArray), (⟨#[99]⟩ : ByteArray)⟩ : S34) [.string (⟨#[97]⟩ : ByteArray), .string (⟨#[99]⟩ : ByteArray)] from (k34_mkM _ _ _ (⟨(⟨#[97]⟩ : ByteArray), (⟨#[99]⟩ : ByteArray)⟩ : S34) )) (Reps.c2 (show Kd.M k34 _ _ _ (⟨(⟨#[98]⟩ : ByteArray), (⟨#[100]⟩ : ByteArray)⟩ : S34) [.string (⟨#[98]⟩ : ByteArray), .string (⟨#[100]⟩ : ByteArray)] from (k34_mkM _ _ _ (⟨(⟨#[98]⟩ : ByteArray), (⟨#[100]⟩ : ByteArray)⟩ : S34) )) (Reps.c2 (show Kd.M k34 _ _ _ (⟨(⟨#[100]⟩ : ByteArray), (⟨#[101]⟩ : ByteArray)⟩ : S34) [.string (⟨#[100]⟩ : ByteArray), .string (⟨#[101]⟩ : ByteArray)] from (k34_mkM _ _ _ (⟨(⟨#[100]⟩ : ByteArray), (⟨#[101]⟩ : ByteArray)⟩ : S34) )) (Reps.none _ _))))); intro v127 w92 ho93 hb hg_ hnew_; clear hg_ hnew_; (first | rw [← Ny126.out] at ho93 | (simp only [Int.reduceToNat] at ho93; rw [← Ny126.out] at ho93)); have HO128 := lR ho93 HB; replace HB := sB HB hb; clear hb ho93; obtain ⟨Ao94, co94, eo94⟩ := Kd.R_slice HO128.out; subst eo94) | ((with_reducible refine gate_callee (f := 14) rfl ?_); refine goesL_ (some 7) rfl rfl Try.func14 (by kernel_rfl) rfl #[.slice Ao94 y126.length co94] rfl (by (try simp only [List.map_toArray, List.map_cons, List.map_nil]); first | done | rfl | (simp only [List.length_drop, List.length_take]; rfl)) ?_; (with_reducible refine (span_Union.calls _ _ y126 t129 _ ?side1 ?side2 A1.out).mono ?_); (case side1 => exact uC (Kd.R_reads' HO128.out).2.2); (case side2 => exact (Kd.R_reads' HO128.out).2.1); rintro e w95 ⟨v130, rfl, ho0, hb⟩; refine ⟨_, rfl, ?_⟩; have HO131 := lR (nR ho0 HO128) HB; replace HO128 := eR HO128 ho0 hb; replace HB := sB HB hb; (try clear hb); (try clear hb2); (try clear hk); (try clear hi); (try clear ho0)) | ((with_reducible refine gate_callee (f := 24) rfl ?_); refine goesL_ (some 9) rfl rfl Try.func24 (by kernel_rfl) rfl #[.string (⟨#[98]⟩ : ByteArray)] rfl (by (try simp only [List.map_toArray, List.map_cons, List.map_nil]); first | done | rfl | (simp only [List.length_drop, List.length_take]; rfl)) ?_; (with_reducible refine (span_Point.calls (⟨#[98]⟩ : ByteArray) t132 t133 _ A2.out).mono ?_); rintro e w96 ⟨rfl, hb⟩; refine ⟨_, rfl, ?_⟩; replace HO128 := bR HO128 hb; replace HO131 := bR HO131 hb; replace HB := sB HB hb; (try clear hb); (try clear hb2); (try clear hk); (try clear hi)) | ((with_reducible refine gate_dst (N := 10) rfl ?_); (try (refine gate_guard (by rfl) ?_; dsimp only)); refine Kd.R_lit k34 _ 34 ?hg (N := 10) ?hd (xs := ([(⟨t132, t133⟩ : S34)] : List (S34))) (inner := [.string t132, .string t133]) (ok := fun _ => True) (okp := fun _ => True) ?hr ?hp (fun _ hk => hk) trivial (Below.refl _ _) (Nat.le_refl _) (by simp) ?_; (case hd => rfl); (case hg => rfl); (case hr => first | (go_simp; done) | (go_simp; rfl)); (case hp => exact (Reps.c2 (show Kd.M k34 _ _ _ (⟨t132, t133⟩ : S34) [.string t132, .string t133] from (k34_mkM _ _ _ (⟨t132, t133⟩ : S34) )) (Reps.none _ _))); intro v135 w97 ho98 hb hg_ hnew_; clear hg_ hnew_; (first | rw [← Ny134.out] at ho98 | (simp only [Int.reduceToNat] at ho98; rw [← Ny134.out] at ho98)); have HO136 := lR (nR (nR ho98 HO128) HO131) HB; replace HO128 := eR HO128 ho98 hb; replace HO131 := eR HO131 ho98 hb; replace HB := sB HB hb; clear hb ho98; obtain ⟨Ao99, co99, eo99⟩ := Kd.R_slice HO131.out; subst eo99; obtain ⟨Ao100, co100, eo100⟩ := Kd.R_slice HO136.out; subst eo100) | ((with_reducible refine gate_callee (f := 18) rfl ?_); refine goesL_ (some 11) rfl rfl Try.func18 (by kernel_rfl) rfl #[.slice Ao99 t129.length co99, .slice Ao100 y134.length co100] rfl (by (try simp only [List.map_toArray, List.map_cons, List.map_nil]); first | done | rfl | (simp only [List.length_drop, List.length_take]; rfl)) ?_; (with_reducible refine (span_Less.calls k _ _ t129 _ _ y134 t137 _ ?side1 ?side2 ?side3 ?side4 A3.out).mono ?_); (case side1 => exact uC (Kd.R_reads' HO131.out).2.2); (case side2 => exact (Kd.R_reads' HO131.out).2.1); (case side3 => exact uC (Kd.R_reads' HO136.out).2.2); (case side4 => exact (Kd.R_reads' HO136.out).2.1); rintro e w101 ⟨v138, rfl, ho0, hb⟩; refine ⟨_, rfl, ?_⟩; have HO139 := lR (nR (nR (nR ho0 HO128) HO131) HO136) HB; replace HO128 := eR HO128 ho0 hb; replace HO131 := eR HO131 ho0 hb; replace HO136 := eR HO136 ho0 hb; replace HB := sB HB hb; (try clear hb); (try clear hb2); (try clear hk); (try clear hi); (try clear ho0)) | ((with_reducible refine gate_dst (N := 14) rfl ?_); (try (refine gate_guard (by rfl) ?_; dsimp only)); refine Kd.R_lit k34 _ 34 ?hg (N := 14) ?hd (xs := ([(⟨(⟨#[97]⟩ : ByteArray), (⟨#[101]⟩ : ByteArray)⟩ : S34)] : List (S34))) (inner := [.string (⟨#[97]⟩ : ByteArray), .string (⟨#[101]⟩ : ByteArray)]) (ok := fun _ => True) (okp := fun _ => True) ?hr ?hp (fun _ hk => hk) trivial (Below.refl _ _) (Nat.le_refl _) (by simp) ?_; (case hd => rfl); (case hg => rfl); (case hr => first | (go_simp; done) | (go_simp; rfl)); (case hp => exact (Reps.c2 (show Kd.M k34 _ _ _ (⟨(⟨#[97]⟩ : ByteArray), (⟨#[101]⟩ : ByteArray)⟩ : S34) [.string (⟨#[97]⟩ : ByteArray), .string (⟨#[101]⟩ : ByteArray)] from (k34_mkM _ _ _ (⟨(⟨#[97]⟩ : ByteArray), (⟨#[101]⟩ : ByteArray)⟩ : S34) )) (Reps.none _ _))); intro v141 w102 ho103 hb hg_ hnew_; clear hg_ hnew_; (first | rw [← Ny140.out] at ho103 | (simp only [Int.reduceToNat] at ho103; rw [← Ny140.out] at ho103)); have HO142 := lR (Kd.R_new' (nR (nR (nR ho103 HO128) HO131) HO136) (Kd.R_lt (uR HO139))) HB; replace HO128 := eR HO128 ho103 hb; replace HO131 := eR HO131 ho103 hb; replace HO136 := eR HO136 ho103 hb; replace HO139 := eR HO139 ho103 hb; replace HB := sB HB hb; clear hb ho103; obtain ⟨Ao104, co104, eo104⟩ := Kd.R_slice HO142.out; subst eo104) | ((with_reducible refine gate_callee (f := 13) rfl ?_); refine goesL_ (some 15) rfl rfl Try.func13 (by kernel_rfl) rfl #[.slice Ao99 t129.length co99, .slice Ao104 y140.length co104] rfl (by (try simp only [List.map_toArray, List.map_cons, List.map_nil]); first | done | rfl | (simp only [List.length_drop, List.length_take]; rfl)) ?_; (with_reducible refine (folkmootref03_Same.calls k _ _ t129 _ _ y140 true _ ?side1 ?side2 ?side3 ?side4 A4.out).mono ?_); (case side1 => exact uC (Kd.R_reads' HO131.out).2.2); (case side2 => exact (Kd.R_reads' HO131.out).2.1); (case side3 => exact uC (Kd.R_reads' HO142.out).2.2); (case side4 => exact (Kd.R_reads' HO142.out).2.1); rintro e w' ⟨rfl, ⟨nd, rfl⟩⟩; refine ⟨_, rfl, ?_⟩) | ((with_reducible refine gate_dst (N := 20) rfl ?_); (try (refine gate_guard (by rfl) ?_; dsimp only)); refine Kd.R_lit k34 _ 34 ?hg (N := 20) ?hd (xs := ([(⟨(⟨#[97]⟩ : ByteArray), (⟨#[98]⟩ : ByteArray)⟩ : S34), (⟨(⟨#[98, 0]⟩ : ByteArray), (⟨#[101]⟩ : ByteArray)⟩ : S34)] : List (S34))) (inner := [.string (⟨#[97]⟩ : ByteArray), .string (⟨#[98]⟩ : ByteArray), .string (⟨#[98, 0]⟩ : ByteArray), .string (⟨#[101]⟩ : ByteArray)]) (ok := fun _ => True) (okp := fun _ => True) ?hr ?hp (fun _ hk => hk) trivial (Below.refl _ _) (Nat.le_refl _) (by simp) ?_; (case hd => rfl); (case hg => rfl); (case hr => first | (go_simp; done) | (go_simp; rfl)); (case hp => exact (Reps.c2 (show Kd.M k34 _ _ _ (⟨(⟨#[97]⟩ : ByteArray), (⟨#[98]⟩ : ByteArray)⟩ : S34) [.string (⟨#[97]⟩ : ByteArray), .string (⟨#[98]⟩ : ByteArray)] from (k34_mkM _ _ _ (⟨(⟨#[97]⟩ : ByteArray), (⟨#[98]⟩ : ByteArray)⟩ : S34) )) (Reps.c2 (show Kd.M k34 _ _ _ (⟨(⟨#[98, 0]⟩ : ByteArray), (⟨#[101]⟩ : ByteArray)⟩ : S34) [.string (⟨#[98, 0]⟩ : ByteArray), .string (⟨#[101]⟩ : ByteArray)] from (k34_mkM _ _ _ (⟨(⟨#[98, 0]⟩ : ByteArray), (⟨#[101]⟩ : ByteArray)⟩ : S34) )) (Reps.none _ _)))); intro v145 w105 ho106 hb hg_ hnew_; clear hg_ hnew_; (first | rw [← Ny144.out] at ho106 | (simp only [Int.reduceToNat] at ho106; rw [← Ny144.out] at ho106)); have HO146 := lR (Kd.R_new' (Kd.R_new' (nR (nR (nR ho106 HO128) HO131) HO136) (Kd.R_lt (uR HO139))) (Kd.R_lt (uR HO142))) HB; replace HO128 := eR HO128 ho106 hb; replace HO131 := eR HO131 ho106 hb; replace HO136 := eR HO136 ho106 hb; replace HO139 := eR HO139 ho106 hb; replace HO142 := eR HO142 ho106 hb; replace HB := sB HB hb; clear hb ho106; obtain ⟨Ao107, co107, eo107⟩ := Kd.R_slice HO139.out; subst eo107; obtain ⟨Ao108, co108, eo108⟩ := Kd.R_slice HO146.out; subst eo108) | (go_at_call 13; (with_reducible refine (folkmootref03_Same.calls k _ _ t137 _ _ y144 false _ ?side1 ?side2 ?side3 ?side4 A6.out).mono ?_); (case side1 => exact uC (Kd.R_reads' HO139.out).2.2); (case side2 => exact (Kd.R_reads' HO139.out).2.1); (case side3 => exact uC (Kd.R_reads' HO146.out).2.2); (case side4 => exact (Kd.R_reads' HO146.out).2.1); rintro e w' ⟨rfl, ⟨nd, rfl⟩⟩))
      go_ret
      exact ⟨by first | rfl | (simp [errW_none, errW_some] <;> rfl) | (simp [*, errW_none, errW_some] <;> rfl), by repeat (first | (with_reducible first | exact HB.out | apply below_alloc | apply pw_below_drewN | apply below_drew1) | exact HB.out)⟩
  · replace c5 := Bool.eq_false_iff.mpr c5
    subst c5
    have H1 : (some false) = some r := by rw [if_neg (show ¬ (false = true) by decide)] at H; exact H
    clear H
    have H := H1
    clear H1
    obtain rfl := Option.some.inj H
    go_enter Try.func11, Try.ntmps11
    go_wp2_with (first | ((with_reducible refine gate_dst (N := 6) rfl ?_); (try (refine gate_guard (by rfl) ?_; dsimp only)); refine Kd.R_lit k34 _ 34 ?hg (N := 6) ?hd (xs := ([(⟨(⟨#[97]⟩ : ByteArray), (⟨#[99]⟩ : ByteArray)⟩ : S34), (⟨(⟨#[98]⟩ : ByteArray), (⟨#[100]⟩ : ByteArray)⟩ : S34), (⟨(⟨#[100]⟩ : ByteArray), (⟨#[101]⟩ : ByteArray)⟩ : S34)] : List (S34))) (inner := [.string (⟨#[97]⟩ : ByteArray), .string (⟨#[99]⟩ : ByteArray), .string (⟨#[98]⟩ : ByteArray), .string (⟨#[100]⟩ : ByteArray), .string (⟨#[100]⟩ : ByteArray), .string (⟨#[101]⟩ : ByteArray)]) (ok := fun _ => True) (okp := fun _ => True) ?hr ?hp (fun _ hk => hk) trivial (Below.refl _ _) (Nat.le_refl _) (by simp) ?_; (case hd => rfl); (case hg => rfl); (case hr => first | (go_simp; done) | (go_simp; rfl)); (case hp => exact (Reps.c2 (show Kd.M k34 _ _ _ (⟨(⟨#[97]⟩ : ByteArray), (⟨#[99]⟩ : ByteArray)⟩ : S34) [.string (⟨#[97]⟩ : ByteArray), .string (⟨#[99]⟩ : ByteArray)] from (k34_mkM _ _ _ (⟨(⟨#[97]⟩ : ByteArray), (⟨#[99]⟩ : ByteArray)⟩ : S34) )) (Reps.c2 (show Kd.M k34 _ _ _ (⟨(⟨#[98]⟩ : ByteArray), (⟨#[100]⟩ : ByteArray)⟩ : S34) [.string (⟨#[98]⟩ : ByteArray), .string (⟨#[100]⟩ : ByteArray)] from (k34_mkM _ _ _ (⟨(⟨#[98]⟩ : ByteArray), (⟨#[100]⟩ : ByteArray)⟩ : S34) )) (Reps.c2 (show Kd.M k34 _ _ _ (⟨(⟨#[100]⟩ : ByteArray), (⟨#[101]⟩ : ByteArray)⟩ : S34) [.string (⟨#[100]⟩ : ByteArray), .string (⟨#[101]⟩ : ByteArray)] from (k34_mkM _ _ _ (⟨(⟨#[100]⟩ : ByteArray), (⟨#[101]⟩ : ByteArray)⟩ : S34) )) (Reps.none _ _))))); intro v127 w109 ho110 hb hg_ hnew_; clear hg_ hnew_; (first | rw [← Ny126.out] at ho110 | (simp only [Int.reduceToNat] at ho110; rw [← Ny126.out] at ho110)); have HO128 := lR ho110 HB; replace HB := sB HB hb; clear hb ho110; obtain ⟨Ao111, co111, eo111⟩ := Kd.R_slice HO128.out; subst eo111) | ((with_reducible refine gate_callee (f := 14) rfl ?_); refine goesL_ (some 7) rfl rfl Try.func14 (by kernel_rfl) rfl #[.slice Ao111 y126.length co111] rfl (by (try simp only [List.map_toArray, List.map_cons, List.map_nil]); first | done | rfl | (simp only [List.length_drop, List.length_take]; rfl)) ?_; (with_reducible refine (span_Union.calls _ _ y126 t129 _ ?side1 ?side2 A1.out).mono ?_); (case side1 => exact uC (Kd.R_reads' HO128.out).2.2); (case side2 => exact (Kd.R_reads' HO128.out).2.1); rintro e w112 ⟨v130, rfl, ho0, hb⟩; refine ⟨_, rfl, ?_⟩; have HO131 := lR (nR ho0 HO128) HB; replace HO128 := eR HO128 ho0 hb; replace HB := sB HB hb; (try clear hb); (try clear hb2); (try clear hk); (try clear hi); (try clear ho0)) | ((with_reducible refine gate_callee (f := 24) rfl ?_); refine goesL_ (some 9) rfl rfl Try.func24 (by kernel_rfl) rfl #[.string (⟨#[98]⟩ : ByteArray)] rfl (by (try simp only [List.map_toArray, List.map_cons, List.map_nil]); first | done | rfl | (simp only [List.length_drop, List.length_take]; rfl)) ?_; (with_reducible refine (span_Point.calls (⟨#[98]⟩ : ByteArray) t132 t133 _ A2.out).mono ?_); rintro e w113 ⟨rfl, hb⟩; refine ⟨_, rfl, ?_⟩; replace HO128 := bR HO128 hb; replace HO131 := bR HO131 hb; replace HB := sB HB hb; (try clear hb); (try clear hb2); (try clear hk); (try clear hi)) | ((with_reducible refine gate_dst (N := 10) rfl ?_); (try (refine gate_guard (by rfl) ?_; dsimp only)); refine Kd.R_lit k34 _ 34 ?hg (N := 10) ?hd (xs := ([(⟨t132, t133⟩ : S34)] : List (S34))) (inner := [.string t132, .string t133]) (ok := fun _ => True) (okp := fun _ => True) ?hr ?hp (fun _ hk => hk) trivial (Below.refl _ _) (Nat.le_refl _) (by simp) ?_; (case hd => rfl); (case hg => rfl); (case hr => first | (go_simp; done) | (go_simp; rfl)); (case hp => exact (Reps.c2 (show Kd.M k34 _ _ _ (⟨t132, t133⟩ : S34) [.string t132, .string t133] from (k34_mkM _ _ _ (⟨t132, t133⟩ : S34) )) (Reps.none _ _))); intro v135 w114 ho115 hb hg_ hnew_; clear hg_ hnew_; (first | rw [← Ny134.out] at ho115 | (simp only [Int.reduceToNat] at ho115; rw [← Ny134.out] at ho115)); have HO136 := lR (nR (nR ho115 HO128) HO131) HB; replace HO128 := eR HO128 ho115 hb; replace HO131 := eR HO131 ho115 hb; replace HB := sB HB hb; clear hb ho115; obtain ⟨Ao116, co116, eo116⟩ := Kd.R_slice HO131.out; subst eo116; obtain ⟨Ao117, co117, eo117⟩ := Kd.R_slice HO136.out; subst eo117) | ((with_reducible refine gate_callee (f := 18) rfl ?_); refine goesL_ (some 11) rfl rfl Try.func18 (by kernel_rfl) rfl #[.slice Ao116 t129.length co116, .slice Ao117 y134.length co117] rfl (by (try simp only [List.map_toArray, List.map_cons, List.map_nil]); first | done | rfl | (simp only [List.length_drop, List.length_take]; rfl)) ?_; (with_reducible refine (span_Less.calls k _ _ t129 _ _ y134 t137 _ ?side1 ?side2 ?side3 ?side4 A3.out).mono ?_); (case side1 => exact uC (Kd.R_reads' HO131.out).2.2); (case side2 => exact (Kd.R_reads' HO131.out).2.1); (case side3 => exact uC (Kd.R_reads' HO136.out).2.2); (case side4 => exact (Kd.R_reads' HO136.out).2.1); rintro e w118 ⟨v138, rfl, ho0, hb⟩; refine ⟨_, rfl, ?_⟩; have HO139 := lR (nR (nR (nR ho0 HO128) HO131) HO136) HB; replace HO128 := eR HO128 ho0 hb; replace HO131 := eR HO131 ho0 hb; replace HO136 := eR HO136 ho0 hb; replace HB := sB HB hb; (try clear hb); (try clear hb2); (try clear hk); (try clear hi); (try clear ho0)) | ((with_reducible refine gate_dst (N := 14) rfl ?_); (try (refine gate_guard (by rfl) ?_; dsimp only)); refine Kd.R_lit k34 _ 34 ?hg (N := 14) ?hd (xs := ([(⟨(⟨#[97]⟩ : ByteArray), (⟨#[101]⟩ : ByteArray)⟩ : S34)] : List (S34))) (inner := [.string (⟨#[97]⟩ : ByteArray), .string (⟨#[101]⟩ : ByteArray)]) (ok := fun _ => True) (okp := fun _ => True) ?hr ?hp (fun _ hk => hk) trivial (Below.refl _ _) (Nat.le_refl _) (by simp) ?_; (case hd => rfl); (case hg => rfl); (case hr => first | (go_simp; done) | (go_simp; rfl)); (case hp => exact (Reps.c2 (show Kd.M k34 _ _ _ (⟨(⟨#[97]⟩ : ByteArray), (⟨#[101]⟩ : ByteArray)⟩ : S34) [.string (⟨#[97]⟩ : ByteArray), .string (⟨#[101]⟩ : ByteArray)] from (k34_mkM _ _ _ (⟨(⟨#[97]⟩ : ByteArray), (⟨#[101]⟩ : ByteArray)⟩ : S34) )) (Reps.none _ _))); intro v141 w119 ho120 hb hg_ hnew_; clear hg_ hnew_; (first | rw [← Ny140.out] at ho120 | (simp only [Int.reduceToNat] at ho120; rw [← Ny140.out] at ho120)); have HO142 := lR (Kd.R_new' (nR (nR (nR ho120 HO128) HO131) HO136) (Kd.R_lt (uR HO139))) HB; replace HO128 := eR HO128 ho120 hb; replace HO131 := eR HO131 ho120 hb; replace HO136 := eR HO136 ho120 hb; replace HO139 := eR HO139 ho120 hb; replace HB := sB HB hb; clear hb ho120; obtain ⟨Ao121, co121, eo121⟩ := Kd.R_slice HO142.out; subst eo121) | ((with_reducible refine gate_callee (f := 13) rfl ?_); refine goesL_ (some 15) rfl rfl Try.func13 (by kernel_rfl) rfl #[.slice Ao116 t129.length co116, .slice Ao121 y140.length co121] rfl (by (try simp only [List.map_toArray, List.map_cons, List.map_nil]); first | done | rfl | (simp only [List.length_drop, List.length_take]; rfl)) ?_; (with_reducible refine (folkmootref03_Same.calls k _ _ t129 _ _ y140 false _ ?side1 ?side2 ?side3 ?side4 A4.out).mono ?_); (case side1 => exact uC (Kd.R_reads' HO131.out).2.2); (case side2 => exact (Kd.R_reads' HO131.out).2.1); (case side3 => exact uC (Kd.R_reads' HO142.out).2.2); (case side4 => exact (Kd.R_reads' HO142.out).2.1); rintro e w' ⟨rfl, ⟨nd, rfl⟩⟩; refine ⟨_, rfl, ?_⟩))
    go_ret
    exact ⟨by first | rfl | (simp [errW_none, errW_some] <;> rfl) | (simp [*, errW_none, errW_some] <;> rfl), by repeat (first | (with_reducible first | exact HB.out | apply below_alloc | apply pw_below_drewN | apply below_drew1) | exact HB.out)⟩

end Go.Proofs.Ytjimijpkhmpilaa.P
/- Plain: live comes to true; small; an element read. -/
namespace Go.Proofs.Ytjimijpkhmpilaa.P
open Go.RowKit Go.Proofs.YtjimijpkhmpilaaW.PrintWords
set_option linter.unusedVariables false

def liveL : List S34 := [(⟨(⟨#[97]⟩ : ByteArray), (⟨#[99]⟩ : ByteArray)⟩ : S34), (⟨(⟨#[98]⟩ : ByteArray), (⟨#[100]⟩ : ByteArray)⟩ : S34), (⟨(⟨#[100]⟩ : ByteArray), (⟨#[101]⟩ : ByteArray)⟩ : S34)]
theorem live_union : span_Union.f liveL = some [(⟨(⟨#[97]⟩ : ByteArray), (⟨#[101]⟩ : ByteArray)⟩ : S34)] := by
  have hf : liveL.filter fullSp = liveL := by kernel_rfl
  have hr : Rises ltFrom liveL := by
    unfold Rises liveL
    refine List.Pairwise.cons ?_ (List.Pairwise.cons ?_ (List.Pairwise.cons ?_ List.Pairwise.nil))
    · intro x hx
      simp only [List.mem_cons, List.not_mem_nil, or_false] at hx
      rcases hx with rfl | rfl <;> kernel_rfl
    · intro x hx
      simp only [List.mem_cons, List.not_mem_nil, or_false] at hx
      subst hx
      kernel_rfl
    · intro x hx
      cases hx
  have h := (union_one liveL liveL (by rw [hf]) hr).1
  unfold span_Union.f
  rw [if_pos (by decide), ← h]
  exact (show some (mergeAll liveL) = some [(⟨(⟨#[97]⟩ : ByteArray), (⟨#[101]⟩ : ByteArray)⟩ : S34)] by kernel_rfl)
theorem live_val : folkmootlaw03_live.f 30 = some true := by
  have h : folkmootlaw03_live.f 30 = (span_Union.f liveL).bind fun t129 => ((span_Point.f (⟨#[98]⟩ : ByteArray)).bind fun bt132 => ((span_Less.f 30 t129 (([(⟨bt132.1, bt132.2⟩ : S34)] : List (S34)))).bind fun t137 => ((folkmootref03_Same.f 30 t129 (([(⟨(⟨#[97]⟩ : ByteArray), (⟨#[101]⟩ : ByteArray)⟩ : S34)] : List (S34)))).bind fun t143 => (if t143 = true then ((folkmootref03_Same.f 30 t137 (([(⟨(⟨#[97]⟩ : ByteArray), (⟨#[98]⟩ : ByteArray)⟩ : S34), (⟨(⟨#[98, 0]⟩ : ByteArray), (⟨#[101]⟩ : ByteArray)⟩ : S34)] : List (S34)))).bind fun t147 => (if t147 = true then ((span_Has.f t129 (⟨#[98]⟩ : ByteArray)).bind fun t148 => (if t148 = true then ((span_Has.f t137 (⟨#[98]⟩ : ByteArray)).bind fun t149 => (if t149 = true then (some false) else ((span_Key.f (⟨#[]⟩ : ByteArray)).bind fun t150 => ((folkmootlaw03_num.f t150).bind fun t151 => (if t151 = 30 then ((span_Meet.f t129 t137).bind fun t152 => (some t152)) else (some false)))))) else (some false))) else (some false))) else (some false))))) := rfl
  rw [h, live_union]
  exact (show ((some [(⟨(⟨#[97]⟩ : ByteArray), (⟨#[101]⟩ : ByteArray)⟩ : S34)] : Option (List S34)).bind fun t129 => ((span_Point.f (⟨#[98]⟩ : ByteArray)).bind fun bt132 => ((span_Less.f 30 t129 (([(⟨bt132.1, bt132.2⟩ : S34)] : List (S34)))).bind fun t137 => ((folkmootref03_Same.f 30 t129 (([(⟨(⟨#[97]⟩ : ByteArray), (⟨#[101]⟩ : ByteArray)⟩ : S34)] : List (S34)))).bind fun t143 => (if t143 = true then ((folkmootref03_Same.f 30 t137 (([(⟨(⟨#[97]⟩ : ByteArray), (⟨#[98]⟩ : ByteArray)⟩ : S34), (⟨(⟨#[98, 0]⟩ : ByteArray), (⟨#[101]⟩ : ByteArray)⟩ : S34)] : List (S34)))).bind fun t147 => (if t147 = true then ((span_Has.f t129 (⟨#[98]⟩ : ByteArray)).bind fun t148 => (if t148 = true then ((span_Has.f t137 (⟨#[98]⟩ : ByteArray)).bind fun t149 => (if t149 = true then (some false) else ((span_Key.f (⟨#[]⟩ : ByteArray)).bind fun t150 => ((folkmootlaw03_num.f t150).bind fun t151 => (if t151 = 30 then ((span_Meet.f t129 t137).bind fun t152 => (some t152)) else (some false)))))) else (some false))) else (some false))) else (some false)))))) = some true by kernel_rfl)
theorem live_ev : Ev (fun k => folkmootlaw03_live.f k) true := Ev.of (g := fun k => folkmootlaw03_live.f k) folkmootlaw03_live.mono live_val
theorem rd_at (l : List S34) (i : Nat) (hi : i < l.length) : rd_T34 l (i : Int) = l[i] := by simp [rd_T34, List.getD_eq_getElem?_getD, hi]
theorem union_of (l : List S34) : Sp.Of ((l.filter fullSp).map toSp) ((unionL l).map toSp) := (union_one l _ (List.mergeSort_perm _ _) (sorted_rises _)).2
theorem small_l0 (l : List S34) (hl : l.length ≤ 9223372036854775806) : ∀ (d i : Nat) (x : Int), i ≤ l.length → l.length - i = d → ∃ b, Ev (fun k => folkmootlaw03_small.l0 k l x (i : Int)) b ∧ (b = true → l.length ≤ 30) := by
  have he : ∀ x : Int, ∃ b, (if (l.length : Int) ≤ 30 then (some (decide (x ≤ 4000))) else (some false)) = some b ∧ (b = true → l.length ≤ 30) := by
    intro x
    by_cases c : (l.length : Int) ≤ 30
    · exact ⟨_, by rw [if_pos c], fun _ => by omega⟩
    · exact ⟨false, by rw [if_neg c], fun h => by cases h⟩
  intro d
  induction d with
  | zero =>
    intro i x hi hd
    have h1 : ¬ (i : Int) < (l.length : Int) := by omega
    obtain ⟨b, hb, hb2⟩ := he x
    exact ⟨b, Ev.step (f := fun _ => some b) (fun k => by simp only [folkmootlaw03_small.l0, if_neg h1, hb]) (Ev.val _), hb2⟩
  | succ d ih =>
    intro i x hi hd
    have h1 : (i : Int) < (l.length : Int) := by omega
    have h0 : (0 : Int) ≤ (i : Int) := by omega
    have hw : wrap64 ((i : Int) + 1) = ((i + 1 : Nat) : Int) := by rw [wrap_in] <;> omega
    by_cases h2 : (i : Int) ≤ 128
    · obtain ⟨b, hb, hb2⟩ := ih (i + 1) (wrap64 ((wrap64 (x + (((rd_T34 l (i : Int)).f0).size : Int))) + (((rd_T34 l (i : Int)).f1).size : Int))) (by omega) (by omega)
      exact ⟨b, Ev.step (fun k => by simp only [folkmootlaw03_small.l0, if_pos h1, if_pos h2, if_pos h0, hw]) hb, hb2⟩
    · obtain ⟨b, hb, hb2⟩ := he x
      exact ⟨b, Ev.step (f := fun _ => some b) (fun k => by simp only [folkmootlaw03_small.l0, if_pos h1, if_neg h2, hb]) (Ev.val _), hb2⟩
theorem small_ev (l : List S34) (hl : l.length ≤ 9223372036854775806) : ∃ b, Ev (fun k => folkmootlaw03_small.f k l) b ∧ (b = true → l.length ≤ 30) := small_l0 l hl l.length 0 0 (by omega) (by omega)
end Go.Proofs.Ytjimijpkhmpilaa.P
/- Plain: the reference's set, as printed, comes to the canonical list of the set that is wanted. -/
namespace Go.Proofs.Ytjimijpkhmpilaa.P
open Go.RowKit Go.Proofs.YtjimijpkhmpilaaW.PrintWords
set_option linter.unusedVariables false

/-! ### marks -/
theorem insM_spec (t : ByteArray) : ∀ l : List ByteArray, (l.map tx).Pairwise (· < ·) → ((insM t l).map tx).Pairwise (· < ·) ∧ ∀ x, x ∈ (insM t l).map tx ↔ x = tx t ∨ x ∈ l.map tx
  | [], _ => by simp [insM]
  | x :: l, h => by
    rw [List.map_cons] at h
    obtain ⟨h1, h2⟩ := List.pairwise_cons.1 h
    obtain ⟨h3, h4⟩ := insM_spec t l h2
    unfold insM
    by_cases c : Op.bytesLess x.toList t.toList = true
    · have c' : tx x < tx t := c
      rw [if_pos c, List.map_cons]
      refine ⟨List.pairwise_cons.2 ⟨fun y hy => ?_, h3⟩, fun y => ?_⟩
      · rcases (h4 y).1 hy with rfl | hy
        · exact c'
        · exact h1 y hy
      · rw [List.mem_cons, List.map_cons, List.mem_cons, h4]
        grind
    · rw [if_neg c]
      by_cases e : x.toList = t.toList
      · have e' : tx x = tx t := by unfold tx; rw [e]
        rw [if_pos e, List.map_cons]
        refine ⟨List.pairwise_cons.2 ⟨h1, h2⟩, fun y => ?_⟩
        rw [List.mem_cons, e']
        grind
      · rw [if_neg e]
        have hlt : tx t < tx x := by
          rcases bytesLess_tri x.toList t.toList with h | h | h
          · exact absurd h c
          · exact absurd h e
          · exact h
        rw [List.map_cons, List.map_cons]
        refine ⟨List.pairwise_cons.2 ⟨fun y hy => ?_, List.pairwise_cons.2 ⟨h1, h2⟩⟩, fun y => ?_⟩
        · rcases List.mem_cons.1 hy with rfl | hy
          · exact hlt
          · have := h1 y hy; grind
        · rw [List.mem_cons]
theorem midM_spec (out : List ByteArray) (x : S34) (h : (out.map tx).Pairwise (· < ·)) : ((midM out x 2).map tx).Pairwise (· < ·) ∧ ∀ y, y ∈ (midM out x 2).map tx ↔ (y = tx x.f0 ∨ (tx x.f1 ≠ .nil ∧ y = tx x.f1)) ∨ y ∈ out.map tx := by
  obtain ⟨h1, h2⟩ := insM_spec x.f0 out h
  obtain ⟨h3, h4⟩ := insM_spec x.f1 _ h1
  simp only [midM]
  by_cases c : x.f1.toList = []
  · rw [if_pos c]
    refine ⟨h1, fun y => ?_⟩
    have := (tx_nil x.f1).2 c
    rw [h2]
    grind
  · rw [if_neg c]
    refine ⟨h3, fun y => ?_⟩
    have : tx x.f1 ≠ .nil := fun e => c ((tx_nil x.f1).1 e)
    rw [h4, h2]
    grind
theorem marks_from (l : List S34) : ∀ out : List ByteArray, (out.map tx).Pairwise (· < ·) → ((l.foldl (fun out x => midM out x 2) out).map tx).Pairwise (· < ·) ∧ ∀ y, y ∈ (l.foldl (fun out x => midM out x 2) out).map tx ↔ y ∈ out.map tx ∨ ∃ x ∈ l, y = tx x.f0 ∨ (tx x.f1 ≠ .nil ∧ y = tx x.f1) := by
  induction l with
  | nil => intro out h; exact ⟨h, fun y => by simp⟩
  | cons x l ih =>
    intro out h
    obtain ⟨h1, h2⟩ := midM_spec out x h
    obtain ⟨h3, h4⟩ := ih _ h1
    refine ⟨h3, fun y => ?_⟩
    rw [List.foldl_cons, h4, h2]
    simp only [List.mem_cons, exists_eq_or_imp]
    grind
theorem marks_rise (l : List S34) : ((marksL l).map tx).Pairwise (· < ·) := (marks_from l [] List.Pairwise.nil).1
theorem marks_cover (l a : List S34) (h : ∀ x ∈ a, x ∈ l) : Sp.Covers ((marksL l).map tx) (a.map toSp) := by
  intro s hs
  obtain ⟨x, hx, rfl⟩ := List.mem_map.1 hs
  exact ⟨((marks_from l [] List.Pairwise.nil).2 _).2 (.inr ⟨x, h x hx, .inl rfl⟩), fun hn => ((marks_from l [] List.Pairwise.nil).2 _).2 (.inr ⟨x, h x hx, .inr ⟨hn, rfl⟩⟩)⟩
theorem marks_len (l : List S34) : (marksL l).length ≤ 2 * l.length := by
  have := marksL_len l l.length
  rwa [List.take_length] at this
/-! ### in -/
theorem inSp_iff (k : ByteArray) (x : S34) : inSp k x = true ↔ Sp.inn (tx k) (toSp x) := by
  unfold inSp Sp.inn toSp
  simp only [Bool.and_eq_true, Bool.not_eq_true', Bool.or_eq_true, List.isEmpty_iff, ← tx_nil]
  exact Iff.rfl
theorem any_iff (l : List S34) (k : ByteArray) : l.any (inSp k) = true ↔ Sp.mem (l.map toSp) (tx k) := by
  rw [List.any_eq_true]
  constructor
  · rintro ⟨x, hx, h⟩
    exact ⟨toSp x, List.mem_map.2 ⟨x, hx, rfl⟩, (inSp_iff k x).1 h⟩
  · rintro ⟨s, hs, h⟩
    obtain ⟨x, hx, rfl⟩ := List.mem_map.1 hs
    exact ⟨x, hx, (inSp_iff k x).2 h⟩
theorem in_val (x : S34) (k : ByteArray) : folkmootref03_in.f x.f0 x.f1 k = some (inSp k x) := by
  unfold folkmootref03_in.f inSp
  cases h1 : Op.bytesLess k.toList x.f0.toList with
  | true => simp
  | false =>
    by_cases h2 : x.f1.toList = []
    · simp [h2]
    · have : x.f1.toList.isEmpty = false := by simpa using h2
      simp [h2]
theorem has_l0 (l : List S34) (a : ByteArray) (hl : l.length ≤ 9223372036854775806) : ∀ (d i : Nat), i ≤ l.length → l.length - i = d → Ev (fun k => folkmootref03_Has.l0 k l a (i : Int)) ((l.drop i).any (inSp a)) := by
  intro d
  induction d with
  | zero =>
    intro i hi hd
    have h1 : ¬ (i : Int) < (l.length : Int) := by omega
    rw [List.drop_eq_nil_of_le (by omega)]
    exact Ev.step (fun k => by simp only [folkmootref03_Has.l0, if_neg h1]; rfl) (Ev.val _)
  | succ d ih =>
    intro i hi hd
    have h1 : (i : Int) < (l.length : Int) := by omega
    have h0 : (0 : Int) ≤ (i : Int) := by omega
    have hil : i < l.length := by omega
    have hw : wrap64 ((i : Int) + 1) = ((i + 1 : Nat) : Int) := by rw [wrap_in] <;> omega
    rw [List.drop_eq_getElem_cons hil, List.any_cons]
    cases c : inSp a l[i] with
    | true =>
      exact Ev.step (fun k => by simp only [folkmootref03_Has.l0, if_pos h1, if_pos h0, rd_at l i hil, in_val, c, Option.bind_some, if_true]) (Ev.eq (Ev.val true) (by simp))
    | false =>
      exact Ev.step (fun k => by simp only [folkmootref03_Has.l0, if_pos h1, if_pos h0, rd_at l i hil, in_val, c, Option.bind_some, Bool.false_eq_true, if_false, hw]) (Ev.eq (ih (i + 1) (by omega) (by omega)) (by simp))
theorem has_ev (l : List S34) (a : ByteArray) (hl : l.length ≤ 9223372036854775806) : Ev (fun k => folkmootref03_Has.f k l a) (l.any (inSp a)) := has_l0 l a hl l.length 0 (by omega) (by omega)
/-! ### set -/
def opW (w : Int) (x y : Bool) : Bool := if w = 2 then x && !y else if w = 1 then x && y else x || y
def tailS : Option ByteArray → List S34
  | none => []
  | some f => [(⟨f, (⟨#[]⟩ : ByteArray)⟩ : S34)]
def bldS (P : ByteArray → Bool) : Option ByteArray → List ByteArray → List S34
  | o, [] => tailS o
  | none, m :: M => if P m then bldS P (some m) M else bldS P none M
  | some f, m :: M => if P m then bldS P (some f) M else (⟨f, m⟩ : S34) :: bldS P none M
theorem nil_list : (⟨#[]⟩ : ByteArray).toList = [] := by
  first | rfl | kernel_rfl | decide | simp
theorem bldS_map (P : ByteArray → Bool) (Q : Txt → Bool) (h : ∀ x, P x = Q (tx x)) : ∀ (M : List ByteArray) (o : Option ByteArray), (bldS P o M).map toSp = Sp.bld Q (o.map tx) (M.map tx)
  | [], none => rfl
  | [], some f => by
    have : tx (⟨#[]⟩ : ByteArray) = .nil := (tx_nil _).2 nil_list
    simp [bldS, tailS, Sp.bld, toSp, this]
  | m :: M, none => by
    simp only [bldS, Sp.bld, Option.map_none, List.map_cons, h]
    split
    · exact bldS_map P Q h M (some m)
    · exact bldS_map P Q h M none
  | m :: M, some f => by
    simp only [bldS, Sp.bld, Option.map_some, List.map_cons, h]
    split
    · exact bldS_map P Q h M (some f)
    · rw [List.map_cons, bldS_map P Q h M none]
      rfl
section
variable (a b : List S34) (w : Int) (m : List ByteArray)
theorem set_j3 (out : List S34) (op : Bool) (i : Int) (is : Bool) {r : List S34} (h : Ev (fun k => folkmootref03_set.j4 k a b w m out op i is (is && !op)) r) : Ev (fun k => folkmootref03_set.j3 k a b w m out op i is) r := by
  cases is with
  | true => exact Ev.step (fun k => by simp only [folkmootref03_set.j3, if_true] <;> rfl) h
  | false => exact Ev.step (fun k => by simp only [folkmootref03_set.j3, Bool.false_eq_true, if_false] <;> rfl) h
theorem set_j2 (out : List S34) (op : Bool) (i : Int) (X Y Z is : Bool) (h2 : w = 2 → is = (X && !Y)) (h1 : w ≠ 2 → is = Z) {r : List S34} (h : Ev (fun k => folkmootref03_set.j3 k a b w m out op i is) r) : Ev (fun k => folkmootref03_set.j2 k a b w m out op i X Y Z) r := by
  by_cases c : w = 2
  · obtain rfl := h2 c
    cases X with
    | true => exact Ev.step (fun k => by simp only [folkmootref03_set.j2, if_pos c, if_true] <;> rfl) h
    | false => exact Ev.step (fun k => by simp only [folkmootref03_set.j2, if_pos c, Bool.false_eq_true, if_false] <;> rfl) h
  · obtain rfl := h1 c
    exact Ev.step (fun k => by simp only [folkmootref03_set.j2, if_neg c] <;> rfl) h
theorem set_j1 (out : List S34) (op : Bool) (i : Int) (X Y : Bool) {r : List S34} (h : Ev (fun k => folkmootref03_set.j4 k a b w m out op i (opW w X Y) (opW w X Y && !op)) r) : Ev (fun k => folkmootref03_set.j1 k a b w m out op i X Y (X || Y)) r := by
  have h3 := set_j3 a b w m out op i _ h
  by_cases c : w = 1
  · have h2 := set_j2 a b w m out op i X Y (X && Y) (opW w X Y) (fun e => by unfold opW; rw [if_pos e]) (fun e => by unfold opW; rw [if_neg e, if_pos c]) h3
    cases X with
    | true => exact Ev.step (fun k => by simp only [folkmootref03_set.j1, if_pos c, if_true] <;> rfl) (by simpa only [Bool.true_and] using h2)
    | false => exact Ev.step (fun k => by simp only [folkmootref03_set.j1, if_pos c, Bool.false_eq_true, if_false] <;> rfl) (by simpa only [Bool.false_and] using h2)
  · have h2 := set_j2 a b w m out op i X Y (X || Y) (opW w X Y) (fun e => by unfold opW; rw [if_pos e]) (fun e => by unfold opW; rw [if_neg e, if_neg c]) h3
    exact Ev.step (fun k => by simp only [folkmootref03_set.j1, if_neg c] <;> rfl) h2
theorem set_l0 (ha : a.length ≤ 9223372036854775806) (hb : b.length ≤ 9223372036854775806) (hm : m.length < 4398046511104) : ∀ (d i : Nat) (D : List S34) (o : Option ByteArray), i ≤ m.length → m.length - i = d → (D ++ tailS o).length ≤ i →
    Ev (fun k => folkmootref03_set.l0 k a b w m (D ++ tailS o) o.isSome (i : Int)) (D ++ bldS (fun x => opW w (a.any (inSp x)) (b.any (inSp x))) o (m.drop i)) := by
  intro d
  induction d with
  | zero =>
    intro i D o hi hd hD
    have h1 : ¬ (i : Int) < (m.length : Int) := by omega
    rw [List.drop_eq_nil_of_le (by omega)]
    exact Ev.step (fun k => by simp only [folkmootref03_set.l0, if_neg h1]; rfl) (Ev.eq (Ev.val _) (by cases o <;> rfl))
  | succ d ih =>
    intro i D o hi hd hD
    have h1 : (i : Int) < (m.length : Int) := by omega
    have h0 : (0 : Int) ≤ (i : Int) := by omega
    have him : i < m.length := by omega
    have hw : wrap64 ((i : Int) + 1) = ((i + 1 : Nat) : Int) := by rw [wrap_in] <;> omega
    have hrd : rdOf ByteArray.empty m (i : Int) = m[i] := by simp [rdOf, List.getD_eq_getElem?_getD, him]
    rw [List.drop_eq_getElem_cons him]
    have hx : Ev (fun k => folkmootref03_set.j4 k a b w m (D ++ tailS o) o.isSome (i : Int) (opW w (a.any (inSp m[i])) (b.any (inSp m[i]))) (opW w (a.any (inSp m[i])) (b.any (inSp m[i])) && !o.isSome)) (D ++ bldS (fun x => opW w (a.any (inSp x)) (b.any (inSp x))) o (m[i] :: m.drop (i + 1))) := by
      have hsz : (D ++ tailS o).length < 4398046511104 := by omega
      cases o with
      | none =>
        cases c : opW w (a.any (inSp m[i])) (b.any (inSp m[i])) with
        | true =>
          have hsz' : D.length < 4398046511104 := by simp [tailS] at hsz; omega
          refine Ev.step (f := fun k => folkmootref03_set.l0 k a b w m (D ++ tailS (some m[i])) true ((i + 1 : Nat) : Int)) (fun k => ?_) (Ev.eq (ih (i + 1) D (some m[i]) (by omega) (by omega) (by simp [tailS] at hD ⊢; omega)) (by simp only [bldS, c, if_true]))
          simp only [folkmootref03_set.j4, Option.isSome_none, Bool.not_false, Bool.and_self, if_true, if_pos h0, if_pos h1, if_pos hsz', Option.bind_some, hrd, hw, tailS, List.append_nil]
        | false =>
          refine Ev.step (f := fun k => folkmootref03_set.l0 k a b w m (D ++ tailS none) false ((i + 1 : Nat) : Int)) (fun k => ?_) (Ev.eq (ih (i + 1) D none (by omega) (by omega) (by omega)) (by simp only [bldS, c, Bool.false_eq_true, if_false]))
          simp only [folkmootref03_set.j4, Option.isSome_none, Bool.false_and, Bool.false_eq_true, if_false, hw]
      | some f =>
        cases c : opW w (a.any (inSp m[i])) (b.any (inSp m[i])) with
        | true =>
          refine Ev.step (f := fun k => folkmootref03_set.l0 k a b w m (D ++ tailS (some f)) true ((i + 1 : Nat) : Int)) (fun k => ?_) (Ev.eq (ih (i + 1) D (some f) (by omega) (by omega) (by omega)) (by simp only [bldS, c, if_true]))
          simp only [folkmootref03_set.j4, Option.isSome_some, Bool.not_true, Bool.and_false, Bool.false_eq_true, if_false, if_true, hw]
        | false =>
          have hlen : (D ++ tailS (some f)).length = D.length + 1 := by simp [tailS]
          have hw2 : wrap64 (((D ++ tailS (some f)).length : Int) - 1) = (D.length : Int) := by rw [hlen, wrap_in] <;> omega
          have hd0 : (0 : Int) ≤ (D.length : Int) := by omega
          have hd1 : (D.length : Int) < ((D ++ tailS (some f)).length : Int) := by omega
          have hset : (D ++ tailS (some f)).set D.length (⟨(rd_T34 (D ++ tailS (some f)) (D.length : Int)).f0, m[i]⟩ : S34) = (D ++ [(⟨f, m[i]⟩ : S34)]) ++ tailS none := by
            rw [rd_at _ D.length (by omega)]
            simp [tailS]
          refine Ev.step (f := fun k => folkmootref03_set.l0 k a b w m ((D ++ [(⟨f, m[i]⟩ : S34)]) ++ tailS none) false ((i + 1 : Nat) : Int)) (fun k => ?_) (Ev.eq (ih (i + 1) (D ++ [(⟨f, m[i]⟩ : S34)]) none (by omega) (by omega) (by simp [tailS] at hD ⊢; omega)) (by simp only [bldS, c, Bool.false_eq_true, if_false, List.append_assoc, List.singleton_append]))
          simp only [folkmootref03_set.j4, Option.isSome_some, Bool.false_and, Bool.false_eq_true, if_false, if_true, if_pos h0, if_pos h1, hw2, if_pos hd0, if_pos hd1, Int.toNat_natCast, hset, hrd, hw]
    have hj := set_j1 a b w m (D ++ tailS o) o.isSome (i : Int) (a.any (inSp m[i])) (b.any (inSp m[i])) hx
    refine Ev.step (fun k => by simp only [folkmootref03_set.l0, if_pos h1, if_pos h0, hrd]; rfl) (Ev.bind (has_ev a m[i] ha) (Ev.bind (has_ev b m[i] hb) ?_))
    cases c : a.any (inSp m[i]) with
    | true => simp only [if_true]; rw [c] at hj; exact hj
    | false => simp only [Bool.false_eq_true, if_false]; rw [c] at hj; exact hj
end
def bk (t : Txt) : ByteArray := ⟨t.l.toArray⟩
theorem tx_bk (t : Txt) : tx (bk t) = t := by
  unfold tx bk
  rw [← toList_data]
theorem bk_tx (x : ByteArray) : bk (tx x) = x := tx_inj (tx_bk (tx x))
/-- THE REFERENCE's SET -/
theorem set_ev (a b : List S34) (w : Int) (h : a.length + b.length < 1099511627776) : ∃ s, Ev (fun k => folkmootref03_set.f k a b w) s ∧ Sp.Can (s.map toSp) ∧ ∀ k, Sp.mem (s.map toSp) (tx k) ↔ opW w (a.any (inSp k)) (b.any (inSp k)) = true := by
  have hm := marks_len (a ++ b)
  rw [List.length_append] at hm
  have hMf : folkmootref03_marks.f (a ++ b) = some (marksL (a ++ b)) := by unfold folkmootref03_marks.f; rw [if_pos (by rw [List.length_append]; exact h)]
  have key := set_l0 a b w (marksL (a ++ b)) (by omega) (by omega) (by omega) (marksL (a ++ b)).length 0 [] none (by omega) (by omega) (by simp [tailS])
  refine ⟨_, Ev.congr (fun k => ?_) key, ?_⟩
  · have h1 : (([] : List S34)).length + a.length < 4398046511104 := by simp; omega
    have h2 : (([] : List S34) ++ a).length + b.length < 4398046511104 := by simp; omega
    simp only [folkmootref03_set.f, Option.bind_some, if_pos h1, if_pos h2]
    rw [List.nil_append, hMf]
    rfl
  · rw [List.nil_append, List.drop_zero, bldS_map _ (fun t => opW w ((fun t => a.any (inSp (bk t))) t) ((fun t => b.any (inSp (bk t))) t)) (fun x => by simp only [bk_tx])]
    have h0 : opW w false false = false := by unfold opW; split <;> (try split) <;> rfl
    have hc := Sp.ref_set (marks_rise (a ++ b)) (marks_cover (a ++ b) a (fun x hx => by simp [hx])) (marks_cover (a ++ b) b (fun x hx => by simp [hx])) (opW w) h0 (fun t => a.any (inSp (bk t))) (fun t => b.any (inSp (bk t))) (fun t => by rw [any_iff, tx_bk]) (fun t => by rw [any_iff, tx_bk])
    refine ⟨hc.1, fun k => ?_⟩
    have := hc.2 (tx k)
    simp only [bk_tx] at this
    exact this
theorem can_eq {a b : List S34} (ha : Sp.Can (a.map toSp)) (hb : Sp.Can (b.map toSp)) (h : ∀ k : ByteArray, Sp.mem (a.map toSp) (tx k) ↔ Sp.mem (b.map toSp) (tx k)) : a = b :=
  map_inj (fun h => toSp_inj h) (Sp.can_unique _ _ ha hb fun k => by have := h (bk k); rwa [tx_bk] at this)
theorem any_full (l : List S34) (k : ByteArray) : (l.filter fullSp).any (inSp k) = l.any (inSp k) := by
  rw [List.any_filter]
  congr 1
  funext x
  cases c : inSp k x with
  | false => simp
  | true =>
    have h1 := (inSp_iff k x).1 c
    have : fullSp x = true := (fullSp_iff x).2 (by
      unfold Sp.full
      obtain ⟨h2, h3 | h3⟩ := h1
      · exact .inl h3
      · right
        grind)
    rw [this]
    rfl
theorem union_any (l : List S34) (k : ByteArray) : (unionL l).any (inSp k) = l.any (inSp k) := by
  rw [← any_full l]
  exact Bool.eq_iff_iff.2 (by rw [any_iff, any_iff, (union_of l).mem])
theorem union_can (l : List S34) : Sp.Can ((unionL l).map toSp) := (union_of l).can
theorem union_len (l : List S34) : (unionL l).length ≤ l.length := by
  have := (union_of l).len
  rw [List.length_map, List.length_map] at this
  have := List.length_filter_le fullSp l
  omega
theorem eq_of_any {a b : List S34} (ha : Sp.Can (a.map toSp)) (hb : Sp.Can (b.map toSp)) (h : ∀ k : ByteArray, a.any (inSp k) = b.any (inSp k)) : a = b :=
  can_eq ha hb fun k => by rw [← any_iff, ← any_iff, h k]
theorem refUnion_ev (l : List S34) (h : l.length < 1099511627776) : Ev (fun k => folkmootref03_Union.f k l) (unionL l) := by
  obtain ⟨s, h1, h2, h3⟩ := set_ev l [] 0 (by simpa using h)
  have e : s = unionL l := eq_of_any h2 (union_can l) fun k => by
    rw [union_any]
    refine Bool.eq_iff_iff.2 ?_
    rw [any_iff, h3]
    simp [opW]
  subst e
  exact Ev.bind h1 (Ev.val _)
theorem same_l0 (l : List S34) (hl : l.length ≤ 9223372036854775806) : ∀ (d i : Nat), i ≤ l.length → l.length - i = d → Ev (fun k => folkmootref03_Same.l0 k l l (i : Int)) true := by
  intro d
  induction d with
  | zero =>
    intro i hi hd
    have h1 : ¬ (i : Int) < (l.length : Int) := by omega
    exact Ev.step (fun k => by simp only [folkmootref03_Same.l0, if_neg h1] <;> rfl) (Ev.val _)
  | succ d ih =>
    intro i hi hd
    have h1 : (i : Int) < (l.length : Int) := by omega
    have h0 : (0 : Int) ≤ (i : Int) := by omega
    have hw : wrap64 ((i : Int) + 1) = ((i + 1 : Nat) : Int) := by rw [wrap_in] <;> omega
    exact Ev.step (fun k => by simp only [folkmootref03_Same.l0, if_pos h1, if_pos h0, beq_self_eq_true, Bool.not_true, Bool.or_self, Bool.false_eq_true, if_false, hw] <;> rfl) (ih (i + 1) (by omega) (by omega))
theorem same_ev (l : List S34) (hl : l.length ≤ 9223372036854775806) : Ev (fun k => folkmootref03_Same.f k l l) true :=
  Ev.congr (fun k => by simp only [folkmootref03_Same.f, if_true] <;> rfl) (same_l0 l hl l.length 0 (by omega) (by omega))
theorem refSet_ev (l : List S34) (hc : Sp.Can (l.map toSp)) (h : l.length < 1099511627776) : Ev (fun k => folkmootref03_Set.f k l) true := by
  have e : unionL l = l := eq_of_any (union_can l) hc fun k => union_any l k
  have hu := refUnion_ev l h
  rw [e] at hu
  exact Ev.bind hu (Ev.bind (same_ev l (by omega)) (Ev.val _))
end Go.Proofs.Ytjimijpkhmpilaa.P
