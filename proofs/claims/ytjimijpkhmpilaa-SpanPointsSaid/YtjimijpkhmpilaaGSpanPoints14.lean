/- Texts of the proof of SpanPoints, merged (Pxfmlaw03live, PLive, PRefS, Pxfmlaw03SpanPoints, PPoints). -/
import Derived.Test.YtjimijpkhmpilaaGSpanPoints5
import Derived.Test.YtjimijpkhmpilaaGSpanPoints12
import Derived.Test.YtjimijpkhmpilaaGSpanPoints13
import Derived.Test.YtjimijpkhmpilaaGSpanPoints7
import Derived.Test.YtjimijpkhmpilaaGSpanPoints4
-- printed by a program of this session (wip/hp.py over the kit's print)
namespace Go.Proofs.Ytjimijpkhmpilaa.P
open Go.RowKit Go.Proofs.YtjimijpkhmpilaaW.PrintWords Go.Proofs.YtjimijpkhmpilaaW.PrintLast Go.Proofs.YtjimijpkhmpilaaW.PrintMore
attribute [local go_sem] str_leq str_gtr str_geq max2_str max2_int min2_int max_two min_two max_three min_three max_four min_four   -- for this text's walks alone
set_option linter.unusedVariables false
set_option linter.unusedSimpArgs false

/-! ### folkmootlaw03_live: function 11 -/
def folkmootlaw03_live.f (k : Nat)  : Option (Bool) := (span_Union.f (([(⟨(⟨#[97]⟩ : ByteArray), (⟨#[99]⟩ : ByteArray)⟩ : S34), (⟨(⟨#[98]⟩ : ByteArray), (⟨#[100]⟩ : ByteArray)⟩ : S34), (⟨(⟨#[100]⟩ : ByteArray), (⟨#[101]⟩ : ByteArray)⟩ : S34)] : List (S34)))).bind fun t129 => ((span_Point.f (⟨#[98]⟩ : ByteArray)).bind fun bt132 => ((span_Less.f k t129 (([(⟨bt132.1, bt132.2⟩ : S34)] : List (S34)))).bind fun t137 => ((folkmootref03_Same.f k t129 (([(⟨(⟨#[97]⟩ : ByteArray), (⟨#[101]⟩ : ByteArray)⟩ : S34)] : List (S34)))).bind fun t143 => (if t143 = true then ((folkmootref03_Same.f k t137 (([(⟨(⟨#[97]⟩ : ByteArray), (⟨#[98]⟩ : ByteArray)⟩ : S34), (⟨(⟨#[98, 0]⟩ : ByteArray), (⟨#[101]⟩ : ByteArray)⟩ : S34)] : List (S34)))).bind fun t147 => (if t147 = true then ((span_Has.f t129 (⟨#[98]⟩ : ByteArray)).bind fun t148 => (if t148 = true then ((span_Has.f t137 (⟨#[98]⟩ : ByteArray)).bind fun t149 => (if t149 = true then (some false) else ((span_Key.f (⟨#[]⟩ : ByteArray)).bind fun t150 => ((folkmootlaw03_num.f t150).bind fun t151 => (if t151 = 30 then ((span_Meet.f t129 t137).bind fun t152 => (some t152)) else (some false)))))) else (some false))) else (some false))) else (some false)))))
theorem folkmootlaw03_live.mono : ∀ k, LeO (folkmootlaw03_live.f k ) (folkmootlaw03_live.f (k + 1) ) := by
  intro  k
  unfold folkmootlaw03_live.f
  repeat' first
      | (with_reducible exact folkmootref03_Same.mono _ _ _)
      | (with_reducible exact span_Less.mono _ _ _)
      | (with_reducible exact LeO.refl _)
      | (with_reducible exact LeO.none _)
      | (with_reducible refine LeO.ite ?_ ?_)
      | (with_reducible refine LeO.bind ?_ (fun _ => ?_))
      | exact folkmootref03_Same.mono _ _ _
      | exact span_Less.mono _ _ _
      | exact LeO.none _
      | refine LeO.ite ?_ ?_
      | refine LeO.bind ?_ (fun _ => ?_)
set_option maxHeartbeats 8000000 in
set_option maxRecDepth 100000 in
theorem folkmootlaw03_live.calls (k : Nat)  (r : Bool) (w : World) (h : folkmootlaw03_live.f k  = some r) :
    Calls Try.prog 11 #[] w fun e w' => e = .returned (.bool r) ∧ Below w.heap.size w w' := by
  have hu34 := Try.underlying34
  have HB := Aside0.mk (Below.refl w.heap.size w)
  have H : ((span_Union.f (([(⟨(⟨#[97]⟩ : ByteArray), (⟨#[99]⟩ : ByteArray)⟩ : S34), (⟨(⟨#[98]⟩ : ByteArray), (⟨#[100]⟩ : ByteArray)⟩ : S34), (⟨(⟨#[100]⟩ : ByteArray), (⟨#[101]⟩ : ByteArray)⟩ : S34)] : List (S34)))).bind fun t129 => ((span_Point.f (⟨#[98]⟩ : ByteArray)).bind fun bt132 => ((span_Less.f k t129 (([(⟨bt132.1, bt132.2⟩ : S34)] : List (S34)))).bind fun t137 => ((folkmootref03_Same.f k t129 (([(⟨(⟨#[97]⟩ : ByteArray), (⟨#[101]⟩ : ByteArray)⟩ : S34)] : List (S34)))).bind fun t143 => (if t143 = true then ((folkmootref03_Same.f k t137 (([(⟨(⟨#[97]⟩ : ByteArray), (⟨#[98]⟩ : ByteArray)⟩ : S34), (⟨(⟨#[98, 0]⟩ : ByteArray), (⟨#[101]⟩ : ByteArray)⟩ : S34)] : List (S34)))).bind fun t147 => (if t147 = true then ((span_Has.f t129 (⟨#[98]⟩ : ByteArray)).bind fun t148 => (if t148 = true then ((span_Has.f t137 (⟨#[98]⟩ : ByteArray)).bind fun t149 => (if t149 = true then (some false) else ((span_Key.f (⟨#[]⟩ : ByteArray)).bind fun t150 => ((folkmootlaw03_num.f t150).bind fun t151 => (if t151 = 30 then ((span_Meet.f t129 t137).bind fun t152 => (some t152)) else (some false)))))) else (some false))) else (some false))) else (some false)))))) = some r := h
  clear h
  obtain ⟨y126, hy126⟩ : ∃ y_ : List (S34), y_ = (([(⟨(⟨#[97]⟩ : ByteArray), (⟨#[99]⟩ : ByteArray)⟩ : S34), (⟨(⟨#[98]⟩ : ByteArray), (⟨#[100]⟩ : ByteArray)⟩ : S34), (⟨(⟨#[100]⟩ : ByteArray), (⟨#[101]⟩ : ByteArray)⟩ : S34)] : List (S34))) := ⟨_, rfl⟩
  replace H : ((span_Union.f y126).bind fun t129 => ((span_Point.f (⟨#[98]⟩ : ByteArray)).bind fun bt132 => ((span_Less.f k t129 (([(⟨bt132.1, bt132.2⟩ : S34)] : List (S34)))).bind fun t137 => ((folkmootref03_Same.f k t129 (([(⟨(⟨#[97]⟩ : ByteArray), (⟨#[101]⟩ : ByteArray)⟩ : S34)] : List (S34)))).bind fun t143 => (if t143 = true then ((folkmootref03_Same.f k t137 (([(⟨(⟨#[97]⟩ : ByteArray), (⟨#[98]⟩ : ByteArray)⟩ : S34), (⟨(⟨#[98, 0]⟩ : ByteArray), (⟨#[101]⟩ : ByteArray)⟩ : S34)] : List (S34)))).bind fun t147 => (if t147 = true then ((span_Has.f t129 (⟨#[98]⟩ : ByteArray)).bind fun t148 => (if t148 = true then ((span_Has.f t137 (⟨#[98]⟩ : ByteArray)).bind fun t149 => (if t149 = true then (some false) else ((span_Key.f (⟨#[]⟩ : ByteArray)).bind fun t150 => ((folkmootlaw03_num.f t150).bind fun t151 => (if t151 = 30 then ((span_Meet.f t129 t137).bind fun t152 => (some t152)) else (some false)))))) else (some false))) else (some false))) else (some false)))))) = some r := by first | (rw [hy126]; with_reducible exact H) | (have H2_ := (Option.bind_some _ _).symm.trans H; rw [hy126]; with_reducible exact H2_) | (have H2_ := (Option.bind_some _ _).symm.trans H; with_reducible exact H2_) | with_reducible exact H | (rw [hy126]; exact H) | exact H
  have Ny126 := Aside0.mk hy126
  clear hy126
  replace H := Option.bind_eq_some_iff.mp H
  obtain ⟨t129, A10, H⟩ := H
  replace H : ((span_Point.f (⟨#[98]⟩ : ByteArray)).bind fun bt132 => ((span_Less.f k t129 (([(⟨bt132.1, bt132.2⟩ : S34)] : List (S34)))).bind fun t137 => ((folkmootref03_Same.f k t129 (([(⟨(⟨#[97]⟩ : ByteArray), (⟨#[101]⟩ : ByteArray)⟩ : S34)] : List (S34)))).bind fun t143 => (if t143 = true then ((folkmootref03_Same.f k t137 (([(⟨(⟨#[97]⟩ : ByteArray), (⟨#[98]⟩ : ByteArray)⟩ : S34), (⟨(⟨#[98, 0]⟩ : ByteArray), (⟨#[101]⟩ : ByteArray)⟩ : S34)] : List (S34)))).bind fun t147 => (if t147 = true then ((span_Has.f t129 (⟨#[98]⟩ : ByteArray)).bind fun t148 => (if t148 = true then ((span_Has.f t137 (⟨#[98]⟩ : ByteArray)).bind fun t149 => (if t149 = true then (some false) else ((span_Key.f (⟨#[]⟩ : ByteArray)).bind fun t150 => ((folkmootlaw03_num.f t150).bind fun t151 => (if t151 = 30 then ((span_Meet.f t129 t137).bind fun t152 => (some t152)) else (some false)))))) else (some false))) else (some false))) else (some false))))) = some r := H
  have A1 := Aside0.mk A10
  clear A10
  replace H := Option.bind_eq_some_iff.mp H
  obtain ⟨⟨t132, t133⟩, A20, H⟩ := H
  replace H : ((span_Less.f k t129 (([(⟨t132, t133⟩ : S34)] : List (S34)))).bind fun t137 => ((folkmootref03_Same.f k t129 (([(⟨(⟨#[97]⟩ : ByteArray), (⟨#[101]⟩ : ByteArray)⟩ : S34)] : List (S34)))).bind fun t143 => (if t143 = true then ((folkmootref03_Same.f k t137 (([(⟨(⟨#[97]⟩ : ByteArray), (⟨#[98]⟩ : ByteArray)⟩ : S34), (⟨(⟨#[98, 0]⟩ : ByteArray), (⟨#[101]⟩ : ByteArray)⟩ : S34)] : List (S34)))).bind fun t147 => (if t147 = true then ((span_Has.f t129 (⟨#[98]⟩ : ByteArray)).bind fun t148 => (if t148 = true then ((span_Has.f t137 (⟨#[98]⟩ : ByteArray)).bind fun t149 => (if t149 = true then (some false) else ((span_Key.f (⟨#[]⟩ : ByteArray)).bind fun t150 => ((folkmootlaw03_num.f t150).bind fun t151 => (if t151 = 30 then ((span_Meet.f t129 t137).bind fun t152 => (some t152)) else (some false)))))) else (some false))) else (some false))) else (some false)))) = some r := H
  have A2 := Aside0.mk A20
  clear A20
  obtain ⟨y134, hy134⟩ : ∃ y_ : List (S34), y_ = (([(⟨t132, t133⟩ : S34)] : List (S34))) := ⟨_, rfl⟩
  replace H : ((span_Less.f k t129 y134).bind fun t137 => ((folkmootref03_Same.f k t129 (([(⟨(⟨#[97]⟩ : ByteArray), (⟨#[101]⟩ : ByteArray)⟩ : S34)] : List (S34)))).bind fun t143 => (if t143 = true then ((folkmootref03_Same.f k t137 (([(⟨(⟨#[97]⟩ : ByteArray), (⟨#[98]⟩ : ByteArray)⟩ : S34), (⟨(⟨#[98, 0]⟩ : ByteArray), (⟨#[101]⟩ : ByteArray)⟩ : S34)] : List (S34)))).bind fun t147 => (if t147 = true then ((span_Has.f t129 (⟨#[98]⟩ : ByteArray)).bind fun t148 => (if t148 = true then ((span_Has.f t137 (⟨#[98]⟩ : ByteArray)).bind fun t149 => (if t149 = true then (some false) else ((span_Key.f (⟨#[]⟩ : ByteArray)).bind fun t150 => ((folkmootlaw03_num.f t150).bind fun t151 => (if t151 = 30 then ((span_Meet.f t129 t137).bind fun t152 => (some t152)) else (some false)))))) else (some false))) else (some false))) else (some false)))) = some r := by first | (rw [hy134]; with_reducible exact H) | (have H2_ := (Option.bind_some _ _).symm.trans H; rw [hy134]; with_reducible exact H2_) | (have H2_ := (Option.bind_some _ _).symm.trans H; with_reducible exact H2_) | with_reducible exact H | (rw [hy134]; exact H) | exact H
  have Ny134 := Aside0.mk hy134
  clear hy134
  replace H := Option.bind_eq_some_iff.mp H
  obtain ⟨t137, A30, H⟩ := H
  replace H : ((folkmootref03_Same.f k t129 (([(⟨(⟨#[97]⟩ : ByteArray), (⟨#[101]⟩ : ByteArray)⟩ : S34)] : List (S34)))).bind fun t143 => (if t143 = true then ((folkmootref03_Same.f k t137 (([(⟨(⟨#[97]⟩ : ByteArray), (⟨#[98]⟩ : ByteArray)⟩ : S34), (⟨(⟨#[98, 0]⟩ : ByteArray), (⟨#[101]⟩ : ByteArray)⟩ : S34)] : List (S34)))).bind fun t147 => (if t147 = true then ((span_Has.f t129 (⟨#[98]⟩ : ByteArray)).bind fun t148 => (if t148 = true then ((span_Has.f t137 (⟨#[98]⟩ : ByteArray)).bind fun t149 => (if t149 = true then (some false) else ((span_Key.f (⟨#[]⟩ : ByteArray)).bind fun t150 => ((folkmootlaw03_num.f t150).bind fun t151 => (if t151 = 30 then ((span_Meet.f t129 t137).bind fun t152 => (some t152)) else (some false)))))) else (some false))) else (some false))) else (some false))) = some r := H
  have A3 := Aside0.mk A30
  clear A30
  obtain ⟨y140, hy140⟩ : ∃ y_ : List (S34), y_ = (([(⟨(⟨#[97]⟩ : ByteArray), (⟨#[101]⟩ : ByteArray)⟩ : S34)] : List (S34))) := ⟨_, rfl⟩
  replace H : ((folkmootref03_Same.f k t129 y140).bind fun t143 => (if t143 = true then ((folkmootref03_Same.f k t137 (([(⟨(⟨#[97]⟩ : ByteArray), (⟨#[98]⟩ : ByteArray)⟩ : S34), (⟨(⟨#[98, 0]⟩ : ByteArray), (⟨#[101]⟩ : ByteArray)⟩ : S34)] : List (S34)))).bind fun t147 => (if t147 = true then ((span_Has.f t129 (⟨#[98]⟩ : ByteArray)).bind fun t148 => (if t148 = true then ((span_Has.f t137 (⟨#[98]⟩ : ByteArray)).bind fun t149 => (if t149 = true then (some false) else ((span_Key.f (⟨#[]⟩ : ByteArray)).bind fun t150 => ((folkmootlaw03_num.f t150).bind fun t151 => (if t151 = 30 then ((span_Meet.f t129 t137).bind fun t152 => (some t152)) else (some false)))))) else (some false))) else (some false))) else (some false))) = some r := by first | (rw [hy140]; with_reducible exact H) | (have H2_ := (Option.bind_some _ _).symm.trans H; rw [hy140]; with_reducible exact H2_) | (have H2_ := (Option.bind_some _ _).symm.trans H; with_reducible exact H2_) | with_reducible exact H | (rw [hy140]; exact H) | exact H
  have Ny140 := Aside0.mk hy140
  clear hy140
  replace H := Option.bind_eq_some_iff.mp H
  obtain ⟨t143, A40, H⟩ := H
  replace H : (if t143 = true then ((folkmootref03_Same.f k t137 (([(⟨(⟨#[97]⟩ : ByteArray), (⟨#[98]⟩ : ByteArray)⟩ : S34), (⟨(⟨#[98, 0]⟩ : ByteArray), (⟨#[101]⟩ : ByteArray)⟩ : S34)] : List (S34)))).bind fun t147 => (if t147 = true then ((span_Has.f t129 (⟨#[98]⟩ : ByteArray)).bind fun t148 => (if t148 = true then ((span_Has.f t137 (⟨#[98]⟩ : ByteArray)).bind fun t149 => (if t149 = true then (some false) else ((span_Key.f (⟨#[]⟩ : ByteArray)).bind fun t150 => ((folkmootlaw03_num.f t150).bind fun t151 => (if t151 = 30 then ((span_Meet.f t129 t137).bind fun t152 => (some t152)) else (some false)))))) else (some false))) else (some false))) else (some false)) = some r := H
  have A4 := Aside0.mk A40
  clear A40
  by_cases c5 : t143 = true
  · subst c5
    have H1 : ((folkmootref03_Same.f k t137 (([(⟨(⟨#[97]⟩ : ByteArray), (⟨#[98]⟩ : ByteArray)⟩ : S34), (⟨(⟨#[98, 0]⟩ : ByteArray), (⟨#[101]⟩ : ByteArray)⟩ : S34)] : List (S34)))).bind fun t147 => (if t147 = true then ((span_Has.f t129 (⟨#[98]⟩ : ByteArray)).bind fun t148 => (if t148 = true then ((span_Has.f t137 (⟨#[98]⟩ : ByteArray)).bind fun t149 => (if t149 = true then (some false) else ((span_Key.f (⟨#[]⟩ : ByteArray)).bind fun t150 => ((folkmootlaw03_num.f t150).bind fun t151 => (if t151 = 30 then ((span_Meet.f t129 t137).bind fun t152 => (some t152)) else (some false)))))) else (some false))) else (some false))) = some r := by rw [if_pos rfl] at H; exact H
    clear H
    have H := H1
    clear H1
    obtain ⟨y144, hy144⟩ : ∃ y_ : List (S34), y_ = (([(⟨(⟨#[97]⟩ : ByteArray), (⟨#[98]⟩ : ByteArray)⟩ : S34), (⟨(⟨#[98, 0]⟩ : ByteArray), (⟨#[101]⟩ : ByteArray)⟩ : S34)] : List (S34))) := ⟨_, rfl⟩
    replace H : ((folkmootref03_Same.f k t137 y144).bind fun t147 => (if t147 = true then ((span_Has.f t129 (⟨#[98]⟩ : ByteArray)).bind fun t148 => (if t148 = true then ((span_Has.f t137 (⟨#[98]⟩ : ByteArray)).bind fun t149 => (if t149 = true then (some false) else ((span_Key.f (⟨#[]⟩ : ByteArray)).bind fun t150 => ((folkmootlaw03_num.f t150).bind fun t151 => (if t151 = 30 then ((span_Meet.f t129 t137).bind fun t152 => (some t152)) else (some false)))))) else (some false))) else (some false))) = some r := by first | (rw [hy144]; with_reducible exact H) | (have H2_ := (Option.bind_some _ _).symm.trans H; rw [hy144]; with_reducible exact H2_) | (have H2_ := (Option.bind_some _ _).symm.trans H; with_reducible exact H2_) | with_reducible exact H | (rw [hy144]; exact H) | exact H
    have Ny144 := Aside0.mk hy144
    clear hy144
    replace H := Option.bind_eq_some_iff.mp H
    obtain ⟨t147, A60, H⟩ := H
    replace H : (if t147 = true then ((span_Has.f t129 (⟨#[98]⟩ : ByteArray)).bind fun t148 => (if t148 = true then ((span_Has.f t137 (⟨#[98]⟩ : ByteArray)).bind fun t149 => (if t149 = true then (some false) else ((span_Key.f (⟨#[]⟩ : ByteArray)).bind fun t150 => ((folkmootlaw03_num.f t150).bind fun t151 => (if t151 = 30 then ((span_Meet.f t129 t137).bind fun t152 => (some t152)) else (some false)))))) else (some false))) else (some false)) = some r := H
    have A6 := Aside0.mk A60
    clear A60
    by_cases c7 : t147 = true
    · subst c7
      have H1 : ((span_Has.f t129 (⟨#[98]⟩ : ByteArray)).bind fun t148 => (if t148 = true then ((span_Has.f t137 (⟨#[98]⟩ : ByteArray)).bind fun t149 => (if t149 = true then (some false) else ((span_Key.f (⟨#[]⟩ : ByteArray)).bind fun t150 => ((folkmootlaw03_num.f t150).bind fun t151 => (if t151 = 30 then ((span_Meet.f t129 t137).bind fun t152 => (some t152)) else (some false)))))) else (some false))) = some r := by rw [if_pos rfl] at H; exact H
      clear H
      have H := H1
      clear H1
      replace H := Option.bind_eq_some_iff.mp H
      obtain ⟨t148, A80, H⟩ := H
      replace H : (if t148 = true then ((span_Has.f t137 (⟨#[98]⟩ : ByteArray)).bind fun t149 => (if t149 = true then (some false) else ((span_Key.f (⟨#[]⟩ : ByteArray)).bind fun t150 => ((folkmootlaw03_num.f t150).bind fun t151 => (if t151 = 30 then ((span_Meet.f t129 t137).bind fun t152 => (some t152)) else (some false)))))) else (some false)) = some r := H
      have A8 := Aside0.mk A80
      clear A80
      by_cases c9 : t148 = true
      · subst c9
        have H1 : ((span_Has.f t137 (⟨#[98]⟩ : ByteArray)).bind fun t149 => (if t149 = true then (some false) else ((span_Key.f (⟨#[]⟩ : ByteArray)).bind fun t150 => ((folkmootlaw03_num.f t150).bind fun t151 => (if t151 = 30 then ((span_Meet.f t129 t137).bind fun t152 => (some t152)) else (some false)))))) = some r := by rw [if_pos rfl] at H; exact H
        clear H
        have H := H1
        clear H1
        replace H := Option.bind_eq_some_iff.mp H
        obtain ⟨t149, A100, H⟩ := H
        replace H : (if t149 = true then (some false) else ((span_Key.f (⟨#[]⟩ : ByteArray)).bind fun t150 => ((folkmootlaw03_num.f t150).bind fun t151 => (if t151 = 30 then ((span_Meet.f t129 t137).bind fun t152 => (some t152)) else (some false))))) = some r := H
        have A10 := Aside0.mk A100
        clear A100
        by_cases c11 : t149 = true
        · subst c11
          have H1 : (some false) = some r := by rw [if_pos rfl] at H; exact H
          clear H
          have H := H1
          clear H1
          obtain rfl := Option.some.inj H
          go_enter Try.func11, Try.ntmps11
          go_wp2_with (first | ((with_reducible refine gate_dst (N := 6) rfl ?_); (try (refine gate_guard (by rfl) ?_; dsimp only)); refine Kd.R_lit k34 _ 34 ?hg (N := 6) ?hd (xs := ([(⟨(⟨#[97]⟩ : ByteArray), (⟨#[99]⟩ : ByteArray)⟩ : S34), (⟨(⟨#[98]⟩ : ByteArray), (⟨#[100]⟩ : ByteArray)⟩ : S34), (⟨(⟨#[100]⟩ : ByteArray), (⟨#[101]⟩ : ByteArray)⟩ : S34)] : List (S34))) (inner := [.string (⟨#[97]⟩ : ByteArray), .string (⟨#[99]⟩ : ByteArray), .string (⟨#[98]⟩ : ByteArray), .string (⟨#[100]⟩ : ByteArray), .string (⟨#[100]⟩ : ByteArray), .string (⟨#[101]⟩ : ByteArray)]) (ok := fun _ => True) (okp := fun _ => True) ?hr ?hp (fun _ hk => hk) trivial (Below.refl _ _) (Nat.le_refl _) (by simp) ?_; (case hd => rfl); (case hg => rfl); (case hr => first | (go_simp; done) | (go_simp; rfl)); (case hp => exact (Reps.c2 (show Kd.M k34 _ _ _ (⟨(⟨#[97]⟩ : ByteArray), (⟨#[99]⟩ : ByteArray)⟩ : S34) [.string (⟨#[97]⟩ : ByteArray), .string (⟨#[99]⟩ : ByteArray)] from (k34_mkM _ _ _ (⟨(⟨#[97]⟩ : ByteArray), (⟨#[99]⟩ : ByteArray)⟩ : S34) )) (Reps.c2 (show Kd.M k34 _ _ _ (⟨(⟨#[98]⟩ : ByteArray), (⟨#[100]⟩ : ByteArray)⟩ : S34) [.string (⟨#[98]⟩ : ByteArray), .string (⟨#[100]⟩ : ByteArray)] from (k34_mkM _ _ _ (⟨(⟨#[98]⟩ : ByteArray), (⟨#[100]⟩ : ByteArray)⟩ : S34) )) (Reps.c2 (show Kd.M k34 _ _ _ (⟨(⟨#[100]⟩ : ByteArray), (⟨#[101]⟩ : ByteArray)⟩ : S34) [.string (⟨#[100]⟩ : ByteArray), .string (⟨#[101]⟩ : ByteArray)] from (k34_mkM _ _ _ (⟨(⟨#[100]⟩ : ByteArray), (⟨#[101]⟩ : ByteArray)⟩ : S34) )) (Reps.none _ _))))); intro v127 w12 ho13 hb hg_ hnew_; clear hg_ hnew_; (first | rw [← Ny126.out] at ho13 | (simp only [Int.reduceToNat] at ho13; rw [← Ny126.out] at ho13)); have n0_ := Aside0.mk (Kd.R_lower ho13 (below_size (by repeat (first | (with_reducible first | exact HB.out | apply below_alloc | apply pw_below_drewN | apply below_drew1) | exact HB.out)))); have n1_ := Aside0.mk (below_step (by repeat (first | (with_reducible first | exact HB.out | apply below_alloc | apply pw_below_drewN | apply below_drew1) | exact HB.out)) hb); clear HB; have HO128 := n0_; have HB := n1_; clear n0_ n1_; clear hb ho13; obtain ⟨Ao14, co14, eo14⟩ := Kd.R_slice HO128.out; subst eo14) | ((with_reducible refine gate_callee (f := 14) rfl ?_); refine goesL_ (some 7) rfl rfl Try.func14 (by kernel_rfl) rfl #[.slice Ao14 y126.length co14] rfl (by (try simp only [List.map_toArray, List.map_cons, List.map_nil]); first | done | rfl | (simp only [List.length_drop, List.length_take]; rfl)) ?_; (with_reducible refine (span_Union.calls _ _ y126 t129 _ ?side1 ?side2 A1.out).mono ?_); (case side1 => repeat (first | exact (Kd.R_reads' HO128.out).2.2 | (with_reducible refine Kd.C_alloc ?_ _) | (with_reducible refine Kd.C_drewN ?_ _) | (with_reducible refine Kd.C_drew ?_))); (case side2 => exact (Kd.R_reads' HO128.out).2.1); rintro e w15 ⟨v130, rfl, ho0, hb⟩; refine ⟨_, rfl, ?_⟩; have n0_ := Aside0.mk (Kd.R_elder' (by (with_reducible repeat (first | apply Kd.R_alloc | apply Kd.R_drewN | apply Kd.R_drew)); exact HO128.out) (Kd.R_base ho0) hb); have n1_ := Aside0.mk (Kd.R_lower (Kd.R_new' ho0 (Kd.R_lt (by (with_reducible repeat (first | apply Kd.R_alloc | apply Kd.R_drewN | apply Kd.R_drew)); exact HO128.out))) (below_size (by repeat (first | (with_reducible first | exact HB.out | apply below_alloc | apply pw_below_drewN | apply below_drew1) | exact HB.out)))); have n2_ := Aside0.mk (below_step (by repeat (first | (with_reducible first | exact HB.out | apply below_alloc | apply pw_below_drewN | apply below_drew1) | exact HB.out)) hb); clear HO128; clear HB; have HO128 := n0_; have HO131 := n1_; have HB := n2_; clear n0_ n1_ n2_; (try clear hb); (try clear hb2); (try clear hk); (try clear hi); (try clear ho0)) | ((with_reducible refine gate_callee (f := 24) rfl ?_); refine goesL_ (some 9) rfl rfl Try.func24 (by kernel_rfl) rfl #[.string (⟨#[98]⟩ : ByteArray)] rfl (by (try simp only [List.map_toArray, List.map_cons, List.map_nil]); first | done | rfl | (simp only [List.length_drop, List.length_take]; rfl)) ?_; (with_reducible refine (span_Point.calls (⟨#[98]⟩ : ByteArray) t132 t133 _ A2.out).mono ?_); rintro e w16 ⟨rfl, hb⟩; refine ⟨_, rfl, ?_⟩; have n0_ := Aside0.mk (Kd.R_below (by (with_reducible repeat (first | apply Kd.R_alloc | apply Kd.R_drewN | apply Kd.R_drew)); exact HO128.out) hb); have n1_ := Aside0.mk (Kd.R_below (by (with_reducible repeat (first | apply Kd.R_alloc | apply Kd.R_drewN | apply Kd.R_drew)); exact HO131.out) hb); have n2_ := Aside0.mk (below_step (by repeat (first | (with_reducible first | exact HB.out | apply below_alloc | apply pw_below_drewN | apply below_drew1) | exact HB.out)) hb); clear HO128; clear HO131; clear HB; have HO128 := n0_; have HO131 := n1_; have HB := n2_; clear n0_ n1_ n2_; (try clear hb); (try clear hb2); (try clear hk); (try clear hi)) | ((with_reducible refine gate_dst (N := 10) rfl ?_); (try (refine gate_guard (by rfl) ?_; dsimp only)); refine Kd.R_lit k34 _ 34 ?hg (N := 10) ?hd (xs := ([(⟨t132, t133⟩ : S34)] : List (S34))) (inner := [.string t132, .string t133]) (ok := fun _ => True) (okp := fun _ => True) ?hr ?hp (fun _ hk => hk) trivial (Below.refl _ _) (Nat.le_refl _) (by simp) ?_; (case hd => rfl); (case hg => rfl); (case hr => first | (go_simp; done) | (go_simp; rfl)); (case hp => exact (Reps.c2 (show Kd.M k34 _ _ _ (⟨t132, t133⟩ : S34) [.string t132, .string t133] from (k34_mkM _ _ _ (⟨t132, t133⟩ : S34) )) (Reps.none _ _))); intro v135 w17 ho18 hb hg_ hnew_; clear hg_ hnew_; (first | rw [← Ny134.out] at ho18 | (simp only [Int.reduceToNat] at ho18; rw [← Ny134.out] at ho18)); have n0_ := Aside0.mk (Kd.R_elder' (by (with_reducible repeat (first | apply Kd.R_alloc | apply Kd.R_drewN | apply Kd.R_drew)); exact HO128.out) (Kd.R_base ho18) hb); have n1_ := Aside0.mk (Kd.R_elder' (by (with_reducible repeat (first | apply Kd.R_alloc | apply Kd.R_drewN | apply Kd.R_drew)); exact HO131.out) (Kd.R_base ho18) hb); have n2_ := Aside0.mk (Kd.R_lower (Kd.R_new' (Kd.R_new' ho18 (Kd.R_lt (by (with_reducible repeat (first | apply Kd.R_alloc | apply Kd.R_drewN | apply Kd.R_drew)); exact HO128.out))) (Kd.R_lt (by (with_reducible repeat (first | apply Kd.R_alloc | apply Kd.R_drewN | apply Kd.R_drew)); exact HO131.out))) (below_size (by repeat (first | (with_reducible first | exact HB.out | apply below_alloc | apply pw_below_drewN | apply below_drew1) | exact HB.out)))); have n3_ := Aside0.mk (below_step (by repeat (first | (with_reducible first | exact HB.out | apply below_alloc | apply pw_below_drewN | apply below_drew1) | exact HB.out)) hb); clear HO128; clear HO131; clear HB; have HO128 := n0_; have HO131 := n1_; have HO136 := n2_; have HB := n3_; clear n0_ n1_ n2_ n3_; clear hb ho18; obtain ⟨Ao19, co19, eo19⟩ := Kd.R_slice HO131.out; subst eo19; obtain ⟨Ao20, co20, eo20⟩ := Kd.R_slice HO136.out; subst eo20) | ((with_reducible refine gate_callee (f := 18) rfl ?_); refine goesL_ (some 11) rfl rfl Try.func18 (by kernel_rfl) rfl #[.slice Ao19 t129.length co19, .slice Ao20 y134.length co20] rfl (by (try simp only [List.map_toArray, List.map_cons, List.map_nil]); first | done | rfl | (simp only [List.length_drop, List.length_take]; rfl)) ?_; (with_reducible refine (span_Less.calls k _ _ t129 _ _ y134 t137 _ ?side1 ?side2 ?side3 ?side4 A3.out).mono ?_); (case side1 => repeat (first | exact (Kd.R_reads' HO131.out).2.2 | (with_reducible refine Kd.C_alloc ?_ _) | (with_reducible refine Kd.C_drewN ?_ _) | (with_reducible refine Kd.C_drew ?_))); (case side2 => exact (Kd.R_reads' HO131.out).2.1); (case side3 => repeat (first | exact (Kd.R_reads' HO136.out).2.2 | (with_reducible refine Kd.C_alloc ?_ _) | (with_reducible refine Kd.C_drewN ?_ _) | (with_reducible refine Kd.C_drew ?_))); (case side4 => exact (Kd.R_reads' HO136.out).2.1); rintro e w21 ⟨v138, rfl, ho0, hb⟩; refine ⟨_, rfl, ?_⟩; have n0_ := Aside0.mk (Kd.R_elder' (by (with_reducible repeat (first | apply Kd.R_alloc | apply Kd.R_drewN | apply Kd.R_drew)); exact HO128.out) (Kd.R_base ho0) hb); have n1_ := Aside0.mk (Kd.R_elder' (by (with_reducible repeat (first | apply Kd.R_alloc | apply Kd.R_drewN | apply Kd.R_drew)); exact HO131.out) (Kd.R_base ho0) hb); have n2_ := Aside0.mk (Kd.R_elder' (by (with_reducible repeat (first | apply Kd.R_alloc | apply Kd.R_drewN | apply Kd.R_drew)); exact HO136.out) (Kd.R_base ho0) hb); have n3_ := Aside0.mk (Kd.R_lower (Kd.R_new' (Kd.R_new' (Kd.R_new' ho0 (Kd.R_lt (by (with_reducible repeat (first | apply Kd.R_alloc | apply Kd.R_drewN | apply Kd.R_drew)); exact HO128.out))) (Kd.R_lt (by (with_reducible repeat (first | apply Kd.R_alloc | apply Kd.R_drewN | apply Kd.R_drew)); exact HO131.out))) (Kd.R_lt (by (with_reducible repeat (first | apply Kd.R_alloc | apply Kd.R_drewN | apply Kd.R_drew)); exact HO136.out))) (below_size (by repeat (first | (with_reducible first | exact HB.out | apply below_alloc | apply pw_below_drewN | apply below_drew1) | exact HB.out)))); have n4_ := Aside0.mk (below_step (by repeat (first | (with_reducible first | exact HB.out | apply below_alloc | apply pw_below_drewN | apply below_drew1) | exact HB.out)) hb); clear HO128; clear HO131; clear HO136; clear HB; have HO128 := n0_; have HO131 := n1_; have HO136 := n2_; have HO139 := n3_; have HB := n4_; clear n0_ n1_ n2_ n3_ n4_; (try clear hb); (try clear hb2); (try clear hk); (try clear hi); (try clear ho0)) | ((with_reducible refine gate_dst (N := 14) rfl ?_); (try (refine gate_guard (by rfl) ?_; dsimp only)); refine Kd.R_lit k34 _ 34 ?hg (N := 14) ?hd (xs := ([(⟨(⟨#[97]⟩ : ByteArray), (⟨#[101]⟩ : ByteArray)⟩ : S34)] : List (S34))) (inner := [.string (⟨#[97]⟩ : ByteArray), .string (⟨#[101]⟩ : ByteArray)]) (ok := fun _ => True) (okp := fun _ => True) ?hr ?hp (fun _ hk => hk) trivial (Below.refl _ _) (Nat.le_refl _) (by simp) ?_; (case hd => rfl); (case hg => rfl); (case hr => first | (go_simp; done) | (go_simp; rfl)); (case hp => exact (Reps.c2 (show Kd.M k34 _ _ _ (⟨(⟨#[97]⟩ : ByteArray), (⟨#[101]⟩ : ByteArray)⟩ : S34) [.string (⟨#[97]⟩ : ByteArray), .string (⟨#[101]⟩ : ByteArray)] from (k34_mkM _ _ _ (⟨(⟨#[97]⟩ : ByteArray), (⟨#[101]⟩ : ByteArray)⟩ : S34) )) (Reps.none _ _))); intro v141 w22 ho23 hb hg_ hnew_; clear hg_ hnew_; (first | rw [← Ny140.out] at ho23 | (simp only [Int.reduceToNat] at ho23; rw [← Ny140.out] at ho23)); have n0_ := Aside0.mk (Kd.R_elder' (by (with_reducible repeat (first | apply Kd.R_alloc | apply Kd.R_drewN | apply Kd.R_drew)); exact HO128.out) (Kd.R_base ho23) hb); have n1_ := Aside0.mk (Kd.R_elder' (by (with_reducible repeat (first | apply Kd.R_alloc | apply Kd.R_drewN | apply Kd.R_drew)); exact HO131.out) (Kd.R_base ho23) hb); have n2_ := Aside0.mk (Kd.R_elder' (by (with_reducible repeat (first | apply Kd.R_alloc | apply Kd.R_drewN | apply Kd.R_drew)); exact HO136.out) (Kd.R_base ho23) hb); have n3_ := Aside0.mk (Kd.R_elder' (by (with_reducible repeat (first | apply Kd.R_alloc | apply Kd.R_drewN | apply Kd.R_drew)); exact HO139.out) (Kd.R_base ho23) hb); have n4_ := Aside0.mk (Kd.R_lower (Kd.R_new' (Kd.R_new' (Kd.R_new' (Kd.R_new' ho23 (Kd.R_lt (by (with_reducible repeat (first | apply Kd.R_alloc | apply Kd.R_drewN | apply Kd.R_drew)); exact HO128.out))) (Kd.R_lt (by (with_reducible repeat (first | apply Kd.R_alloc | apply Kd.R_drewN | apply Kd.R_drew)); exact HO131.out))) (Kd.R_lt (by (with_reducible repeat (first | apply Kd.R_alloc | apply Kd.R_drewN | apply Kd.R_drew)); exact HO136.out))) (Kd.R_lt (by (with_reducible repeat (first | apply Kd.R_alloc | apply Kd.R_drewN | apply Kd.R_drew)); exact HO139.out))) (below_size (by repeat (first | (with_reducible first | exact HB.out | apply below_alloc | apply pw_below_drewN | apply below_drew1) | exact HB.out)))); have n5_ := Aside0.mk (below_step (by repeat (first | (with_reducible first | exact HB.out | apply below_alloc | apply pw_below_drewN | apply below_drew1) | exact HB.out)) hb); clear HO128; clear HO131; clear HO136; clear HO139; clear HB; have HO128 := n0_; have HO131 := n1_; have HO136 := n2_; have HO139 := n3_; have HO142 := n4_; have HB := n5_; clear n0_ n1_ n2_ n3_ n4_ n5_; clear hb ho23; obtain ⟨Ao24, co24, eo24⟩ := Kd.R_slice HO142.out; subst eo24) | ((with_reducible refine gate_callee (f := 13) rfl ?_); refine goesL_ (some 15) rfl rfl Try.func13 (by kernel_rfl) rfl #[.slice Ao19 t129.length co19, .slice Ao24 y140.length co24] rfl (by (try simp only [List.map_toArray, List.map_cons, List.map_nil]); first | done | rfl | (simp only [List.length_drop, List.length_take]; rfl)) ?_; (with_reducible refine (folkmootref03_Same.calls k _ _ t129 _ _ y140 true _ ?side1 ?side2 ?side3 ?side4 A4.out).mono ?_); (case side1 => repeat (first | exact (Kd.R_reads' HO131.out).2.2 | (with_reducible refine Kd.C_alloc ?_ _) | (with_reducible refine Kd.C_drewN ?_ _) | (with_reducible refine Kd.C_drew ?_))); (case side2 => exact (Kd.R_reads' HO131.out).2.1); (case side3 => repeat (first | exact (Kd.R_reads' HO142.out).2.2 | (with_reducible refine Kd.C_alloc ?_ _) | (with_reducible refine Kd.C_drewN ?_ _) | (with_reducible refine Kd.C_drew ?_))); (case side4 => exact (Kd.R_reads' HO142.out).2.1); rintro e w' ⟨rfl, ⟨nd, rfl⟩⟩; refine ⟨_, rfl, ?_⟩) | ((with_reducible refine gate_dst (N := 20) rfl ?_); (try (refine gate_guard (by rfl) ?_; dsimp only)); refine Kd.R_lit k34 _ 34 ?hg (N := 20) ?hd (xs := ([(⟨(⟨#[97]⟩ : ByteArray), (⟨#[98]⟩ : ByteArray)⟩ : S34), (⟨(⟨#[98, 0]⟩ : ByteArray), (⟨#[101]⟩ : ByteArray)⟩ : S34)] : List (S34))) (inner := [.string (⟨#[97]⟩ : ByteArray), .string (⟨#[98]⟩ : ByteArray), .string (⟨#[98, 0]⟩ : ByteArray), .string (⟨#[101]⟩ : ByteArray)]) (ok := fun _ => True) (okp := fun _ => True) ?hr ?hp (fun _ hk => hk) trivial (Below.refl _ _) (Nat.le_refl _) (by simp) ?_; (case hd => rfl); (case hg => rfl); (case hr => first | (go_simp; done) | (go_simp; rfl)); (case hp => exact (Reps.c2 (show Kd.M k34 _ _ _ (⟨(⟨#[97]⟩ : ByteArray), (⟨#[98]⟩ : ByteArray)⟩ : S34) [.string (⟨#[97]⟩ : ByteArray), .string (⟨#[98]⟩ : ByteArray)] from (k34_mkM _ _ _ (⟨(⟨#[97]⟩ : ByteArray), (⟨#[98]⟩ : ByteArray)⟩ : S34) )) (Reps.c2 (show Kd.M k34 _ _ _ (⟨(⟨#[98, 0]⟩ : ByteArray), (⟨#[101]⟩ : ByteArray)⟩ : S34) [.string (⟨#[98, 0]⟩ : ByteArray), .string (⟨#[101]⟩ : ByteArray)] from (k34_mkM _ _ _ (⟨(⟨#[98, 0]⟩ : ByteArray), (⟨#[101]⟩ : ByteArray)⟩ : S34) )) (Reps.none _ _)))); intro v145 w25 ho26 hb hg_ hnew_; clear hg_ hnew_; (first | rw [← Ny144.out] at ho26 | (simp only [Int.reduceToNat] at ho26; rw [← Ny144.out] at ho26)); have n0_ := Aside0.mk (Kd.R_elder' (by (with_reducible repeat (first | apply Kd.R_alloc | apply Kd.R_drewN | apply Kd.R_drew)); exact HO128.out) (Kd.R_base ho26) hb); have n1_ := Aside0.mk (Kd.R_elder' (by (with_reducible repeat (first | apply Kd.R_alloc | apply Kd.R_drewN | apply Kd.R_drew)); exact HO131.out) (Kd.R_base ho26) hb); have n2_ := Aside0.mk (Kd.R_elder' (by (with_reducible repeat (first | apply Kd.R_alloc | apply Kd.R_drewN | apply Kd.R_drew)); exact HO136.out) (Kd.R_base ho26) hb); have n3_ := Aside0.mk (Kd.R_elder' (by (with_reducible repeat (first | apply Kd.R_alloc | apply Kd.R_drewN | apply Kd.R_drew)); exact HO139.out) (Kd.R_base ho26) hb); have n4_ := Aside0.mk (Kd.R_elder' (by (with_reducible repeat (first | apply Kd.R_alloc | apply Kd.R_drewN | apply Kd.R_drew)); exact HO142.out) (Kd.R_base ho26) hb); have n5_ := Aside0.mk (Kd.R_lower (Kd.R_new' (Kd.R_new' (Kd.R_new' (Kd.R_new' (Kd.R_new' ho26 (Kd.R_lt (by (with_reducible repeat (first | apply Kd.R_alloc | apply Kd.R_drewN | apply Kd.R_drew)); exact HO128.out))) (Kd.R_lt (by (with_reducible repeat (first | apply Kd.R_alloc | apply Kd.R_drewN | apply Kd.R_drew)); exact HO131.out))) (Kd.R_lt (by (with_reducible repeat (first | apply Kd.R_alloc | apply Kd.R_drewN | apply Kd.R_drew)); exact HO136.out))) (Kd.R_lt (by (with_reducible repeat (first | apply Kd.R_alloc | apply Kd.R_drewN | apply Kd.R_drew)); exact HO139.out))) (Kd.R_lt (by (with_reducible repeat (first | apply Kd.R_alloc | apply Kd.R_drewN | apply Kd.R_drew)); exact HO142.out))) (below_size (by repeat (first | (with_reducible first | exact HB.out | apply below_alloc | apply pw_below_drewN | apply below_drew1) | exact HB.out)))); have n6_ := Aside0.mk (below_step (by repeat (first | (with_reducible first | exact HB.out | apply below_alloc | apply pw_below_drewN | apply below_drew1) | exact HB.out)) hb); clear HO128; clear HO131; clear HO136; clear HO139; clear HO142; clear HB; have HO128 := n0_; have HO131 := n1_; have HO136 := n2_; have HO139 := n3_; have HO142 := n4_; have HO146 := n5_; have HB := n6_; clear n0_ n1_ n2_ n3_ n4_ n5_ n6_; clear hb ho26; obtain ⟨Ao27, co27, eo27⟩ := Kd.R_slice HO139.out; subst eo27; obtain ⟨Ao28, co28, eo28⟩ := Kd.R_slice HO146.out; subst eo28) | (go_at_call 13; (with_reducible refine (folkmootref03_Same.calls k _ _ t137 _ _ y144 true _ ?side1 ?side2 ?side3 ?side4 A6.out).mono ?_); (case side1 => repeat (first | exact (Kd.R_reads' HO139.out).2.2 | (with_reducible refine Kd.C_alloc ?_ _) | (with_reducible refine Kd.C_drewN ?_ _) | (with_reducible refine Kd.C_drew ?_))); (case side2 => exact (Kd.R_reads' HO139.out).2.1); (case side3 => repeat (first | exact (Kd.R_reads' HO146.out).2.2 | (with_reducible refine Kd.C_alloc ?_ _) | (with_reducible refine Kd.C_drewN ?_ _) | (with_reducible refine Kd.C_drew ?_))); (case side4 => exact (Kd.R_reads' HO146.out).2.1); rintro e w' ⟨rfl, ⟨nd, rfl⟩⟩) | (go_at_call 20; (with_reducible refine (span_Has.calls _ _ t129 (⟨#[98]⟩ : ByteArray) true _ ?side1 ?side2 A8.out).mono ?_); (case side1 => repeat (first | exact (Kd.R_reads' HO131.out).2.2 | (with_reducible refine Kd.C_alloc ?_ _) | (with_reducible refine Kd.C_drewN ?_ _) | (with_reducible refine Kd.C_drew ?_))); (case side2 => exact (Kd.R_reads' HO131.out).2.1); rintro e w29 ⟨rfl, hb⟩; have n0_ := Aside0.mk (Kd.R_below (by (with_reducible repeat (first | apply Kd.R_alloc | apply Kd.R_drewN | apply Kd.R_drew)); exact HO128.out) hb); have n1_ := Aside0.mk (Kd.R_below (by (with_reducible repeat (first | apply Kd.R_alloc | apply Kd.R_drewN | apply Kd.R_drew)); exact HO131.out) hb); have n2_ := Aside0.mk (Kd.R_below (by (with_reducible repeat (first | apply Kd.R_alloc | apply Kd.R_drewN | apply Kd.R_drew)); exact HO136.out) hb); have n3_ := Aside0.mk (Kd.R_below (by (with_reducible repeat (first | apply Kd.R_alloc | apply Kd.R_drewN | apply Kd.R_drew)); exact HO139.out) hb); have n4_ := Aside0.mk (Kd.R_below (by (with_reducible repeat (first | apply Kd.R_alloc | apply Kd.R_drewN | apply Kd.R_drew)); exact HO142.out) hb); have n5_ := Aside0.mk (Kd.R_below (by (with_reducible repeat (first | apply Kd.R_alloc | apply Kd.R_drewN | apply Kd.R_drew)); exact HO146.out) hb); have n6_ := Aside0.mk (below_step (by repeat (first | (with_reducible first | exact HB.out | apply below_alloc | apply pw_below_drewN | apply below_drew1) | exact HB.out)) hb); clear HO128; clear HO131; clear HO136; clear HO139; clear HO142; clear HO146; clear HB; have HO128 := n0_; have HO131 := n1_; have HO136 := n2_; have HO139 := n3_; have HO142 := n4_; have HO146 := n5_; have HB := n6_; clear n0_ n1_ n2_ n3_ n4_ n5_ n6_; (try clear hb); (try clear hb2); (try clear hk); (try clear hi)) | (go_at_call 20; (with_reducible refine (span_Has.calls _ _ t137 (⟨#[98]⟩ : ByteArray) true _ ?side1 ?side2 A10.out).mono ?_); (case side1 => repeat (first | exact (Kd.R_reads' HO139.out).2.2 | (with_reducible refine Kd.C_alloc ?_ _) | (with_reducible refine Kd.C_drewN ?_ _) | (with_reducible refine Kd.C_drew ?_))); (case side2 => exact (Kd.R_reads' HO139.out).2.1); rintro e w30 ⟨rfl, hb⟩; have n0_ := Aside0.mk (Kd.R_below (by (with_reducible repeat (first | apply Kd.R_alloc | apply Kd.R_drewN | apply Kd.R_drew)); exact HO128.out) hb); have n1_ := Aside0.mk (Kd.R_below (by (with_reducible repeat (first | apply Kd.R_alloc | apply Kd.R_drewN | apply Kd.R_drew)); exact HO131.out) hb); have n2_ := Aside0.mk (Kd.R_below (by (with_reducible repeat (first | apply Kd.R_alloc | apply Kd.R_drewN | apply Kd.R_drew)); exact HO136.out) hb); have n3_ := Aside0.mk (Kd.R_below (by (with_reducible repeat (first | apply Kd.R_alloc | apply Kd.R_drewN | apply Kd.R_drew)); exact HO139.out) hb); have n4_ := Aside0.mk (Kd.R_below (by (with_reducible repeat (first | apply Kd.R_alloc | apply Kd.R_drewN | apply Kd.R_drew)); exact HO142.out) hb); have n5_ := Aside0.mk (Kd.R_below (by (with_reducible repeat (first | apply Kd.R_alloc | apply Kd.R_drewN | apply Kd.R_drew)); exact HO146.out) hb); have n6_ := Aside0.mk (below_step (by repeat (first | (with_reducible first | exact HB.out | apply below_alloc | apply pw_below_drewN | apply below_drew1) | exact HB.out)) hb); clear HO128; clear HO131; clear HO136; clear HO139; clear HO142; clear HO146; clear HB; have HO128 := n0_; have HO131 := n1_; have HO136 := n2_; have HO139 := n3_; have HO142 := n4_; have HO146 := n5_; have HB := n6_; clear n0_ n1_ n2_ n3_ n4_ n5_ n6_; (try clear hb); (try clear hb2); (try clear hk); (try clear hi)))
          go_ret
          exact ⟨by first | rfl | (simp [errW_none, errW_some] <;> rfl) | (simp [*, errW_none, errW_some] <;> rfl), by repeat (first | (with_reducible first | exact HB.out | apply below_alloc | apply pw_below_drewN | apply below_drew1) | exact HB.out)⟩
        · replace c11 := Bool.eq_false_iff.mpr c11
          subst c11
          have H1 : ((span_Key.f (⟨#[]⟩ : ByteArray)).bind fun t150 => ((folkmootlaw03_num.f t150).bind fun t151 => (if t151 = 30 then ((span_Meet.f t129 t137).bind fun t152 => (some t152)) else (some false)))) = some r := by rw [if_neg (show ¬ (false = true) by decide)] at H; exact H
          clear H
          have H := H1
          clear H1
          replace H := Option.bind_eq_some_iff.mp H
          obtain ⟨t150, A310, H⟩ := H
          replace H : ((folkmootlaw03_num.f t150).bind fun t151 => (if t151 = 30 then ((span_Meet.f t129 t137).bind fun t152 => (some t152)) else (some false))) = some r := H
          have A31 := Aside0.mk A310
          clear A310
          replace H := Option.bind_eq_some_iff.mp H
          obtain ⟨t151, A320, H⟩ := H
          replace H : (if t151 = 30 then ((span_Meet.f t129 t137).bind fun t152 => (some t152)) else (some false)) = some r := H
          have A32 := Aside0.mk A320
          clear A320
          by_cases c33 : t151 = 30
          · rw [if_pos c33] at H
            have c33b0 : (t151 == 30) = true := beq_iff_eq.mpr c33
            have c33b1 : (t151 != 30) = false := bne_eq_false_iff_eq.mpr c33
            clear c33
            replace H := Option.bind_eq_some_iff.mp H
            obtain ⟨t152, A340, H⟩ := H
            replace H : (some t152) = some r := H
            have A34 := Aside0.mk A340
            clear A340
            obtain rfl := Option.some.inj H
            go_enter Try.func11, Try.ntmps11
            go_wp2_with (first | ((with_reducible refine gate_dst (N := 6) rfl ?_); (try (refine gate_guard (by rfl) ?_; dsimp only)); refine Kd.R_lit k34 _ 34 ?hg (N := 6) ?hd (xs := ([(⟨(⟨#[97]⟩ : ByteArray), (⟨#[99]⟩ : ByteArray)⟩ : S34), (⟨(⟨#[98]⟩ : ByteArray), (⟨#[100]⟩ : ByteArray)⟩ : S34), (⟨(⟨#[100]⟩ : ByteArray), (⟨#[101]⟩ : ByteArray)⟩ : S34)] : List (S34))) (inner := [.string (⟨#[97]⟩ : ByteArray), .string (⟨#[99]⟩ : ByteArray), .string (⟨#[98]⟩ : ByteArray), .string (⟨#[100]⟩ : ByteArray), .string (⟨#[100]⟩ : ByteArray), .string (⟨#[101]⟩ : ByteArray)]) (ok := fun _ => True) (okp := fun _ => True) ?hr ?hp (fun _ hk => hk) trivial (Below.refl _ _) (Nat.le_refl _) (by simp) ?_; (case hd => rfl); (case hg => rfl); (case hr => first | (go_simp; done) | (go_simp; rfl)); (case hp => exact (Reps.c2 (show Kd.M k34 _ _ _ (⟨(⟨#[97]⟩ : ByteArray), (⟨#[99]⟩ : ByteArray)⟩ : S34) [.string (⟨#[97]⟩ : ByteArray), .string (⟨#[99]⟩ : ByteArray)] from (k34_mkM _ _ _ (⟨(⟨#[97]⟩ : ByteArray), (⟨#[99]⟩ : ByteArray)⟩ : S34) )) (Reps.c2 (show Kd.M k34 _ _ _ (⟨(⟨#[98]⟩ : ByteArray), (⟨#[100]⟩ : ByteArray)⟩ : S34) [.string (⟨#[98]⟩ : ByteArray), .string (⟨#[100]⟩ : ByteArray)] from (k34_mkM _ _ _ (⟨(⟨#[98]⟩ : ByteArray), (⟨#[100]⟩ : ByteArray)⟩ : S34) )) (Reps.c2 (show Kd.M k34 _ _ _ (⟨(⟨#[100]⟩ : ByteArray), (⟨#[101]⟩ : ByteArray)⟩ : S34) [.string (⟨#[100]⟩ : ByteArray), .string (⟨#[101]⟩ : ByteArray)] from (k34_mkM _ _ _ (⟨(⟨#[100]⟩ : ByteArray), (⟨#[101]⟩ : ByteArray)⟩ : S34) )) (Reps.none _ _))))); intro v127 w35 ho36 hb hg_ hnew_; clear hg_ hnew_; (first | rw [← Ny126.out] at ho36 | (simp only [Int.reduceToNat] at ho36; rw [← Ny126.out] at ho36)); have n0_ := Aside0.mk (Kd.R_lower ho36 (below_size (by repeat (first | (with_reducible first | exact HB.out | apply below_alloc | apply pw_below_drewN | apply below_drew1) | exact HB.out)))); have n1_ := Aside0.mk (below_step (by repeat (first | (with_reducible first | exact HB.out | apply below_alloc | apply pw_below_drewN | apply below_drew1) | exact HB.out)) hb); clear HB; have HO128 := n0_; have HB := n1_; clear n0_ n1_; clear hb ho36; obtain ⟨Ao37, co37, eo37⟩ := Kd.R_slice HO128.out; subst eo37) | ((with_reducible refine gate_callee (f := 14) rfl ?_); refine goesL_ (some 7) rfl rfl Try.func14 (by kernel_rfl) rfl #[.slice Ao37 y126.length co37] rfl (by (try simp only [List.map_toArray, List.map_cons, List.map_nil]); first | done | rfl | (simp only [List.length_drop, List.length_take]; rfl)) ?_; (with_reducible refine (span_Union.calls _ _ y126 t129 _ ?side1 ?side2 A1.out).mono ?_); (case side1 => repeat (first | exact (Kd.R_reads' HO128.out).2.2 | (with_reducible refine Kd.C_alloc ?_ _) | (with_reducible refine Kd.C_drewN ?_ _) | (with_reducible refine Kd.C_drew ?_))); (case side2 => exact (Kd.R_reads' HO128.out).2.1); rintro e w38 ⟨v130, rfl, ho0, hb⟩; refine ⟨_, rfl, ?_⟩; have n0_ := Aside0.mk (Kd.R_elder' (by (with_reducible repeat (first | apply Kd.R_alloc | apply Kd.R_drewN | apply Kd.R_drew)); exact HO128.out) (Kd.R_base ho0) hb); have n1_ := Aside0.mk (Kd.R_lower (Kd.R_new' ho0 (Kd.R_lt (by (with_reducible repeat (first | apply Kd.R_alloc | apply Kd.R_drewN | apply Kd.R_drew)); exact HO128.out))) (below_size (by repeat (first | (with_reducible first | exact HB.out | apply below_alloc | apply pw_below_drewN | apply below_drew1) | exact HB.out)))); have n2_ := Aside0.mk (below_step (by repeat (first | (with_reducible first | exact HB.out | apply below_alloc | apply pw_below_drewN | apply below_drew1) | exact HB.out)) hb); clear HO128; clear HB; have HO128 := n0_; have HO131 := n1_; have HB := n2_; clear n0_ n1_ n2_; (try clear hb); (try clear hb2); (try clear hk); (try clear hi); (try clear ho0)) | ((with_reducible refine gate_callee (f := 24) rfl ?_); refine goesL_ (some 9) rfl rfl Try.func24 (by kernel_rfl) rfl #[.string (⟨#[98]⟩ : ByteArray)] rfl (by (try simp only [List.map_toArray, List.map_cons, List.map_nil]); first | done | rfl | (simp only [List.length_drop, List.length_take]; rfl)) ?_; (with_reducible refine (span_Point.calls (⟨#[98]⟩ : ByteArray) t132 t133 _ A2.out).mono ?_); rintro e w39 ⟨rfl, hb⟩; refine ⟨_, rfl, ?_⟩; have n0_ := Aside0.mk (Kd.R_below (by (with_reducible repeat (first | apply Kd.R_alloc | apply Kd.R_drewN | apply Kd.R_drew)); exact HO128.out) hb); have n1_ := Aside0.mk (Kd.R_below (by (with_reducible repeat (first | apply Kd.R_alloc | apply Kd.R_drewN | apply Kd.R_drew)); exact HO131.out) hb); have n2_ := Aside0.mk (below_step (by repeat (first | (with_reducible first | exact HB.out | apply below_alloc | apply pw_below_drewN | apply below_drew1) | exact HB.out)) hb); clear HO128; clear HO131; clear HB; have HO128 := n0_; have HO131 := n1_; have HB := n2_; clear n0_ n1_ n2_; (try clear hb); (try clear hb2); (try clear hk); (try clear hi)) | ((with_reducible refine gate_dst (N := 10) rfl ?_); (try (refine gate_guard (by rfl) ?_; dsimp only)); refine Kd.R_lit k34 _ 34 ?hg (N := 10) ?hd (xs := ([(⟨t132, t133⟩ : S34)] : List (S34))) (inner := [.string t132, .string t133]) (ok := fun _ => True) (okp := fun _ => True) ?hr ?hp (fun _ hk => hk) trivial (Below.refl _ _) (Nat.le_refl _) (by simp) ?_; (case hd => rfl); (case hg => rfl); (case hr => first | (go_simp; done) | (go_simp; rfl)); (case hp => exact (Reps.c2 (show Kd.M k34 _ _ _ (⟨t132, t133⟩ : S34) [.string t132, .string t133] from (k34_mkM _ _ _ (⟨t132, t133⟩ : S34) )) (Reps.none _ _))); intro v135 w40 ho41 hb hg_ hnew_; clear hg_ hnew_; (first | rw [← Ny134.out] at ho41 | (simp only [Int.reduceToNat] at ho41; rw [← Ny134.out] at ho41)); have n0_ := Aside0.mk (Kd.R_elder' (by (with_reducible repeat (first | apply Kd.R_alloc | apply Kd.R_drewN | apply Kd.R_drew)); exact HO128.out) (Kd.R_base ho41) hb); have n1_ := Aside0.mk (Kd.R_elder' (by (with_reducible repeat (first | apply Kd.R_alloc | apply Kd.R_drewN | apply Kd.R_drew)); exact HO131.out) (Kd.R_base ho41) hb); have n2_ := Aside0.mk (Kd.R_lower (Kd.R_new' (Kd.R_new' ho41 (Kd.R_lt (by (with_reducible repeat (first | apply Kd.R_alloc | apply Kd.R_drewN | apply Kd.R_drew)); exact HO128.out))) (Kd.R_lt (by (with_reducible repeat (first | apply Kd.R_alloc | apply Kd.R_drewN | apply Kd.R_drew)); exact HO131.out))) (below_size (by repeat (first | (with_reducible first | exact HB.out | apply below_alloc | apply pw_below_drewN | apply below_drew1) | exact HB.out)))); have n3_ := Aside0.mk (below_step (by repeat (first | (with_reducible first | exact HB.out | apply below_alloc | apply pw_below_drewN | apply below_drew1) | exact HB.out)) hb); clear HO128; clear HO131; clear HB; have HO128 := n0_; have HO131 := n1_; have HO136 := n2_; have HB := n3_; clear n0_ n1_ n2_ n3_; clear hb ho41; obtain ⟨Ao42, co42, eo42⟩ := Kd.R_slice HO131.out; subst eo42; obtain ⟨Ao43, co43, eo43⟩ := Kd.R_slice HO136.out; subst eo43) | ((with_reducible refine gate_callee (f := 18) rfl ?_); refine goesL_ (some 11) rfl rfl Try.func18 (by kernel_rfl) rfl #[.slice Ao42 t129.length co42, .slice Ao43 y134.length co43] rfl (by (try simp only [List.map_toArray, List.map_cons, List.map_nil]); first | done | rfl | (simp only [List.length_drop, List.length_take]; rfl)) ?_; (with_reducible refine (span_Less.calls k _ _ t129 _ _ y134 t137 _ ?side1 ?side2 ?side3 ?side4 A3.out).mono ?_); (case side1 => repeat (first | exact (Kd.R_reads' HO131.out).2.2 | (with_reducible refine Kd.C_alloc ?_ _) | (with_reducible refine Kd.C_drewN ?_ _) | (with_reducible refine Kd.C_drew ?_))); (case side2 => exact (Kd.R_reads' HO131.out).2.1); (case side3 => repeat (first | exact (Kd.R_reads' HO136.out).2.2 | (with_reducible refine Kd.C_alloc ?_ _) | (with_reducible refine Kd.C_drewN ?_ _) | (with_reducible refine Kd.C_drew ?_))); (case side4 => exact (Kd.R_reads' HO136.out).2.1); rintro e w44 ⟨v138, rfl, ho0, hb⟩; refine ⟨_, rfl, ?_⟩; have n0_ := Aside0.mk (Kd.R_elder' (by (with_reducible repeat (first | apply Kd.R_alloc | apply Kd.R_drewN | apply Kd.R_drew)); exact HO128.out) (Kd.R_base ho0) hb); have n1_ := Aside0.mk (Kd.R_elder' (by (with_reducible repeat (first | apply Kd.R_alloc | apply Kd.R_drewN | apply Kd.R_drew)); exact HO131.out) (Kd.R_base ho0) hb); have n2_ := Aside0.mk (Kd.R_elder' (by (with_reducible repeat (first | apply Kd.R_alloc | apply Kd.R_drewN | apply Kd.R_drew)); exact HO136.out) (Kd.R_base ho0) hb); have n3_ := Aside0.mk (Kd.R_lower (Kd.R_new' (Kd.R_new' (Kd.R_new' ho0 (Kd.R_lt (by (with_reducible repeat (first | apply Kd.R_alloc | apply Kd.R_drewN | apply Kd.R_drew)); exact HO128.out))) (Kd.R_lt (by (with_reducible repeat (first | apply Kd.R_alloc | apply Kd.R_drewN | apply Kd.R_drew)); exact HO131.out))) (Kd.R_lt (by (with_reducible repeat (first | apply Kd.R_alloc | apply Kd.R_drewN | apply Kd.R_drew)); exact HO136.out))) (below_size (by repeat (first | (with_reducible first | exact HB.out | apply below_alloc | apply pw_below_drewN | apply below_drew1) | exact HB.out)))); have n4_ := Aside0.mk (below_step (by repeat (first | (with_reducible first | exact HB.out | apply below_alloc | apply pw_below_drewN | apply below_drew1) | exact HB.out)) hb); clear HO128; clear HO131; clear HO136; clear HB; have HO128 := n0_; have HO131 := n1_; have HO136 := n2_; have HO139 := n3_; have HB := n4_; clear n0_ n1_ n2_ n3_ n4_; (try clear hb); (try clear hb2); (try clear hk); (try clear hi); (try clear ho0)) | ((with_reducible refine gate_dst (N := 14) rfl ?_); (try (refine gate_guard (by rfl) ?_; dsimp only)); refine Kd.R_lit k34 _ 34 ?hg (N := 14) ?hd (xs := ([(⟨(⟨#[97]⟩ : ByteArray), (⟨#[101]⟩ : ByteArray)⟩ : S34)] : List (S34))) (inner := [.string (⟨#[97]⟩ : ByteArray), .string (⟨#[101]⟩ : ByteArray)]) (ok := fun _ => True) (okp := fun _ => True) ?hr ?hp (fun _ hk => hk) trivial (Below.refl _ _) (Nat.le_refl _) (by simp) ?_; (case hd => rfl); (case hg => rfl); (case hr => first | (go_simp; done) | (go_simp; rfl)); (case hp => exact (Reps.c2 (show Kd.M k34 _ _ _ (⟨(⟨#[97]⟩ : ByteArray), (⟨#[101]⟩ : ByteArray)⟩ : S34) [.string (⟨#[97]⟩ : ByteArray), .string (⟨#[101]⟩ : ByteArray)] from (k34_mkM _ _ _ (⟨(⟨#[97]⟩ : ByteArray), (⟨#[101]⟩ : ByteArray)⟩ : S34) )) (Reps.none _ _))); intro v141 w45 ho46 hb hg_ hnew_; clear hg_ hnew_; (first | rw [← Ny140.out] at ho46 | (simp only [Int.reduceToNat] at ho46; rw [← Ny140.out] at ho46)); have n0_ := Aside0.mk (Kd.R_elder' (by (with_reducible repeat (first | apply Kd.R_alloc | apply Kd.R_drewN | apply Kd.R_drew)); exact HO128.out) (Kd.R_base ho46) hb); have n1_ := Aside0.mk (Kd.R_elder' (by (with_reducible repeat (first | apply Kd.R_alloc | apply Kd.R_drewN | apply Kd.R_drew)); exact HO131.out) (Kd.R_base ho46) hb); have n2_ := Aside0.mk (Kd.R_elder' (by (with_reducible repeat (first | apply Kd.R_alloc | apply Kd.R_drewN | apply Kd.R_drew)); exact HO136.out) (Kd.R_base ho46) hb); have n3_ := Aside0.mk (Kd.R_elder' (by (with_reducible repeat (first | apply Kd.R_alloc | apply Kd.R_drewN | apply Kd.R_drew)); exact HO139.out) (Kd.R_base ho46) hb); have n4_ := Aside0.mk (Kd.R_lower (Kd.R_new' (Kd.R_new' (Kd.R_new' (Kd.R_new' ho46 (Kd.R_lt (by (with_reducible repeat (first | apply Kd.R_alloc | apply Kd.R_drewN | apply Kd.R_drew)); exact HO128.out))) (Kd.R_lt (by (with_reducible repeat (first | apply Kd.R_alloc | apply Kd.R_drewN | apply Kd.R_drew)); exact HO131.out))) (Kd.R_lt (by (with_reducible repeat (first | apply Kd.R_alloc | apply Kd.R_drewN | apply Kd.R_drew)); exact HO136.out))) (Kd.R_lt (by (with_reducible repeat (first | apply Kd.R_alloc | apply Kd.R_drewN | apply Kd.R_drew)); exact HO139.out))) (below_size (by repeat (first | (with_reducible first | exact HB.out | apply below_alloc | apply pw_below_drewN | apply below_drew1) | exact HB.out)))); have n5_ := Aside0.mk (below_step (by repeat (first | (with_reducible first | exact HB.out | apply below_alloc | apply pw_below_drewN | apply below_drew1) | exact HB.out)) hb); clear HO128; clear HO131; clear HO136; clear HO139; clear HB; have HO128 := n0_; have HO131 := n1_; have HO136 := n2_; have HO139 := n3_; have HO142 := n4_; have HB := n5_; clear n0_ n1_ n2_ n3_ n4_ n5_; clear hb ho46; obtain ⟨Ao47, co47, eo47⟩ := Kd.R_slice HO142.out; subst eo47) | ((with_reducible refine gate_callee (f := 13) rfl ?_); refine goesL_ (some 15) rfl rfl Try.func13 (by kernel_rfl) rfl #[.slice Ao42 t129.length co42, .slice Ao47 y140.length co47] rfl (by (try simp only [List.map_toArray, List.map_cons, List.map_nil]); first | done | rfl | (simp only [List.length_drop, List.length_take]; rfl)) ?_; (with_reducible refine (folkmootref03_Same.calls k _ _ t129 _ _ y140 true _ ?side1 ?side2 ?side3 ?side4 A4.out).mono ?_); (case side1 => repeat (first | exact (Kd.R_reads' HO131.out).2.2 | (with_reducible refine Kd.C_alloc ?_ _) | (with_reducible refine Kd.C_drewN ?_ _) | (with_reducible refine Kd.C_drew ?_))); (case side2 => exact (Kd.R_reads' HO131.out).2.1); (case side3 => repeat (first | exact (Kd.R_reads' HO142.out).2.2 | (with_reducible refine Kd.C_alloc ?_ _) | (with_reducible refine Kd.C_drewN ?_ _) | (with_reducible refine Kd.C_drew ?_))); (case side4 => exact (Kd.R_reads' HO142.out).2.1); rintro e w' ⟨rfl, ⟨nd, rfl⟩⟩; refine ⟨_, rfl, ?_⟩) | ((with_reducible refine gate_dst (N := 20) rfl ?_); (try (refine gate_guard (by rfl) ?_; dsimp only)); refine Kd.R_lit k34 _ 34 ?hg (N := 20) ?hd (xs := ([(⟨(⟨#[97]⟩ : ByteArray), (⟨#[98]⟩ : ByteArray)⟩ : S34), (⟨(⟨#[98, 0]⟩ : ByteArray), (⟨#[101]⟩ : ByteArray)⟩ : S34)] : List (S34))) (inner := [.string (⟨#[97]⟩ : ByteArray), .string (⟨#[98]⟩ : ByteArray), .string (⟨#[98, 0]⟩ : ByteArray), .string (⟨#[101]⟩ : ByteArray)]) (ok := fun _ => True) (okp := fun _ => True) ?hr ?hp (fun _ hk => hk) trivial (Below.refl _ _) (Nat.le_refl _) (by simp) ?_; (case hd => rfl); (case hg => rfl); (case hr => first | (go_simp; done) | (go_simp; rfl)); (case hp => exact (Reps.c2 (show Kd.M k34 _ _ _ (⟨(⟨#[97]⟩ : ByteArray), (⟨#[98]⟩ : ByteArray)⟩ : S34) [.string (⟨#[97]⟩ : ByteArray), .string (⟨#[98]⟩ : ByteArray)] from (k34_mkM _ _ _ (⟨(⟨#[97]⟩ : ByteArray), (⟨#[98]⟩ : ByteArray)⟩ : S34) )) (Reps.c2 (show Kd.M k34 _ _ _ (⟨(⟨#[98, 0]⟩ : ByteArray), (⟨#[101]⟩ : ByteArray)⟩ : S34) [.string (⟨#[98, 0]⟩ : ByteArray), .string (⟨#[101]⟩ : ByteArray)] from (k34_mkM _ _ _ (⟨(⟨#[98, 0]⟩ : ByteArray), (⟨#[101]⟩ : ByteArray)⟩ : S34) )) (Reps.none _ _)))); intro v145 w48 ho49 hb hg_ hnew_; clear hg_ hnew_; (first | rw [← Ny144.out] at ho49 | (simp only [Int.reduceToNat] at ho49; rw [← Ny144.out] at ho49)); have n0_ := Aside0.mk (Kd.R_elder' (by (with_reducible repeat (first | apply Kd.R_alloc | apply Kd.R_drewN | apply Kd.R_drew)); exact HO128.out) (Kd.R_base ho49) hb); have n1_ := Aside0.mk (Kd.R_elder' (by (with_reducible repeat (first | apply Kd.R_alloc | apply Kd.R_drewN | apply Kd.R_drew)); exact HO131.out) (Kd.R_base ho49) hb); have n2_ := Aside0.mk (Kd.R_elder' (by (with_reducible repeat (first | apply Kd.R_alloc | apply Kd.R_drewN | apply Kd.R_drew)); exact HO136.out) (Kd.R_base ho49) hb); have n3_ := Aside0.mk (Kd.R_elder' (by (with_reducible repeat (first | apply Kd.R_alloc | apply Kd.R_drewN | apply Kd.R_drew)); exact HO139.out) (Kd.R_base ho49) hb); have n4_ := Aside0.mk (Kd.R_elder' (by (with_reducible repeat (first | apply Kd.R_alloc | apply Kd.R_drewN | apply Kd.R_drew)); exact HO142.out) (Kd.R_base ho49) hb); have n5_ := Aside0.mk (Kd.R_lower (Kd.R_new' (Kd.R_new' (Kd.R_new' (Kd.R_new' (Kd.R_new' ho49 (Kd.R_lt (by (with_reducible repeat (first | apply Kd.R_alloc | apply Kd.R_drewN | apply Kd.R_drew)); exact HO128.out))) (Kd.R_lt (by (with_reducible repeat (first | apply Kd.R_alloc | apply Kd.R_drewN | apply Kd.R_drew)); exact HO131.out))) (Kd.R_lt (by (with_reducible repeat (first | apply Kd.R_alloc | apply Kd.R_drewN | apply Kd.R_drew)); exact HO136.out))) (Kd.R_lt (by (with_reducible repeat (first | apply Kd.R_alloc | apply Kd.R_drewN | apply Kd.R_drew)); exact HO139.out))) (Kd.R_lt (by (with_reducible repeat (first | apply Kd.R_alloc | apply Kd.R_drewN | apply Kd.R_drew)); exact HO142.out))) (below_size (by repeat (first | (with_reducible first | exact HB.out | apply below_alloc | apply pw_below_drewN | apply below_drew1) | exact HB.out)))); have n6_ := Aside0.mk (below_step (by repeat (first | (with_reducible first | exact HB.out | apply below_alloc | apply pw_below_drewN | apply below_drew1) | exact HB.out)) hb); clear HO128; clear HO131; clear HO136; clear HO139; clear HO142; clear HB; have HO128 := n0_; have HO131 := n1_; have HO136 := n2_; have HO139 := n3_; have HO142 := n4_; have HO146 := n5_; have HB := n6_; clear n0_ n1_ n2_ n3_ n4_ n5_ n6_; clear hb ho49; obtain ⟨Ao50, co50, eo50⟩ := Kd.R_slice HO139.out; subst eo50; obtain ⟨Ao51, co51, eo51⟩ := Kd.R_slice HO146.out; subst eo51) | (go_at_call 13; (with_reducible refine (folkmootref03_Same.calls k _ _ t137 _ _ y144 true _ ?side1 ?side2 ?side3 ?side4 A6.out).mono ?_); (case side1 => repeat (first | exact (Kd.R_reads' HO139.out).2.2 | (with_reducible refine Kd.C_alloc ?_ _) | (with_reducible refine Kd.C_drewN ?_ _) | (with_reducible refine Kd.C_drew ?_))); (case side2 => exact (Kd.R_reads' HO139.out).2.1); (case side3 => repeat (first | exact (Kd.R_reads' HO146.out).2.2 | (with_reducible refine Kd.C_alloc ?_ _) | (with_reducible refine Kd.C_drewN ?_ _) | (with_reducible refine Kd.C_drew ?_))); (case side4 => exact (Kd.R_reads' HO146.out).2.1); rintro e w' ⟨rfl, ⟨nd, rfl⟩⟩) | (go_at_call 20; (with_reducible refine (span_Has.calls _ _ t129 (⟨#[98]⟩ : ByteArray) true _ ?side1 ?side2 A8.out).mono ?_); (case side1 => repeat (first | exact (Kd.R_reads' HO131.out).2.2 | (with_reducible refine Kd.C_alloc ?_ _) | (with_reducible refine Kd.C_drewN ?_ _) | (with_reducible refine Kd.C_drew ?_))); (case side2 => exact (Kd.R_reads' HO131.out).2.1); rintro e w52 ⟨rfl, hb⟩; have n0_ := Aside0.mk (Kd.R_below (by (with_reducible repeat (first | apply Kd.R_alloc | apply Kd.R_drewN | apply Kd.R_drew)); exact HO128.out) hb); have n1_ := Aside0.mk (Kd.R_below (by (with_reducible repeat (first | apply Kd.R_alloc | apply Kd.R_drewN | apply Kd.R_drew)); exact HO131.out) hb); have n2_ := Aside0.mk (Kd.R_below (by (with_reducible repeat (first | apply Kd.R_alloc | apply Kd.R_drewN | apply Kd.R_drew)); exact HO136.out) hb); have n3_ := Aside0.mk (Kd.R_below (by (with_reducible repeat (first | apply Kd.R_alloc | apply Kd.R_drewN | apply Kd.R_drew)); exact HO139.out) hb); have n4_ := Aside0.mk (Kd.R_below (by (with_reducible repeat (first | apply Kd.R_alloc | apply Kd.R_drewN | apply Kd.R_drew)); exact HO142.out) hb); have n5_ := Aside0.mk (Kd.R_below (by (with_reducible repeat (first | apply Kd.R_alloc | apply Kd.R_drewN | apply Kd.R_drew)); exact HO146.out) hb); have n6_ := Aside0.mk (below_step (by repeat (first | (with_reducible first | exact HB.out | apply below_alloc | apply pw_below_drewN | apply below_drew1) | exact HB.out)) hb); clear HO128; clear HO131; clear HO136; clear HO139; clear HO142; clear HO146; clear HB; have HO128 := n0_; have HO131 := n1_; have HO136 := n2_; have HO139 := n3_; have HO142 := n4_; have HO146 := n5_; have HB := n6_; clear n0_ n1_ n2_ n3_ n4_ n5_ n6_; (try clear hb); (try clear hb2); (try clear hk); (try clear hi)) | (go_at_call 20; (with_reducible refine (span_Has.calls _ _ t137 (⟨#[98]⟩ : ByteArray) false _ ?side1 ?side2 A10.out).mono ?_); (case side1 => repeat (first | exact (Kd.R_reads' HO139.out).2.2 | (with_reducible refine Kd.C_alloc ?_ _) | (with_reducible refine Kd.C_drewN ?_ _) | (with_reducible refine Kd.C_drew ?_))); (case side2 => exact (Kd.R_reads' HO139.out).2.1); rintro e w53 ⟨rfl, hb⟩; have n0_ := Aside0.mk (Kd.R_below (by (with_reducible repeat (first | apply Kd.R_alloc | apply Kd.R_drewN | apply Kd.R_drew)); exact HO128.out) hb); have n1_ := Aside0.mk (Kd.R_below (by (with_reducible repeat (first | apply Kd.R_alloc | apply Kd.R_drewN | apply Kd.R_drew)); exact HO131.out) hb); have n2_ := Aside0.mk (Kd.R_below (by (with_reducible repeat (first | apply Kd.R_alloc | apply Kd.R_drewN | apply Kd.R_drew)); exact HO136.out) hb); have n3_ := Aside0.mk (Kd.R_below (by (with_reducible repeat (first | apply Kd.R_alloc | apply Kd.R_drewN | apply Kd.R_drew)); exact HO139.out) hb); have n4_ := Aside0.mk (Kd.R_below (by (with_reducible repeat (first | apply Kd.R_alloc | apply Kd.R_drewN | apply Kd.R_drew)); exact HO142.out) hb); have n5_ := Aside0.mk (Kd.R_below (by (with_reducible repeat (first | apply Kd.R_alloc | apply Kd.R_drewN | apply Kd.R_drew)); exact HO146.out) hb); have n6_ := Aside0.mk (below_step (by repeat (first | (with_reducible first | exact HB.out | apply below_alloc | apply pw_below_drewN | apply below_drew1) | exact HB.out)) hb); clear HO128; clear HO131; clear HO136; clear HO139; clear HO142; clear HO146; clear HB; have HO128 := n0_; have HO131 := n1_; have HO136 := n2_; have HO139 := n3_; have HO142 := n4_; have HO146 := n5_; have HB := n6_; clear n0_ n1_ n2_ n3_ n4_ n5_ n6_; (try clear hb); (try clear hb2); (try clear hk); (try clear hi)) | (go_at_call 26; (with_reducible refine (span_Key.calls (⟨#[]⟩ : ByteArray) t150 _ A31.out).mono ?_); rintro e w' ⟨rfl, ⟨nd, rfl⟩⟩) | (go_at_call 25; (with_reducible refine (folkmootlaw03_num.calls t150 t151 _ A32.out).mono ?_); rintro e w' ⟨rfl, ⟨nd, rfl⟩⟩) | (go_at_call 22; (with_reducible refine (span_Meet.calls _ _ t129 _ _ t137 t152 _ ?side1 ?side2 ?side3 ?side4 A34.out).mono ?_); (case side1 => repeat (first | exact (Kd.R_reads' HO131.out).2.2 | (with_reducible refine Kd.C_alloc ?_ _) | (with_reducible refine Kd.C_drewN ?_ _) | (with_reducible refine Kd.C_drew ?_))); (case side2 => exact (Kd.R_reads' HO131.out).2.1); (case side3 => repeat (first | exact (Kd.R_reads' HO139.out).2.2 | (with_reducible refine Kd.C_alloc ?_ _) | (with_reducible refine Kd.C_drewN ?_ _) | (with_reducible refine Kd.C_drew ?_))); (case side4 => exact (Kd.R_reads' HO139.out).2.1); rintro e w54 ⟨rfl, hb⟩; have n0_ := Aside0.mk (Kd.R_below (by (with_reducible repeat (first | apply Kd.R_alloc | apply Kd.R_drewN | apply Kd.R_drew)); exact HO128.out) hb); have n1_ := Aside0.mk (Kd.R_below (by (with_reducible repeat (first | apply Kd.R_alloc | apply Kd.R_drewN | apply Kd.R_drew)); exact HO131.out) hb); have n2_ := Aside0.mk (Kd.R_below (by (with_reducible repeat (first | apply Kd.R_alloc | apply Kd.R_drewN | apply Kd.R_drew)); exact HO136.out) hb); have n3_ := Aside0.mk (Kd.R_below (by (with_reducible repeat (first | apply Kd.R_alloc | apply Kd.R_drewN | apply Kd.R_drew)); exact HO139.out) hb); have n4_ := Aside0.mk (Kd.R_below (by (with_reducible repeat (first | apply Kd.R_alloc | apply Kd.R_drewN | apply Kd.R_drew)); exact HO142.out) hb); have n5_ := Aside0.mk (Kd.R_below (by (with_reducible repeat (first | apply Kd.R_alloc | apply Kd.R_drewN | apply Kd.R_drew)); exact HO146.out) hb); have n6_ := Aside0.mk (below_step (by repeat (first | (with_reducible first | exact HB.out | apply below_alloc | apply pw_below_drewN | apply below_drew1) | exact HB.out)) hb); clear HO128; clear HO131; clear HO136; clear HO139; clear HO142; clear HO146; clear HB; have HO128 := n0_; have HO131 := n1_; have HO136 := n2_; have HO139 := n3_; have HO142 := n4_; have HO146 := n5_; have HB := n6_; clear n0_ n1_ n2_ n3_ n4_ n5_ n6_; (try clear hb); (try clear hb2); (try clear hk); (try clear hi)))
            go_ret
            exact ⟨by first | rfl | (simp [errW_none, errW_some] <;> rfl) | (simp [*, errW_none, errW_some] <;> rfl), by repeat (first | (with_reducible first | exact HB.out | apply below_alloc | apply pw_below_drewN | apply below_drew1) | exact HB.out)⟩
          · rw [if_neg c33] at H
            have c33b0 : (t151 == 30) = false := beq_eq_false_iff_ne.mpr c33
            have c33b1 : (t151 != 30) = true := bne_iff_ne.mpr c33
            obtain rfl := Option.some.inj H
            go_enter Try.func11, Try.ntmps11
            go_wp2_with (first | ((with_reducible refine gate_dst (N := 6) rfl ?_); (try (refine gate_guard (by rfl) ?_; dsimp only)); refine Kd.R_lit k34 _ 34 ?hg (N := 6) ?hd (xs := ([(⟨(⟨#[97]⟩ : ByteArray), (⟨#[99]⟩ : ByteArray)⟩ : S34), (⟨(⟨#[98]⟩ : ByteArray), (⟨#[100]⟩ : ByteArray)⟩ : S34), (⟨(⟨#[100]⟩ : ByteArray), (⟨#[101]⟩ : ByteArray)⟩ : S34)] : List (S34))) (inner := [.string (⟨#[97]⟩ : ByteArray), .string (⟨#[99]⟩ : ByteArray), .string (⟨#[98]⟩ : ByteArray), .string (⟨#[100]⟩ : ByteArray), .string (⟨#[100]⟩ : ByteArray), .string (⟨#[101]⟩ : ByteArray)]) (ok := fun _ => True) (okp := fun _ => True) ?hr ?hp (fun _ hk => hk) trivial (Below.refl _ _) (Nat.le_refl _) (by simp) ?_; (case hd => rfl); (case hg => rfl); (case hr => first | (go_simp; done) | (go_simp; rfl)); (case hp => exact (Reps.c2 (show Kd.M k34 _ _ _ (⟨(⟨#[97]⟩ : ByteArray), (⟨#[99]⟩ : ByteArray)⟩ : S34) [.string (⟨#[97]⟩ : ByteArray), .string (⟨#[99]⟩ : ByteArray)] from (k34_mkM _ _ _ (⟨(⟨#[97]⟩ : ByteArray), (⟨#[99]⟩ : ByteArray)⟩ : S34) )) (Reps.c2 (show Kd.M k34 _ _ _ (⟨(⟨#[98]⟩ : ByteArray), (⟨#[100]⟩ : ByteArray)⟩ : S34) [.string (⟨#[98]⟩ : ByteArray), .string (⟨#[100]⟩ : ByteArray)] from (k34_mkM _ _ _ (⟨(⟨#[98]⟩ : ByteArray), (⟨#[100]⟩ : ByteArray)⟩ : S34) )) (Reps.c2 (show Kd.M k34 _ _ _ (⟨(⟨#[100]⟩ : ByteArray), (⟨#[101]⟩ : ByteArray)⟩ : S34) [.string (⟨#[100]⟩ : ByteArray), .string (⟨#[101]⟩ : ByteArray)] from (k34_mkM _ _ _ (⟨(⟨#[100]⟩ : ByteArray), (⟨#[101]⟩ : ByteArray)⟩ : S34) )) (Reps.none _ _))))); intro v127 w55 ho56 hb hg_ hnew_; clear hg_ hnew_; (first | rw [← Ny126.out] at ho56 | (simp only [Int.reduceToNat] at ho56; rw [← Ny126.out] at ho56)); have n0_ := Aside0.mk (Kd.R_lower ho56 (below_size (by repeat (first | (with_reducible first | exact HB.out | apply below_alloc | apply pw_below_drewN | apply below_drew1) | exact HB.out)))); have n1_ := Aside0.mk (below_step (by repeat (first | (with_reducible first | exact HB.out | apply below_alloc | apply pw_below_drewN | apply below_drew1) | exact HB.out)) hb); clear HB; have HO128 := n0_; have HB := n1_; clear n0_ n1_; clear hb ho56; obtain ⟨Ao57, co57, eo57⟩ := Kd.R_slice HO128.out; subst eo57) | ((with_reducible refine gate_callee (f := 14) rfl ?_); refine goesL_ (some 7) rfl rfl Try.func14 (by kernel_rfl) rfl #[.slice Ao57 y126.length co57] rfl (by (try simp only [List.map_toArray, List.map_cons, List.map_nil]); first | done | rfl | (simp only [List.length_drop, List.length_take]; rfl)) ?_; (with_reducible refine (span_Union.calls _ _ y126 t129 _ ?side1 ?side2 A1.out).mono ?_); (case side1 => repeat (first | exact (Kd.R_reads' HO128.out).2.2 | (with_reducible refine Kd.C_alloc ?_ _) | (with_reducible refine Kd.C_drewN ?_ _) | (with_reducible refine Kd.C_drew ?_))); (case side2 => exact (Kd.R_reads' HO128.out).2.1); rintro e w58 ⟨v130, rfl, ho0, hb⟩; refine ⟨_, rfl, ?_⟩; have n0_ := Aside0.mk (Kd.R_elder' (by (with_reducible repeat (first | apply Kd.R_alloc | apply Kd.R_drewN | apply Kd.R_drew)); exact HO128.out) (Kd.R_base ho0) hb); have n1_ := Aside0.mk (Kd.R_lower (Kd.R_new' ho0 (Kd.R_lt (by (with_reducible repeat (first | apply Kd.R_alloc | apply Kd.R_drewN | apply Kd.R_drew)); exact HO128.out))) (below_size (by repeat (first | (with_reducible first | exact HB.out | apply below_alloc | apply pw_below_drewN | apply below_drew1) | exact HB.out)))); have n2_ := Aside0.mk (below_step (by repeat (first | (with_reducible first | exact HB.out | apply below_alloc | apply pw_below_drewN | apply below_drew1) | exact HB.out)) hb); clear HO128; clear HB; have HO128 := n0_; have HO131 := n1_; have HB := n2_; clear n0_ n1_ n2_; (try clear hb); (try clear hb2); (try clear hk); (try clear hi); (try clear ho0)) | ((with_reducible refine gate_callee (f := 24) rfl ?_); refine goesL_ (some 9) rfl rfl Try.func24 (by kernel_rfl) rfl #[.string (⟨#[98]⟩ : ByteArray)] rfl (by (try simp only [List.map_toArray, List.map_cons, List.map_nil]); first | done | rfl | (simp only [List.length_drop, List.length_take]; rfl)) ?_; (with_reducible refine (span_Point.calls (⟨#[98]⟩ : ByteArray) t132 t133 _ A2.out).mono ?_); rintro e w59 ⟨rfl, hb⟩; refine ⟨_, rfl, ?_⟩; have n0_ := Aside0.mk (Kd.R_below (by (with_reducible repeat (first | apply Kd.R_alloc | apply Kd.R_drewN | apply Kd.R_drew)); exact HO128.out) hb); have n1_ := Aside0.mk (Kd.R_below (by (with_reducible repeat (first | apply Kd.R_alloc | apply Kd.R_drewN | apply Kd.R_drew)); exact HO131.out) hb); have n2_ := Aside0.mk (below_step (by repeat (first | (with_reducible first | exact HB.out | apply below_alloc | apply pw_below_drewN | apply below_drew1) | exact HB.out)) hb); clear HO128; clear HO131; clear HB; have HO128 := n0_; have HO131 := n1_; have HB := n2_; clear n0_ n1_ n2_; (try clear hb); (try clear hb2); (try clear hk); (try clear hi)) | ((with_reducible refine gate_dst (N := 10) rfl ?_); (try (refine gate_guard (by rfl) ?_; dsimp only)); refine Kd.R_lit k34 _ 34 ?hg (N := 10) ?hd (xs := ([(⟨t132, t133⟩ : S34)] : List (S34))) (inner := [.string t132, .string t133]) (ok := fun _ => True) (okp := fun _ => True) ?hr ?hp (fun _ hk => hk) trivial (Below.refl _ _) (Nat.le_refl _) (by simp) ?_; (case hd => rfl); (case hg => rfl); (case hr => first | (go_simp; done) | (go_simp; rfl)); (case hp => exact (Reps.c2 (show Kd.M k34 _ _ _ (⟨t132, t133⟩ : S34) [.string t132, .string t133] from (k34_mkM _ _ _ (⟨t132, t133⟩ : S34) )) (Reps.none _ _))); intro v135 w60 ho61 hb hg_ hnew_; clear hg_ hnew_; (first | rw [← Ny134.out] at ho61 | (simp only [Int.reduceToNat] at ho61; rw [← Ny134.out] at ho61)); have n0_ := Aside0.mk (Kd.R_elder' (by (with_reducible repeat (first | apply Kd.R_alloc | apply Kd.R_drewN | apply Kd.R_drew)); exact HO128.out) (Kd.R_base ho61) hb); have n1_ := Aside0.mk (Kd.R_elder' (by (with_reducible repeat (first | apply Kd.R_alloc | apply Kd.R_drewN | apply Kd.R_drew)); exact HO131.out) (Kd.R_base ho61) hb); have n2_ := Aside0.mk (Kd.R_lower (Kd.R_new' (Kd.R_new' ho61 (Kd.R_lt (by (with_reducible repeat (first | apply Kd.R_alloc | apply Kd.R_drewN | apply Kd.R_drew)); exact HO128.out))) (Kd.R_lt (by (with_reducible repeat (first | apply Kd.R_alloc | apply Kd.R_drewN | apply Kd.R_drew)); exact HO131.out))) (below_size (by repeat (first | (with_reducible first | exact HB.out | apply below_alloc | apply pw_below_drewN | apply below_drew1) | exact HB.out)))); have n3_ := Aside0.mk (below_step (by repeat (first | (with_reducible first | exact HB.out | apply below_alloc | apply pw_below_drewN | apply below_drew1) | exact HB.out)) hb); clear HO128; clear HO131; clear HB; have HO128 := n0_; have HO131 := n1_; have HO136 := n2_; have HB := n3_; clear n0_ n1_ n2_ n3_; clear hb ho61; obtain ⟨Ao62, co62, eo62⟩ := Kd.R_slice HO131.out; subst eo62; obtain ⟨Ao63, co63, eo63⟩ := Kd.R_slice HO136.out; subst eo63) | ((with_reducible refine gate_callee (f := 18) rfl ?_); refine goesL_ (some 11) rfl rfl Try.func18 (by kernel_rfl) rfl #[.slice Ao62 t129.length co62, .slice Ao63 y134.length co63] rfl (by (try simp only [List.map_toArray, List.map_cons, List.map_nil]); first | done | rfl | (simp only [List.length_drop, List.length_take]; rfl)) ?_; (with_reducible refine (span_Less.calls k _ _ t129 _ _ y134 t137 _ ?side1 ?side2 ?side3 ?side4 A3.out).mono ?_); (case side1 => repeat (first | exact (Kd.R_reads' HO131.out).2.2 | (with_reducible refine Kd.C_alloc ?_ _) | (with_reducible refine Kd.C_drewN ?_ _) | (with_reducible refine Kd.C_drew ?_))); (case side2 => exact (Kd.R_reads' HO131.out).2.1); (case side3 => repeat (first | exact (Kd.R_reads' HO136.out).2.2 | (with_reducible refine Kd.C_alloc ?_ _) | (with_reducible refine Kd.C_drewN ?_ _) | (with_reducible refine Kd.C_drew ?_))); (case side4 => exact (Kd.R_reads' HO136.out).2.1); rintro e w64 ⟨v138, rfl, ho0, hb⟩; refine ⟨_, rfl, ?_⟩; have n0_ := Aside0.mk (Kd.R_elder' (by (with_reducible repeat (first | apply Kd.R_alloc | apply Kd.R_drewN | apply Kd.R_drew)); exact HO128.out) (Kd.R_base ho0) hb); have n1_ := Aside0.mk (Kd.R_elder' (by (with_reducible repeat (first | apply Kd.R_alloc | apply Kd.R_drewN | apply Kd.R_drew)); exact HO131.out) (Kd.R_base ho0) hb); have n2_ := Aside0.mk (Kd.R_elder' (by (with_reducible repeat (first | apply Kd.R_alloc | apply Kd.R_drewN | apply Kd.R_drew)); exact HO136.out) (Kd.R_base ho0) hb); have n3_ := Aside0.mk (Kd.R_lower (Kd.R_new' (Kd.R_new' (Kd.R_new' ho0 (Kd.R_lt (by (with_reducible repeat (first | apply Kd.R_alloc | apply Kd.R_drewN | apply Kd.R_drew)); exact HO128.out))) (Kd.R_lt (by (with_reducible repeat (first | apply Kd.R_alloc | apply Kd.R_drewN | apply Kd.R_drew)); exact HO131.out))) (Kd.R_lt (by (with_reducible repeat (first | apply Kd.R_alloc | apply Kd.R_drewN | apply Kd.R_drew)); exact HO136.out))) (below_size (by repeat (first | (with_reducible first | exact HB.out | apply below_alloc | apply pw_below_drewN | apply below_drew1) | exact HB.out)))); have n4_ := Aside0.mk (below_step (by repeat (first | (with_reducible first | exact HB.out | apply below_alloc | apply pw_below_drewN | apply below_drew1) | exact HB.out)) hb); clear HO128; clear HO131; clear HO136; clear HB; have HO128 := n0_; have HO131 := n1_; have HO136 := n2_; have HO139 := n3_; have HB := n4_; clear n0_ n1_ n2_ n3_ n4_; (try clear hb); (try clear hb2); (try clear hk); (try clear hi); (try clear ho0)) | ((with_reducible refine gate_dst (N := 14) rfl ?_); (try (refine gate_guard (by rfl) ?_; dsimp only)); refine Kd.R_lit k34 _ 34 ?hg (N := 14) ?hd (xs := ([(⟨(⟨#[97]⟩ : ByteArray), (⟨#[101]⟩ : ByteArray)⟩ : S34)] : List (S34))) (inner := [.string (⟨#[97]⟩ : ByteArray), .string (⟨#[101]⟩ : ByteArray)]) (ok := fun _ => True) (okp := fun _ => True) ?hr ?hp (fun _ hk => hk) trivial (Below.refl _ _) (Nat.le_refl _) (by simp) ?_; (case hd => rfl); (case hg => rfl); (case hr => first | (go_simp; done) | (go_simp; rfl)); (case hp => exact (Reps.c2 (show Kd.M k34 _ _ _ (⟨(⟨#[97]⟩ : ByteArray), (⟨#[101]⟩ : ByteArray)⟩ : S34) [.string (⟨#[97]⟩ : ByteArray), .string (⟨#[101]⟩ : ByteArray)] from (k34_mkM _ _ _ (⟨(⟨#[97]⟩ : ByteArray), (⟨#[101]⟩ : ByteArray)⟩ : S34) )) (Reps.none _ _))); intro v141 w65 ho66 hb hg_ hnew_; clear hg_ hnew_; (first | rw [← Ny140.out] at ho66 | (simp only [Int.reduceToNat] at ho66; rw [← Ny140.out] at ho66)); have n0_ := Aside0.mk (Kd.R_elder' (by (with_reducible repeat (first | apply Kd.R_alloc | apply Kd.R_drewN | apply Kd.R_drew)); exact HO128.out) (Kd.R_base ho66) hb); have n1_ := Aside0.mk (Kd.R_elder' (by (with_reducible repeat (first | apply Kd.R_alloc | apply Kd.R_drewN | apply Kd.R_drew)); exact HO131.out) (Kd.R_base ho66) hb); have n2_ := Aside0.mk (Kd.R_elder' (by (with_reducible repeat (first | apply Kd.R_alloc | apply Kd.R_drewN | apply Kd.R_drew)); exact HO136.out) (Kd.R_base ho66) hb); have n3_ := Aside0.mk (Kd.R_elder' (by (with_reducible repeat (first | apply Kd.R_alloc | apply Kd.R_drewN | apply Kd.R_drew)); exact HO139.out) (Kd.R_base ho66) hb); have n4_ := Aside0.mk (Kd.R_lower (Kd.R_new' (Kd.R_new' (Kd.R_new' (Kd.R_new' ho66 (Kd.R_lt (by (with_reducible repeat (first | apply Kd.R_alloc | apply Kd.R_drewN | apply Kd.R_drew)); exact HO128.out))) (Kd.R_lt (by (with_reducible repeat (first | apply Kd.R_alloc | apply Kd.R_drewN | apply Kd.R_drew)); exact HO131.out))) (Kd.R_lt (by (with_reducible repeat (first | apply Kd.R_alloc | apply Kd.R_drewN | apply Kd.R_drew)); exact HO136.out))) (Kd.R_lt (by (with_reducible repeat (first | apply Kd.R_alloc | apply Kd.R_drewN | apply Kd.R_drew)); exact HO139.out))) (below_size (by repeat (first | (with_reducible first | exact HB.out | apply below_alloc | apply pw_below_drewN | apply below_drew1) | exact HB.out)))); have n5_ := Aside0.mk (below_step (by repeat (first | (with_reducible first | exact HB.out | apply below_alloc | apply pw_below_drewN | apply below_drew1) | exact HB.out)) hb); clear HO128; clear HO131; clear HO136; clear HO139; clear HB; have HO128 := n0_; have HO131 := n1_; have HO136 := n2_; have HO139 := n3_; have HO142 := n4_; have HB := n5_; clear n0_ n1_ n2_ n3_ n4_ n5_; clear hb ho66; obtain ⟨Ao67, co67, eo67⟩ := Kd.R_slice HO142.out; subst eo67) | ((with_reducible refine gate_callee (f := 13) rfl ?_); refine goesL_ (some 15) rfl rfl Try.func13 (by kernel_rfl) rfl #[.slice Ao62 t129.length co62, .slice Ao67 y140.length co67] rfl (by (try simp only [List.map_toArray, List.map_cons, List.map_nil]); first | done | rfl | (simp only [List.length_drop, List.length_take]; rfl)) ?_; (with_reducible refine (folkmootref03_Same.calls k _ _ t129 _ _ y140 true _ ?side1 ?side2 ?side3 ?side4 A4.out).mono ?_); (case side1 => repeat (first | exact (Kd.R_reads' HO131.out).2.2 | (with_reducible refine Kd.C_alloc ?_ _) | (with_reducible refine Kd.C_drewN ?_ _) | (with_reducible refine Kd.C_drew ?_))); (case side2 => exact (Kd.R_reads' HO131.out).2.1); (case side3 => repeat (first | exact (Kd.R_reads' HO142.out).2.2 | (with_reducible refine Kd.C_alloc ?_ _) | (with_reducible refine Kd.C_drewN ?_ _) | (with_reducible refine Kd.C_drew ?_))); (case side4 => exact (Kd.R_reads' HO142.out).2.1); rintro e w' ⟨rfl, ⟨nd, rfl⟩⟩; refine ⟨_, rfl, ?_⟩) | ((with_reducible refine gate_dst (N := 20) rfl ?_); (try (refine gate_guard (by rfl) ?_; dsimp only)); refine Kd.R_lit k34 _ 34 ?hg (N := 20) ?hd (xs := ([(⟨(⟨#[97]⟩ : ByteArray), (⟨#[98]⟩ : ByteArray)⟩ : S34), (⟨(⟨#[98, 0]⟩ : ByteArray), (⟨#[101]⟩ : ByteArray)⟩ : S34)] : List (S34))) (inner := [.string (⟨#[97]⟩ : ByteArray), .string (⟨#[98]⟩ : ByteArray), .string (⟨#[98, 0]⟩ : ByteArray), .string (⟨#[101]⟩ : ByteArray)]) (ok := fun _ => True) (okp := fun _ => True) ?hr ?hp (fun _ hk => hk) trivial (Below.refl _ _) (Nat.le_refl _) (by simp) ?_; (case hd => rfl); (case hg => rfl); (case hr => first | (go_simp; done) | (go_simp; rfl)); (case hp => exact (Reps.c2 (show Kd.M k34 _ _ _ (⟨(⟨#[97]⟩ : ByteArray), (⟨#[98]⟩ : ByteArray)⟩ : S34) [.string (⟨#[97]⟩ : ByteArray), .string (⟨#[98]⟩ : ByteArray)] from (k34_mkM _ _ _ (⟨(⟨#[97]⟩ : ByteArray), (⟨#[98]⟩ : ByteArray)⟩ : S34) )) (Reps.c2 (show Kd.M k34 _ _ _ (⟨(⟨#[98, 0]⟩ : ByteArray), (⟨#[101]⟩ : ByteArray)⟩ : S34) [.string (⟨#[98, 0]⟩ : ByteArray), .string (⟨#[101]⟩ : ByteArray)] from (k34_mkM _ _ _ (⟨(⟨#[98, 0]⟩ : ByteArray), (⟨#[101]⟩ : ByteArray)⟩ : S34) )) (Reps.none _ _)))); intro v145 w68 ho69 hb hg_ hnew_; clear hg_ hnew_; (first | rw [← Ny144.out] at ho69 | (simp only [Int.reduceToNat] at ho69; rw [← Ny144.out] at ho69)); have n0_ := Aside0.mk (Kd.R_elder' (by (with_reducible repeat (first | apply Kd.R_alloc | apply Kd.R_drewN | apply Kd.R_drew)); exact HO128.out) (Kd.R_base ho69) hb); have n1_ := Aside0.mk (Kd.R_elder' (by (with_reducible repeat (first | apply Kd.R_alloc | apply Kd.R_drewN | apply Kd.R_drew)); exact HO131.out) (Kd.R_base ho69) hb); have n2_ := Aside0.mk (Kd.R_elder' (by (with_reducible repeat (first | apply Kd.R_alloc | apply Kd.R_drewN | apply Kd.R_drew)); exact HO136.out) (Kd.R_base ho69) hb); have n3_ := Aside0.mk (Kd.R_elder' (by (with_reducible repeat (first | apply Kd.R_alloc | apply Kd.R_drewN | apply Kd.R_drew)); exact HO139.out) (Kd.R_base ho69) hb); have n4_ := Aside0.mk (Kd.R_elder' (by (with_reducible repeat (first | apply Kd.R_alloc | apply Kd.R_drewN | apply Kd.R_drew)); exact HO142.out) (Kd.R_base ho69) hb); have n5_ := Aside0.mk (Kd.R_lower (Kd.R_new' (Kd.R_new' (Kd.R_new' (Kd.R_new' (Kd.R_new' ho69 (Kd.R_lt (by (with_reducible repeat (first | apply Kd.R_alloc | apply Kd.R_drewN | apply Kd.R_drew)); exact HO128.out))) (Kd.R_lt (by (with_reducible repeat (first | apply Kd.R_alloc | apply Kd.R_drewN | apply Kd.R_drew)); exact HO131.out))) (Kd.R_lt (by (with_reducible repeat (first | apply Kd.R_alloc | apply Kd.R_drewN | apply Kd.R_drew)); exact HO136.out))) (Kd.R_lt (by (with_reducible repeat (first | apply Kd.R_alloc | apply Kd.R_drewN | apply Kd.R_drew)); exact HO139.out))) (Kd.R_lt (by (with_reducible repeat (first | apply Kd.R_alloc | apply Kd.R_drewN | apply Kd.R_drew)); exact HO142.out))) (below_size (by repeat (first | (with_reducible first | exact HB.out | apply below_alloc | apply pw_below_drewN | apply below_drew1) | exact HB.out)))); have n6_ := Aside0.mk (below_step (by repeat (first | (with_reducible first | exact HB.out | apply below_alloc | apply pw_below_drewN | apply below_drew1) | exact HB.out)) hb); clear HO128; clear HO131; clear HO136; clear HO139; clear HO142; clear HB; have HO128 := n0_; have HO131 := n1_; have HO136 := n2_; have HO139 := n3_; have HO142 := n4_; have HO146 := n5_; have HB := n6_; clear n0_ n1_ n2_ n3_ n4_ n5_ n6_; clear hb ho69; obtain ⟨Ao70, co70, eo70⟩ := Kd.R_slice HO139.out; subst eo70; obtain ⟨Ao71, co71, eo71⟩ := Kd.R_slice HO146.out; subst eo71) | (go_at_call 13; (with_reducible refine (folkmootref03_Same.calls k _ _ t137 _ _ y144 true _ ?side1 ?side2 ?side3 ?side4 A6.out).mono ?_); (case side1 => repeat (first | exact (Kd.R_reads' HO139.out).2.2 | (with_reducible refine Kd.C_alloc ?_ _) | (with_reducible refine Kd.C_drewN ?_ _) | (with_reducible refine Kd.C_drew ?_))); (case side2 => exact (Kd.R_reads' HO139.out).2.1); (case side3 => repeat (first | exact (Kd.R_reads' HO146.out).2.2 | (with_reducible refine Kd.C_alloc ?_ _) | (with_reducible refine Kd.C_drewN ?_ _) | (with_reducible refine Kd.C_drew ?_))); (case side4 => exact (Kd.R_reads' HO146.out).2.1); rintro e w' ⟨rfl, ⟨nd, rfl⟩⟩) | (go_at_call 20; (with_reducible refine (span_Has.calls _ _ t129 (⟨#[98]⟩ : ByteArray) true _ ?side1 ?side2 A8.out).mono ?_); (case side1 => repeat (first | exact (Kd.R_reads' HO131.out).2.2 | (with_reducible refine Kd.C_alloc ?_ _) | (with_reducible refine Kd.C_drewN ?_ _) | (with_reducible refine Kd.C_drew ?_))); (case side2 => exact (Kd.R_reads' HO131.out).2.1); rintro e w72 ⟨rfl, hb⟩; have n0_ := Aside0.mk (Kd.R_below (by (with_reducible repeat (first | apply Kd.R_alloc | apply Kd.R_drewN | apply Kd.R_drew)); exact HO128.out) hb); have n1_ := Aside0.mk (Kd.R_below (by (with_reducible repeat (first | apply Kd.R_alloc | apply Kd.R_drewN | apply Kd.R_drew)); exact HO131.out) hb); have n2_ := Aside0.mk (Kd.R_below (by (with_reducible repeat (first | apply Kd.R_alloc | apply Kd.R_drewN | apply Kd.R_drew)); exact HO136.out) hb); have n3_ := Aside0.mk (Kd.R_below (by (with_reducible repeat (first | apply Kd.R_alloc | apply Kd.R_drewN | apply Kd.R_drew)); exact HO139.out) hb); have n4_ := Aside0.mk (Kd.R_below (by (with_reducible repeat (first | apply Kd.R_alloc | apply Kd.R_drewN | apply Kd.R_drew)); exact HO142.out) hb); have n5_ := Aside0.mk (Kd.R_below (by (with_reducible repeat (first | apply Kd.R_alloc | apply Kd.R_drewN | apply Kd.R_drew)); exact HO146.out) hb); have n6_ := Aside0.mk (below_step (by repeat (first | (with_reducible first | exact HB.out | apply below_alloc | apply pw_below_drewN | apply below_drew1) | exact HB.out)) hb); clear HO128; clear HO131; clear HO136; clear HO139; clear HO142; clear HO146; clear HB; have HO128 := n0_; have HO131 := n1_; have HO136 := n2_; have HO139 := n3_; have HO142 := n4_; have HO146 := n5_; have HB := n6_; clear n0_ n1_ n2_ n3_ n4_ n5_ n6_; (try clear hb); (try clear hb2); (try clear hk); (try clear hi)) | (go_at_call 20; (with_reducible refine (span_Has.calls _ _ t137 (⟨#[98]⟩ : ByteArray) false _ ?side1 ?side2 A10.out).mono ?_); (case side1 => repeat (first | exact (Kd.R_reads' HO139.out).2.2 | (with_reducible refine Kd.C_alloc ?_ _) | (with_reducible refine Kd.C_drewN ?_ _) | (with_reducible refine Kd.C_drew ?_))); (case side2 => exact (Kd.R_reads' HO139.out).2.1); rintro e w73 ⟨rfl, hb⟩; have n0_ := Aside0.mk (Kd.R_below (by (with_reducible repeat (first | apply Kd.R_alloc | apply Kd.R_drewN | apply Kd.R_drew)); exact HO128.out) hb); have n1_ := Aside0.mk (Kd.R_below (by (with_reducible repeat (first | apply Kd.R_alloc | apply Kd.R_drewN | apply Kd.R_drew)); exact HO131.out) hb); have n2_ := Aside0.mk (Kd.R_below (by (with_reducible repeat (first | apply Kd.R_alloc | apply Kd.R_drewN | apply Kd.R_drew)); exact HO136.out) hb); have n3_ := Aside0.mk (Kd.R_below (by (with_reducible repeat (first | apply Kd.R_alloc | apply Kd.R_drewN | apply Kd.R_drew)); exact HO139.out) hb); have n4_ := Aside0.mk (Kd.R_below (by (with_reducible repeat (first | apply Kd.R_alloc | apply Kd.R_drewN | apply Kd.R_drew)); exact HO142.out) hb); have n5_ := Aside0.mk (Kd.R_below (by (with_reducible repeat (first | apply Kd.R_alloc | apply Kd.R_drewN | apply Kd.R_drew)); exact HO146.out) hb); have n6_ := Aside0.mk (below_step (by repeat (first | (with_reducible first | exact HB.out | apply below_alloc | apply pw_below_drewN | apply below_drew1) | exact HB.out)) hb); clear HO128; clear HO131; clear HO136; clear HO139; clear HO142; clear HO146; clear HB; have HO128 := n0_; have HO131 := n1_; have HO136 := n2_; have HO139 := n3_; have HO142 := n4_; have HO146 := n5_; have HB := n6_; clear n0_ n1_ n2_ n3_ n4_ n5_ n6_; (try clear hb); (try clear hb2); (try clear hk); (try clear hi)) | (go_at_call 26; (with_reducible refine (span_Key.calls (⟨#[]⟩ : ByteArray) t150 _ A31.out).mono ?_); rintro e w' ⟨rfl, ⟨nd, rfl⟩⟩) | (go_at_call 25; (with_reducible refine (folkmootlaw03_num.calls t150 t151 _ A32.out).mono ?_); rintro e w' ⟨rfl, ⟨nd, rfl⟩⟩))
            go_ret
            exact ⟨by first | rfl | (simp [errW_none, errW_some] <;> rfl) | (simp [*, errW_none, errW_some] <;> rfl), by repeat (first | (with_reducible first | exact HB.out | apply below_alloc | apply pw_below_drewN | apply below_drew1) | exact HB.out)⟩
      · replace c9 := Bool.eq_false_iff.mpr c9
        subst c9
        have H1 : (some false) = some r := by rw [if_neg (show ¬ (false = true) by decide)] at H; exact H
        clear H
        have H := H1
        clear H1
        obtain rfl := Option.some.inj H
        go_enter Try.func11, Try.ntmps11
        go_wp2_with (first | ((with_reducible refine gate_dst (N := 6) rfl ?_); (try (refine gate_guard (by rfl) ?_; dsimp only)); refine Kd.R_lit k34 _ 34 ?hg (N := 6) ?hd (xs := ([(⟨(⟨#[97]⟩ : ByteArray), (⟨#[99]⟩ : ByteArray)⟩ : S34), (⟨(⟨#[98]⟩ : ByteArray), (⟨#[100]⟩ : ByteArray)⟩ : S34), (⟨(⟨#[100]⟩ : ByteArray), (⟨#[101]⟩ : ByteArray)⟩ : S34)] : List (S34))) (inner := [.string (⟨#[97]⟩ : ByteArray), .string (⟨#[99]⟩ : ByteArray), .string (⟨#[98]⟩ : ByteArray), .string (⟨#[100]⟩ : ByteArray), .string (⟨#[100]⟩ : ByteArray), .string (⟨#[101]⟩ : ByteArray)]) (ok := fun _ => True) (okp := fun _ => True) ?hr ?hp (fun _ hk => hk) trivial (Below.refl _ _) (Nat.le_refl _) (by simp) ?_; (case hd => rfl); (case hg => rfl); (case hr => first | (go_simp; done) | (go_simp; rfl)); (case hp => exact (Reps.c2 (show Kd.M k34 _ _ _ (⟨(⟨#[97]⟩ : ByteArray), (⟨#[99]⟩ : ByteArray)⟩ : S34) [.string (⟨#[97]⟩ : ByteArray), .string (⟨#[99]⟩ : ByteArray)] from (k34_mkM _ _ _ (⟨(⟨#[97]⟩ : ByteArray), (⟨#[99]⟩ : ByteArray)⟩ : S34) )) (Reps.c2 (show Kd.M k34 _ _ _ (⟨(⟨#[98]⟩ : ByteArray), (⟨#[100]⟩ : ByteArray)⟩ : S34) [.string (⟨#[98]⟩ : ByteArray), .string (⟨#[100]⟩ : ByteArray)] from (k34_mkM _ _ _ (⟨(⟨#[98]⟩ : ByteArray), (⟨#[100]⟩ : ByteArray)⟩ : S34) )) (Reps.c2 (show Kd.M k34 _ _ _ (⟨(⟨#[100]⟩ : ByteArray), (⟨#[101]⟩ : ByteArray)⟩ : S34) [.string (⟨#[100]⟩ : ByteArray), .string (⟨#[101]⟩ : ByteArray)] from (k34_mkM _ _ _ (⟨(⟨#[100]⟩ : ByteArray), (⟨#[101]⟩ : ByteArray)⟩ : S34) )) (Reps.none _ _))))); intro v127 w74 ho75 hb hg_ hnew_; clear hg_ hnew_; (first | rw [← Ny126.out] at ho75 | (simp only [Int.reduceToNat] at ho75; rw [← Ny126.out] at ho75)); have n0_ := Aside0.mk (Kd.R_lower ho75 (below_size (by repeat (first | (with_reducible first | exact HB.out | apply below_alloc | apply pw_below_drewN | apply below_drew1) | exact HB.out)))); have n1_ := Aside0.mk (below_step (by repeat (first | (with_reducible first | exact HB.out | apply below_alloc | apply pw_below_drewN | apply below_drew1) | exact HB.out)) hb); clear HB; have HO128 := n0_; have HB := n1_; clear n0_ n1_; clear hb ho75; obtain ⟨Ao76, co76, eo76⟩ := Kd.R_slice HO128.out; subst eo76) | ((with_reducible refine gate_callee (f := 14) rfl ?_); refine goesL_ (some 7) rfl rfl Try.func14 (by kernel_rfl) rfl #[.slice Ao76 y126.length co76] rfl (by (try simp only [List.map_toArray, List.map_cons, List.map_nil]); first | done | rfl | (simp only [List.length_drop, List.length_take]; rfl)) ?_; (with_reducible refine (span_Union.calls _ _ y126 t129 _ ?side1 ?side2 A1.out).mono ?_); (case side1 => repeat (first | exact (Kd.R_reads' HO128.out).2.2 | (with_reducible refine Kd.C_alloc ?_ _) | (with_reducible refine Kd.C_drewN ?_ _) | (with_reducible refine Kd.C_drew ?_))); (case side2 => exact (Kd.R_reads' HO128.out).2.1); rintro e w77 ⟨v130, rfl, ho0, hb⟩; refine ⟨_, rfl, ?_⟩; have n0_ := Aside0.mk (Kd.R_elder' (by (with_reducible repeat (first | apply Kd.R_alloc | apply Kd.R_drewN | apply Kd.R_drew)); exact HO128.out) (Kd.R_base ho0) hb); have n1_ := Aside0.mk (Kd.R_lower (Kd.R_new' ho0 (Kd.R_lt (by (with_reducible repeat (first | apply Kd.R_alloc | apply Kd.R_drewN | apply Kd.R_drew)); exact HO128.out))) (below_size (by repeat (first | (with_reducible first | exact HB.out | apply below_alloc | apply pw_below_drewN | apply below_drew1) | exact HB.out)))); have n2_ := Aside0.mk (below_step (by repeat (first | (with_reducible first | exact HB.out | apply below_alloc | apply pw_below_drewN | apply below_drew1) | exact HB.out)) hb); clear HO128; clear HB; have HO128 := n0_; have HO131 := n1_; have HB := n2_; clear n0_ n1_ n2_; (try clear hb); (try clear hb2); (try clear hk); (try clear hi); (try clear ho0)) | ((with_reducible refine gate_callee (f := 24) rfl ?_); refine goesL_ (some 9) rfl rfl Try.func24 (by kernel_rfl) rfl #[.string (⟨#[98]⟩ : ByteArray)] rfl (by (try simp only [List.map_toArray, List.map_cons, List.map_nil]); first | done | rfl | (simp only [List.length_drop, List.length_take]; rfl)) ?_; (with_reducible refine (span_Point.calls (⟨#[98]⟩ : ByteArray) t132 t133 _ A2.out).mono ?_); rintro e w78 ⟨rfl, hb⟩; refine ⟨_, rfl, ?_⟩; have n0_ := Aside0.mk (Kd.R_below (by (with_reducible repeat (first | apply Kd.R_alloc | apply Kd.R_drewN | apply Kd.R_drew)); exact HO128.out) hb); have n1_ := Aside0.mk (Kd.R_below (by (with_reducible repeat (first | apply Kd.R_alloc | apply Kd.R_drewN | apply Kd.R_drew)); exact HO131.out) hb); have n2_ := Aside0.mk (below_step (by repeat (first | (with_reducible first | exact HB.out | apply below_alloc | apply pw_below_drewN | apply below_drew1) | exact HB.out)) hb); clear HO128; clear HO131; clear HB; have HO128 := n0_; have HO131 := n1_; have HB := n2_; clear n0_ n1_ n2_; (try clear hb); (try clear hb2); (try clear hk); (try clear hi)) | ((with_reducible refine gate_dst (N := 10) rfl ?_); (try (refine gate_guard (by rfl) ?_; dsimp only)); refine Kd.R_lit k34 _ 34 ?hg (N := 10) ?hd (xs := ([(⟨t132, t133⟩ : S34)] : List (S34))) (inner := [.string t132, .string t133]) (ok := fun _ => True) (okp := fun _ => True) ?hr ?hp (fun _ hk => hk) trivial (Below.refl _ _) (Nat.le_refl _) (by simp) ?_; (case hd => rfl); (case hg => rfl); (case hr => first | (go_simp; done) | (go_simp; rfl)); (case hp => exact (Reps.c2 (show Kd.M k34 _ _ _ (⟨t132, t133⟩ : S34) [.string t132, .string t133] from (k34_mkM _ _ _ (⟨t132, t133⟩ : S34) )) (Reps.none _ _))); intro v135 w79 ho80 hb hg_ hnew_; clear hg_ hnew_; (first | rw [← Ny134.out] at ho80 | (simp only [Int.reduceToNat] at ho80; rw [← Ny134.out] at ho80)); have n0_ := Aside0.mk (Kd.R_elder' (by (with_reducible repeat (first | apply Kd.R_alloc | apply Kd.R_drewN | apply Kd.R_drew)); exact HO128.out) (Kd.R_base ho80) hb); have n1_ := Aside0.mk (Kd.R_elder' (by (with_reducible repeat (first | apply Kd.R_alloc | apply Kd.R_drewN | apply Kd.R_drew)); exact HO131.out) (Kd.R_base ho80) hb); have n2_ := Aside0.mk (Kd.R_lower (Kd.R_new' (Kd.R_new' ho80 (Kd.R_lt (by (with_reducible repeat (first | apply Kd.R_alloc | apply Kd.R_drewN | apply Kd.R_drew)); exact HO128.out))) (Kd.R_lt (by (with_reducible repeat (first | apply Kd.R_alloc | apply Kd.R_drewN | apply Kd.R_drew)); exact HO131.out))) (below_size (by repeat (first | (with_reducible first | exact HB.out | apply below_alloc | apply pw_below_drewN | apply below_drew1) | exact HB.out)))); have n3_ := Aside0.mk (below_step (by repeat (first | (with_reducible first | exact HB.out | apply below_alloc | apply pw_below_drewN | apply below_drew1) | exact HB.out)) hb); clear HO128; clear HO131; clear HB; have HO128 := n0_; have HO131 := n1_; have HO136 := n2_; have HB := n3_; clear n0_ n1_ n2_ n3_; clear hb ho80; obtain ⟨Ao81, co81, eo81⟩ := Kd.R_slice HO131.out; subst eo81; obtain ⟨Ao82, co82, eo82⟩ := Kd.R_slice HO136.out; subst eo82) | ((with_reducible refine gate_callee (f := 18) rfl ?_); refine goesL_ (some 11) rfl rfl Try.func18 (by kernel_rfl) rfl #[.slice Ao81 t129.length co81, .slice Ao82 y134.length co82] rfl (by (try simp only [List.map_toArray, List.map_cons, List.map_nil]); first | done | rfl | (simp only [List.length_drop, List.length_take]; rfl)) ?_; (with_reducible refine (span_Less.calls k _ _ t129 _ _ y134 t137 _ ?side1 ?side2 ?side3 ?side4 A3.out).mono ?_); (case side1 => repeat (first | exact (Kd.R_reads' HO131.out).2.2 | (with_reducible refine Kd.C_alloc ?_ _) | (with_reducible refine Kd.C_drewN ?_ _) | (with_reducible refine Kd.C_drew ?_))); (case side2 => exact (Kd.R_reads' HO131.out).2.1); (case side3 => repeat (first | exact (Kd.R_reads' HO136.out).2.2 | (with_reducible refine Kd.C_alloc ?_ _) | (with_reducible refine Kd.C_drewN ?_ _) | (with_reducible refine Kd.C_drew ?_))); (case side4 => exact (Kd.R_reads' HO136.out).2.1); rintro e w83 ⟨v138, rfl, ho0, hb⟩; refine ⟨_, rfl, ?_⟩; have n0_ := Aside0.mk (Kd.R_elder' (by (with_reducible repeat (first | apply Kd.R_alloc | apply Kd.R_drewN | apply Kd.R_drew)); exact HO128.out) (Kd.R_base ho0) hb); have n1_ := Aside0.mk (Kd.R_elder' (by (with_reducible repeat (first | apply Kd.R_alloc | apply Kd.R_drewN | apply Kd.R_drew)); exact HO131.out) (Kd.R_base ho0) hb); have n2_ := Aside0.mk (Kd.R_elder' (by (with_reducible repeat (first | apply Kd.R_alloc | apply Kd.R_drewN | apply Kd.R_drew)); exact HO136.out) (Kd.R_base ho0) hb); have n3_ := Aside0.mk (Kd.R_lower (Kd.R_new' (Kd.R_new' (Kd.R_new' ho0 (Kd.R_lt (by (with_reducible repeat (first | apply Kd.R_alloc | apply Kd.R_drewN | apply Kd.R_drew)); exact HO128.out))) (Kd.R_lt (by (with_reducible repeat (first | apply Kd.R_alloc | apply Kd.R_drewN | apply Kd.R_drew)); exact HO131.out))) (Kd.R_lt (by (with_reducible repeat (first | apply Kd.R_alloc | apply Kd.R_drewN | apply Kd.R_drew)); exact HO136.out))) (below_size (by repeat (first | (with_reducible first | exact HB.out | apply below_alloc | apply pw_below_drewN | apply below_drew1) | exact HB.out)))); have n4_ := Aside0.mk (below_step (by repeat (first | (with_reducible first | exact HB.out | apply below_alloc | apply pw_below_drewN | apply below_drew1) | exact HB.out)) hb); clear HO128; clear HO131; clear HO136; clear HB; have HO128 := n0_; have HO131 := n1_; have HO136 := n2_; have HO139 := n3_; have HB := n4_; clear n0_ n1_ n2_ n3_ n4_; (try clear hb); (try clear hb2); (try clear hk); (try clear hi); (try clear ho0)) | ((with_reducible refine gate_dst (N := 14) rfl ?_); (try (refine gate_guard (by rfl) ?_; dsimp only)); refine Kd.R_lit k34 _ 34 ?hg (N := 14) ?hd (xs := ([(⟨(⟨#[97]⟩ : ByteArray), (⟨#[101]⟩ : ByteArray)⟩ : S34)] : List (S34))) (inner := [.string (⟨#[97]⟩ : ByteArray), .string (⟨#[101]⟩ : ByteArray)]) (ok := fun _ => True) (okp := fun _ => True) ?hr ?hp (fun _ hk => hk) trivial (Below.refl _ _) (Nat.le_refl _) (by simp) ?_; (case hd => rfl); (case hg => rfl); (case hr => first | (go_simp; done) | (go_simp; rfl)); (case hp => exact (Reps.c2 (show Kd.M k34 _ _ _ (⟨(⟨#[97]⟩ : ByteArray), (⟨#[101]⟩ : ByteArray)⟩ : S34) [.string (⟨#[97]⟩ : ByteArray), .string (⟨#[101]⟩ : ByteArray)] from (k34_mkM _ _ _ (⟨(⟨#[97]⟩ : ByteArray), (⟨#[101]⟩ : ByteArray)⟩ : S34) )) (Reps.none _ _))); intro v141 w84 ho85 hb hg_ hnew_; clear hg_ hnew_; (first | rw [← Ny140.out] at ho85 | (simp only [Int.reduceToNat] at ho85; rw [← Ny140.out] at ho85)); have n0_ := Aside0.mk (Kd.R_elder' (by (with_reducible repeat (first | apply Kd.R_alloc | apply Kd.R_drewN | apply Kd.R_drew)); exact HO128.out) (Kd.R_base ho85) hb); have n1_ := Aside0.mk (Kd.R_elder' (by (with_reducible repeat (first | apply Kd.R_alloc | apply Kd.R_drewN | apply Kd.R_drew)); exact HO131.out) (Kd.R_base ho85) hb); have n2_ := Aside0.mk (Kd.R_elder' (by (with_reducible repeat (first | apply Kd.R_alloc | apply Kd.R_drewN | apply Kd.R_drew)); exact HO136.out) (Kd.R_base ho85) hb); have n3_ := Aside0.mk (Kd.R_elder' (by (with_reducible repeat (first | apply Kd.R_alloc | apply Kd.R_drewN | apply Kd.R_drew)); exact HO139.out) (Kd.R_base ho85) hb); have n4_ := Aside0.mk (Kd.R_lower (Kd.R_new' (Kd.R_new' (Kd.R_new' (Kd.R_new' ho85 (Kd.R_lt (by (with_reducible repeat (first | apply Kd.R_alloc | apply Kd.R_drewN | apply Kd.R_drew)); exact HO128.out))) (Kd.R_lt (by (with_reducible repeat (first | apply Kd.R_alloc | apply Kd.R_drewN | apply Kd.R_drew)); exact HO131.out))) (Kd.R_lt (by (with_reducible repeat (first | apply Kd.R_alloc | apply Kd.R_drewN | apply Kd.R_drew)); exact HO136.out))) (Kd.R_lt (by (with_reducible repeat (first | apply Kd.R_alloc | apply Kd.R_drewN | apply Kd.R_drew)); exact HO139.out))) (below_size (by repeat (first | (with_reducible first | exact HB.out | apply below_alloc | apply pw_below_drewN | apply below_drew1) | exact HB.out)))); have n5_ := Aside0.mk (below_step (by repeat (first | (with_reducible first | exact HB.out | apply below_alloc | apply pw_below_drewN | apply below_drew1) | exact HB.out)) hb); clear HO128; clear HO131; clear HO136; clear HO139; clear HB; have HO128 := n0_; have HO131 := n1_; have HO136 := n2_; have HO139 := n3_; have HO142 := n4_; have HB := n5_; clear n0_ n1_ n2_ n3_ n4_ n5_; clear hb ho85; obtain ⟨Ao86, co86, eo86⟩ := Kd.R_slice HO142.out; subst eo86) | ((with_reducible refine gate_callee (f := 13) rfl ?_); refine goesL_ (some 15) rfl rfl Try.func13 (by kernel_rfl) rfl #[.slice Ao81 t129.length co81, .slice Ao86 y140.length co86] rfl (by (try simp only [List.map_toArray, List.map_cons, List.map_nil]); first | done | rfl | (simp only [List.length_drop, List.length_take]; rfl)) ?_; (with_reducible refine (folkmootref03_Same.calls k _ _ t129 _ _ y140 true _ ?side1 ?side2 ?side3 ?side4 A4.out).mono ?_); (case side1 => repeat (first | exact (Kd.R_reads' HO131.out).2.2 | (with_reducible refine Kd.C_alloc ?_ _) | (with_reducible refine Kd.C_drewN ?_ _) | (with_reducible refine Kd.C_drew ?_))); (case side2 => exact (Kd.R_reads' HO131.out).2.1); (case side3 => repeat (first | exact (Kd.R_reads' HO142.out).2.2 | (with_reducible refine Kd.C_alloc ?_ _) | (with_reducible refine Kd.C_drewN ?_ _) | (with_reducible refine Kd.C_drew ?_))); (case side4 => exact (Kd.R_reads' HO142.out).2.1); rintro e w' ⟨rfl, ⟨nd, rfl⟩⟩; refine ⟨_, rfl, ?_⟩) | ((with_reducible refine gate_dst (N := 20) rfl ?_); (try (refine gate_guard (by rfl) ?_; dsimp only)); refine Kd.R_lit k34 _ 34 ?hg (N := 20) ?hd (xs := ([(⟨(⟨#[97]⟩ : ByteArray), (⟨#[98]⟩ : ByteArray)⟩ : S34), (⟨(⟨#[98, 0]⟩ : ByteArray), (⟨#[101]⟩ : ByteArray)⟩ : S34)] : List (S34))) (inner := [.string (⟨#[97]⟩ : ByteArray), .string (⟨#[98]⟩ : ByteArray), .string (⟨#[98, 0]⟩ : ByteArray), .string (⟨#[101]⟩ : ByteArray)]) (ok := fun _ => True) (okp := fun _ => True) ?hr ?hp (fun _ hk => hk) trivial (Below.refl _ _) (Nat.le_refl _) (by simp) ?_; (case hd => rfl); (case hg => rfl); (case hr => first | (go_simp; done) | (go_simp; rfl)); (case hp => exact (Reps.c2 (show Kd.M k34 _ _ _ (⟨(⟨#[97]⟩ : ByteArray), (⟨#[98]⟩ : ByteArray)⟩ : S34) [.string (⟨#[97]⟩ : ByteArray), .string (⟨#[98]⟩ : ByteArray)] from (k34_mkM _ _ _ (⟨(⟨#[97]⟩ : ByteArray), (⟨#[98]⟩ : ByteArray)⟩ : S34) )) (Reps.c2 (show Kd.M k34 _ _ _ (⟨(⟨#[98, 0]⟩ : ByteArray), (⟨#[101]⟩ : ByteArray)⟩ : S34) [.string (⟨#[98, 0]⟩ : ByteArray), .string (⟨#[101]⟩ : ByteArray)] from (k34_mkM _ _ _ (⟨(⟨#[98, 0]⟩ : ByteArray), (⟨#[101]⟩ : ByteArray)⟩ : S34) )) (Reps.none _ _)))); intro v145 w87 ho88 hb hg_ hnew_; clear hg_ hnew_; (first | rw [← Ny144.out] at ho88 | (simp only [Int.reduceToNat] at ho88; rw [← Ny144.out] at ho88)); have n0_ := Aside0.mk (Kd.R_elder' (by (with_reducible repeat (first | apply Kd.R_alloc | apply Kd.R_drewN | apply Kd.R_drew)); exact HO128.out) (Kd.R_base ho88) hb); have n1_ := Aside0.mk (Kd.R_elder' (by (with_reducible repeat (first | apply Kd.R_alloc | apply Kd.R_drewN | apply Kd.R_drew)); exact HO131.out) (Kd.R_base ho88) hb); have n2_ := Aside0.mk (Kd.R_elder' (by (with_reducible repeat (first | apply Kd.R_alloc | apply Kd.R_drewN | apply Kd.R_drew)); exact HO136.out) (Kd.R_base ho88) hb); have n3_ := Aside0.mk (Kd.R_elder' (by (with_reducible repeat (first | apply Kd.R_alloc | apply Kd.R_drewN | apply Kd.R_drew)); exact HO139.out) (Kd.R_base ho88) hb); have n4_ := Aside0.mk (Kd.R_elder' (by (with_reducible repeat (first | apply Kd.R_alloc | apply Kd.R_drewN | apply Kd.R_drew)); exact HO142.out) (Kd.R_base ho88) hb); have n5_ := Aside0.mk (Kd.R_lower (Kd.R_new' (Kd.R_new' (Kd.R_new' (Kd.R_new' (Kd.R_new' ho88 (Kd.R_lt (by (with_reducible repeat (first | apply Kd.R_alloc | apply Kd.R_drewN | apply Kd.R_drew)); exact HO128.out))) (Kd.R_lt (by (with_reducible repeat (first | apply Kd.R_alloc | apply Kd.R_drewN | apply Kd.R_drew)); exact HO131.out))) (Kd.R_lt (by (with_reducible repeat (first | apply Kd.R_alloc | apply Kd.R_drewN | apply Kd.R_drew)); exact HO136.out))) (Kd.R_lt (by (with_reducible repeat (first | apply Kd.R_alloc | apply Kd.R_drewN | apply Kd.R_drew)); exact HO139.out))) (Kd.R_lt (by (with_reducible repeat (first | apply Kd.R_alloc | apply Kd.R_drewN | apply Kd.R_drew)); exact HO142.out))) (below_size (by repeat (first | (with_reducible first | exact HB.out | apply below_alloc | apply pw_below_drewN | apply below_drew1) | exact HB.out)))); have n6_ := Aside0.mk (below_step (by repeat (first | (with_reducible first | exact HB.out | apply below_alloc | apply pw_below_drewN | apply below_drew1) | exact HB.out)) hb); clear HO128; clear HO131; clear HO136; clear HO139; clear HO142; clear HB; have HO128 := n0_; have HO131 := n1_; have HO136 := n2_; have HO139 := n3_; have HO142 := n4_; have HO146 := n5_; have HB := n6_; clear n0_ n1_ n2_ n3_ n4_ n5_ n6_; clear hb ho88; obtain ⟨Ao89, co89, eo89⟩ := Kd.R_slice HO139.out; subst eo89; obtain ⟨Ao90, co90, eo90⟩ := Kd.R_slice HO146.out; subst eo90) | (go_at_call 13; (with_reducible refine (folkmootref03_Same.calls k _ _ t137 _ _ y144 true _ ?side1 ?side2 ?side3 ?side4 A6.out).mono ?_); (case side1 => repeat (first | exact (Kd.R_reads' HO139.out).2.2 | (with_reducible refine Kd.C_alloc ?_ _) | (with_reducible refine Kd.C_drewN ?_ _) | (with_reducible refine Kd.C_drew ?_))); (case side2 => exact (Kd.R_reads' HO139.out).2.1); (case side3 => repeat (first | exact (Kd.R_reads' HO146.out).2.2 | (with_reducible refine Kd.C_alloc ?_ _) | (with_reducible refine Kd.C_drewN ?_ _) | (with_reducible refine Kd.C_drew ?_))); (case side4 => exact (Kd.R_reads' HO146.out).2.1); rintro e w' ⟨rfl, ⟨nd, rfl⟩⟩) | (go_at_call 20; (with_reducible refine (span_Has.calls _ _ t129 (⟨#[98]⟩ : ByteArray) false _ ?side1 ?side2 A8.out).mono ?_); (case side1 => repeat (first | exact (Kd.R_reads' HO131.out).2.2 | (with_reducible refine Kd.C_alloc ?_ _) | (with_reducible refine Kd.C_drewN ?_ _) | (with_reducible refine Kd.C_drew ?_))); (case side2 => exact (Kd.R_reads' HO131.out).2.1); rintro e w91 ⟨rfl, hb⟩; have n0_ := Aside0.mk (Kd.R_below (by (with_reducible repeat (first | apply Kd.R_alloc | apply Kd.R_drewN | apply Kd.R_drew)); exact HO128.out) hb); have n1_ := Aside0.mk (Kd.R_below (by (with_reducible repeat (first | apply Kd.R_alloc | apply Kd.R_drewN | apply Kd.R_drew)); exact HO131.out) hb); have n2_ := Aside0.mk (Kd.R_below (by (with_reducible repeat (first | apply Kd.R_alloc | apply Kd.R_drewN | apply Kd.R_drew)); exact HO136.out) hb); have n3_ := Aside0.mk (Kd.R_below (by (with_reducible repeat (first | apply Kd.R_alloc | apply Kd.R_drewN | apply Kd.R_drew)); exact HO139.out) hb); have n4_ := Aside0.mk (Kd.R_below (by (with_reducible repeat (first | apply Kd.R_alloc | apply Kd.R_drewN | apply Kd.R_drew)); exact HO142.out) hb); have n5_ := Aside0.mk (Kd.R_below (by (with_reducible repeat (first | apply Kd.R_alloc | apply Kd.R_drewN | apply Kd.R_drew)); exact HO146.out) hb); have n6_ := Aside0.mk (below_step (by repeat (first | (with_reducible first | exact HB.out | apply below_alloc | apply pw_below_drewN | apply below_drew1) | exact HB.out)) hb); clear HO128; clear HO131; clear HO136; clear HO139; clear HO142; clear HO146; clear HB; have HO128 := n0_; have HO131 := n1_; have HO136 := n2_; have HO139 := n3_; have HO142 := n4_; have HO146 := n5_; have HB := n6_; clear n0_ n1_ n2_ n3_ n4_ n5_ n6_; (try clear hb); (try clear hb2); (try clear hk); (try clear hi)))
        go_ret
        exact ⟨by first | rfl | (simp [errW_none, errW_some] <;> rfl) | (simp [*, errW_none, errW_some] <;> rfl), by repeat (first | (with_reducible first | exact HB.out | apply below_alloc | apply pw_below_drewN | apply below_drew1) | exact HB.out)⟩
    · replace c7 := Bool.eq_false_iff.mpr c7
      subst c7
      have H1 : (some false) = some r := by rw [if_neg (show ¬ (false = true) by decide)] at H; exact H
      clear H
      have H := H1
      clear H1
      obtain rfl := Option.some.inj H
      go_enter Try.func11, Try.ntmps11
      go_wp2_with (first | ((with_reducible refine gate_dst (N := 6) rfl ?_); (try (refine gate_guard (by rfl) ?_; dsimp only)); refine Kd.R_lit k34 _ 34 ?hg (N := 6) ?hd (xs := ([(⟨(⟨#[97]⟩ : ByteArray), (⟨#[99]⟩ : ByteArray)⟩ : S34), (⟨(⟨#[98]⟩ : ByteArray), (⟨#[100]⟩ : ByteArray)⟩ : S34), (⟨(⟨#[100]⟩ : ByteArray), (⟨#[101]⟩ : ByteArray)⟩ : S34)] : List (S34))) (inner := [.string (⟨#[97]⟩ : ByteArray), .string (⟨#[99]⟩ : ByteArray), .string (⟨#[98]⟩ : ByteArray), .string (⟨#[100]⟩ : ByteArray), .string (⟨#[100]⟩ : ByteArray), .string (⟨#[101]⟩ : ByteArray)]) (ok := fun _ => True) (okp := fun _ => True) ?hr ?hp (fun _ hk => hk) trivial (Below.refl _ _) (Nat.le_refl _) (by simp) ?_; (case hd => rfl); (case hg => rfl); (case hr => first | (go_simp; done) | (go_simp; rfl)); (case hp => exact (Reps.c2 (show Kd.M k34 _ _ _ (⟨(⟨#[97]⟩ : ByteArray), (⟨#[99]⟩ : ByteArray)⟩ : S34) [.string (⟨#[97]⟩ : ByteArray), .string (⟨#[99]⟩ : ByteArray)] from (k34_mkM _ _ _ (⟨(⟨#[97]⟩ : ByteArray), (⟨#[99]⟩ : ByteArray)⟩ : S34) )) (Reps.c2 (show Kd.M k34 _ _ _ (⟨(⟨#[98]⟩ : ByteArray), (⟨#[100]⟩ : ByteArray)⟩ : S34) [.string (⟨#[98]⟩ : ByteArray), .string (⟨#[100]⟩ : ByteArray)] from (k34_mkM _ _ _ (⟨(⟨#[98]⟩ : ByteArray), (⟨#[100]⟩ : ByteArray)⟩ : S34) )) (Reps.c2 (show Kd.M k34 _ _ _ (⟨(⟨#[100]⟩ : ByteArray), (⟨#[101]⟩ : ByteArray)⟩ : S34) [.string (⟨#[100]⟩ : ByteArray), .string (⟨#[101]⟩ : ByteArray)] from (k34_mkM _ _ _ (⟨(⟨#[100]⟩ : ByteArray), (⟨#[101]⟩ : ByteArray)⟩ : S34) )) (Reps.none _ _))))); intro v127 w92 ho93 hb hg_ hnew_; clear hg_ hnew_; (first | rw [← Ny126.out] at ho93 | (simp only [Int.reduceToNat] at ho93; rw [← Ny126.out] at ho93)); have n0_ := Aside0.mk (Kd.R_lower ho93 (below_size (by repeat (first | (with_reducible first | exact HB.out | apply below_alloc | apply pw_below_drewN | apply below_drew1) | exact HB.out)))); have n1_ := Aside0.mk (below_step (by repeat (first | (with_reducible first | exact HB.out | apply below_alloc | apply pw_below_drewN | apply below_drew1) | exact HB.out)) hb); clear HB; have HO128 := n0_; have HB := n1_; clear n0_ n1_; clear hb ho93; obtain ⟨Ao94, co94, eo94⟩ := Kd.R_slice HO128.out; subst eo94) | ((with_reducible refine gate_callee (f := 14) rfl ?_); refine goesL_ (some 7) rfl rfl Try.func14 (by kernel_rfl) rfl #[.slice Ao94 y126.length co94] rfl (by (try simp only [List.map_toArray, List.map_cons, List.map_nil]); first | done | rfl | (simp only [List.length_drop, List.length_take]; rfl)) ?_; (with_reducible refine (span_Union.calls _ _ y126 t129 _ ?side1 ?side2 A1.out).mono ?_); (case side1 => repeat (first | exact (Kd.R_reads' HO128.out).2.2 | (with_reducible refine Kd.C_alloc ?_ _) | (with_reducible refine Kd.C_drewN ?_ _) | (with_reducible refine Kd.C_drew ?_))); (case side2 => exact (Kd.R_reads' HO128.out).2.1); rintro e w95 ⟨v130, rfl, ho0, hb⟩; refine ⟨_, rfl, ?_⟩; have n0_ := Aside0.mk (Kd.R_elder' (by (with_reducible repeat (first | apply Kd.R_alloc | apply Kd.R_drewN | apply Kd.R_drew)); exact HO128.out) (Kd.R_base ho0) hb); have n1_ := Aside0.mk (Kd.R_lower (Kd.R_new' ho0 (Kd.R_lt (by (with_reducible repeat (first | apply Kd.R_alloc | apply Kd.R_drewN | apply Kd.R_drew)); exact HO128.out))) (below_size (by repeat (first | (with_reducible first | exact HB.out | apply below_alloc | apply pw_below_drewN | apply below_drew1) | exact HB.out)))); have n2_ := Aside0.mk (below_step (by repeat (first | (with_reducible first | exact HB.out | apply below_alloc | apply pw_below_drewN | apply below_drew1) | exact HB.out)) hb); clear HO128; clear HB; have HO128 := n0_; have HO131 := n1_; have HB := n2_; clear n0_ n1_ n2_; (try clear hb); (try clear hb2); (try clear hk); (try clear hi); (try clear ho0)) | ((with_reducible refine gate_callee (f := 24) rfl ?_); refine goesL_ (some 9) rfl rfl Try.func24 (by kernel_rfl) rfl #[.string (⟨#[98]⟩ : ByteArray)] rfl (by (try simp only [List.map_toArray, List.map_cons, List.map_nil]); first | done | rfl | (simp only [List.length_drop, List.length_take]; rfl)) ?_; (with_reducible refine (span_Point.calls (⟨#[98]⟩ : ByteArray) t132 t133 _ A2.out).mono ?_); rintro e w96 ⟨rfl, hb⟩; refine ⟨_, rfl, ?_⟩; have n0_ := Aside0.mk (Kd.R_below (by (with_reducible repeat (first | apply Kd.R_alloc | apply Kd.R_drewN | apply Kd.R_drew)); exact HO128.out) hb); have n1_ := Aside0.mk (Kd.R_below (by (with_reducible repeat (first | apply Kd.R_alloc | apply Kd.R_drewN | apply Kd.R_drew)); exact HO131.out) hb); have n2_ := Aside0.mk (below_step (by repeat (first | (with_reducible first | exact HB.out | apply below_alloc | apply pw_below_drewN | apply below_drew1) | exact HB.out)) hb); clear HO128; clear HO131; clear HB; have HO128 := n0_; have HO131 := n1_; have HB := n2_; clear n0_ n1_ n2_; (try clear hb); (try clear hb2); (try clear hk); (try clear hi)) | ((with_reducible refine gate_dst (N := 10) rfl ?_); (try (refine gate_guard (by rfl) ?_; dsimp only)); refine Kd.R_lit k34 _ 34 ?hg (N := 10) ?hd (xs := ([(⟨t132, t133⟩ : S34)] : List (S34))) (inner := [.string t132, .string t133]) (ok := fun _ => True) (okp := fun _ => True) ?hr ?hp (fun _ hk => hk) trivial (Below.refl _ _) (Nat.le_refl _) (by simp) ?_; (case hd => rfl); (case hg => rfl); (case hr => first | (go_simp; done) | (go_simp; rfl)); (case hp => exact (Reps.c2 (show Kd.M k34 _ _ _ (⟨t132, t133⟩ : S34) [.string t132, .string t133] from (k34_mkM _ _ _ (⟨t132, t133⟩ : S34) )) (Reps.none _ _))); intro v135 w97 ho98 hb hg_ hnew_; clear hg_ hnew_; (first | rw [← Ny134.out] at ho98 | (simp only [Int.reduceToNat] at ho98; rw [← Ny134.out] at ho98)); have n0_ := Aside0.mk (Kd.R_elder' (by (with_reducible repeat (first | apply Kd.R_alloc | apply Kd.R_drewN | apply Kd.R_drew)); exact HO128.out) (Kd.R_base ho98) hb); have n1_ := Aside0.mk (Kd.R_elder' (by (with_reducible repeat (first | apply Kd.R_alloc | apply Kd.R_drewN | apply Kd.R_drew)); exact HO131.out) (Kd.R_base ho98) hb); have n2_ := Aside0.mk (Kd.R_lower (Kd.R_new' (Kd.R_new' ho98 (Kd.R_lt (by (with_reducible repeat (first | apply Kd.R_alloc | apply Kd.R_drewN | apply Kd.R_drew)); exact HO128.out))) (Kd.R_lt (by (with_reducible repeat (first | apply Kd.R_alloc | apply Kd.R_drewN | apply Kd.R_drew)); exact HO131.out))) (below_size (by repeat (first | (with_reducible first | exact HB.out | apply below_alloc | apply pw_below_drewN | apply below_drew1) | exact HB.out)))); have n3_ := Aside0.mk (below_step (by repeat (first | (with_reducible first | exact HB.out | apply below_alloc | apply pw_below_drewN | apply below_drew1) | exact HB.out)) hb); clear HO128; clear HO131; clear HB; have HO128 := n0_; have HO131 := n1_; have HO136 := n2_; have HB := n3_; clear n0_ n1_ n2_ n3_; clear hb ho98; obtain ⟨Ao99, co99, eo99⟩ := Kd.R_slice HO131.out; subst eo99; obtain ⟨Ao100, co100, eo100⟩ := Kd.R_slice HO136.out; subst eo100) | ((with_reducible refine gate_callee (f := 18) rfl ?_); refine goesL_ (some 11) rfl rfl Try.func18 (by kernel_rfl) rfl #[.slice Ao99 t129.length co99, .slice Ao100 y134.length co100] rfl (by (try simp only [List.map_toArray, List.map_cons, List.map_nil]); first | done | rfl | (simp only [List.length_drop, List.length_take]; rfl)) ?_; (with_reducible refine (span_Less.calls k _ _ t129 _ _ y134 t137 _ ?side1 ?side2 ?side3 ?side4 A3.out).mono ?_); (case side1 => repeat (first | exact (Kd.R_reads' HO131.out).2.2 | (with_reducible refine Kd.C_alloc ?_ _) | (with_reducible refine Kd.C_drewN ?_ _) | (with_reducible refine Kd.C_drew ?_))); (case side2 => exact (Kd.R_reads' HO131.out).2.1); (case side3 => repeat (first | exact (Kd.R_reads' HO136.out).2.2 | (with_reducible refine Kd.C_alloc ?_ _) | (with_reducible refine Kd.C_drewN ?_ _) | (with_reducible refine Kd.C_drew ?_))); (case side4 => exact (Kd.R_reads' HO136.out).2.1); rintro e w101 ⟨v138, rfl, ho0, hb⟩; refine ⟨_, rfl, ?_⟩; have n0_ := Aside0.mk (Kd.R_elder' (by (with_reducible repeat (first | apply Kd.R_alloc | apply Kd.R_drewN | apply Kd.R_drew)); exact HO128.out) (Kd.R_base ho0) hb); have n1_ := Aside0.mk (Kd.R_elder' (by (with_reducible repeat (first | apply Kd.R_alloc | apply Kd.R_drewN | apply Kd.R_drew)); exact HO131.out) (Kd.R_base ho0) hb); have n2_ := Aside0.mk (Kd.R_elder' (by (with_reducible repeat (first | apply Kd.R_alloc | apply Kd.R_drewN | apply Kd.R_drew)); exact HO136.out) (Kd.R_base ho0) hb); have n3_ := Aside0.mk (Kd.R_lower (Kd.R_new' (Kd.R_new' (Kd.R_new' ho0 (Kd.R_lt (by (with_reducible repeat (first | apply Kd.R_alloc | apply Kd.R_drewN | apply Kd.R_drew)); exact HO128.out))) (Kd.R_lt (by (with_reducible repeat (first | apply Kd.R_alloc | apply Kd.R_drewN | apply Kd.R_drew)); exact HO131.out))) (Kd.R_lt (by (with_reducible repeat (first | apply Kd.R_alloc | apply Kd.R_drewN | apply Kd.R_drew)); exact HO136.out))) (below_size (by repeat (first | (with_reducible first | exact HB.out | apply below_alloc | apply pw_below_drewN | apply below_drew1) | exact HB.out)))); have n4_ := Aside0.mk (below_step (by repeat (first | (with_reducible first | exact HB.out | apply below_alloc | apply pw_below_drewN | apply below_drew1) | exact HB.out)) hb); clear HO128; clear HO131; clear HO136; clear HB; have HO128 := n0_; have HO131 := n1_; have HO136 := n2_; have HO139 := n3_; have HB := n4_; clear n0_ n1_ n2_ n3_ n4_; (try clear hb); (try clear hb2); (try clear hk); (try clear hi); (try clear ho0)) | ((with_reducible refine gate_dst (N := 14) rfl ?_); (try (refine gate_guard (by rfl) ?_; dsimp only)); refine Kd.R_lit k34 _ 34 ?hg (N := 14) ?hd (xs := ([(⟨(⟨#[97]⟩ : ByteArray), (⟨#[101]⟩ : ByteArray)⟩ : S34)] : List (S34))) (inner := [.string (⟨#[97]⟩ : ByteArray), .string (⟨#[101]⟩ : ByteArray)]) (ok := fun _ => True) (okp := fun _ => True) ?hr ?hp (fun _ hk => hk) trivial (Below.refl _ _) (Nat.le_refl _) (by simp) ?_; (case hd => rfl); (case hg => rfl); (case hr => first | (go_simp; done) | (go_simp; rfl)); (case hp => exact (Reps.c2 (show Kd.M k34 _ _ _ (⟨(⟨#[97]⟩ : ByteArray), (⟨#[101]⟩ : ByteArray)⟩ : S34) [.string (⟨#[97]⟩ : ByteArray), .string (⟨#[101]⟩ : ByteArray)] from (k34_mkM _ _ _ (⟨(⟨#[97]⟩ : ByteArray), (⟨#[101]⟩ : ByteArray)⟩ : S34) )) (Reps.none _ _))); intro v141 w102 ho103 hb hg_ hnew_; clear hg_ hnew_; (first | rw [← Ny140.out] at ho103 | (simp only [Int.reduceToNat] at ho103; rw [← Ny140.out] at ho103)); have n0_ := Aside0.mk (Kd.R_elder' (by (with_reducible repeat (first | apply Kd.R_alloc | apply Kd.R_drewN | apply Kd.R_drew)); exact HO128.out) (Kd.R_base ho103) hb); have n1_ := Aside0.mk (Kd.R_elder' (by (with_reducible repeat (first | apply Kd.R_alloc | apply Kd.R_drewN | apply Kd.R_drew)); exact HO131.out) (Kd.R_base ho103) hb); have n2_ := Aside0.mk (Kd.R_elder' (by (with_reducible repeat (first | apply Kd.R_alloc | apply Kd.R_drewN | apply Kd.R_drew)); exact HO136.out) (Kd.R_base ho103) hb); have n3_ := Aside0.mk (Kd.R_elder' (by (with_reducible repeat (first | apply Kd.R_alloc | apply Kd.R_drewN | apply Kd.R_drew)); exact HO139.out) (Kd.R_base ho103) hb); have n4_ := Aside0.mk (Kd.R_lower (Kd.R_new' (Kd.R_new' (Kd.R_new' (Kd.R_new' ho103 (Kd.R_lt (by (with_reducible repeat (first | apply Kd.R_alloc | apply Kd.R_drewN | apply Kd.R_drew)); exact HO128.out))) (Kd.R_lt (by (with_reducible repeat (first | apply Kd.R_alloc | apply Kd.R_drewN | apply Kd.R_drew)); exact HO131.out))) (Kd.R_lt (by (with_reducible repeat (first | apply Kd.R_alloc | apply Kd.R_drewN | apply Kd.R_drew)); exact HO136.out))) (Kd.R_lt (by (with_reducible repeat (first | apply Kd.R_alloc | apply Kd.R_drewN | apply Kd.R_drew)); exact HO139.out))) (below_size (by repeat (first | (with_reducible first | exact HB.out | apply below_alloc | apply pw_below_drewN | apply below_drew1) | exact HB.out)))); have n5_ := Aside0.mk (below_step (by repeat (first | (with_reducible first | exact HB.out | apply below_alloc | apply pw_below_drewN | apply below_drew1) | exact HB.out)) hb); clear HO128; clear HO131; clear HO136; clear HO139; clear HB; have HO128 := n0_; have HO131 := n1_; have HO136 := n2_; have HO139 := n3_; have HO142 := n4_; have HB := n5_; clear n0_ n1_ n2_ n3_ n4_ n5_; clear hb ho103; obtain ⟨Ao104, co104, eo104⟩ := Kd.R_slice HO142.out; subst eo104) | ((with_reducible refine gate_callee (f := 13) rfl ?_); refine goesL_ (some 15) rfl rfl Try.func13 (by kernel_rfl) rfl #[.slice Ao99 t129.length co99, .slice Ao104 y140.length co104] rfl (by (try simp only [List.map_toArray, List.map_cons, List.map_nil]); first | done | rfl | (simp only [List.length_drop, List.length_take]; rfl)) ?_; (with_reducible refine (folkmootref03_Same.calls k _ _ t129 _ _ y140 true _ ?side1 ?side2 ?side3 ?side4 A4.out).mono ?_); (case side1 => repeat (first | exact (Kd.R_reads' HO131.out).2.2 | (with_reducible refine Kd.C_alloc ?_ _) | (with_reducible refine Kd.C_drewN ?_ _) | (with_reducible refine Kd.C_drew ?_))); (case side2 => exact (Kd.R_reads' HO131.out).2.1); (case side3 => repeat (first | exact (Kd.R_reads' HO142.out).2.2 | (with_reducible refine Kd.C_alloc ?_ _) | (with_reducible refine Kd.C_drewN ?_ _) | (with_reducible refine Kd.C_drew ?_))); (case side4 => exact (Kd.R_reads' HO142.out).2.1); rintro e w' ⟨rfl, ⟨nd, rfl⟩⟩; refine ⟨_, rfl, ?_⟩) | ((with_reducible refine gate_dst (N := 20) rfl ?_); (try (refine gate_guard (by rfl) ?_; dsimp only)); refine Kd.R_lit k34 _ 34 ?hg (N := 20) ?hd (xs := ([(⟨(⟨#[97]⟩ : ByteArray), (⟨#[98]⟩ : ByteArray)⟩ : S34), (⟨(⟨#[98, 0]⟩ : ByteArray), (⟨#[101]⟩ : ByteArray)⟩ : S34)] : List (S34))) (inner := [.string (⟨#[97]⟩ : ByteArray), .string (⟨#[98]⟩ : ByteArray), .string (⟨#[98, 0]⟩ : ByteArray), .string (⟨#[101]⟩ : ByteArray)]) (ok := fun _ => True) (okp := fun _ => True) ?hr ?hp (fun _ hk => hk) trivial (Below.refl _ _) (Nat.le_refl _) (by simp) ?_; (case hd => rfl); (case hg => rfl); (case hr => first | (go_simp; done) | (go_simp; rfl)); (case hp => exact (Reps.c2 (show Kd.M k34 _ _ _ (⟨(⟨#[97]⟩ : ByteArray), (⟨#[98]⟩ : ByteArray)⟩ : S34) [.string (⟨#[97]⟩ : ByteArray), .string (⟨#[98]⟩ : ByteArray)] from (k34_mkM _ _ _ (⟨(⟨#[97]⟩ : ByteArray), (⟨#[98]⟩ : ByteArray)⟩ : S34) )) (Reps.c2 (show Kd.M k34 _ _ _ (⟨(⟨#[98, 0]⟩ : ByteArray), (⟨#[101]⟩ : ByteArray)⟩ : S34) [.string (⟨#[98, 0]⟩ : ByteArray), .string (⟨#[101]⟩ : ByteArray)] from (k34_mkM _ _ _ (⟨(⟨#[98, 0]⟩ : ByteArray), (⟨#[101]⟩ : ByteArray)⟩ : S34) )) (Reps.none _ _)))); intro v145 w105 ho106 hb hg_ hnew_; clear hg_ hnew_; (first | rw [← Ny144.out] at ho106 | (simp only [Int.reduceToNat] at ho106; rw [← Ny144.out] at ho106)); have n0_ := Aside0.mk (Kd.R_elder' (by (with_reducible repeat (first | apply Kd.R_alloc | apply Kd.R_drewN | apply Kd.R_drew)); exact HO128.out) (Kd.R_base ho106) hb); have n1_ := Aside0.mk (Kd.R_elder' (by (with_reducible repeat (first | apply Kd.R_alloc | apply Kd.R_drewN | apply Kd.R_drew)); exact HO131.out) (Kd.R_base ho106) hb); have n2_ := Aside0.mk (Kd.R_elder' (by (with_reducible repeat (first | apply Kd.R_alloc | apply Kd.R_drewN | apply Kd.R_drew)); exact HO136.out) (Kd.R_base ho106) hb); have n3_ := Aside0.mk (Kd.R_elder' (by (with_reducible repeat (first | apply Kd.R_alloc | apply Kd.R_drewN | apply Kd.R_drew)); exact HO139.out) (Kd.R_base ho106) hb); have n4_ := Aside0.mk (Kd.R_elder' (by (with_reducible repeat (first | apply Kd.R_alloc | apply Kd.R_drewN | apply Kd.R_drew)); exact HO142.out) (Kd.R_base ho106) hb); have n5_ := Aside0.mk (Kd.R_lower (Kd.R_new' (Kd.R_new' (Kd.R_new' (Kd.R_new' (Kd.R_new' ho106 (Kd.R_lt (by (with_reducible repeat (first | apply Kd.R_alloc | apply Kd.R_drewN | apply Kd.R_drew)); exact HO128.out))) (Kd.R_lt (by (with_reducible repeat (first | apply Kd.R_alloc | apply Kd.R_drewN | apply Kd.R_drew)); exact HO131.out))) (Kd.R_lt (by (with_reducible repeat (first | apply Kd.R_alloc | apply Kd.R_drewN | apply Kd.R_drew)); exact HO136.out))) (Kd.R_lt (by (with_reducible repeat (first | apply Kd.R_alloc | apply Kd.R_drewN | apply Kd.R_drew)); exact HO139.out))) (Kd.R_lt (by (with_reducible repeat (first | apply Kd.R_alloc | apply Kd.R_drewN | apply Kd.R_drew)); exact HO142.out))) (below_size (by repeat (first | (with_reducible first | exact HB.out | apply below_alloc | apply pw_below_drewN | apply below_drew1) | exact HB.out)))); have n6_ := Aside0.mk (below_step (by repeat (first | (with_reducible first | exact HB.out | apply below_alloc | apply pw_below_drewN | apply below_drew1) | exact HB.out)) hb); clear HO128; clear HO131; clear HO136; clear HO139; clear HO142; clear HB; have HO128 := n0_; have HO131 := n1_; have HO136 := n2_; have HO139 := n3_; have HO142 := n4_; have HO146 := n5_; have HB := n6_; clear n0_ n1_ n2_ n3_ n4_ n5_ n6_; clear hb ho106; obtain ⟨Ao107, co107, eo107⟩ := Kd.R_slice HO139.out; subst eo107; obtain ⟨Ao108, co108, eo108⟩ := Kd.R_slice HO146.out; subst eo108) | (go_at_call 13; (with_reducible refine (folkmootref03_Same.calls k _ _ t137 _ _ y144 false _ ?side1 ?side2 ?side3 ?side4 A6.out).mono ?_); (case side1 => repeat (first | exact (Kd.R_reads' HO139.out).2.2 | (with_reducible refine Kd.C_alloc ?_ _) | (with_reducible refine Kd.C_drewN ?_ _) | (with_reducible refine Kd.C_drew ?_))); (case side2 => exact (Kd.R_reads' HO139.out).2.1); (case side3 => repeat (first | exact (Kd.R_reads' HO146.out).2.2 | (with_reducible refine Kd.C_alloc ?_ _) | (with_reducible refine Kd.C_drewN ?_ _) | (with_reducible refine Kd.C_drew ?_))); (case side4 => exact (Kd.R_reads' HO146.out).2.1); rintro e w' ⟨rfl, ⟨nd, rfl⟩⟩))
      go_ret
      exact ⟨by first | rfl | (simp [errW_none, errW_some] <;> rfl) | (simp [*, errW_none, errW_some] <;> rfl), by repeat (first | (with_reducible first | exact HB.out | apply below_alloc | apply pw_below_drewN | apply below_drew1) | exact HB.out)⟩
  · replace c5 := Bool.eq_false_iff.mpr c5
    subst c5
    have H1 : (some false) = some r := by rw [if_neg (show ¬ (false = true) by decide)] at H; exact H
    clear H
    have H := H1
    clear H1
    obtain rfl := Option.some.inj H
    go_enter Try.func11, Try.ntmps11
    go_wp2_with (first | ((with_reducible refine gate_dst (N := 6) rfl ?_); (try (refine gate_guard (by rfl) ?_; dsimp only)); refine Kd.R_lit k34 _ 34 ?hg (N := 6) ?hd (xs := ([(⟨(⟨#[97]⟩ : ByteArray), (⟨#[99]⟩ : ByteArray)⟩ : S34), (⟨(⟨#[98]⟩ : ByteArray), (⟨#[100]⟩ : ByteArray)⟩ : S34), (⟨(⟨#[100]⟩ : ByteArray), (⟨#[101]⟩ : ByteArray)⟩ : S34)] : List (S34))) (inner := [.string (⟨#[97]⟩ : ByteArray), .string (⟨#[99]⟩ : ByteArray), .string (⟨#[98]⟩ : ByteArray), .string (⟨#[100]⟩ : ByteArray), .string (⟨#[100]⟩ : ByteArray), .string (⟨#[101]⟩ : ByteArray)]) (ok := fun _ => True) (okp := fun _ => True) ?hr ?hp (fun _ hk => hk) trivial (Below.refl _ _) (Nat.le_refl _) (by simp) ?_; (case hd => rfl); (case hg => rfl); (case hr => first | (go_simp; done) | (go_simp; rfl)); (case hp => exact (Reps.c2 (show Kd.M k34 _ _ _ (⟨(⟨#[97]⟩ : ByteArray), (⟨#[99]⟩ : ByteArray)⟩ : S34) [.string (⟨#[97]⟩ : ByteArray), .string (⟨#[99]⟩ : ByteArray)] from (k34_mkM _ _ _ (⟨(⟨#[97]⟩ : ByteArray), (⟨#[99]⟩ : ByteArray)⟩ : S34) )) (Reps.c2 (show Kd.M k34 _ _ _ (⟨(⟨#[98]⟩ : ByteArray), (⟨#[100]⟩ : ByteArray)⟩ : S34) [.string (⟨#[98]⟩ : ByteArray), .string (⟨#[100]⟩ : ByteArray)] from (k34_mkM _ _ _ (⟨(⟨#[98]⟩ : ByteArray), (⟨#[100]⟩ : ByteArray)⟩ : S34) )) (Reps.c2 (show Kd.M k34 _ _ _ (⟨(⟨#[100]⟩ : ByteArray), (⟨#[101]⟩ : ByteArray)⟩ : S34) [.string (⟨#[100]⟩ : ByteArray), .string (⟨#[101]⟩ : ByteArray)] from (k34_mkM _ _ _ (⟨(⟨#[100]⟩ : ByteArray), (⟨#[101]⟩ : ByteArray)⟩ : S34) )) (Reps.none _ _))))); intro v127 w109 ho110 hb hg_ hnew_; clear hg_ hnew_; (first | rw [← Ny126.out] at ho110 | (simp only [Int.reduceToNat] at ho110; rw [← Ny126.out] at ho110)); have n0_ := Aside0.mk (Kd.R_lower ho110 (below_size (by repeat (first | (with_reducible first | exact HB.out | apply below_alloc | apply pw_below_drewN | apply below_drew1) | exact HB.out)))); have n1_ := Aside0.mk (below_step (by repeat (first | (with_reducible first | exact HB.out | apply below_alloc | apply pw_below_drewN | apply below_drew1) | exact HB.out)) hb); clear HB; have HO128 := n0_; have HB := n1_; clear n0_ n1_; clear hb ho110; obtain ⟨Ao111, co111, eo111⟩ := Kd.R_slice HO128.out; subst eo111) | ((with_reducible refine gate_callee (f := 14) rfl ?_); refine goesL_ (some 7) rfl rfl Try.func14 (by kernel_rfl) rfl #[.slice Ao111 y126.length co111] rfl (by (try simp only [List.map_toArray, List.map_cons, List.map_nil]); first | done | rfl | (simp only [List.length_drop, List.length_take]; rfl)) ?_; (with_reducible refine (span_Union.calls _ _ y126 t129 _ ?side1 ?side2 A1.out).mono ?_); (case side1 => repeat (first | exact (Kd.R_reads' HO128.out).2.2 | (with_reducible refine Kd.C_alloc ?_ _) | (with_reducible refine Kd.C_drewN ?_ _) | (with_reducible refine Kd.C_drew ?_))); (case side2 => exact (Kd.R_reads' HO128.out).2.1); rintro e w112 ⟨v130, rfl, ho0, hb⟩; refine ⟨_, rfl, ?_⟩; have n0_ := Aside0.mk (Kd.R_elder' (by (with_reducible repeat (first | apply Kd.R_alloc | apply Kd.R_drewN | apply Kd.R_drew)); exact HO128.out) (Kd.R_base ho0) hb); have n1_ := Aside0.mk (Kd.R_lower (Kd.R_new' ho0 (Kd.R_lt (by (with_reducible repeat (first | apply Kd.R_alloc | apply Kd.R_drewN | apply Kd.R_drew)); exact HO128.out))) (below_size (by repeat (first | (with_reducible first | exact HB.out | apply below_alloc | apply pw_below_drewN | apply below_drew1) | exact HB.out)))); have n2_ := Aside0.mk (below_step (by repeat (first | (with_reducible first | exact HB.out | apply below_alloc | apply pw_below_drewN | apply below_drew1) | exact HB.out)) hb); clear HO128; clear HB; have HO128 := n0_; have HO131 := n1_; have HB := n2_; clear n0_ n1_ n2_; (try clear hb); (try clear hb2); (try clear hk); (try clear hi); (try clear ho0)) | ((with_reducible refine gate_callee (f := 24) rfl ?_); refine goesL_ (some 9) rfl rfl Try.func24 (by kernel_rfl) rfl #[.string (⟨#[98]⟩ : ByteArray)] rfl (by (try simp only [List.map_toArray, List.map_cons, List.map_nil]); first | done | rfl | (simp only [List.length_drop, List.length_take]; rfl)) ?_; (with_reducible refine (span_Point.calls (⟨#[98]⟩ : ByteArray) t132 t133 _ A2.out).mono ?_); rintro e w113 ⟨rfl, hb⟩; refine ⟨_, rfl, ?_⟩; have n0_ := Aside0.mk (Kd.R_below (by (with_reducible repeat (first | apply Kd.R_alloc | apply Kd.R_drewN | apply Kd.R_drew)); exact HO128.out) hb); have n1_ := Aside0.mk (Kd.R_below (by (with_reducible repeat (first | apply Kd.R_alloc | apply Kd.R_drewN | apply Kd.R_drew)); exact HO131.out) hb); have n2_ := Aside0.mk (below_step (by repeat (first | (with_reducible first | exact HB.out | apply below_alloc | apply pw_below_drewN | apply below_drew1) | exact HB.out)) hb); clear HO128; clear HO131; clear HB; have HO128 := n0_; have HO131 := n1_; have HB := n2_; clear n0_ n1_ n2_; (try clear hb); (try clear hb2); (try clear hk); (try clear hi)) | ((with_reducible refine gate_dst (N := 10) rfl ?_); (try (refine gate_guard (by rfl) ?_; dsimp only)); refine Kd.R_lit k34 _ 34 ?hg (N := 10) ?hd (xs := ([(⟨t132, t133⟩ : S34)] : List (S34))) (inner := [.string t132, .string t133]) (ok := fun _ => True) (okp := fun _ => True) ?hr ?hp (fun _ hk => hk) trivial (Below.refl _ _) (Nat.le_refl _) (by simp) ?_; (case hd => rfl); (case hg => rfl); (case hr => first | (go_simp; done) | (go_simp; rfl)); (case hp => exact (Reps.c2 (show Kd.M k34 _ _ _ (⟨t132, t133⟩ : S34) [.string t132, .string t133] from (k34_mkM _ _ _ (⟨t132, t133⟩ : S34) )) (Reps.none _ _))); intro v135 w114 ho115 hb hg_ hnew_; clear hg_ hnew_; (first | rw [← Ny134.out] at ho115 | (simp only [Int.reduceToNat] at ho115; rw [← Ny134.out] at ho115)); have n0_ := Aside0.mk (Kd.R_elder' (by (with_reducible repeat (first | apply Kd.R_alloc | apply Kd.R_drewN | apply Kd.R_drew)); exact HO128.out) (Kd.R_base ho115) hb); have n1_ := Aside0.mk (Kd.R_elder' (by (with_reducible repeat (first | apply Kd.R_alloc | apply Kd.R_drewN | apply Kd.R_drew)); exact HO131.out) (Kd.R_base ho115) hb); have n2_ := Aside0.mk (Kd.R_lower (Kd.R_new' (Kd.R_new' ho115 (Kd.R_lt (by (with_reducible repeat (first | apply Kd.R_alloc | apply Kd.R_drewN | apply Kd.R_drew)); exact HO128.out))) (Kd.R_lt (by (with_reducible repeat (first | apply Kd.R_alloc | apply Kd.R_drewN | apply Kd.R_drew)); exact HO131.out))) (below_size (by repeat (first | (with_reducible first | exact HB.out | apply below_alloc | apply pw_below_drewN | apply below_drew1) | exact HB.out)))); have n3_ := Aside0.mk (below_step (by repeat (first | (with_reducible first | exact HB.out | apply below_alloc | apply pw_below_drewN | apply below_drew1) | exact HB.out)) hb); clear HO128; clear HO131; clear HB; have HO128 := n0_; have HO131 := n1_; have HO136 := n2_; have HB := n3_; clear n0_ n1_ n2_ n3_; clear hb ho115; obtain ⟨Ao116, co116, eo116⟩ := Kd.R_slice HO131.out; subst eo116; obtain ⟨Ao117, co117, eo117⟩ := Kd.R_slice HO136.out; subst eo117) | ((with_reducible refine gate_callee (f := 18) rfl ?_); refine goesL_ (some 11) rfl rfl Try.func18 (by kernel_rfl) rfl #[.slice Ao116 t129.length co116, .slice Ao117 y134.length co117] rfl (by (try simp only [List.map_toArray, List.map_cons, List.map_nil]); first | done | rfl | (simp only [List.length_drop, List.length_take]; rfl)) ?_; (with_reducible refine (span_Less.calls k _ _ t129 _ _ y134 t137 _ ?side1 ?side2 ?side3 ?side4 A3.out).mono ?_); (case side1 => repeat (first | exact (Kd.R_reads' HO131.out).2.2 | (with_reducible refine Kd.C_alloc ?_ _) | (with_reducible refine Kd.C_drewN ?_ _) | (with_reducible refine Kd.C_drew ?_))); (case side2 => exact (Kd.R_reads' HO131.out).2.1); (case side3 => repeat (first | exact (Kd.R_reads' HO136.out).2.2 | (with_reducible refine Kd.C_alloc ?_ _) | (with_reducible refine Kd.C_drewN ?_ _) | (with_reducible refine Kd.C_drew ?_))); (case side4 => exact (Kd.R_reads' HO136.out).2.1); rintro e w118 ⟨v138, rfl, ho0, hb⟩; refine ⟨_, rfl, ?_⟩; have n0_ := Aside0.mk (Kd.R_elder' (by (with_reducible repeat (first | apply Kd.R_alloc | apply Kd.R_drewN | apply Kd.R_drew)); exact HO128.out) (Kd.R_base ho0) hb); have n1_ := Aside0.mk (Kd.R_elder' (by (with_reducible repeat (first | apply Kd.R_alloc | apply Kd.R_drewN | apply Kd.R_drew)); exact HO131.out) (Kd.R_base ho0) hb); have n2_ := Aside0.mk (Kd.R_elder' (by (with_reducible repeat (first | apply Kd.R_alloc | apply Kd.R_drewN | apply Kd.R_drew)); exact HO136.out) (Kd.R_base ho0) hb); have n3_ := Aside0.mk (Kd.R_lower (Kd.R_new' (Kd.R_new' (Kd.R_new' ho0 (Kd.R_lt (by (with_reducible repeat (first | apply Kd.R_alloc | apply Kd.R_drewN | apply Kd.R_drew)); exact HO128.out))) (Kd.R_lt (by (with_reducible repeat (first | apply Kd.R_alloc | apply Kd.R_drewN | apply Kd.R_drew)); exact HO131.out))) (Kd.R_lt (by (with_reducible repeat (first | apply Kd.R_alloc | apply Kd.R_drewN | apply Kd.R_drew)); exact HO136.out))) (below_size (by repeat (first | (with_reducible first | exact HB.out | apply below_alloc | apply pw_below_drewN | apply below_drew1) | exact HB.out)))); have n4_ := Aside0.mk (below_step (by repeat (first | (with_reducible first | exact HB.out | apply below_alloc | apply pw_below_drewN | apply below_drew1) | exact HB.out)) hb); clear HO128; clear HO131; clear HO136; clear HB; have HO128 := n0_; have HO131 := n1_; have HO136 := n2_; have HO139 := n3_; have HB := n4_; clear n0_ n1_ n2_ n3_ n4_; (try clear hb); (try clear hb2); (try clear hk); (try clear hi); (try clear ho0)) | ((with_reducible refine gate_dst (N := 14) rfl ?_); (try (refine gate_guard (by rfl) ?_; dsimp only)); refine Kd.R_lit k34 _ 34 ?hg (N := 14) ?hd (xs := ([(⟨(⟨#[97]⟩ : ByteArray), (⟨#[101]⟩ : ByteArray)⟩ : S34)] : List (S34))) (inner := [.string (⟨#[97]⟩ : ByteArray), .string (⟨#[101]⟩ : ByteArray)]) (ok := fun _ => True) (okp := fun _ => True) ?hr ?hp (fun _ hk => hk) trivial (Below.refl _ _) (Nat.le_refl _) (by simp) ?_; (case hd => rfl); (case hg => rfl); (case hr => first | (go_simp; done) | (go_simp; rfl)); (case hp => exact (Reps.c2 (show Kd.M k34 _ _ _ (⟨(⟨#[97]⟩ : ByteArray), (⟨#[101]⟩ : ByteArray)⟩ : S34) [.string (⟨#[97]⟩ : ByteArray), .string (⟨#[101]⟩ : ByteArray)] from (k34_mkM _ _ _ (⟨(⟨#[97]⟩ : ByteArray), (⟨#[101]⟩ : ByteArray)⟩ : S34) )) (Reps.none _ _))); intro v141 w119 ho120 hb hg_ hnew_; clear hg_ hnew_; (first | rw [← Ny140.out] at ho120 | (simp only [Int.reduceToNat] at ho120; rw [← Ny140.out] at ho120)); have n0_ := Aside0.mk (Kd.R_elder' (by (with_reducible repeat (first | apply Kd.R_alloc | apply Kd.R_drewN | apply Kd.R_drew)); exact HO128.out) (Kd.R_base ho120) hb); have n1_ := Aside0.mk (Kd.R_elder' (by (with_reducible repeat (first | apply Kd.R_alloc | apply Kd.R_drewN | apply Kd.R_drew)); exact HO131.out) (Kd.R_base ho120) hb); have n2_ := Aside0.mk (Kd.R_elder' (by (with_reducible repeat (first | apply Kd.R_alloc | apply Kd.R_drewN | apply Kd.R_drew)); exact HO136.out) (Kd.R_base ho120) hb); have n3_ := Aside0.mk (Kd.R_elder' (by (with_reducible repeat (first | apply Kd.R_alloc | apply Kd.R_drewN | apply Kd.R_drew)); exact HO139.out) (Kd.R_base ho120) hb); have n4_ := Aside0.mk (Kd.R_lower (Kd.R_new' (Kd.R_new' (Kd.R_new' (Kd.R_new' ho120 (Kd.R_lt (by (with_reducible repeat (first | apply Kd.R_alloc | apply Kd.R_drewN | apply Kd.R_drew)); exact HO128.out))) (Kd.R_lt (by (with_reducible repeat (first | apply Kd.R_alloc | apply Kd.R_drewN | apply Kd.R_drew)); exact HO131.out))) (Kd.R_lt (by (with_reducible repeat (first | apply Kd.R_alloc | apply Kd.R_drewN | apply Kd.R_drew)); exact HO136.out))) (Kd.R_lt (by (with_reducible repeat (first | apply Kd.R_alloc | apply Kd.R_drewN | apply Kd.R_drew)); exact HO139.out))) (below_size (by repeat (first | (with_reducible first | exact HB.out | apply below_alloc | apply pw_below_drewN | apply below_drew1) | exact HB.out)))); have n5_ := Aside0.mk (below_step (by repeat (first | (with_reducible first | exact HB.out | apply below_alloc | apply pw_below_drewN | apply below_drew1) | exact HB.out)) hb); clear HO128; clear HO131; clear HO136; clear HO139; clear HB; have HO128 := n0_; have HO131 := n1_; have HO136 := n2_; have HO139 := n3_; have HO142 := n4_; have HB := n5_; clear n0_ n1_ n2_ n3_ n4_ n5_; clear hb ho120; obtain ⟨Ao121, co121, eo121⟩ := Kd.R_slice HO142.out; subst eo121) | ((with_reducible refine gate_callee (f := 13) rfl ?_); refine goesL_ (some 15) rfl rfl Try.func13 (by kernel_rfl) rfl #[.slice Ao116 t129.length co116, .slice Ao121 y140.length co121] rfl (by (try simp only [List.map_toArray, List.map_cons, List.map_nil]); first | done | rfl | (simp only [List.length_drop, List.length_take]; rfl)) ?_; (with_reducible refine (folkmootref03_Same.calls k _ _ t129 _ _ y140 false _ ?side1 ?side2 ?side3 ?side4 A4.out).mono ?_); (case side1 => repeat (first | exact (Kd.R_reads' HO131.out).2.2 | (with_reducible refine Kd.C_alloc ?_ _) | (with_reducible refine Kd.C_drewN ?_ _) | (with_reducible refine Kd.C_drew ?_))); (case side2 => exact (Kd.R_reads' HO131.out).2.1); (case side3 => repeat (first | exact (Kd.R_reads' HO142.out).2.2 | (with_reducible refine Kd.C_alloc ?_ _) | (with_reducible refine Kd.C_drewN ?_ _) | (with_reducible refine Kd.C_drew ?_))); (case side4 => exact (Kd.R_reads' HO142.out).2.1); rintro e w' ⟨rfl, ⟨nd, rfl⟩⟩; refine ⟨_, rfl, ?_⟩))
    go_ret
    exact ⟨by first | rfl | (simp [errW_none, errW_some] <;> rfl) | (simp [*, errW_none, errW_some] <;> rfl), by repeat (first | (with_reducible first | exact HB.out | apply below_alloc | apply pw_below_drewN | apply below_drew1) | exact HB.out)⟩

end Go.Proofs.Ytjimijpkhmpilaa.P
/- Plain: live comes to true; small; an element read. -/
namespace Go.Proofs.Ytjimijpkhmpilaa.P
open Go.RowKit Go.Proofs.YtjimijpkhmpilaaW.PrintWords
set_option linter.unusedVariables false

def liveL : List S34 := [(⟨(⟨#[97]⟩ : ByteArray), (⟨#[99]⟩ : ByteArray)⟩ : S34), (⟨(⟨#[98]⟩ : ByteArray), (⟨#[100]⟩ : ByteArray)⟩ : S34), (⟨(⟨#[100]⟩ : ByteArray), (⟨#[101]⟩ : ByteArray)⟩ : S34)]
theorem live_union : span_Union.f liveL = some [(⟨(⟨#[97]⟩ : ByteArray), (⟨#[101]⟩ : ByteArray)⟩ : S34)] := by
  have hf : liveL.filter fullSp = liveL := by kernel_rfl
  have hr : Rises ltFrom liveL := by
    unfold Rises liveL
    refine List.Pairwise.cons ?_ (List.Pairwise.cons ?_ (List.Pairwise.cons ?_ List.Pairwise.nil))
    · intro x hx
      simp only [List.mem_cons, List.not_mem_nil, or_false] at hx
      rcases hx with rfl | rfl <;> kernel_rfl
    · intro x hx
      simp only [List.mem_cons, List.not_mem_nil, or_false] at hx
      subst hx
      kernel_rfl
    · intro x hx
      cases hx
  have h := (union_one liveL liveL (by rw [hf]) hr).1
  unfold span_Union.f
  rw [if_pos (by decide), ← h]
  exact (show some (mergeAll liveL) = some [(⟨(⟨#[97]⟩ : ByteArray), (⟨#[101]⟩ : ByteArray)⟩ : S34)] by kernel_rfl)
theorem live_val : folkmootlaw03_live.f 30 = some true := by
  have h : folkmootlaw03_live.f 30 = (span_Union.f liveL).bind fun t129 => ((span_Point.f (⟨#[98]⟩ : ByteArray)).bind fun bt132 => ((span_Less.f 30 t129 (([(⟨bt132.1, bt132.2⟩ : S34)] : List (S34)))).bind fun t137 => ((folkmootref03_Same.f 30 t129 (([(⟨(⟨#[97]⟩ : ByteArray), (⟨#[101]⟩ : ByteArray)⟩ : S34)] : List (S34)))).bind fun t143 => (if t143 = true then ((folkmootref03_Same.f 30 t137 (([(⟨(⟨#[97]⟩ : ByteArray), (⟨#[98]⟩ : ByteArray)⟩ : S34), (⟨(⟨#[98, 0]⟩ : ByteArray), (⟨#[101]⟩ : ByteArray)⟩ : S34)] : List (S34)))).bind fun t147 => (if t147 = true then ((span_Has.f t129 (⟨#[98]⟩ : ByteArray)).bind fun t148 => (if t148 = true then ((span_Has.f t137 (⟨#[98]⟩ : ByteArray)).bind fun t149 => (if t149 = true then (some false) else ((span_Key.f (⟨#[]⟩ : ByteArray)).bind fun t150 => ((folkmootlaw03_num.f t150).bind fun t151 => (if t151 = 30 then ((span_Meet.f t129 t137).bind fun t152 => (some t152)) else (some false)))))) else (some false))) else (some false))) else (some false))))) := rfl
  rw [h, live_union]
  exact (show ((some [(⟨(⟨#[97]⟩ : ByteArray), (⟨#[101]⟩ : ByteArray)⟩ : S34)] : Option (List S34)).bind fun t129 => ((span_Point.f (⟨#[98]⟩ : ByteArray)).bind fun bt132 => ((span_Less.f 30 t129 (([(⟨bt132.1, bt132.2⟩ : S34)] : List (S34)))).bind fun t137 => ((folkmootref03_Same.f 30 t129 (([(⟨(⟨#[97]⟩ : ByteArray), (⟨#[101]⟩ : ByteArray)⟩ : S34)] : List (S34)))).bind fun t143 => (if t143 = true then ((folkmootref03_Same.f 30 t137 (([(⟨(⟨#[97]⟩ : ByteArray), (⟨#[98]⟩ : ByteArray)⟩ : S34), (⟨(⟨#[98, 0]⟩ : ByteArray), (⟨#[101]⟩ : ByteArray)⟩ : S34)] : List (S34)))).bind fun t147 => (if t147 = true then ((span_Has.f t129 (⟨#[98]⟩ : ByteArray)).bind fun t148 => (if t148 = true then ((span_Has.f t137 (⟨#[98]⟩ : ByteArray)).bind fun t149 => (if t149 = true then (some false) else ((span_Key.f (⟨#[]⟩ : ByteArray)).bind fun t150 => ((folkmootlaw03_num.f t150).bind fun t151 => (if t151 = 30 then ((span_Meet.f t129 t137).bind fun t152 => (some t152)) else (some false)))))) else (some false))) else (some false))) else (some false)))))) = some true by kernel_rfl)
theorem live_ev : Ev (fun k => folkmootlaw03_live.f k) true := Ev.of (g := fun k => folkmootlaw03_live.f k) folkmootlaw03_live.mono live_val
theorem rd_at (l : List S34) (i : Nat) (hi : i < l.length) : rd_T34 l (i : Int) = l[i] := by simp [rd_T34, List.getD_eq_getElem?_getD, hi]
theorem union_of (l : List S34) : Sp.Of ((l.filter fullSp).map toSp) ((unionL l).map toSp) := (union_one l _ (List.mergeSort_perm _ _) (sorted_rises _)).2
theorem small_l0 (l : List S34) (hl : l.length ≤ 9223372036854775806) : ∀ (d i : Nat) (x : Int), i ≤ l.length → l.length - i = d → ∃ b, Ev (fun k => folkmootlaw03_small.l0 k l x (i : Int)) b ∧ (b = true → l.length ≤ 30) := by
  have he : ∀ x : Int, ∃ b, (if (l.length : Int) ≤ 30 then (some (decide (x ≤ 4000))) else (some false)) = some b ∧ (b = true → l.length ≤ 30) := by
    intro x
    by_cases c : (l.length : Int) ≤ 30
    · exact ⟨_, by rw [if_pos c], fun _ => by omega⟩
    · exact ⟨false, by rw [if_neg c], fun h => by cases h⟩
  intro d
  induction d with
  | zero =>
    intro i x hi hd
    have h1 : ¬ (i : Int) < (l.length : Int) := by omega
    obtain ⟨b, hb, hb2⟩ := he x
    exact ⟨b, Ev.step (f := fun _ => some b) (fun k => by simp only [folkmootlaw03_small.l0, if_neg h1, hb]) (Ev.val _), hb2⟩
  | succ d ih =>
    intro i x hi hd
    have h1 : (i : Int) < (l.length : Int) := by omega
    have h0 : (0 : Int) ≤ (i : Int) := by omega
    have hw : wrap64 ((i : Int) + 1) = ((i + 1 : Nat) : Int) := by rw [wrap_in] <;> omega
    by_cases h2 : (i : Int) ≤ 128
    · obtain ⟨b, hb, hb2⟩ := ih (i + 1) (wrap64 ((wrap64 (x + (((rd_T34 l (i : Int)).f0).size : Int))) + (((rd_T34 l (i : Int)).f1).size : Int))) (by omega) (by omega)
      exact ⟨b, Ev.step (fun k => by simp only [folkmootlaw03_small.l0, if_pos h1, if_pos h2, if_pos h0, hw]) hb, hb2⟩
    · obtain ⟨b, hb, hb2⟩ := he x
      exact ⟨b, Ev.step (f := fun _ => some b) (fun k => by simp only [folkmootlaw03_small.l0, if_pos h1, if_neg h2, hb]) (Ev.val _), hb2⟩
theorem small_ev (l : List S34) (hl : l.length ≤ 9223372036854775806) : ∃ b, Ev (fun k => folkmootlaw03_small.f k l) b ∧ (b = true → l.length ≤ 30) := small_l0 l hl l.length 0 0 (by omega) (by omega)
end Go.Proofs.Ytjimijpkhmpilaa.P
/- Plain: the reference's set, as printed, comes to the canonical list of the set that is wanted. -/
namespace Go.Proofs.Ytjimijpkhmpilaa.P
open Go.RowKit Go.Proofs.YtjimijpkhmpilaaW.PrintWords
set_option linter.unusedVariables false

/-! ### marks -/
theorem insM_spec (t : ByteArray) : ∀ l : List ByteArray, (l.map tx).Pairwise (· < ·) → ((insM t l).map tx).Pairwise (· < ·) ∧ ∀ x, x ∈ (insM t l).map tx ↔ x = tx t ∨ x ∈ l.map tx
  | [], _ => by simp [insM]
  | x :: l, h => by
    rw [List.map_cons] at h
    obtain ⟨h1, h2⟩ := List.pairwise_cons.1 h
    obtain ⟨h3, h4⟩ := insM_spec t l h2
    unfold insM
    by_cases c : Op.bytesLess x.toList t.toList = true
    · have c' : tx x < tx t := c
      rw [if_pos c, List.map_cons]
      refine ⟨List.pairwise_cons.2 ⟨fun y hy => ?_, h3⟩, fun y => ?_⟩
      · rcases (h4 y).1 hy with rfl | hy
        · exact c'
        · exact h1 y hy
      · rw [List.mem_cons, List.map_cons, List.mem_cons, h4]
        grind
    · rw [if_neg c]
      by_cases e : x.toList = t.toList
      · have e' : tx x = tx t := by unfold tx; rw [e]
        rw [if_pos e, List.map_cons]
        refine ⟨List.pairwise_cons.2 ⟨h1, h2⟩, fun y => ?_⟩
        rw [List.mem_cons, e']
        grind
      · rw [if_neg e]
        have hlt : tx t < tx x := by
          rcases bytesLess_tri x.toList t.toList with h | h | h
          · exact absurd h c
          · exact absurd h e
          · exact h
        rw [List.map_cons, List.map_cons]
        refine ⟨List.pairwise_cons.2 ⟨fun y hy => ?_, List.pairwise_cons.2 ⟨h1, h2⟩⟩, fun y => ?_⟩
        · rcases List.mem_cons.1 hy with rfl | hy
          · exact hlt
          · have := h1 y hy; grind
        · rw [List.mem_cons]
theorem midM_spec (out : List ByteArray) (x : S34) (h : (out.map tx).Pairwise (· < ·)) : ((midM out x 2).map tx).Pairwise (· < ·) ∧ ∀ y, y ∈ (midM out x 2).map tx ↔ (y = tx x.f0 ∨ (tx x.f1 ≠ .nil ∧ y = tx x.f1)) ∨ y ∈ out.map tx := by
  obtain ⟨h1, h2⟩ := insM_spec x.f0 out h
  obtain ⟨h3, h4⟩ := insM_spec x.f1 _ h1
  simp only [midM]
  by_cases c : x.f1.toList = []
  · rw [if_pos c]
    refine ⟨h1, fun y => ?_⟩
    have := (tx_nil x.f1).2 c
    rw [h2]
    grind
  · rw [if_neg c]
    refine ⟨h3, fun y => ?_⟩
    have : tx x.f1 ≠ .nil := fun e => c ((tx_nil x.f1).1 e)
    rw [h4, h2]
    grind
theorem marks_from (l : List S34) : ∀ out : List ByteArray, (out.map tx).Pairwise (· < ·) → ((l.foldl (fun out x => midM out x 2) out).map tx).Pairwise (· < ·) ∧ ∀ y, y ∈ (l.foldl (fun out x => midM out x 2) out).map tx ↔ y ∈ out.map tx ∨ ∃ x ∈ l, y = tx x.f0 ∨ (tx x.f1 ≠ .nil ∧ y = tx x.f1) := by
  induction l with
  | nil => intro out h; exact ⟨h, fun y => by simp⟩
  | cons x l ih =>
    intro out h
    obtain ⟨h1, h2⟩ := midM_spec out x h
    obtain ⟨h3, h4⟩ := ih _ h1
    refine ⟨h3, fun y => ?_⟩
    rw [List.foldl_cons, h4, h2]
    simp only [List.mem_cons, exists_eq_or_imp]
    grind
theorem marks_rise (l : List S34) : ((marksL l).map tx).Pairwise (· < ·) := (marks_from l [] List.Pairwise.nil).1
theorem marks_cover (l a : List S34) (h : ∀ x ∈ a, x ∈ l) : Sp.Covers ((marksL l).map tx) (a.map toSp) := by
  intro s hs
  obtain ⟨x, hx, rfl⟩ := List.mem_map.1 hs
  exact ⟨((marks_from l [] List.Pairwise.nil).2 _).2 (.inr ⟨x, h x hx, .inl rfl⟩), fun hn => ((marks_from l [] List.Pairwise.nil).2 _).2 (.inr ⟨x, h x hx, .inr ⟨hn, rfl⟩⟩)⟩
theorem marks_len (l : List S34) : (marksL l).length ≤ 2 * l.length := by
  have := marksL_len l l.length
  rwa [List.take_length] at this
/-! ### in -/
theorem inSp_iff (k : ByteArray) (x : S34) : inSp k x = true ↔ Sp.inn (tx k) (toSp x) := by
  unfold inSp Sp.inn toSp
  simp only [Bool.and_eq_true, Bool.not_eq_true', Bool.or_eq_true, List.isEmpty_iff, ← tx_nil]
  exact Iff.rfl
theorem any_iff (l : List S34) (k : ByteArray) : l.any (inSp k) = true ↔ Sp.mem (l.map toSp) (tx k) := by
  rw [List.any_eq_true]
  constructor
  · rintro ⟨x, hx, h⟩
    exact ⟨toSp x, List.mem_map.2 ⟨x, hx, rfl⟩, (inSp_iff k x).1 h⟩
  · rintro ⟨s, hs, h⟩
    obtain ⟨x, hx, rfl⟩ := List.mem_map.1 hs
    exact ⟨x, hx, (inSp_iff k x).2 h⟩
theorem in_val (x : S34) (k : ByteArray) : folkmootref03_in.f x.f0 x.f1 k = some (inSp k x) := by
  unfold folkmootref03_in.f inSp
  cases h1 : Op.bytesLess k.toList x.f0.toList with
  | true => simp
  | false =>
    by_cases h2 : x.f1.toList = []
    · simp [h2]
    · have : x.f1.toList.isEmpty = false := by simpa using h2
      simp [h2]
theorem has_l0 (l : List S34) (a : ByteArray) (hl : l.length ≤ 9223372036854775806) : ∀ (d i : Nat), i ≤ l.length → l.length - i = d → Ev (fun k => folkmootref03_Has.l0 k l a (i : Int)) ((l.drop i).any (inSp a)) := by
  intro d
  induction d with
  | zero =>
    intro i hi hd
    have h1 : ¬ (i : Int) < (l.length : Int) := by omega
    rw [List.drop_eq_nil_of_le (by omega)]
    exact Ev.step (fun k => by simp only [folkmootref03_Has.l0, if_neg h1]; rfl) (Ev.val _)
  | succ d ih =>
    intro i hi hd
    have h1 : (i : Int) < (l.length : Int) := by omega
    have h0 : (0 : Int) ≤ (i : Int) := by omega
    have hil : i < l.length := by omega
    have hw : wrap64 ((i : Int) + 1) = ((i + 1 : Nat) : Int) := by rw [wrap_in] <;> omega
    rw [List.drop_eq_getElem_cons hil, List.any_cons]
    cases c : inSp a l[i] with
    | true =>
      exact Ev.step (fun k => by simp only [folkmootref03_Has.l0, if_pos h1, if_pos h0, rd_at l i hil, in_val, c, Option.bind_some, if_true]) (Ev.eq (Ev.val true) (by simp))
    | false =>
      exact Ev.step (fun k => by simp only [folkmootref03_Has.l0, if_pos h1, if_pos h0, rd_at l i hil, in_val, c, Option.bind_some, Bool.false_eq_true, if_false, hw]) (Ev.eq (ih (i + 1) (by omega) (by omega)) (by simp))
theorem has_ev (l : List S34) (a : ByteArray) (hl : l.length ≤ 9223372036854775806) : Ev (fun k => folkmootref03_Has.f k l a) (l.any (inSp a)) := has_l0 l a hl l.length 0 (by omega) (by omega)
/-! ### set -/
def opW (w : Int) (x y : Bool) : Bool := if w = 2 then x && !y else if w = 1 then x && y else x || y
def tailS : Option ByteArray → List S34
  | none => []
  | some f => [(⟨f, (⟨#[]⟩ : ByteArray)⟩ : S34)]
def bldS (P : ByteArray → Bool) : Option ByteArray → List ByteArray → List S34
  | o, [] => tailS o
  | none, m :: M => if P m then bldS P (some m) M else bldS P none M
  | some f, m :: M => if P m then bldS P (some f) M else (⟨f, m⟩ : S34) :: bldS P none M
theorem nil_list : (⟨#[]⟩ : ByteArray).toList = [] := by
  first | rfl | kernel_rfl | decide | simp
theorem bldS_map (P : ByteArray → Bool) (Q : Txt → Bool) (h : ∀ x, P x = Q (tx x)) : ∀ (M : List ByteArray) (o : Option ByteArray), (bldS P o M).map toSp = Sp.bld Q (o.map tx) (M.map tx)
  | [], none => rfl
  | [], some f => by
    have : tx (⟨#[]⟩ : ByteArray) = .nil := (tx_nil _).2 nil_list
    simp [bldS, tailS, Sp.bld, toSp, this]
  | m :: M, none => by
    simp only [bldS, Sp.bld, Option.map_none, List.map_cons, h]
    split
    · exact bldS_map P Q h M (some m)
    · exact bldS_map P Q h M none
  | m :: M, some f => by
    simp only [bldS, Sp.bld, Option.map_some, List.map_cons, h]
    split
    · exact bldS_map P Q h M (some f)
    · rw [List.map_cons, bldS_map P Q h M none]
      rfl
section
variable (a b : List S34) (w : Int) (m : List ByteArray)
theorem set_j3 (out : List S34) (op : Bool) (i : Int) (is : Bool) {r : List S34} (h : Ev (fun k => folkmootref03_set.j4 k a b w m out op i is (is && !op)) r) : Ev (fun k => folkmootref03_set.j3 k a b w m out op i is) r := by
  cases is with
  | true => exact Ev.step (fun k => by simp only [folkmootref03_set.j3, if_true] <;> rfl) h
  | false => exact Ev.step (fun k => by simp only [folkmootref03_set.j3, Bool.false_eq_true, if_false] <;> rfl) h
theorem set_j2 (out : List S34) (op : Bool) (i : Int) (X Y Z is : Bool) (h2 : w = 2 → is = (X && !Y)) (h1 : w ≠ 2 → is = Z) {r : List S34} (h : Ev (fun k => folkmootref03_set.j3 k a b w m out op i is) r) : Ev (fun k => folkmootref03_set.j2 k a b w m out op i X Y Z) r := by
  by_cases c : w = 2
  · obtain rfl := h2 c
    cases X with
    | true => exact Ev.step (fun k => by simp only [folkmootref03_set.j2, if_pos c, if_true] <;> rfl) h
    | false => exact Ev.step (fun k => by simp only [folkmootref03_set.j2, if_pos c, Bool.false_eq_true, if_false] <;> rfl) h
  · obtain rfl := h1 c
    exact Ev.step (fun k => by simp only [folkmootref03_set.j2, if_neg c] <;> rfl) h
theorem set_j1 (out : List S34) (op : Bool) (i : Int) (X Y : Bool) {r : List S34} (h : Ev (fun k => folkmootref03_set.j4 k a b w m out op i (opW w X Y) (opW w X Y && !op)) r) : Ev (fun k => folkmootref03_set.j1 k a b w m out op i X Y (X || Y)) r := by
  have h3 := set_j3 a b w m out op i _ h
  by_cases c : w = 1
  · have h2 := set_j2 a b w m out op i X Y (X && Y) (opW w X Y) (fun e => by unfold opW; rw [if_pos e]) (fun e => by unfold opW; rw [if_neg e, if_pos c]) h3
    cases X with
    | true => exact Ev.step (fun k => by simp only [folkmootref03_set.j1, if_pos c, if_true] <;> rfl) (by simpa only [Bool.true_and] using h2)
    | false => exact Ev.step (fun k => by simp only [folkmootref03_set.j1, if_pos c, Bool.false_eq_true, if_false] <;> rfl) (by simpa only [Bool.false_and] using h2)
  · have h2 := set_j2 a b w m out op i X Y (X || Y) (opW w X Y) (fun e => by unfold opW; rw [if_pos e]) (fun e => by unfold opW; rw [if_neg e, if_neg c]) h3
    exact Ev.step (fun k => by simp only [folkmootref03_set.j1, if_neg c] <;> rfl) h2
theorem set_l0 (ha : a.length ≤ 9223372036854775806) (hb : b.length ≤ 9223372036854775806) (hm : m.length < 4398046511104) : ∀ (d i : Nat) (D : List S34) (o : Option ByteArray), i ≤ m.length → m.length - i = d → (D ++ tailS o).length ≤ i →
    Ev (fun k => folkmootref03_set.l0 k a b w m (D ++ tailS o) o.isSome (i : Int)) (D ++ bldS (fun x => opW w (a.any (inSp x)) (b.any (inSp x))) o (m.drop i)) := by
  intro d
  induction d with
  | zero =>
    intro i D o hi hd hD
    have h1 : ¬ (i : Int) < (m.length : Int) := by omega
    rw [List.drop_eq_nil_of_le (by omega)]
    exact Ev.step (fun k => by simp only [folkmootref03_set.l0, if_neg h1]; rfl) (Ev.eq (Ev.val _) (by cases o <;> rfl))
  | succ d ih =>
    intro i D o hi hd hD
    have h1 : (i : Int) < (m.length : Int) := by omega
    have h0 : (0 : Int) ≤ (i : Int) := by omega
    have him : i < m.length := by omega
    have hw : wrap64 ((i : Int) + 1) = ((i + 1 : Nat) : Int) := by rw [wrap_in] <;> omega
    have hrd : rdOf ByteArray.empty m (i : Int) = m[i] := by simp [rdOf, List.getD_eq_getElem?_getD, him]
    rw [List.drop_eq_getElem_cons him]
    have hx : Ev (fun k => folkmootref03_set.j4 k a b w m (D ++ tailS o) o.isSome (i : Int) (opW w (a.any (inSp m[i])) (b.any (inSp m[i]))) (opW w (a.any (inSp m[i])) (b.any (inSp m[i])) && !o.isSome)) (D ++ bldS (fun x => opW w (a.any (inSp x)) (b.any (inSp x))) o (m[i] :: m.drop (i + 1))) := by
      have hsz : (D ++ tailS o).length < 4398046511104 := by omega
      cases o with
      | none =>
        cases c : opW w (a.any (inSp m[i])) (b.any (inSp m[i])) with
        | true =>
          have hsz' : D.length < 4398046511104 := by simp [tailS] at hsz; omega
          refine Ev.step (f := fun k => folkmootref03_set.l0 k a b w m (D ++ tailS (some m[i])) true ((i + 1 : Nat) : Int)) (fun k => ?_) (Ev.eq (ih (i + 1) D (some m[i]) (by omega) (by omega) (by simp [tailS] at hD ⊢; omega)) (by simp only [bldS, c, if_true]))
          simp only [folkmootref03_set.j4, Option.isSome_none, Bool.not_false, Bool.and_self, if_true, if_pos h0, if_pos h1, if_pos hsz', Option.bind_some, hrd, hw, tailS, List.append_nil]
        | false =>
          refine Ev.step (f := fun k => folkmootref03_set.l0 k a b w m (D ++ tailS none) false ((i + 1 : Nat) : Int)) (fun k => ?_) (Ev.eq (ih (i + 1) D none (by omega) (by omega) (by omega)) (by simp only [bldS, c, Bool.false_eq_true, if_false]))
          simp only [folkmootref03_set.j4, Option.isSome_none, Bool.false_and, Bool.false_eq_true, if_false, hw]
      | some f =>
        cases c : opW w (a.any (inSp m[i])) (b.any (inSp m[i])) with
        | true =>
          refine Ev.step (f := fun k => folkmootref03_set.l0 k a b w m (D ++ tailS (some f)) true ((i + 1 : Nat) : Int)) (fun k => ?_) (Ev.eq (ih (i + 1) D (some f) (by omega) (by omega) (by omega)) (by simp only [bldS, c, if_true]))
          simp only [folkmootref03_set.j4, Option.isSome_some, Bool.not_true, Bool.and_false, Bool.false_eq_true, if_false, if_true, hw]
        | false =>
          have hlen : (D ++ tailS (some f)).length = D.length + 1 := by simp [tailS]
          have hw2 : wrap64 (((D ++ tailS (some f)).length : Int) - 1) = (D.length : Int) := by rw [hlen, wrap_in] <;> omega
          have hd0 : (0 : Int) ≤ (D.length : Int) := by omega
          have hd1 : (D.length : Int) < ((D ++ tailS (some f)).length : Int) := by omega
          have hset : (D ++ tailS (some f)).set D.length (⟨(rd_T34 (D ++ tailS (some f)) (D.length : Int)).f0, m[i]⟩ : S34) = (D ++ [(⟨f, m[i]⟩ : S34)]) ++ tailS none := by
            rw [rd_at _ D.length (by omega)]
            simp [tailS]
          refine Ev.step (f := fun k => folkmootref03_set.l0 k a b w m ((D ++ [(⟨f, m[i]⟩ : S34)]) ++ tailS none) false ((i + 1 : Nat) : Int)) (fun k => ?_) (Ev.eq (ih (i + 1) (D ++ [(⟨f, m[i]⟩ : S34)]) none (by omega) (by omega) (by simp [tailS] at hD ⊢; omega)) (by simp only [bldS, c, Bool.false_eq_true, if_false, List.append_assoc, List.singleton_append]))
          simp only [folkmootref03_set.j4, Option.isSome_some, Bool.false_and, Bool.false_eq_true, if_false, if_true, if_pos h0, if_pos h1, hw2, if_pos hd0, if_pos hd1, Int.toNat_natCast, hset, hrd, hw]
    have hj := set_j1 a b w m (D ++ tailS o) o.isSome (i : Int) (a.any (inSp m[i])) (b.any (inSp m[i])) hx
    refine Ev.step (fun k => by simp only [folkmootref03_set.l0, if_pos h1, if_pos h0, hrd]; rfl) (Ev.bind (has_ev a m[i] ha) (Ev.bind (has_ev b m[i] hb) ?_))
    cases c : a.any (inSp m[i]) with
    | true => simp only [if_true]; rw [c] at hj; exact hj
    | false => simp only [Bool.false_eq_true, if_false]; rw [c] at hj; exact hj
end
def bk (t : Txt) : ByteArray := ⟨t.l.toArray⟩
theorem tx_bk (t : Txt) : tx (bk t) = t := by
  unfold tx bk
  rw [← toList_data]
theorem bk_tx (x : ByteArray) : bk (tx x) = x := tx_inj (tx_bk (tx x))
/-- THE REFERENCE's SET -/
theorem set_ev (a b : List S34) (w : Int) (h : a.length + b.length < 1099511627776) : ∃ s, Ev (fun k => folkmootref03_set.f k a b w) s ∧ Sp.Can (s.map toSp) ∧ ∀ k, Sp.mem (s.map toSp) (tx k) ↔ opW w (a.any (inSp k)) (b.any (inSp k)) = true := by
  have hm := marks_len (a ++ b)
  rw [List.length_append] at hm
  have hMf : folkmootref03_marks.f (a ++ b) = some (marksL (a ++ b)) := by unfold folkmootref03_marks.f; rw [if_pos (by rw [List.length_append]; exact h)]
  have key := set_l0 a b w (marksL (a ++ b)) (by omega) (by omega) (by omega) (marksL (a ++ b)).length 0 [] none (by omega) (by omega) (by simp [tailS])
  refine ⟨_, Ev.congr (fun k => ?_) key, ?_⟩
  · have h1 : (([] : List S34)).length + a.length < 4398046511104 := by simp; omega
    have h2 : (([] : List S34) ++ a).length + b.length < 4398046511104 := by simp; omega
    simp only [folkmootref03_set.f, Option.bind_some, if_pos h1, if_pos h2]
    rw [List.nil_append, hMf]
    rfl
  · rw [List.nil_append, List.drop_zero, bldS_map _ (fun t => opW w ((fun t => a.any (inSp (bk t))) t) ((fun t => b.any (inSp (bk t))) t)) (fun x => by simp only [bk_tx])]
    have h0 : opW w false false = false := by unfold opW; split <;> (try split) <;> rfl
    have hc := Sp.ref_set (marks_rise (a ++ b)) (marks_cover (a ++ b) a (fun x hx => by simp [hx])) (marks_cover (a ++ b) b (fun x hx => by simp [hx])) (opW w) h0 (fun t => a.any (inSp (bk t))) (fun t => b.any (inSp (bk t))) (fun t => by rw [any_iff, tx_bk]) (fun t => by rw [any_iff, tx_bk])
    refine ⟨hc.1, fun k => ?_⟩
    have := hc.2 (tx k)
    simp only [bk_tx] at this
    exact this
theorem can_eq {a b : List S34} (ha : Sp.Can (a.map toSp)) (hb : Sp.Can (b.map toSp)) (h : ∀ k : ByteArray, Sp.mem (a.map toSp) (tx k) ↔ Sp.mem (b.map toSp) (tx k)) : a = b :=
  map_inj (fun h => toSp_inj h) (Sp.can_unique _ _ ha hb fun k => by have := h (bk k); rwa [tx_bk] at this)
theorem any_full (l : List S34) (k : ByteArray) : (l.filter fullSp).any (inSp k) = l.any (inSp k) := by
  rw [List.any_filter]
  congr 1
  funext x
  cases c : inSp k x with
  | false => simp
  | true =>
    have h1 := (inSp_iff k x).1 c
    have : fullSp x = true := (fullSp_iff x).2 (by
      unfold Sp.full
      obtain ⟨h2, h3 | h3⟩ := h1
      · exact .inl h3
      · right
        grind)
    rw [this]
    rfl
theorem union_any (l : List S34) (k : ByteArray) : (unionL l).any (inSp k) = l.any (inSp k) := by
  rw [← any_full l]
  exact Bool.eq_iff_iff.2 (by rw [any_iff, any_iff, (union_of l).mem])
theorem union_can (l : List S34) : Sp.Can ((unionL l).map toSp) := (union_of l).can
theorem union_len (l : List S34) : (unionL l).length ≤ l.length := by
  have := (union_of l).len
  rw [List.length_map, List.length_map] at this
  have := List.length_filter_le fullSp l
  omega
theorem eq_of_any {a b : List S34} (ha : Sp.Can (a.map toSp)) (hb : Sp.Can (b.map toSp)) (h : ∀ k : ByteArray, a.any (inSp k) = b.any (inSp k)) : a = b :=
  can_eq ha hb fun k => by rw [← any_iff, ← any_iff, h k]
theorem refUnion_ev (l : List S34) (h : l.length < 1099511627776) : Ev (fun k => folkmootref03_Union.f k l) (unionL l) := by
  obtain ⟨s, h1, h2, h3⟩ := set_ev l [] 0 (by simpa using h)
  have e : s = unionL l := eq_of_any h2 (union_can l) fun k => by
    rw [union_any]
    refine Bool.eq_iff_iff.2 ?_
    rw [any_iff, h3]
    simp [opW]
  subst e
  exact Ev.bind h1 (Ev.val _)
theorem same_l0 (l : List S34) (hl : l.length ≤ 9223372036854775806) : ∀ (d i : Nat), i ≤ l.length → l.length - i = d → Ev (fun k => folkmootref03_Same.l0 k l l (i : Int)) true := by
  intro d
  induction d with
  | zero =>
    intro i hi hd
    have h1 : ¬ (i : Int) < (l.length : Int) := by omega
    exact Ev.step (fun k => by simp only [folkmootref03_Same.l0, if_neg h1] <;> rfl) (Ev.val _)
  | succ d ih =>
    intro i hi hd
    have h1 : (i : Int) < (l.length : Int) := by omega
    have h0 : (0 : Int) ≤ (i : Int) := by omega
    have hw : wrap64 ((i : Int) + 1) = ((i + 1 : Nat) : Int) := by rw [wrap_in] <;> omega
    exact Ev.step (fun k => by simp only [folkmootref03_Same.l0, if_pos h1, if_pos h0, beq_self_eq_true, Bool.not_true, Bool.or_self, Bool.false_eq_true, if_false, hw] <;> rfl) (ih (i + 1) (by omega) (by omega))
theorem same_ev (l : List S34) (hl : l.length ≤ 9223372036854775806) : Ev (fun k => folkmootref03_Same.f k l l) true :=
  Ev.congr (fun k => by simp only [folkmootref03_Same.f, if_true] <;> rfl) (same_l0 l hl l.length 0 (by omega) (by omega))
theorem refSet_ev (l : List S34) (hc : Sp.Can (l.map toSp)) (h : l.length < 1099511627776) : Ev (fun k => folkmootref03_Set.f k l) true := by
  have e : unionL l = l := eq_of_any (union_can l) hc fun k => union_any l k
  have hu := refUnion_ev l h
  rw [e] at hu
  exact Ev.bind hu (Ev.bind (same_ev l (by omega)) (Ev.val _))
end Go.Proofs.Ytjimijpkhmpilaa.P
-- printed by a program of this session (wip/hp.py over the kit's print)
namespace Go.Proofs.Ytjimijpkhmpilaa.P
open Go.RowKit Go.Proofs.YtjimijpkhmpilaaW.PrintWords Go.Proofs.YtjimijpkhmpilaaW.PrintLast Go.Proofs.YtjimijpkhmpilaaW.PrintMore
attribute [local go_sem] str_leq str_gtr str_geq max2_str max2_int min2_int max_two min_two max_three min_three max_four min_four   -- for this text's walks alone
set_option linter.unusedVariables false
set_option linter.unusedSimpArgs false

/-! ### folkmootlaw03_SpanPoints: function 6 -/
mutual
def folkmootlaw03_SpanPoints.j0 : Nat → List ByteArray → ByteArray → Bool → Option (Bool)
  | 0, _, _, _ => none
  | k + 1, x0, x1, x18 => if x18 = true then ((folkmootlaw03_live.f k).bind fun t357 => (some t357)) else (folkmootlaw03_SpanPoints.l0 k x0 x1 ([] : List (S34)) false 0 0)
def folkmootlaw03_SpanPoints.l0 : Nat → List ByteArray → ByteArray → List (S34) → Bool → Int → Int → Option (Bool)
  | 0, _, _, _, _, _, _ => none
  | k + 1, x0, x1, x5, x6, x7, x8 => if x8 < (x0.length : Int) then (if 0 ≤ x8 then (if (wrap64 (x7 + ((rdOf ByteArray.empty x0 x8).size : Int))) > 4000 then ((folkmootlaw03_live.f k).bind fun t359 => (some t359)) else ((span_Point.f (rdOf ByteArray.empty x0 x8)).bind fun bt361 => (if x5.length < 4398046511104 then ((some (x5 ++ [(⟨bt361.1, bt361.2⟩ : S34)] : List (S34))).bind fun y363 => (if x6 = true then (folkmootlaw03_SpanPoints.l0 k x0 x1 y363 true (wrap64 (x7 + ((rdOf ByteArray.empty x0 x8).size : Int))) (wrap64 (x8 + 1))) else (folkmootlaw03_SpanPoints.l0 k x0 x1 y363 ((rdOf ByteArray.empty x0 x8).toList == x1.toList) (wrap64 (x7 + ((rdOf ByteArray.empty x0 x8).size : Int))) (wrap64 (x8 + 1))))) else (none)))) else (none)) else ((span_Union.f x5).bind fun t367 => (folkmootlaw03_SpanPoints.l1 k x0 x1 x6 t367 0))
def folkmootlaw03_SpanPoints.l1 : Nat → List ByteArray → ByteArray → Bool → List (S34) → Int → Option (Bool)
  | 0, _, _, _, _, _ => none
  | k + 1, x0, x1, x6, x9, x10 => if x10 < (x0.length : Int) then (if 0 ≤ x10 then ((span_Has.f x9 (rdOf ByteArray.empty x0 x10)).bind fun t371 => (if t371 = true then (folkmootlaw03_SpanPoints.l1 k x0 x1 x6 x9 (wrap64 (x10 + 1))) else (some false))) else (none)) else ((span_Has.f x9 x1).bind fun t372 => (if (t372 == x6) = true then ((folkmootref03_Set.f k x9).bind fun t373 => (if t373 = true then ((folkmootlaw03_live.f k).bind fun t374 => (some t374)) else (some false))) else (some false)))
end
def folkmootlaw03_SpanPoints.f (k : Nat) (l0 : List ByteArray) (a1 : ByteArray) : Option (Bool) := if (l0.length : Int) > 30 then (folkmootlaw03_SpanPoints.j0 k l0 a1 true) else (folkmootlaw03_SpanPoints.j0 k l0 a1 (decide ((a1.size : Int) > 4000)))
theorem folkmootlaw03_SpanPoints.mono_l : ∀ k, (∀ y0 y1 y2, LeO (folkmootlaw03_SpanPoints.j0 k y0 y1 y2) (folkmootlaw03_SpanPoints.j0 (k + 1) y0 y1 y2)) ∧ (∀ y0 y1 y2 y3 y4 y5, LeO (folkmootlaw03_SpanPoints.l0 k y0 y1 y2 y3 y4 y5) (folkmootlaw03_SpanPoints.l0 (k + 1) y0 y1 y2 y3 y4 y5)) ∧ (∀ y0 y1 y2 y3 y4, LeO (folkmootlaw03_SpanPoints.l1 k y0 y1 y2 y3 y4) (folkmootlaw03_SpanPoints.l1 (k + 1) y0 y1 y2 y3 y4))
  | 0 => ⟨fun _ _ _ r h => by simp [folkmootlaw03_SpanPoints.j0] at h, fun _ _ _ _ _ _ r h => by simp [folkmootlaw03_SpanPoints.l0] at h, fun _ _ _ _ _ r h => by simp [folkmootlaw03_SpanPoints.l1] at h⟩
  | k + 1 => by
    obtain ⟨ih0, ih1, ih2⟩ := folkmootlaw03_SpanPoints.mono_l k
    refine ⟨?_, ?_, ?_⟩
    · intro y0 y1 y2
      unfold folkmootlaw03_SpanPoints.j0
      repeat' first
      | (with_reducible exact ih0 _ _ _)
      | (with_reducible exact ih1 _ _ _ _ _ _)
      | (with_reducible exact ih2 _ _ _ _ _)
      | (with_reducible exact folkmootlaw03_live.mono _)
      | (with_reducible exact folkmootref03_Set.mono _ _)
      | (with_reducible exact LeO.refl _)
      | (with_reducible exact LeO.none _)
      | (with_reducible refine LeO.ite ?_ ?_)
      | (with_reducible refine LeO.bind ?_ (fun _ => ?_))
      | exact ih0 _ _ _
      | exact ih1 _ _ _ _ _ _
      | exact ih2 _ _ _ _ _
      | exact folkmootlaw03_live.mono _
      | exact folkmootref03_Set.mono _ _
      | exact LeO.none _
      | refine LeO.ite ?_ ?_
      | refine LeO.bind ?_ (fun _ => ?_)
    · intro y0 y1 y2 y3 y4 y5
      unfold folkmootlaw03_SpanPoints.l0
      repeat' first
      | (with_reducible exact ih0 _ _ _)
      | (with_reducible exact ih1 _ _ _ _ _ _)
      | (with_reducible exact ih2 _ _ _ _ _)
      | (with_reducible exact folkmootlaw03_live.mono _)
      | (with_reducible exact folkmootref03_Set.mono _ _)
      | (with_reducible exact LeO.refl _)
      | (with_reducible exact LeO.none _)
      | (with_reducible refine LeO.ite ?_ ?_)
      | (with_reducible refine LeO.bind ?_ (fun _ => ?_))
      | exact ih0 _ _ _
      | exact ih1 _ _ _ _ _ _
      | exact ih2 _ _ _ _ _
      | exact folkmootlaw03_live.mono _
      | exact folkmootref03_Set.mono _ _
      | exact LeO.none _
      | refine LeO.ite ?_ ?_
      | refine LeO.bind ?_ (fun _ => ?_)
    · intro y0 y1 y2 y3 y4
      unfold folkmootlaw03_SpanPoints.l1
      repeat' first
      | (with_reducible exact ih0 _ _ _)
      | (with_reducible exact ih1 _ _ _ _ _ _)
      | (with_reducible exact ih2 _ _ _ _ _)
      | (with_reducible exact folkmootlaw03_live.mono _)
      | (with_reducible exact folkmootref03_Set.mono _ _)
      | (with_reducible exact LeO.refl _)
      | (with_reducible exact LeO.none _)
      | (with_reducible refine LeO.ite ?_ ?_)
      | (with_reducible refine LeO.bind ?_ (fun _ => ?_))
      | exact ih0 _ _ _
      | exact ih1 _ _ _ _ _ _
      | exact ih2 _ _ _ _ _
      | exact folkmootlaw03_live.mono _
      | exact folkmootref03_Set.mono _ _
      | exact LeO.none _
      | refine LeO.ite ?_ ?_
      | refine LeO.bind ?_ (fun _ => ?_)
theorem folkmootlaw03_SpanPoints.mono : ∀ a0 a1 k, LeO (folkmootlaw03_SpanPoints.f k a0 a1) (folkmootlaw03_SpanPoints.f (k + 1) a0 a1) := by
  intro a0 a1 k
  obtain ⟨ih0, ih1, ih2⟩ := folkmootlaw03_SpanPoints.mono_l k
  unfold folkmootlaw03_SpanPoints.f
  repeat' first
      | (with_reducible exact ih0 _ _ _)
      | (with_reducible exact ih1 _ _ _ _ _ _)
      | (with_reducible exact ih2 _ _ _ _ _)
      | (with_reducible exact folkmootlaw03_live.mono _)
      | (with_reducible exact folkmootref03_Set.mono _ _)
      | (with_reducible exact LeO.refl _)
      | (with_reducible exact LeO.none _)
      | (with_reducible refine LeO.ite ?_ ?_)
      | (with_reducible refine LeO.bind ?_ (fun _ => ?_))
      | exact ih0 _ _ _
      | exact ih1 _ _ _ _ _ _
      | exact ih2 _ _ _ _ _
      | exact folkmootlaw03_live.mono _
      | exact folkmootref03_Set.mono _ _
      | exact LeO.none _
      | refine LeO.ite ?_ ?_
      | refine LeO.bind ?_ (fun _ => ?_)
set_option maxHeartbeats 8000000 in
set_option maxRecDepth 100000 in
theorem folkmootlaw03_SpanPoints.calls (k : Nat) (A0 : Option Addr) (c0 : Nat) (l0 : List ByteArray) (a1 : ByteArray) (r : Bool) (w : World) (hr0 : Kd.C Kd.string w A0 l0.length l0) (hc0 : l0.length ≤ c0) (h : folkmootlaw03_SpanPoints.f k l0 a1 = some r) :
    Calls Try.prog 6 #[.slice A0 l0.length c0, .string a1] w fun e w' => e = .returned (.bool r) ∧ Below w.heap.size w w' := by
  have HR0 := Aside0.mk hr0
  have HC0 := Aside0.mk hc0
  clear hr0 hc0
  have HB := Aside0.mk (Below.refl w.heap.size w)
  have H : (if (l0.length : Int) > 30 then (folkmootlaw03_SpanPoints.j0 k l0 a1 true) else (folkmootlaw03_SpanPoints.j0 k l0 a1 (decide ((a1.size : Int) > 4000)))) = some r := h
  clear h
  have HC3 := Aside0.mk H
  clear H
  go_enter Try.func6, Try.ntmps6
  go_upto_region 1 with (fail)
  go_cut [18] (fun v18 wc => ∃ (kq : Nat) (x18_2 : Bool), v18 = .bool x18_2 ∧ Aside0 (folkmootlaw03_SpanPoints.j0 kq l0 a1 x18_2 = some r) ∧ Aside0 (kq ≤ k) ∧ Aside0 (Below w.heap.size w wc))
  case first =>
    have H := HC3.out
    clear HC3
    by_cases c4 : (l0.length : Int) > 30
    · rw [if_pos c4] at H
      have c4b0 : decide (30 < (l0.length : Int)) = true := decide_eq_true c4
      have c4b1 : decide (30 < l0.length) = true := decide_eq_true (by omega)
      clear c4
      (first | rw [c4b0] | (simp only [i64_w, i32_w]; rw [c4b0]) | skip)
      have H' := Aside0.mk H
      clear H
      go_wp2
      go_meet
      case rel => exact ⟨_, (true), (by first | rfl | (simp; done) | (simp [*]; done)), H', ⟨by first | omega | exact Nat.le_refl _⟩, ⟨by repeat (first | (with_reducible first | exact HB.out | apply below_alloc | apply pw_below_drewN | apply below_drew1) | exact HB.out)⟩⟩
    · rw [if_neg c4] at H
      have c4b0 : decide (30 < (l0.length : Int)) = false := decide_eq_false c4
      have c4b1 : decide (30 < l0.length) = false := decide_eq_false (by omega)
      clear c4
      (first | rw [c4b0] | (simp only [i64_w, i32_w]; rw [c4b0]) | skip)
      have H' := Aside0.mk H
      clear H
      go_wp2
      go_meet
      case rel => exact ⟨_, (decide ((a1.size : Int) > 4000)), (by first | rfl | (simp; done) | (simp [*]; done)), H', ⟨by first | omega | exact Nat.le_refl _⟩, ⟨by repeat (first | (with_reducible first | exact HB.out | apply below_alloc | apply pw_below_drewN | apply below_drew1) | exact HB.out)⟩⟩
  case rest =>
    clear HC3
    try clear p2
    try clear c4
    try clear c4b0
    try clear c4b1
    obtain ⟨kq, x18_2, rfl, HA, HJ2, HB⟩ := hcut
    cases kq with
    | zero => exact absurd HA.out (by simp [folkmootlaw03_SpanPoints.j0])
    | succ kj2 =>
      have H := HA.out
      clear HA
      simp only [folkmootlaw03_SpanPoints.j0] at H
      by_cases c5 : x18_2 = true
      · subst c5
        have H1 : ((folkmootlaw03_live.f kj2).bind fun t357 => (some t357)) = some r := by rw [if_pos rfl] at H; exact H
        clear H
        have H := H1
        clear H1
        replace H := Option.bind_eq_some_iff.mp H
        obtain ⟨t357, A60, H⟩ := H
        replace H : (some t357) = some r := H
        have A6 := Aside0.mk A60
        clear A60
        obtain rfl := Option.some.inj H
        go_wp2_with (first | ((with_reducible refine gate_callee (f := 11) rfl ?_); refine goesL_ (some 19) rfl rfl Try.func11 (by kernel_rfl) rfl #[] rfl (by (try simp only [List.map_toArray, List.map_cons, List.map_nil]); first | done | rfl | (simp only [List.length_drop, List.length_take]; rfl)) ?_; (with_reducible refine (folkmootlaw03_live.calls kj2  t357 _ A6.out).mono ?_); rintro e w7 ⟨rfl, hb⟩; refine ⟨_, rfl, ?_⟩; have n0_ := Aside0.mk (below_step (by repeat (first | (with_reducible first | exact HB.out | apply below_alloc | apply pw_below_drewN | apply below_drew1) | exact HB.out)) hb); clear HB; have HB := n0_; clear n0_; (try clear hb); (try clear hb2); (try clear hk); (try clear hi)))
        go_ret
        exact ⟨by first | rfl | (simp [errW_none, errW_some] <;> rfl) | (simp [*, errW_none, errW_some] <;> rfl), by repeat (first | (with_reducible first | exact HB.out | apply below_alloc | apply pw_below_drewN | apply below_drew1) | exact HB.out)⟩
      · replace c5 := Bool.eq_false_iff.mpr c5
        subst c5
        have H1 : (folkmootlaw03_SpanPoints.l0 kj2 l0 a1 ([] : List (S34)) false 0 0) = some r := by rw [if_neg (show ¬ (false = true) by decide)] at H; exact H
        clear H
        have H := H1
        clear H1
        have H' := Aside0.mk H
        clear H
        go_wp2
        go_loopg [5, 6, 7, 8] kj2 (fun kq v5 v6 v7 v8 w' => ∃ (x5_2 : List (S34)) (x6_2 : Bool) (x7_2 : Int) (x8_2 : Int), v6 = .bool x6_2 ∧ v7 = .int .i64 x7_2 ∧ v8 = .int .i64 x8_2 ∧ Aside0 (folkmootlaw03_SpanPoints.l0 kq l0 a1 x5_2 x6_2 x7_2 x8_2 = some r) ∧ Aside0 (kq ≤ kj2) ∧ Aside0 (Kd.R k34 34 w' w.heap.size (fun _ => True) v5 x5_2) ∧ Aside0 (Below w.heap.size w w'))
        case atStart => exact ⟨(([] : List (S34))), (false), (0), (0), (by first | rfl | (simp; done) | (simp [*]; done)), (by first | rfl | (simp; done) | (simp [*]; done)), (by first | rfl | (simp; done) | (simp [*]; done)), H', ⟨Nat.le_refl _⟩, ⟨by first | exact Kd.R_nil _ _ _ _ _ | exact Kd.N_nil _ _ _ _ _ | exact Kd.V_nil _ _ _ _ _ | exact Kd.Q_nil _ _ _ _ _ | exact Kd.S_nil _ _ _ _ _⟩, ⟨by repeat (first | (with_reducible first | exact HB.out | apply below_alloc | apply pw_below_drewN | apply below_drew1) | exact HB.out)⟩⟩
        case round =>
          clear H'
          try clear c1
          try clear p2
          try clear c4
          try clear c4b0
          try clear c4b1
          try clear c5
          try clear c6
          try clear p2
          obtain ⟨x5_2, x6_2, x7_2, x8_2, rfl, rfl, rfl, HA, HK2, HO_5, HB⟩ := hrel
          cases gk with
          | zero => exact absurd HA.out (by simp [folkmootlaw03_SpanPoints.l0])
          | succ k2 =>
            have H := HA.out
            clear HA
            simp only [folkmootlaw03_SpanPoints.l0] at H
            by_cases c8 : x8_2 < (l0.length : Int)
            · rw [if_pos c8] at H
              have c8b0 : decide (x8_2 < (l0.length : Int)) = true := decide_eq_true c8
              clear c8
              by_cases c9 : 0 ≤ x8_2
              · rw [if_pos c9] at H
                have c9b0 : decide (0 ≤ x8_2) = true := decide_eq_true c9
                clear c9
                by_cases c10 : (wrap64 (x7_2 + ((rdOf ByteArray.empty l0 x8_2).size : Int))) > 4000
                · rw [if_pos c10] at H
                  have c10b0 : decide (4000 < (wrap64 (x7_2 + ((rdOf ByteArray.empty l0 x8_2).size : Int)))) = true := decide_eq_true c10
                  clear c10
                  replace H := Option.bind_eq_some_iff.mp H
                  obtain ⟨t359, A110, H⟩ := H
                  replace H : (some t359) = some r := H
                  have A11 := Aside0.mk A110
                  clear A110
                  obtain rfl := Option.some.inj H
                  have p358 : 0 ≤ (x8_2 : Int) := of_decide_eq_true (by first | (with_reducible assumption) | assumption)
                  have q358 : x8_2 < (l0.length : Int) := of_decide_eq_true (by first | (with_reducible assumption) | assumption)
                  obtain ⟨ad358, e358, hx358_0⟩ := Kd.at_string HR0.out x8_2 p358 q358
                  cases e358
                  replace hx358_0 := (HB.out.cell (World.block_lt_of_cell? w _ hx358_0)).trans hx358_0
                  replace p358 := eq_true p358
                  replace q358 := eq_true q358
                  go_wp2_with (first | ((with_reducible refine gate_callee (f := 11) rfl ?_); refine goesL_ (some 35) rfl rfl Try.func11 (by kernel_rfl) rfl #[] rfl (by (try simp only [List.map_toArray, List.map_cons, List.map_nil]); first | done | rfl | (simp only [List.length_drop, List.length_take]; rfl)) ?_; (with_reducible refine (folkmootlaw03_live.calls k2  t359 _ A11.out).mono ?_); rintro e w12 ⟨rfl, hb⟩; refine ⟨_, rfl, ?_⟩; have n0_ := Aside0.mk (Kd.R_below (by (with_reducible repeat (first | apply Kd.R_alloc | apply Kd.R_drewN | apply Kd.R_drew)); exact HO_5.out) hb); have n1_ := Aside0.mk (below_step (by repeat (first | (with_reducible first | exact HB.out | apply below_alloc | apply pw_below_drewN | apply below_drew1) | exact HB.out)) hb); clear HO_5; clear HB; have HO_5 := n0_; have HB := n1_; clear n0_ n1_; (try clear hb); (try clear hb2); (try clear hk); (try clear hi)))
                  go_ret
                  exact ⟨by first | rfl | (simp [errW_none, errW_some] <;> rfl) | (simp [*, errW_none, errW_some] <;> rfl), by repeat (first | (with_reducible first | exact HB.out | apply below_alloc | apply pw_below_drewN | apply below_drew1) | exact HB.out)⟩
                · rw [if_neg c10] at H
                  have c10b0 : decide (4000 < (wrap64 (x7_2 + ((rdOf ByteArray.empty l0 x8_2).size : Int)))) = false := decide_eq_false c10
                  clear c10
                  replace H := Option.bind_eq_some_iff.mp H
                  obtain ⟨⟨t361, t362⟩, A130, H⟩ := H
                  replace H : (if x5_2.length < 4398046511104 then ((some (x5_2 ++ [(⟨t361, t362⟩ : S34)] : List (S34))).bind fun y363 => (if x6_2 = true then (folkmootlaw03_SpanPoints.l0 k2 l0 a1 y363 true (wrap64 (x7_2 + ((rdOf ByteArray.empty l0 x8_2).size : Int))) (wrap64 (x8_2 + 1))) else (folkmootlaw03_SpanPoints.l0 k2 l0 a1 y363 ((rdOf ByteArray.empty l0 x8_2).toList == a1.toList) (wrap64 (x7_2 + ((rdOf ByteArray.empty l0 x8_2).size : Int))) (wrap64 (x8_2 + 1))))) else (none)) = some r := H
                  have A13 := Aside0.mk A130
                  clear A130
                  by_cases c14 : x5_2.length < 4398046511104
                  · rw [if_pos c14] at H
                    have LMc14 := Aside0.mk c14
                    clear c14
                    obtain ⟨y363, hy363⟩ : ∃ y_ : List (S34), y_ = (x5_2 ++ [(⟨t361, t362⟩ : S34)]) := ⟨_, rfl⟩
                    replace H : (if x6_2 = true then (folkmootlaw03_SpanPoints.l0 k2 l0 a1 y363 true (wrap64 (x7_2 + ((rdOf ByteArray.empty l0 x8_2).size : Int))) (wrap64 (x8_2 + 1))) else (folkmootlaw03_SpanPoints.l0 k2 l0 a1 y363 ((rdOf ByteArray.empty l0 x8_2).toList == a1.toList) (wrap64 (x7_2 + ((rdOf ByteArray.empty l0 x8_2).size : Int))) (wrap64 (x8_2 + 1)))) = some r := by first | (rw [hy363]; with_reducible exact H) | (have H2_ := (Option.bind_some _ _).symm.trans H; rw [hy363]; with_reducible exact H2_) | (have H2_ := (Option.bind_some _ _).symm.trans H; with_reducible exact H2_) | with_reducible exact H | (rw [hy363]; exact H) | exact H
                    have Ny363 := Aside0.mk hy363
                    clear hy363
                    by_cases c15 : x6_2 = true
                    · subst c15
                      have H1 : (folkmootlaw03_SpanPoints.l0 k2 l0 a1 y363 true (wrap64 (x7_2 + ((rdOf ByteArray.empty l0 x8_2).size : Int))) (wrap64 (x8_2 + 1))) = some r := by rw [if_pos rfl] at H; exact H
                      clear H
                      have H := H1
                      clear H1
                      have H' := Aside0.mk H
                      clear H
                      have p358 : 0 ≤ (x8_2 : Int) := of_decide_eq_true (by first | (with_reducible assumption) | assumption)
                      have q358 : x8_2 < (l0.length : Int) := of_decide_eq_true (by first | (with_reducible assumption) | assumption)
                      obtain ⟨ad358, e358, hx358_0⟩ := Kd.at_string HR0.out x8_2 p358 q358
                      cases e358
                      replace hx358_0 := (HB.out.cell (World.block_lt_of_cell? w _ hx358_0)).trans hx358_0
                      replace p358 := eq_true p358
                      replace q358 := eq_true q358
                      have p360 : 0 ≤ (x8_2 : Int) := of_decide_eq_true (by first | (with_reducible assumption) | assumption)
                      have q360 : x8_2 < (l0.length : Int) := of_decide_eq_true (by first | (with_reducible assumption) | assumption)
                      obtain ⟨ad360, e360, hx360_0⟩ := Kd.at_string HR0.out x8_2 p360 q360
                      obtain rfl : ad358 = ad360 := (by injection e360)
                      replace hx360_0 := (HB.out.cell (World.block_lt_of_cell? w _ hx360_0)).trans hx360_0
                      replace p360 := eq_true p360
                      replace q360 := eq_true q360
                      go_wp2_with (first | ((with_reducible refine gate_callee (f := 24) rfl ?_); refine goesL_ (some 41) rfl rfl Try.func24 (by kernel_rfl) rfl #[.string (rdOf ByteArray.empty l0 x8_2)] rfl (by (try simp only [List.map_toArray, List.map_cons, List.map_nil]); first | done | rfl | (simp only [List.length_drop, List.length_take]; rfl)) ?_; (with_reducible refine (span_Point.calls (rdOf ByteArray.empty l0 x8_2) t361 t362 _ A13.out).mono ?_); rintro e w16 ⟨rfl, hb⟩; refine ⟨_, rfl, ?_⟩; have n0_ := Aside0.mk (Kd.R_below (by (with_reducible repeat (first | apply Kd.R_alloc | apply Kd.R_drewN | apply Kd.R_drew)); exact HO_5.out) hb); have n1_ := Aside0.mk (below_step (by repeat (first | (with_reducible first | exact HB.out | apply below_alloc | apply pw_below_drewN | apply below_drew1) | exact HB.out)) hb); clear HO_5; clear HB; have HO_5 := n0_; have HB := n1_; clear n0_ n1_; (try clear hb); (try clear hb2); (try clear hk); (try clear hi)) | ((with_reducible refine gate_builtin (b := .append) (xs := #[.tmp 36, .tmp 42]) rfl ?_); (try (refine gate_guard (by rfl) ?_; dsimp only)); at_builtin; refine Kd.R_append k34 (w0 := w) w.heap.size rfl (.tmp 36) (.tmp 42) 22 34 (.agg #[(.string ⟨#[]⟩), (.string ⟨#[]⟩)]) 32 rfl Try.underlying22 info34 rfl (by decide) (by omega) u5 x5_2 (⟨t361, t362⟩ : S34) [.string t361, .string t362] (fun _ => True) (fun _ => False) rfl rfl ?aP (fun _ hk => hk.elim) ?aF ?aO ?aB ?aS ?aL ?_; (case aP => exact k34_mkM _ _ _ (⟨t361, t362⟩ : S34)); (case aB => exact (by repeat (first | (with_reducible first | exact HB.out | apply below_alloc | apply pw_below_drewN | apply below_drew1) | exact HB.out))); (case aF => exact (fun _ _ => trivial)); (case aO => exact (by (with_reducible repeat (first | apply Kd.R_alloc | apply Kd.R_drewN | apply Kd.R_drew)); exact HO_5.out)); (case aS => exact (below_size (by repeat (first | (with_reducible first | exact HB.out | apply below_alloc | apply pw_below_drewN | apply below_drew1) | exact HB.out)))); (case aL => have := LMc14.out; omega); intro v364 w17 ho hb hg hat; rw [← Ny363.out] at ho; have n0_ := Aside0.mk (hb); have n1_ := Aside0.mk (ho); clear HB; clear HO_5; have HB := n0_; have HO365 := n1_; clear n0_ n1_; clear ho hb hg hat))
                      go_roundg k2
                      case measure => have := HJ2.out; have := HK2.out; omega
                      case rel => exact ⟨(y363), (true), (wrap64 (x7_2 + ((rdOf ByteArray.empty l0 x8_2).size : Int))), (wrap64 (x8_2 + 1)), (by first | rfl | (simp; done) | (simp [*]; done)), (by first | rfl | (simp; done) | (simp [*]; done)), (by first | rfl | (simp; done) | (simp [*]; done)), H', ⟨by have := HJ2.out; have := HK2.out; omega⟩, ⟨by (with_reducible repeat (first | apply Kd.R_alloc | apply Kd.R_drewN | apply Kd.R_drew)); exact HO365.out⟩, ⟨by repeat (first | (with_reducible first | exact HB.out | apply below_alloc | apply pw_below_drewN | apply below_drew1) | exact HB.out)⟩⟩
                    · replace c15 := Bool.eq_false_iff.mpr c15
                      subst c15
                      have H1 : (folkmootlaw03_SpanPoints.l0 k2 l0 a1 y363 ((rdOf ByteArray.empty l0 x8_2).toList == a1.toList) (wrap64 (x7_2 + ((rdOf ByteArray.empty l0 x8_2).size : Int))) (wrap64 (x8_2 + 1))) = some r := by rw [if_neg (show ¬ (false = true) by decide)] at H; exact H
                      clear H
                      have H := H1
                      clear H1
                      have H' := Aside0.mk H
                      clear H
                      have p358 : 0 ≤ (x8_2 : Int) := of_decide_eq_true (by first | (with_reducible assumption) | assumption)
                      have q358 : x8_2 < (l0.length : Int) := of_decide_eq_true (by first | (with_reducible assumption) | assumption)
                      obtain ⟨ad358, e358, hx358_0⟩ := Kd.at_string HR0.out x8_2 p358 q358
                      cases e358
                      replace hx358_0 := (HB.out.cell (World.block_lt_of_cell? w _ hx358_0)).trans hx358_0
                      replace p358 := eq_true p358
                      replace q358 := eq_true q358
                      have p360 : 0 ≤ (x8_2 : Int) := of_decide_eq_true (by first | (with_reducible assumption) | assumption)
                      have q360 : x8_2 < (l0.length : Int) := of_decide_eq_true (by first | (with_reducible assumption) | assumption)
                      obtain ⟨ad360, e360, hx360_0⟩ := Kd.at_string HR0.out x8_2 p360 q360
                      obtain rfl : ad358 = ad360 := (by injection e360)
                      replace hx360_0 := (HB.out.cell (World.block_lt_of_cell? w _ hx360_0)).trans hx360_0
                      replace p360 := eq_true p360
                      replace q360 := eq_true q360
                      go_wp2_with (first | ((with_reducible refine gate_callee (f := 24) rfl ?_); refine goesL_ (some 41) rfl rfl Try.func24 (by kernel_rfl) rfl #[.string (rdOf ByteArray.empty l0 x8_2)] rfl (by (try simp only [List.map_toArray, List.map_cons, List.map_nil]); first | done | rfl | (simp only [List.length_drop, List.length_take]; rfl)) ?_; (with_reducible refine (span_Point.calls (rdOf ByteArray.empty l0 x8_2) t361 t362 _ A13.out).mono ?_); rintro e w18 ⟨rfl, hb⟩; refine ⟨_, rfl, ?_⟩; have n0_ := Aside0.mk (Kd.R_below (by (with_reducible repeat (first | apply Kd.R_alloc | apply Kd.R_drewN | apply Kd.R_drew)); exact HO_5.out) hb); have n1_ := Aside0.mk (below_step (by repeat (first | (with_reducible first | exact HB.out | apply below_alloc | apply pw_below_drewN | apply below_drew1) | exact HB.out)) hb); clear HO_5; clear HB; have HO_5 := n0_; have HB := n1_; clear n0_ n1_; (try clear hb); (try clear hb2); (try clear hk); (try clear hi)) | ((with_reducible refine gate_builtin (b := .append) (xs := #[.tmp 36, .tmp 42]) rfl ?_); (try (refine gate_guard (by rfl) ?_; dsimp only)); at_builtin; refine Kd.R_append k34 (w0 := w) w.heap.size rfl (.tmp 36) (.tmp 42) 22 34 (.agg #[(.string ⟨#[]⟩), (.string ⟨#[]⟩)]) 32 rfl Try.underlying22 info34 rfl (by decide) (by omega) u5 x5_2 (⟨t361, t362⟩ : S34) [.string t361, .string t362] (fun _ => True) (fun _ => False) rfl rfl ?aP (fun _ hk => hk.elim) ?aF ?aO ?aB ?aS ?aL ?_; (case aP => exact k34_mkM _ _ _ (⟨t361, t362⟩ : S34)); (case aB => exact (by repeat (first | (with_reducible first | exact HB.out | apply below_alloc | apply pw_below_drewN | apply below_drew1) | exact HB.out))); (case aF => exact (fun _ _ => trivial)); (case aO => exact (by (with_reducible repeat (first | apply Kd.R_alloc | apply Kd.R_drewN | apply Kd.R_drew)); exact HO_5.out)); (case aS => exact (below_size (by repeat (first | (with_reducible first | exact HB.out | apply below_alloc | apply pw_below_drewN | apply below_drew1) | exact HB.out)))); (case aL => have := LMc14.out; omega); intro v364 w19 ho hb hg hat; rw [← Ny363.out] at ho; have n0_ := Aside0.mk (hb); have n1_ := Aside0.mk (ho); clear HB; clear HO_5; have HB := n0_; have HO365 := n1_; clear n0_ n1_; clear ho hb hg hat; have p366 : 0 ≤ (x8_2 : Int) := of_decide_eq_true (by first | (with_reducible assumption) | assumption); have q366 : x8_2 < (l0.length : Int) := of_decide_eq_true (by first | (with_reducible assumption) | assumption); obtain ⟨ad366, e366, hx366_0⟩ := Kd.at_string HR0.out x8_2 p366 q366; obtain rfl : ad358 = ad366 := (by injection e366); replace hx366_0 := (HB.out.cell (World.block_lt_of_cell? w _ hx366_0)).trans hx366_0; replace p366 := eq_true p366; replace q366 := eq_true q366))
                      go_roundg k2
                      case measure => have := HJ2.out; have := HK2.out; omega
                      case rel => exact ⟨(y363), (((rdOf ByteArray.empty l0 x8_2).toList == a1.toList)), (wrap64 (x7_2 + ((rdOf ByteArray.empty l0 x8_2).size : Int))), (wrap64 (x8_2 + 1)), (by first | rfl | (simp; done) | (simp [*]; done)), (by first | rfl | (simp; done) | (simp [*]; done)), (by first | rfl | (simp; done) | (simp [*]; done)), H', ⟨by have := HJ2.out; have := HK2.out; omega⟩, ⟨by (with_reducible repeat (first | apply Kd.R_alloc | apply Kd.R_drewN | apply Kd.R_drew)); exact HO365.out⟩, ⟨by repeat (first | (with_reducible first | exact HB.out | apply below_alloc | apply pw_below_drewN | apply below_drew1) | exact HB.out)⟩⟩
                  · rw [if_neg c14] at H
                    exact absurd H (by simp)
              · rw [if_neg c9] at H
                exact absurd H (by simp)
            · rw [if_neg c8] at H
              have c8b0 : decide (x8_2 < (l0.length : Int)) = false := decide_eq_false c8
              clear c8
              replace H := Option.bind_eq_some_iff.mp H
              obtain ⟨t367, A200, H⟩ := H
              replace H : (folkmootlaw03_SpanPoints.l1 k2 l0 a1 x6_2 t367 0) = some r := H
              have A20 := Aside0.mk A200
              clear A200
              have H' := Aside0.mk H
              clear H
              obtain ⟨Ao21, co21, eo21⟩ := Kd.R_slice HO_5.out
              subst eo21
              go_wp2_with (first | ((with_reducible refine gate_callee (f := 14) rfl ?_); refine goesL_ (some 54) rfl rfl Try.func14 (by kernel_rfl) rfl #[.slice Ao21 x5_2.length co21] rfl (by (try simp only [List.map_toArray, List.map_cons, List.map_nil]); first | done | rfl | (simp only [List.length_drop, List.length_take]; rfl)) ?_; (with_reducible refine (span_Union.calls _ _ x5_2 t367 _ ?side1 ?side2 A20.out).mono ?_); (case side1 => repeat (first | exact (Kd.R_reads' HO_5.out).2.2 | (with_reducible refine Kd.C_alloc ?_ _) | (with_reducible refine Kd.C_drewN ?_ _) | (with_reducible refine Kd.C_drew ?_))); (case side2 => exact (Kd.R_reads' HO_5.out).2.1); rintro e w22 ⟨v368, rfl, ho0, hb⟩; refine ⟨_, rfl, ?_⟩; have n0_ := Aside0.mk (Kd.R_elder' (by (with_reducible repeat (first | apply Kd.R_alloc | apply Kd.R_drewN | apply Kd.R_drew)); exact HO_5.out) (Kd.R_base ho0) hb); have n1_ := Aside0.mk (Kd.R_lower (Kd.R_new' ho0 (Kd.R_lt (by (with_reducible repeat (first | apply Kd.R_alloc | apply Kd.R_drewN | apply Kd.R_drew)); exact HO_5.out))) (below_size (by repeat (first | (with_reducible first | exact HB.out | apply below_alloc | apply pw_below_drewN | apply below_drew1) | exact HB.out)))); have n2_ := Aside0.mk (below_step (by repeat (first | (with_reducible first | exact HB.out | apply below_alloc | apply pw_below_drewN | apply below_drew1) | exact HB.out)) hb); clear HO_5; clear HB; have HO_5 := n0_; have HO369 := n1_; have HB := n2_; clear n0_ n1_ n2_; (try clear hb); (try clear hb2); (try clear hk); (try clear hi); (try clear ho0)))
              go_loopg [10] k2 (fun kq v10 w' => ∃ (x10_3 : Int), v10 = .int .i64 x10_3 ∧ Aside0 (folkmootlaw03_SpanPoints.l1 kq l0 a1 x6_2 t367 x10_3 = some r) ∧ Aside0 (kq ≤ k2) ∧ Aside0 (Kd.R k34 34 w' w.heap.size (fun _ => True) v368 t367) ∧ Aside0 (Below w.heap.size w w'))
              case atStart => exact ⟨(0), (by first | rfl | (simp; done) | (simp [*]; done)), H', ⟨Nat.le_refl _⟩, ⟨by (with_reducible repeat (first | apply Kd.R_alloc | apply Kd.R_drewN | apply Kd.R_drew)); exact Kd.R_mono HO369.out (fun _ hk => trivial)⟩, ⟨by repeat (first | (with_reducible first | exact HB.out | apply below_alloc | apply pw_below_drewN | apply below_drew1) | exact HB.out)⟩⟩
              case round =>
                clear H'
                try clear c1
                try clear c2
                try clear p2
                try clear p3
                try clear q3
                try clear hx3
                try clear c4
                try clear c4b0
                try clear c4b1
                try clear c5
                try clear c6
                try clear p6
                try clear c8
                try clear c8b0
                try clear c9
                try clear c9b0
                try clear c10
                try clear c10b0
                try clear c11
                try clear c14
                try clear c15
                try clear hx358_0
                try clear hx360_0
                try clear hx366_0
                try clear p2
                try clear p358
                try clear p360
                try clear p366
                try clear q358
                try clear q360
                try clear q366
                obtain ⟨x10_3, rfl, HA, HK3, HO_9, HB⟩ := hrel
                cases gk with
                | zero => exact absurd HA.out (by simp [folkmootlaw03_SpanPoints.l1])
                | succ k3 =>
                  have H := HA.out
                  clear HA
                  simp only [folkmootlaw03_SpanPoints.l1] at H
                  by_cases c23 : x10_3 < (l0.length : Int)
                  · rw [if_pos c23] at H
                    have c23b0 : decide (x10_3 < (l0.length : Int)) = true := decide_eq_true c23
                    clear c23
                    by_cases c24 : 0 ≤ x10_3
                    · rw [if_pos c24] at H
                      have c24b0 : decide (0 ≤ x10_3) = true := decide_eq_true c24
                      clear c24
                      replace H := Option.bind_eq_some_iff.mp H
                      obtain ⟨t371, A250, H⟩ := H
                      replace H : (if t371 = true then (folkmootlaw03_SpanPoints.l1 k3 l0 a1 x6_2 t367 (wrap64 (x10_3 + 1))) else (some false)) = some r := H
                      have A25 := Aside0.mk A250
                      clear A250
                      by_cases c26 : t371 = true
                      · subst c26
                        have H1 : (folkmootlaw03_SpanPoints.l1 k3 l0 a1 x6_2 t367 (wrap64 (x10_3 + 1))) = some r := by rw [if_pos rfl] at H; exact H
                        clear H
                        have H := H1
                        clear H1
                        have H' := Aside0.mk H
                        clear H
                        have p370 : 0 ≤ (x10_3 : Int) := of_decide_eq_true (by first | (with_reducible assumption) | assumption)
                        have q370 : x10_3 < (l0.length : Int) := of_decide_eq_true (by first | (with_reducible assumption) | assumption)
                        obtain ⟨ad370, e370, hx370_0⟩ := Kd.at_string HR0.out x10_3 p370 q370
                        cases e370
                        replace hx370_0 := (HB.out.cell (World.block_lt_of_cell? w _ hx370_0)).trans hx370_0
                        replace p370 := eq_true p370
                        replace q370 := eq_true q370
                        obtain ⟨Ao27, co27, eo27⟩ := Kd.R_slice HO_9.out
                        subst eo27
                        go_wp2_with (first | ((with_reducible refine gate_callee (f := 20) rfl ?_); refine goesL_ (some 66) rfl rfl Try.func20 (by kernel_rfl) rfl #[.slice Ao27 t367.length co27, .string (rdOf ByteArray.empty l0 x10_3)] rfl (by (try simp only [List.map_toArray, List.map_cons, List.map_nil]); first | done | rfl | (simp only [List.length_drop, List.length_take]; rfl)) ?_; (with_reducible refine (span_Has.calls _ _ t367 (rdOf ByteArray.empty l0 x10_3) true _ ?side1 ?side2 A25.out).mono ?_); (case side1 => repeat (first | exact (Kd.R_reads' HO_9.out).2.2 | (with_reducible refine Kd.C_alloc ?_ _) | (with_reducible refine Kd.C_drewN ?_ _) | (with_reducible refine Kd.C_drew ?_))); (case side2 => exact (Kd.R_reads' HO_9.out).2.1); rintro e w28 ⟨rfl, hb⟩; refine ⟨_, rfl, ?_⟩; have n0_ := Aside0.mk (Kd.R_below (by (with_reducible repeat (first | apply Kd.R_alloc | apply Kd.R_drewN | apply Kd.R_drew)); exact HO_9.out) hb); have n1_ := Aside0.mk (below_step (by repeat (first | (with_reducible first | exact HB.out | apply below_alloc | apply pw_below_drewN | apply below_drew1) | exact HB.out)) hb); clear HO_9; clear HB; have HO_9 := n0_; have HB := n1_; clear n0_ n1_; (try clear hb); (try clear hb2); (try clear hk); (try clear hi)))
                        go_roundg k3
                        case measure => have := HJ2.out; have := HK2.out; have := HK3.out; omega
                        case rel => exact ⟨(wrap64 (x10_3 + 1)), (by first | rfl | (simp; done) | (simp [*]; done)), H', ⟨by have := HJ2.out; have := HK2.out; have := HK3.out; omega⟩, ⟨by (with_reducible repeat (first | apply Kd.R_alloc | apply Kd.R_drewN | apply Kd.R_drew)); exact HO_9.out⟩, ⟨by repeat (first | (with_reducible first | exact HB.out | apply below_alloc | apply pw_below_drewN | apply below_drew1) | exact HB.out)⟩⟩
                      · replace c26 := Bool.eq_false_iff.mpr c26
                        subst c26
                        have H1 : (some false) = some r := by rw [if_neg (show ¬ (false = true) by decide)] at H; exact H
                        clear H
                        have H := H1
                        clear H1
                        obtain rfl := Option.some.inj H
                        have p370 : 0 ≤ (x10_3 : Int) := of_decide_eq_true (by first | (with_reducible assumption) | assumption)
                        have q370 : x10_3 < (l0.length : Int) := of_decide_eq_true (by first | (with_reducible assumption) | assumption)
                        obtain ⟨ad370, e370, hx370_0⟩ := Kd.at_string HR0.out x10_3 p370 q370
                        cases e370
                        replace hx370_0 := (HB.out.cell (World.block_lt_of_cell? w _ hx370_0)).trans hx370_0
                        replace p370 := eq_true p370
                        replace q370 := eq_true q370
                        obtain ⟨Ao29, co29, eo29⟩ := Kd.R_slice HO_9.out
                        subst eo29
                        go_wp2_with (first | ((with_reducible refine gate_callee (f := 20) rfl ?_); refine goesL_ (some 66) rfl rfl Try.func20 (by kernel_rfl) rfl #[.slice Ao29 t367.length co29, .string (rdOf ByteArray.empty l0 x10_3)] rfl (by (try simp only [List.map_toArray, List.map_cons, List.map_nil]); first | done | rfl | (simp only [List.length_drop, List.length_take]; rfl)) ?_; (with_reducible refine (span_Has.calls _ _ t367 (rdOf ByteArray.empty l0 x10_3) false _ ?side1 ?side2 A25.out).mono ?_); (case side1 => repeat (first | exact (Kd.R_reads' HO_9.out).2.2 | (with_reducible refine Kd.C_alloc ?_ _) | (with_reducible refine Kd.C_drewN ?_ _) | (with_reducible refine Kd.C_drew ?_))); (case side2 => exact (Kd.R_reads' HO_9.out).2.1); rintro e w30 ⟨rfl, hb⟩; refine ⟨_, rfl, ?_⟩; have n0_ := Aside0.mk (Kd.R_below (by (with_reducible repeat (first | apply Kd.R_alloc | apply Kd.R_drewN | apply Kd.R_drew)); exact HO_9.out) hb); have n1_ := Aside0.mk (below_step (by repeat (first | (with_reducible first | exact HB.out | apply below_alloc | apply pw_below_drewN | apply below_drew1) | exact HB.out)) hb); clear HO_9; clear HB; have HO_9 := n0_; have HB := n1_; clear n0_ n1_; (try clear hb); (try clear hb2); (try clear hk); (try clear hi)))
                        go_ret
                        exact ⟨by first | rfl | (simp [errW_none, errW_some] <;> rfl) | (simp [*, errW_none, errW_some] <;> rfl), by repeat (first | (with_reducible first | exact HB.out | apply below_alloc | apply pw_below_drewN | apply below_drew1) | exact HB.out)⟩
                    · rw [if_neg c24] at H
                      exact absurd H (by simp)
                  · rw [if_neg c23] at H
                    have c23b0 : decide (x10_3 < (l0.length : Int)) = false := decide_eq_false c23
                    clear c23
                    replace H := Option.bind_eq_some_iff.mp H
                    obtain ⟨t372, A310, H⟩ := H
                    replace H : (if (t372 == x6_2) = true then ((folkmootref03_Set.f k3 t367).bind fun t373 => (if t373 = true then ((folkmootlaw03_live.f k3).bind fun t374 => (some t374)) else (some false))) else (some false)) = some r := H
                    have A31 := Aside0.mk A310
                    clear A310
                    by_cases c32 : (t372 == x6_2) = true
                    · rw [if_pos c32] at H
                      have c32b0 : (t372 == x6_2) = true := c32
                      (try (have c32b1 : decide (t372 = x6_2) = true := by simpa using c32))
                      (try (have c32b2 : (t372 == x6_2) = true := by simpa using c32))
                      clear c32
                      replace H := Option.bind_eq_some_iff.mp H
                      obtain ⟨t373, A330, H⟩ := H
                      replace H : (if t373 = true then ((folkmootlaw03_live.f k3).bind fun t374 => (some t374)) else (some false)) = some r := H
                      have A33 := Aside0.mk A330
                      clear A330
                      by_cases c34 : t373 = true
                      · subst c34
                        have H1 : ((folkmootlaw03_live.f k3).bind fun t374 => (some t374)) = some r := by rw [if_pos rfl] at H; exact H
                        clear H
                        have H := H1
                        clear H1
                        replace H := Option.bind_eq_some_iff.mp H
                        obtain ⟨t374, A350, H⟩ := H
                        replace H : (some t374) = some r := H
                        have A35 := Aside0.mk A350
                        clear A350
                        obtain rfl := Option.some.inj H
                        obtain ⟨Ao36, co36, eo36⟩ := Kd.R_slice HO_9.out
                        subst eo36
                        go_wp2_with (first | ((with_reducible refine gate_callee (f := 20) rfl ?_); refine goesL_ (some 70) rfl rfl Try.func20 (by kernel_rfl) rfl #[.slice Ao36 t367.length co36, .string a1] rfl (by (try simp only [List.map_toArray, List.map_cons, List.map_nil]); first | done | rfl | (simp only [List.length_drop, List.length_take]; rfl)) ?_; (with_reducible refine (span_Has.calls _ _ t367 a1 t372 _ ?side1 ?side2 A31.out).mono ?_); (case side1 => repeat (first | exact (Kd.R_reads' HO_9.out).2.2 | (with_reducible refine Kd.C_alloc ?_ _) | (with_reducible refine Kd.C_drewN ?_ _) | (with_reducible refine Kd.C_drew ?_))); (case side2 => exact (Kd.R_reads' HO_9.out).2.1); rintro e w37 ⟨rfl, hb⟩; refine ⟨_, rfl, ?_⟩; have n0_ := Aside0.mk (Kd.R_below (by (with_reducible repeat (first | apply Kd.R_alloc | apply Kd.R_drewN | apply Kd.R_drew)); exact HO_9.out) hb); have n1_ := Aside0.mk (below_step (by repeat (first | (with_reducible first | exact HB.out | apply below_alloc | apply pw_below_drewN | apply below_drew1) | exact HB.out)) hb); clear HO_9; clear HB; have HO_9 := n0_; have HB := n1_; clear n0_ n1_; (try clear hb); (try clear hb2); (try clear hk); (try clear hi)) | (go_at_call 23; (with_reducible refine (folkmootref03_Set.calls k3 _ _ t367 true _ ?side1 ?side2 A33.out).mono ?_); (case side1 => repeat (first | exact (Kd.R_reads' HO_9.out).2.2 | (with_reducible refine Kd.C_alloc ?_ _) | (with_reducible refine Kd.C_drewN ?_ _) | (with_reducible refine Kd.C_drew ?_))); (case side2 => exact (Kd.R_reads' HO_9.out).2.1); rintro e w38 ⟨rfl, hb⟩; have n0_ := Aside0.mk (Kd.R_below (by (with_reducible repeat (first | apply Kd.R_alloc | apply Kd.R_drewN | apply Kd.R_drew)); exact HO_9.out) hb); have n1_ := Aside0.mk (below_step (by repeat (first | (with_reducible first | exact HB.out | apply below_alloc | apply pw_below_drewN | apply below_drew1) | exact HB.out)) hb); clear HO_9; clear HB; have HO_9 := n0_; have HB := n1_; clear n0_ n1_; (try clear hb); (try clear hb2); (try clear hk); (try clear hi)) | (go_at_call 11; (with_reducible refine (folkmootlaw03_live.calls k3  t374 _ A35.out).mono ?_); rintro e w39 ⟨rfl, hb⟩; have n0_ := Aside0.mk (Kd.R_below (by (with_reducible repeat (first | apply Kd.R_alloc | apply Kd.R_drewN | apply Kd.R_drew)); exact HO_9.out) hb); have n1_ := Aside0.mk (below_step (by repeat (first | (with_reducible first | exact HB.out | apply below_alloc | apply pw_below_drewN | apply below_drew1) | exact HB.out)) hb); clear HO_9; clear HB; have HO_9 := n0_; have HB := n1_; clear n0_ n1_; (try clear hb); (try clear hb2); (try clear hk); (try clear hi)))
                        go_ret
                        exact ⟨by first | rfl | (simp [errW_none, errW_some] <;> rfl) | (simp [*, errW_none, errW_some] <;> rfl), by repeat (first | (with_reducible first | exact HB.out | apply below_alloc | apply pw_below_drewN | apply below_drew1) | exact HB.out)⟩
                      · replace c34 := Bool.eq_false_iff.mpr c34
                        subst c34
                        have H1 : (some false) = some r := by rw [if_neg (show ¬ (false = true) by decide)] at H; exact H
                        clear H
                        have H := H1
                        clear H1
                        obtain rfl := Option.some.inj H
                        obtain ⟨Ao40, co40, eo40⟩ := Kd.R_slice HO_9.out
                        subst eo40
                        go_wp2_with (first | ((with_reducible refine gate_callee (f := 20) rfl ?_); refine goesL_ (some 70) rfl rfl Try.func20 (by kernel_rfl) rfl #[.slice Ao40 t367.length co40, .string a1] rfl (by (try simp only [List.map_toArray, List.map_cons, List.map_nil]); first | done | rfl | (simp only [List.length_drop, List.length_take]; rfl)) ?_; (with_reducible refine (span_Has.calls _ _ t367 a1 t372 _ ?side1 ?side2 A31.out).mono ?_); (case side1 => repeat (first | exact (Kd.R_reads' HO_9.out).2.2 | (with_reducible refine Kd.C_alloc ?_ _) | (with_reducible refine Kd.C_drewN ?_ _) | (with_reducible refine Kd.C_drew ?_))); (case side2 => exact (Kd.R_reads' HO_9.out).2.1); rintro e w41 ⟨rfl, hb⟩; refine ⟨_, rfl, ?_⟩; have n0_ := Aside0.mk (Kd.R_below (by (with_reducible repeat (first | apply Kd.R_alloc | apply Kd.R_drewN | apply Kd.R_drew)); exact HO_9.out) hb); have n1_ := Aside0.mk (below_step (by repeat (first | (with_reducible first | exact HB.out | apply below_alloc | apply pw_below_drewN | apply below_drew1) | exact HB.out)) hb); clear HO_9; clear HB; have HO_9 := n0_; have HB := n1_; clear n0_ n1_; (try clear hb); (try clear hb2); (try clear hk); (try clear hi)) | (go_at_call 23; (with_reducible refine (folkmootref03_Set.calls k3 _ _ t367 false _ ?side1 ?side2 A33.out).mono ?_); (case side1 => repeat (first | exact (Kd.R_reads' HO_9.out).2.2 | (with_reducible refine Kd.C_alloc ?_ _) | (with_reducible refine Kd.C_drewN ?_ _) | (with_reducible refine Kd.C_drew ?_))); (case side2 => exact (Kd.R_reads' HO_9.out).2.1); rintro e w42 ⟨rfl, hb⟩; have n0_ := Aside0.mk (Kd.R_below (by (with_reducible repeat (first | apply Kd.R_alloc | apply Kd.R_drewN | apply Kd.R_drew)); exact HO_9.out) hb); have n1_ := Aside0.mk (below_step (by repeat (first | (with_reducible first | exact HB.out | apply below_alloc | apply pw_below_drewN | apply below_drew1) | exact HB.out)) hb); clear HO_9; clear HB; have HO_9 := n0_; have HB := n1_; clear n0_ n1_; (try clear hb); (try clear hb2); (try clear hk); (try clear hi)))
                        go_ret
                        exact ⟨by first | rfl | (simp [errW_none, errW_some] <;> rfl) | (simp [*, errW_none, errW_some] <;> rfl), by repeat (first | (with_reducible first | exact HB.out | apply below_alloc | apply pw_below_drewN | apply below_drew1) | exact HB.out)⟩
                    · rw [if_neg c32] at H
                      have c32b0 : (t372 == x6_2) = false := by simpa using c32
                      (try (have c32b1 : decide (t372 = x6_2) = false := by simpa using c32))
                      (try (have c32b2 : (t372 == x6_2) = false := by simpa using c32))
                      (try (have c32b3 : ¬ (t372 = x6_2) := by simpa using c32))
                      clear c32
                      obtain rfl := Option.some.inj H
                      obtain ⟨Ao43, co43, eo43⟩ := Kd.R_slice HO_9.out
                      subst eo43
                      go_wp2_with (first | ((with_reducible refine gate_callee (f := 20) rfl ?_); refine goesL_ (some 70) rfl rfl Try.func20 (by kernel_rfl) rfl #[.slice Ao43 t367.length co43, .string a1] rfl (by (try simp only [List.map_toArray, List.map_cons, List.map_nil]); first | done | rfl | (simp only [List.length_drop, List.length_take]; rfl)) ?_; (with_reducible refine (span_Has.calls _ _ t367 a1 t372 _ ?side1 ?side2 A31.out).mono ?_); (case side1 => repeat (first | exact (Kd.R_reads' HO_9.out).2.2 | (with_reducible refine Kd.C_alloc ?_ _) | (with_reducible refine Kd.C_drewN ?_ _) | (with_reducible refine Kd.C_drew ?_))); (case side2 => exact (Kd.R_reads' HO_9.out).2.1); rintro e w44 ⟨rfl, hb⟩; refine ⟨_, rfl, ?_⟩; have n0_ := Aside0.mk (Kd.R_below (by (with_reducible repeat (first | apply Kd.R_alloc | apply Kd.R_drewN | apply Kd.R_drew)); exact HO_9.out) hb); have n1_ := Aside0.mk (below_step (by repeat (first | (with_reducible first | exact HB.out | apply below_alloc | apply pw_below_drewN | apply below_drew1) | exact HB.out)) hb); clear HO_9; clear HB; have HO_9 := n0_; have HB := n1_; clear n0_ n1_; (try clear hb); (try clear hb2); (try clear hk); (try clear hi)))
                      go_ret
                      exact ⟨by first | rfl | (simp [errW_none, errW_some] <;> rfl) | (simp [*, errW_none, errW_some] <;> rfl), by repeat (first | (with_reducible first | exact HB.out | apply below_alloc | apply pw_below_drewN | apply below_drew1) | exact HB.out)⟩

end Go.Proofs.Ytjimijpkhmpilaa.P
/- Plain: the printed law SpanPoints comes to true. -/
namespace Go.Proofs.Ytjimijpkhmpilaa.P
open Go.RowKit Go.Proofs.YtjimijpkhmpilaaW.PrintWords
set_option linter.unusedVariables false

theorem less_zero : ∀ (x k : List UInt8), Op.bytesLess k (x ++ [0]) = (Op.bytesLess k x || k == x)
  | [], [] => rfl
  | [], a :: k => by
    have h : Op.bytesLess k [] = false := bytesLess_nil k
    have h0 : ¬ a < 0 := UInt8.not_lt_zero
    simp [Op.bytesLess, h, h0]
  | b :: x, [] => by simp [Op.bytesLess]
  | b :: x, a :: k => by
    have ih := less_zero x k
    simp only [List.cons_append, Op.bytesLess, ih, List.cons_beq_cons]
    cases decide (a < b) <;> cases (a == b) <;> simp
def pt (x : ByteArray) : S34 := ⟨x, x ++ (⟨#[0]⟩ : ByteArray)⟩
theorem point_in (x k : ByteArray) : inSp k (pt x) = (x.toList == k.toList) := by
  have h : (x ++ (⟨#[0]⟩ : ByteArray)).toList = x.toList ++ [0] := by
    rw [← toList_data, ← toList_data]
    simp
  have h2 : (x.toList ++ [0]).isEmpty = false := by cases x.toList <;> rfl
  unfold inSp pt
  rw [h, less_zero, h2]
  by_cases c : k.toList = x.toList
  · rw [c, bytesLess_irrefl]
    simp
  · have c1 : (k.toList == x.toList) = false := beq_eq_false_iff_ne.2 c
    have c2 : (x.toList == k.toList) = false := beq_eq_false_iff_ne.2 (fun e => c e.symm)
    rw [c1, c2]
    cases Op.bytesLess k.toList x.toList <;> rfl
theorem points_any (l : List ByteArray) (k : ByteArray) : (unionL (l.map pt)).any (inSp k) = l.any (fun y => y.toList == k.toList) := by
  rw [union_any, List.any_map]
  congr 1
  funext y
  exact point_in y k
theorem rd_text (l : List ByteArray) (i : Nat) (hi : i < l.length) : rdOf ByteArray.empty l (i : Int) = l[i] := by simp [rdOf, List.getD_eq_getElem?_getD, hi]
theorem points_l1 (l : List ByteArray) (a : ByteArray) (hl : l.length ≤ 30) : ∀ (d i : Nat), i ≤ l.length → l.length - i = d → Ev (fun k => folkmootlaw03_SpanPoints.l1 k l a (l.any fun y => y.toList == a.toList) (unionL (l.map pt)) (i : Int)) true := by
  have hlen : (unionL (l.map pt)).length ≤ 30 := by
    have := union_len (l.map pt)
    rw [List.length_map] at this
    omega
  intro d
  induction d with
  | zero =>
    intro i hi hd
    have h1 : ¬ (i : Int) < (l.length : Int) := by omega
    refine Ev.step (fun k => by simp only [folkmootlaw03_SpanPoints.l1, if_neg h1, span_Has.f, points_any, Option.bind_some, beq_self_eq_true, if_true] <;> rfl) (Ev.bind (refSet_ev _ (union_can _) (by omega)) ?_)
    simp only [if_true]
    exact Ev.bind live_ev (Ev.val _)
  | succ d ih =>
    intro i hi hd
    have h1 : (i : Int) < (l.length : Int) := by omega
    have h0 : (0 : Int) ≤ (i : Int) := by omega
    have hil : i < l.length := by omega
    have hw : wrap64 ((i : Int) + 1) = ((i + 1 : Nat) : Int) := by rw [wrap_in] <;> omega
    have hin : (l.any fun y => y.toList == l[i].toList) = true := List.any_eq_true.2 ⟨l[i], List.getElem_mem hil, by simp⟩
    exact Ev.step (fun k => by simp only [folkmootlaw03_SpanPoints.l1, if_pos h1, if_pos h0, rd_text l i hil, span_Has.f, points_any, hin, Option.bind_some, if_true, hw] <;> rfl) (ih (i + 1) (by omega) (by omega))
theorem points_l0 (l : List ByteArray) (a : ByteArray) (hl : l.length ≤ 30) (hs : ∀ x ∈ l, x.size ≤ 140737488351232) : ∀ (d i : Nat) (n : Int), i ≤ l.length → l.length - i = d → Ev (fun k => folkmootlaw03_SpanPoints.l0 k l a ((l.take i).map pt) ((l.take i).any fun y => y.toList == a.toList) n (i : Int)) true := by
  intro d
  induction d with
  | zero =>
    intro i n hi hd
    have h1 : ¬ (i : Int) < (l.length : Int) := by omega
    rw [List.take_of_length_le (by omega)]
    have hU : span_Union.f (l.map pt) = some (unionL (l.map pt)) := by unfold span_Union.f; rw [if_pos (by rw [List.length_map]; omega)]
    exact Ev.step (fun k => by simp only [folkmootlaw03_SpanPoints.l0, if_neg h1, hU, Option.bind_some] <;> rfl) (points_l1 l a hl l.length 0 (by omega) (by omega))
  | succ d ih =>
    intro i n hi hd
    have h1 : (i : Int) < (l.length : Int) := by omega
    have h0 : (0 : Int) ≤ (i : Int) := by omega
    have hil : i < l.length := by omega
    have hw : wrap64 ((i : Int) + 1) = ((i + 1 : Nat) : Int) := by rw [wrap_in] <;> omega
    have hsz : l[i].size + 1 ≤ 9223372036854775807 := by have := hs l[i] (List.getElem_mem hil); omega
    have hP : span_Point.f l[i] = some (l[i], l[i] ++ (⟨#[0]⟩ : ByteArray)) := by unfold span_Point.f; rw [if_pos hsz]
    have hlt : ((l.take i).map pt).length < 4398046511104 := by rw [List.length_map, List.length_take]; omega
    have ht : (l.take i).map pt ++ [(⟨l[i], l[i] ++ (⟨#[0]⟩ : ByteArray)⟩ : S34)] = (l.take (i + 1)).map pt := by
      rw [List.take_succ_eq_append_getElem hil, List.map_append]
      rfl
    have ha : (l.take (i + 1)).any (fun y => y.toList == a.toList) = ((l.take i).any (fun y => y.toList == a.toList) || l[i].toList == a.toList) := by
      rw [List.take_succ_eq_append_getElem hil, List.any_append]
      simp
    by_cases c : (wrap64 (n + (l[i].size : Int))) > 4000
    · exact Ev.step (fun k => by simp only [folkmootlaw03_SpanPoints.l0, if_pos h1, if_pos h0, rd_text l i hil, if_pos c] <;> rfl) (Ev.bind live_ev (Ev.val _))
    · have hn := ih (i + 1) (wrap64 (n + (l[i].size : Int))) (by omega) (by omega)
      rw [ha] at hn
      cases e : (l.take i).any (fun y => y.toList == a.toList) with
      | true =>
        rw [e, Bool.true_or] at hn
        exact Ev.step (fun k => by simp only [folkmootlaw03_SpanPoints.l0, if_pos h1, if_pos h0, rd_text l i hil, if_neg c, hP, Option.bind_some, if_pos hlt, ht, if_true, hw] <;> rfl) hn
      | false =>
        rw [e, Bool.false_or] at hn
        exact Ev.step (fun k => by simp only [folkmootlaw03_SpanPoints.l0, if_pos h1, if_pos h0, rd_text l i hil, if_neg c, hP, Option.bind_some, if_pos hlt, ht, Bool.false_eq_true, if_false, hw] <;> rfl) hn
theorem points_j0 (l : List ByteArray) (a : ByteArray) (b : Bool) (hb : b = false → l.length ≤ 30) (hs : ∀ x ∈ l, x.size ≤ 140737488351232) : Ev (fun k => folkmootlaw03_SpanPoints.j0 k l a b) true := by
  cases b with
  | true => exact Ev.step (fun k => by simp only [folkmootlaw03_SpanPoints.j0, if_true] <;> rfl) (Ev.bind live_ev (Ev.val _))
  | false => exact Ev.step (fun k => by simp only [folkmootlaw03_SpanPoints.j0, Bool.false_eq_true, if_false] <;> rfl) (points_l0 l a (hb rfl) hs l.length 0 0 (by omega) (by omega))
theorem spanPoints_pure (l : List ByteArray) (a : ByteArray) (hl : l.length ≤ 140737488351232) (hs : ∀ x ∈ l, x.size ≤ 140737488351232) (ha : a.size ≤ 140737488351232) : ∃ k, folkmootlaw03_SpanPoints.f k l a = some true := by
  refine Ev.rounds (g := fun k => folkmootlaw03_SpanPoints.f k l a) ?_
  by_cases c : (l.length : Int) > 30
  · exact Ev.congr (fun k => by simp only [folkmootlaw03_SpanPoints.f, if_pos c] <;> rfl) (points_j0 l a true (fun h => by cases h) hs)
  · exact Ev.congr (fun k => by simp only [folkmootlaw03_SpanPoints.f, if_neg c] <;> rfl) (points_j0 l a _ (fun _ => by omega) hs)
end Go.Proofs.Ytjimijpkhmpilaa.P
