/- Texts of the proofs of TopoOnce, TopoTells, merged (Pxfmlaw04live, PToL, PToE, PRefS, PCut, PToA, PToC, PToW, PToK, PToT, PToU). -/
import Derived.Test.YtaedgbkeiankcaaWWords
import Derived.Test.YtaedgbkeiankcaaWLast
import Derived.Test.YtaedgbkeiankcaaWTab
import Derived.Test.YtaedgbkeiankcaaWQPut
import Derived.Test.YtaedgbkeiankcaaWApart
import Derived.Test.YtaedgbkeiankcaaWArr
import Derived.Test.YtaedgbkeiankcaaWZeros
import Derived.Test.YtaedgbkeiankcaaWFoot
import Derived.Test.YtaedgbkeiankcaaWKept
import Derived.Test.YtaedgbkeiankcaaWShare
import Derived.Test.YtaedgbkeiankcaaWN
import Derived.Test.YtaedgbkeiankcaaWEqStruct
import Derived.Test.YtaedgbkeiankcaaWRepsOne
import Derived.Test.YtaedgbkeiankcaaWGuard
import Derived.Test.YtaedgbkeiankcaaWNEv
import Derived.Test.YtaedgbkeiankcaaWMore
import Derived.Test.YtaedgbkeiankcaaG64eb9ef8
import Derived.Test.YtaedgbkeiankcaaGca2bd920
import Derived.Test.YtaedgbkeiankcaaGff33e446
import Derived.Test.YtaedgbkeiankcaaG5fc94eef
import Derived.Test.YtaedgbkeiankcaaG4bcd870f
import Derived.Test.YtaedgbkeiankcaaG41c11834
import Derived.Test.YtaedgbkeiankcaaG132b0fe3
import Derived.Test.YtaedgbkeiankcaaG0dc59620
import Derived.Test.YtaedgbkeiankcaaGc773388e
import Derived.Test.YtaedgbkeiankcaaG8ef4219a
import Derived.Test.YtaedgbkeiankcaaGae6c6a1e
import Derived.Test.YtaedgbkeiankcaaG59233577
import Derived.Test.YtaedgbkeiankcaaG9f496484
import Derived.Test.YtaedgbkeiankcaaG432ab4c7
import Derived.Test.YtaedgbkeiankcaaG9919190a
import Derived.Test.YtaedgbkeiankcaaG9a577d31
import Derived.Test.YtaedgbkeiankcaaG59149f34
namespace Go.Proofs.Ytaedgbkeiankcaa.P
open Go.RowKit Go.Proofs.YtaedgbkeiankcaaW.PrintWords Go.Proofs.YtaedgbkeiankcaaW.PrintLast Go.Proofs.YtaedgbkeiankcaaW.PrintMore
attribute [local go_sem] str_leq str_geq max2_str max2_int min2_int max_two min_two max_three min_three max_four min_four
set_option linter.unusedVariables false
set_option linter.unusedSimpArgs false
def folkmootlaw04_live.f (k : Nat)  : Option (Bool) := (folkmootlaw04_two.f).bind fun t145 => ((topo_Check.f t145).bind fun t148 => ((folkmootlaw04_num.f t148).bind fun t149 => (if t149 = 0 then ((topo_Find.f t145 (⟨#[107]⟩ : ByteArray)).bind fun t150 => (if t150 = 0 then ((topo_Find.f t145 (⟨#[109]⟩ : ByteArray)).bind fun t151 => (if t151 = 1 then ((topo_Owned.f k t145 3).bind fun t152 => ((folkmootref03_Same.f k t152 (([(⟨(⟨#[]⟩ : ByteArray), (⟨#[]⟩ : ByteArray)⟩ : S35)] : List (S35)))).bind fun t158 => (if t158 = true then (if 0 < (t145.length : Int) then ((topo_Quorum.f ((rd_T37 t145 0).f0.f0) ((rd_T37 t145 0).f0.f1) ((rd_T37 t145 0).f1)).bind fun t160 => (if t160 = 2 then ((topo_Nodes.f t145 (([0, 1] : List Int))).bind fun t164 => ((folkmootref04_Ints.f k t164 (([1, 2, 3, 4, 5] : List Int))).bind fun t170 => (if t170 = true then ((topo_Check.f ([] : List (S37))).bind fun t171 => ((folkmootlaw04_num.f t171).bind fun t172 => (if t172 = 40 then ((topo_Keeps.f k t145 5 (([1] : List Int))).bind fun t176 => (if t176 = true then ((topo_Keeps.f k t145 5 (([0] : List Int))).bind fun t180 => (some (!t180))) else (some false))) else (some false)))) else (some false)))) else (some false))) else (none)) else (some false)))) else (some false))) else (some false))) else (some false))))
theorem folkmootlaw04_live.mono : ∀ k, LeO (folkmootlaw04_live.f k ) (folkmootlaw04_live.f (k + 1) ) := by
  intro  k
  unfold folkmootlaw04_live.f
  repeat' first
      | (with_reducible exact folkmootref03_Same.mono _ _ _)
      | (with_reducible exact folkmootref04_Ints.mono _ _ _)
      | (with_reducible exact topo_Keeps.mono _ _ _ _)
      | (with_reducible exact topo_Owned.mono _ _ _)
      | (with_reducible exact LeO.refl _)
      | (with_reducible exact LeO.none _)
      | (with_reducible refine LeO.ite ?_ ?_)
      | (with_reducible refine LeO.bind ?_ (fun _ => ?_))
      | exact folkmootref03_Same.mono _ _ _
      | exact folkmootref04_Ints.mono _ _ _
      | exact topo_Keeps.mono _ _ _ _
      | exact topo_Owned.mono _ _ _
      | exact LeO.none _
      | refine LeO.ite ?_ ?_
      | refine LeO.bind ?_ (fun _ => ?_)
set_option maxHeartbeats 8000000 in
set_option maxRecDepth 100000 in
theorem folkmootlaw04_live.calls (k : Nat)  (r : Bool) (w : World) (h : folkmootlaw04_live.f k  = some r) :
    Calls Try.prog 10 #[] w fun e w' => e = .returned (.bool r) ∧ Below w.heap.size w w' := by
  have hu35 := Try.underlying35
  have hu37 := Try.underlying37
  have HB := Aside0.mk (Below.refl w.heap.size w)
  have H : ((folkmootlaw04_two.f).bind fun t145 => ((topo_Check.f t145).bind fun t148 => ((folkmootlaw04_num.f t148).bind fun t149 => (if t149 = 0 then ((topo_Find.f t145 (⟨#[107]⟩ : ByteArray)).bind fun t150 => (if t150 = 0 then ((topo_Find.f t145 (⟨#[109]⟩ : ByteArray)).bind fun t151 => (if t151 = 1 then ((topo_Owned.f k t145 3).bind fun t152 => ((folkmootref03_Same.f k t152 (([(⟨(⟨#[]⟩ : ByteArray), (⟨#[]⟩ : ByteArray)⟩ : S35)] : List (S35)))).bind fun t158 => (if t158 = true then (if 0 < (t145.length : Int) then ((topo_Quorum.f ((rd_T37 t145 0).f0.f0) ((rd_T37 t145 0).f0.f1) ((rd_T37 t145 0).f1)).bind fun t160 => (if t160 = 2 then ((topo_Nodes.f t145 (([0, 1] : List Int))).bind fun t164 => ((folkmootref04_Ints.f k t164 (([1, 2, 3, 4, 5] : List Int))).bind fun t170 => (if t170 = true then ((topo_Check.f ([] : List (S37))).bind fun t171 => ((folkmootlaw04_num.f t171).bind fun t172 => (if t172 = 40 then ((topo_Keeps.f k t145 5 (([1] : List Int))).bind fun t176 => (if t176 = true then ((topo_Keeps.f k t145 5 (([0] : List Int))).bind fun t180 => (some (!t180))) else (some false))) else (some false)))) else (some false)))) else (some false))) else (none)) else (some false)))) else (some false))) else (some false))) else (some false))))) = some r := h
  clear h
  replace H := Option.bind_eq_some_iff.mp H
  obtain ⟨t145, A10, H⟩ := H
  replace H : ((topo_Check.f t145).bind fun t148 => ((folkmootlaw04_num.f t148).bind fun t149 => (if t149 = 0 then ((topo_Find.f t145 (⟨#[107]⟩ : ByteArray)).bind fun t150 => (if t150 = 0 then ((topo_Find.f t145 (⟨#[109]⟩ : ByteArray)).bind fun t151 => (if t151 = 1 then ((topo_Owned.f k t145 3).bind fun t152 => ((folkmootref03_Same.f k t152 (([(⟨(⟨#[]⟩ : ByteArray), (⟨#[]⟩ : ByteArray)⟩ : S35)] : List (S35)))).bind fun t158 => (if t158 = true then (if 0 < (t145.length : Int) then ((topo_Quorum.f ((rd_T37 t145 0).f0.f0) ((rd_T37 t145 0).f0.f1) ((rd_T37 t145 0).f1)).bind fun t160 => (if t160 = 2 then ((topo_Nodes.f t145 (([0, 1] : List Int))).bind fun t164 => ((folkmootref04_Ints.f k t164 (([1, 2, 3, 4, 5] : List Int))).bind fun t170 => (if t170 = true then ((topo_Check.f ([] : List (S37))).bind fun t171 => ((folkmootlaw04_num.f t171).bind fun t172 => (if t172 = 40 then ((topo_Keeps.f k t145 5 (([1] : List Int))).bind fun t176 => (if t176 = true then ((topo_Keeps.f k t145 5 (([0] : List Int))).bind fun t180 => (some (!t180))) else (some false))) else (some false)))) else (some false)))) else (some false))) else (none)) else (some false)))) else (some false))) else (some false))) else (some false)))) = some r := H
  have A1 := Aside0.mk A10
  clear A10
  replace H := Option.bind_eq_some_iff.mp H
  obtain ⟨t148, A20, H⟩ := H
  replace H : ((folkmootlaw04_num.f t148).bind fun t149 => (if t149 = 0 then ((topo_Find.f t145 (⟨#[107]⟩ : ByteArray)).bind fun t150 => (if t150 = 0 then ((topo_Find.f t145 (⟨#[109]⟩ : ByteArray)).bind fun t151 => (if t151 = 1 then ((topo_Owned.f k t145 3).bind fun t152 => ((folkmootref03_Same.f k t152 (([(⟨(⟨#[]⟩ : ByteArray), (⟨#[]⟩ : ByteArray)⟩ : S35)] : List (S35)))).bind fun t158 => (if t158 = true then (if 0 < (t145.length : Int) then ((topo_Quorum.f ((rd_T37 t145 0).f0.f0) ((rd_T37 t145 0).f0.f1) ((rd_T37 t145 0).f1)).bind fun t160 => (if t160 = 2 then ((topo_Nodes.f t145 (([0, 1] : List Int))).bind fun t164 => ((folkmootref04_Ints.f k t164 (([1, 2, 3, 4, 5] : List Int))).bind fun t170 => (if t170 = true then ((topo_Check.f ([] : List (S37))).bind fun t171 => ((folkmootlaw04_num.f t171).bind fun t172 => (if t172 = 40 then ((topo_Keeps.f k t145 5 (([1] : List Int))).bind fun t176 => (if t176 = true then ((topo_Keeps.f k t145 5 (([0] : List Int))).bind fun t180 => (some (!t180))) else (some false))) else (some false)))) else (some false)))) else (some false))) else (none)) else (some false)))) else (some false))) else (some false))) else (some false))) = some r := H
  have A2 := Aside0.mk A20
  clear A20
  replace H := Option.bind_eq_some_iff.mp H
  obtain ⟨t149, A30, H⟩ := H
  replace H : (if t149 = 0 then ((topo_Find.f t145 (⟨#[107]⟩ : ByteArray)).bind fun t150 => (if t150 = 0 then ((topo_Find.f t145 (⟨#[109]⟩ : ByteArray)).bind fun t151 => (if t151 = 1 then ((topo_Owned.f k t145 3).bind fun t152 => ((folkmootref03_Same.f k t152 (([(⟨(⟨#[]⟩ : ByteArray), (⟨#[]⟩ : ByteArray)⟩ : S35)] : List (S35)))).bind fun t158 => (if t158 = true then (if 0 < (t145.length : Int) then ((topo_Quorum.f ((rd_T37 t145 0).f0.f0) ((rd_T37 t145 0).f0.f1) ((rd_T37 t145 0).f1)).bind fun t160 => (if t160 = 2 then ((topo_Nodes.f t145 (([0, 1] : List Int))).bind fun t164 => ((folkmootref04_Ints.f k t164 (([1, 2, 3, 4, 5] : List Int))).bind fun t170 => (if t170 = true then ((topo_Check.f ([] : List (S37))).bind fun t171 => ((folkmootlaw04_num.f t171).bind fun t172 => (if t172 = 40 then ((topo_Keeps.f k t145 5 (([1] : List Int))).bind fun t176 => (if t176 = true then ((topo_Keeps.f k t145 5 (([0] : List Int))).bind fun t180 => (some (!t180))) else (some false))) else (some false)))) else (some false)))) else (some false))) else (none)) else (some false)))) else (some false))) else (some false))) else (some false)) = some r := H
  have A3 := Aside0.mk A30
  clear A30
  by_cases c4 : t149 = 0
  · rw [if_pos c4] at H
    have c4b0 : (t149 == 0) = true := beq_iff_eq.mpr c4
    (try (have c4e : (t149 = 0) := by simpa using c4))
    have c4b1 : (t149 != 0) = false := bne_eq_false_iff_eq.mpr c4
    clear c4
    replace H := Option.bind_eq_some_iff.mp H
    obtain ⟨t150, A50, H⟩ := H
    replace H : (if t150 = 0 then ((topo_Find.f t145 (⟨#[109]⟩ : ByteArray)).bind fun t151 => (if t151 = 1 then ((topo_Owned.f k t145 3).bind fun t152 => ((folkmootref03_Same.f k t152 (([(⟨(⟨#[]⟩ : ByteArray), (⟨#[]⟩ : ByteArray)⟩ : S35)] : List (S35)))).bind fun t158 => (if t158 = true then (if 0 < (t145.length : Int) then ((topo_Quorum.f ((rd_T37 t145 0).f0.f0) ((rd_T37 t145 0).f0.f1) ((rd_T37 t145 0).f1)).bind fun t160 => (if t160 = 2 then ((topo_Nodes.f t145 (([0, 1] : List Int))).bind fun t164 => ((folkmootref04_Ints.f k t164 (([1, 2, 3, 4, 5] : List Int))).bind fun t170 => (if t170 = true then ((topo_Check.f ([] : List (S37))).bind fun t171 => ((folkmootlaw04_num.f t171).bind fun t172 => (if t172 = 40 then ((topo_Keeps.f k t145 5 (([1] : List Int))).bind fun t176 => (if t176 = true then ((topo_Keeps.f k t145 5 (([0] : List Int))).bind fun t180 => (some (!t180))) else (some false))) else (some false)))) else (some false)))) else (some false))) else (none)) else (some false)))) else (some false))) else (some false)) = some r := H
    have A5 := Aside0.mk A50
    clear A50
    by_cases c6 : t150 = 0
    · rw [if_pos c6] at H
      have c6b0 : (t150 == 0) = true := beq_iff_eq.mpr c6
      (try (have c6e : (t150 = 0) := by simpa using c6))
      have c6b1 : (t150 != 0) = false := bne_eq_false_iff_eq.mpr c6
      clear c6
      replace H := Option.bind_eq_some_iff.mp H
      obtain ⟨t151, A70, H⟩ := H
      replace H : (if t151 = 1 then ((topo_Owned.f k t145 3).bind fun t152 => ((folkmootref03_Same.f k t152 (([(⟨(⟨#[]⟩ : ByteArray), (⟨#[]⟩ : ByteArray)⟩ : S35)] : List (S35)))).bind fun t158 => (if t158 = true then (if 0 < (t145.length : Int) then ((topo_Quorum.f ((rd_T37 t145 0).f0.f0) ((rd_T37 t145 0).f0.f1) ((rd_T37 t145 0).f1)).bind fun t160 => (if t160 = 2 then ((topo_Nodes.f t145 (([0, 1] : List Int))).bind fun t164 => ((folkmootref04_Ints.f k t164 (([1, 2, 3, 4, 5] : List Int))).bind fun t170 => (if t170 = true then ((topo_Check.f ([] : List (S37))).bind fun t171 => ((folkmootlaw04_num.f t171).bind fun t172 => (if t172 = 40 then ((topo_Keeps.f k t145 5 (([1] : List Int))).bind fun t176 => (if t176 = true then ((topo_Keeps.f k t145 5 (([0] : List Int))).bind fun t180 => (some (!t180))) else (some false))) else (some false)))) else (some false)))) else (some false))) else (none)) else (some false)))) else (some false)) = some r := H
      have A7 := Aside0.mk A70
      clear A70
      by_cases c8 : t151 = 1
      · rw [if_pos c8] at H
        have c8b0 : (t151 == 1) = true := beq_iff_eq.mpr c8
        (try (have c8e : (t151 = 1) := by simpa using c8))
        have c8b1 : (t151 != 1) = false := bne_eq_false_iff_eq.mpr c8
        clear c8
        replace H := Option.bind_eq_some_iff.mp H
        obtain ⟨t152, A90, H⟩ := H
        replace H : ((folkmootref03_Same.f k t152 (([(⟨(⟨#[]⟩ : ByteArray), (⟨#[]⟩ : ByteArray)⟩ : S35)] : List (S35)))).bind fun t158 => (if t158 = true then (if 0 < (t145.length : Int) then ((topo_Quorum.f ((rd_T37 t145 0).f0.f0) ((rd_T37 t145 0).f0.f1) ((rd_T37 t145 0).f1)).bind fun t160 => (if t160 = 2 then ((topo_Nodes.f t145 (([0, 1] : List Int))).bind fun t164 => ((folkmootref04_Ints.f k t164 (([1, 2, 3, 4, 5] : List Int))).bind fun t170 => (if t170 = true then ((topo_Check.f ([] : List (S37))).bind fun t171 => ((folkmootlaw04_num.f t171).bind fun t172 => (if t172 = 40 then ((topo_Keeps.f k t145 5 (([1] : List Int))).bind fun t176 => (if t176 = true then ((topo_Keeps.f k t145 5 (([0] : List Int))).bind fun t180 => (some (!t180))) else (some false))) else (some false)))) else (some false)))) else (some false))) else (none)) else (some false))) = some r := H
        have A9 := Aside0.mk A90
        clear A90
        obtain ⟨y155, hy155⟩ : ∃ y_ : List (S35), y_ = (([(⟨(⟨#[]⟩ : ByteArray), (⟨#[]⟩ : ByteArray)⟩ : S35)] : List (S35))) := ⟨_, rfl⟩
        replace H : ((folkmootref03_Same.f k t152 y155).bind fun t158 => (if t158 = true then (if 0 < (t145.length : Int) then ((topo_Quorum.f ((rd_T37 t145 0).f0.f0) ((rd_T37 t145 0).f0.f1) ((rd_T37 t145 0).f1)).bind fun t160 => (if t160 = 2 then ((topo_Nodes.f t145 (([0, 1] : List Int))).bind fun t164 => ((folkmootref04_Ints.f k t164 (([1, 2, 3, 4, 5] : List Int))).bind fun t170 => (if t170 = true then ((topo_Check.f ([] : List (S37))).bind fun t171 => ((folkmootlaw04_num.f t171).bind fun t172 => (if t172 = 40 then ((topo_Keeps.f k t145 5 (([1] : List Int))).bind fun t176 => (if t176 = true then ((topo_Keeps.f k t145 5 (([0] : List Int))).bind fun t180 => (some (!t180))) else (some false))) else (some false)))) else (some false)))) else (some false))) else (none)) else (some false))) = some r := by first | (rw [hy155]; with_reducible exact H) | (have H2_ := (Option.bind_some _ _).symm.trans H; rw [hy155]; with_reducible exact H2_) | (have H2_ := (Option.bind_some _ _).symm.trans H; with_reducible exact H2_) | with_reducible exact H | (rw [hy155]; exact H) | exact H
        have Ny155 := Aside0.mk hy155
        clear hy155
        replace H := Option.bind_eq_some_iff.mp H
        obtain ⟨t158, A100, H⟩ := H
        replace H : (if t158 = true then (if 0 < (t145.length : Int) then ((topo_Quorum.f ((rd_T37 t145 0).f0.f0) ((rd_T37 t145 0).f0.f1) ((rd_T37 t145 0).f1)).bind fun t160 => (if t160 = 2 then ((topo_Nodes.f t145 (([0, 1] : List Int))).bind fun t164 => ((folkmootref04_Ints.f k t164 (([1, 2, 3, 4, 5] : List Int))).bind fun t170 => (if t170 = true then ((topo_Check.f ([] : List (S37))).bind fun t171 => ((folkmootlaw04_num.f t171).bind fun t172 => (if t172 = 40 then ((topo_Keeps.f k t145 5 (([1] : List Int))).bind fun t176 => (if t176 = true then ((topo_Keeps.f k t145 5 (([0] : List Int))).bind fun t180 => (some (!t180))) else (some false))) else (some false)))) else (some false)))) else (some false))) else (none)) else (some false)) = some r := H
        have A10 := Aside0.mk A100
        clear A100
        by_cases c11 : t158 = true
        · subst c11
          have H1 : (if 0 < (t145.length : Int) then ((topo_Quorum.f ((rd_T37 t145 0).f0.f0) ((rd_T37 t145 0).f0.f1) ((rd_T37 t145 0).f1)).bind fun t160 => (if t160 = 2 then ((topo_Nodes.f t145 (([0, 1] : List Int))).bind fun t164 => ((folkmootref04_Ints.f k t164 (([1, 2, 3, 4, 5] : List Int))).bind fun t170 => (if t170 = true then ((topo_Check.f ([] : List (S37))).bind fun t171 => ((folkmootlaw04_num.f t171).bind fun t172 => (if t172 = 40 then ((topo_Keeps.f k t145 5 (([1] : List Int))).bind fun t176 => (if t176 = true then ((topo_Keeps.f k t145 5 (([0] : List Int))).bind fun t180 => (some (!t180))) else (some false))) else (some false)))) else (some false)))) else (some false))) else (none)) = some r := by rw [if_pos rfl] at H; exact H
          clear H
          have H := H1
          clear H1
          by_cases c12 : 0 < (t145.length : Int)
          · rw [if_pos c12] at H
            have c12b0 : decide (0 < (t145.length : Int)) = true := decide_eq_true c12
            have c12b1 : decide (0 < t145.length) = true := decide_eq_true (by omega)
            clear c12
            replace H := Option.bind_eq_some_iff.mp H
            obtain ⟨t160, A130, H⟩ := H
            replace H : (if t160 = 2 then ((topo_Nodes.f t145 (([0, 1] : List Int))).bind fun t164 => ((folkmootref04_Ints.f k t164 (([1, 2, 3, 4, 5] : List Int))).bind fun t170 => (if t170 = true then ((topo_Check.f ([] : List (S37))).bind fun t171 => ((folkmootlaw04_num.f t171).bind fun t172 => (if t172 = 40 then ((topo_Keeps.f k t145 5 (([1] : List Int))).bind fun t176 => (if t176 = true then ((topo_Keeps.f k t145 5 (([0] : List Int))).bind fun t180 => (some (!t180))) else (some false))) else (some false)))) else (some false)))) else (some false)) = some r := H
            have A13 := Aside0.mk A130
            clear A130
            by_cases c14 : t160 = 2
            · rw [if_pos c14] at H
              have c14b0 : (t160 == 2) = true := beq_iff_eq.mpr c14
              (try (have c14e : (t160 = 2) := by simpa using c14))
              have c14b1 : (t160 != 2) = false := bne_eq_false_iff_eq.mpr c14
              clear c14
              obtain ⟨y161, hy161⟩ : ∃ y_ : List Int, y_ = (([0, 1] : List Int)) := ⟨_, rfl⟩
              replace H : ((topo_Nodes.f t145 y161).bind fun t164 => ((folkmootref04_Ints.f k t164 (([1, 2, 3, 4, 5] : List Int))).bind fun t170 => (if t170 = true then ((topo_Check.f ([] : List (S37))).bind fun t171 => ((folkmootlaw04_num.f t171).bind fun t172 => (if t172 = 40 then ((topo_Keeps.f k t145 5 (([1] : List Int))).bind fun t176 => (if t176 = true then ((topo_Keeps.f k t145 5 (([0] : List Int))).bind fun t180 => (some (!t180))) else (some false))) else (some false)))) else (some false)))) = some r := by first | (rw [hy161]; with_reducible exact H) | (have H2_ := (Option.bind_some _ _).symm.trans H; rw [hy161]; with_reducible exact H2_) | (have H2_ := (Option.bind_some _ _).symm.trans H; with_reducible exact H2_) | with_reducible exact H | (rw [hy161]; exact H) | exact H
              have Ny161 := Aside0.mk hy161
              clear hy161
              replace H := Option.bind_eq_some_iff.mp H
              obtain ⟨t164, A150, H⟩ := H
              replace H : ((folkmootref04_Ints.f k t164 (([1, 2, 3, 4, 5] : List Int))).bind fun t170 => (if t170 = true then ((topo_Check.f ([] : List (S37))).bind fun t171 => ((folkmootlaw04_num.f t171).bind fun t172 => (if t172 = 40 then ((topo_Keeps.f k t145 5 (([1] : List Int))).bind fun t176 => (if t176 = true then ((topo_Keeps.f k t145 5 (([0] : List Int))).bind fun t180 => (some (!t180))) else (some false))) else (some false)))) else (some false))) = some r := H
              have A15 := Aside0.mk A150
              clear A150
              obtain ⟨y167, hy167⟩ : ∃ y_ : List Int, y_ = (([1, 2, 3, 4, 5] : List Int)) := ⟨_, rfl⟩
              replace H : ((folkmootref04_Ints.f k t164 y167).bind fun t170 => (if t170 = true then ((topo_Check.f ([] : List (S37))).bind fun t171 => ((folkmootlaw04_num.f t171).bind fun t172 => (if t172 = 40 then ((topo_Keeps.f k t145 5 (([1] : List Int))).bind fun t176 => (if t176 = true then ((topo_Keeps.f k t145 5 (([0] : List Int))).bind fun t180 => (some (!t180))) else (some false))) else (some false)))) else (some false))) = some r := by first | (rw [hy167]; with_reducible exact H) | (have H2_ := (Option.bind_some _ _).symm.trans H; rw [hy167]; with_reducible exact H2_) | (have H2_ := (Option.bind_some _ _).symm.trans H; with_reducible exact H2_) | with_reducible exact H | (rw [hy167]; exact H) | exact H
              have Ny167 := Aside0.mk hy167
              clear hy167
              replace H := Option.bind_eq_some_iff.mp H
              obtain ⟨t170, A160, H⟩ := H
              replace H : (if t170 = true then ((topo_Check.f ([] : List (S37))).bind fun t171 => ((folkmootlaw04_num.f t171).bind fun t172 => (if t172 = 40 then ((topo_Keeps.f k t145 5 (([1] : List Int))).bind fun t176 => (if t176 = true then ((topo_Keeps.f k t145 5 (([0] : List Int))).bind fun t180 => (some (!t180))) else (some false))) else (some false)))) else (some false)) = some r := H
              have A16 := Aside0.mk A160
              clear A160
              by_cases c17 : t170 = true
              · subst c17
                have H1 : ((topo_Check.f ([] : List (S37))).bind fun t171 => ((folkmootlaw04_num.f t171).bind fun t172 => (if t172 = 40 then ((topo_Keeps.f k t145 5 (([1] : List Int))).bind fun t176 => (if t176 = true then ((topo_Keeps.f k t145 5 (([0] : List Int))).bind fun t180 => (some (!t180))) else (some false))) else (some false)))) = some r := by rw [if_pos rfl] at H; exact H
                clear H
                have H := H1
                clear H1
                replace H := Option.bind_eq_some_iff.mp H
                obtain ⟨t171, A180, H⟩ := H
                replace H : ((folkmootlaw04_num.f t171).bind fun t172 => (if t172 = 40 then ((topo_Keeps.f k t145 5 (([1] : List Int))).bind fun t176 => (if t176 = true then ((topo_Keeps.f k t145 5 (([0] : List Int))).bind fun t180 => (some (!t180))) else (some false))) else (some false))) = some r := H
                have A18 := Aside0.mk A180
                clear A180
                replace H := Option.bind_eq_some_iff.mp H
                obtain ⟨t172, A190, H⟩ := H
                replace H : (if t172 = 40 then ((topo_Keeps.f k t145 5 (([1] : List Int))).bind fun t176 => (if t176 = true then ((topo_Keeps.f k t145 5 (([0] : List Int))).bind fun t180 => (some (!t180))) else (some false))) else (some false)) = some r := H
                have A19 := Aside0.mk A190
                clear A190
                by_cases c20 : t172 = 40
                · rw [if_pos c20] at H
                  have c20b0 : (t172 == 40) = true := beq_iff_eq.mpr c20
                  (try (have c20e : (t172 = 40) := by simpa using c20))
                  have c20b1 : (t172 != 40) = false := bne_eq_false_iff_eq.mpr c20
                  clear c20
                  obtain ⟨y173, hy173⟩ : ∃ y_ : List Int, y_ = (([1] : List Int)) := ⟨_, rfl⟩
                  replace H : ((topo_Keeps.f k t145 5 y173).bind fun t176 => (if t176 = true then ((topo_Keeps.f k t145 5 (([0] : List Int))).bind fun t180 => (some (!t180))) else (some false))) = some r := by first | (rw [hy173]; with_reducible exact H) | (have H2_ := (Option.bind_some _ _).symm.trans H; rw [hy173]; with_reducible exact H2_) | (have H2_ := (Option.bind_some _ _).symm.trans H; with_reducible exact H2_) | with_reducible exact H | (rw [hy173]; exact H) | exact H
                  have Ny173 := Aside0.mk hy173
                  clear hy173
                  replace H := Option.bind_eq_some_iff.mp H
                  obtain ⟨t176, A210, H⟩ := H
                  replace H : (if t176 = true then ((topo_Keeps.f k t145 5 (([0] : List Int))).bind fun t180 => (some (!t180))) else (some false)) = some r := H
                  have A21 := Aside0.mk A210
                  clear A210
                  by_cases c22 : t176 = true
                  · subst c22
                    have H1 : ((topo_Keeps.f k t145 5 (([0] : List Int))).bind fun t180 => (some (!t180))) = some r := by rw [if_pos rfl] at H; exact H
                    clear H
                    have H := H1
                    clear H1
                    obtain ⟨y177, hy177⟩ : ∃ y_ : List Int, y_ = (([0] : List Int)) := ⟨_, rfl⟩
                    replace H : ((topo_Keeps.f k t145 5 y177).bind fun t180 => (some (!t180))) = some r := by first | (rw [hy177]; with_reducible exact H) | (have H2_ := (Option.bind_some _ _).symm.trans H; rw [hy177]; with_reducible exact H2_) | (have H2_ := (Option.bind_some _ _).symm.trans H; with_reducible exact H2_) | with_reducible exact H | (rw [hy177]; exact H) | exact H
                    have Ny177 := Aside0.mk hy177
                    clear hy177
                    replace H := Option.bind_eq_some_iff.mp H
                    obtain ⟨t180, A230, H⟩ := H
                    replace H : (some (!t180)) = some r := H
                    have A23 := Aside0.mk A230
                    clear A230
                    obtain rfl := Option.some.inj H
                    go_enter Try.func10, Try.ntmps10
                    go_wp2_with (first | ((with_reducible refine gate_callee (f := 31) rfl ?_); refine goesL_ (some 2) rfl rfl Try.func31 (by kernel_rfl) rfl #[] rfl (by (try simp only [List.map_toArray, List.map_cons, List.map_nil]); first | done | rfl | (simp only [List.length_drop, List.length_take]; rfl)) ?_; (with_reducible refine (folkmootlaw04_two.calls  t145 _ A1.out).mono ?_); rintro e w24 ⟨v146, rfl, ho0, hb⟩; refine ⟨_, rfl, ?_⟩; have HO147 := Aside0.mk (Kd.N_lower (Kd.N_mono (ok' := fun k_ => True) ho0 (fun k_ hk_ => trivial)) (below_size (uB HB))); replace HB := sB HB hb; (try clear hb); (try clear hb2); (try clear hk); (try clear hi); (try clear ho0); obtain ⟨Ao25, co25, eo25⟩ := Kd.N_slice HO147.out; subst eo25) | ((with_reducible refine gate_callee (f := 12) rfl ?_); refine goesL_ (some 4) rfl rfl Try.func12 (by kernel_rfl) rfl #[.slice Ao25 t145.length co25] rfl (by (try simp only [List.map_toArray, List.map_cons, List.map_nil]); first | done | rfl | (simp only [List.length_drop, List.length_take]; rfl)) ?_; (with_reducible refine (topo_Check.calls _ _ t145 t148 _ ?side1 ?side2 A2.out).mono ?_); (case side1 => exact uC (Kd.N_reads' HO147.out).2.2); (case side2 => exact (Kd.N_reads' HO147.out).2.1); rintro e w26 ⟨rfl, hb⟩; refine ⟨_, rfl, ?_⟩; replace HO147 := Aside0.mk (Kd.N_below (by (with_reducible repeat (first | apply Kd.N_alloc | apply Kd.N_drewN | apply Kd.N_drew)); exact HO147.out) hb); replace HB := sB HB hb; (try clear hb); (try clear hb2); (try clear hk); (try clear hi)) | ((with_reducible refine gate_callee (f := 11) rfl ?_); refine goesL_ (some 5) rfl rfl Try.func11 (by kernel_rfl) rfl #[.int .i64 t148] rfl (by (try simp only [List.map_toArray, List.map_cons, List.map_nil]); first | done | rfl | (simp only [List.length_drop, List.length_take]; rfl)) ?_; (with_reducible refine (folkmootlaw04_num.calls t148 t149 _ A3.out).mono ?_); rintro e w' ⟨rfl, ⟨nd, rfl⟩⟩; refine ⟨_, rfl, ?_⟩) | (go_at_call 22; (with_reducible refine (topo_Find.calls _ _ t145 (⟨#[107]⟩ : ByteArray) t150 _ ?side1 ?side2 A5.out).mono ?_); (case side1 => exact uC (Kd.N_reads' HO147.out).2.2); (case side2 => exact (Kd.N_reads' HO147.out).2.1); rintro e w27 ⟨rfl, hb⟩; replace HO147 := Aside0.mk (Kd.N_below (by (with_reducible repeat (first | apply Kd.N_alloc | apply Kd.N_drewN | apply Kd.N_drew)); exact HO147.out) hb); replace HB := sB HB hb; (try clear hb); (try clear hb2); (try clear hk); (try clear hi)) | (go_at_call 22; (with_reducible refine (topo_Find.calls _ _ t145 (⟨#[109]⟩ : ByteArray) t151 _ ?side1 ?side2 A7.out).mono ?_); (case side1 => exact uC (Kd.N_reads' HO147.out).2.2); (case side2 => exact (Kd.N_reads' HO147.out).2.1); rintro e w28 ⟨rfl, hb⟩; replace HO147 := Aside0.mk (Kd.N_below (by (with_reducible repeat (first | apply Kd.N_alloc | apply Kd.N_drewN | apply Kd.N_drew)); exact HO147.out) hb); replace HB := sB HB hb; (try clear hb); (try clear hb2); (try clear hk); (try clear hi)) | (go_at_call 14; (with_reducible refine (topo_Owned.calls k _ _ t145 3 t152 _ ?side1 ?side2 A9.out).mono ?_); (case side1 => exact uC (Kd.N_reads' HO147.out).2.2); (case side2 => exact (Kd.N_reads' HO147.out).2.1); rintro e w29 ⟨v153, rfl, ho0, hb⟩; replace HO147 := Aside0.mk (Kd.N_elder' (by (with_reducible repeat (first | apply Kd.N_alloc | apply Kd.N_drewN | apply Kd.N_drew)); exact HO147.out) (Kd.R_base ho0) hb); have HO154 := lR ho0 HB; replace HB := sB HB hb; (try clear hb); (try clear hb2); (try clear hk); (try clear hi); (try clear ho0)) | ((with_reducible refine gate_dst (N := 21) rfl ?_); (try (refine gate_guard (by rfl) ?_; dsimp only)); refine Kd.R_lit k35 _ 35 ?hg (N := 21) ?hd (xs := ([(⟨(⟨#[]⟩ : ByteArray), (⟨#[]⟩ : ByteArray)⟩ : S35)] : List (S35))) (inner := [.string (⟨#[]⟩ : ByteArray), .string (⟨#[]⟩ : ByteArray)]) (ok := fun _ => True) (okp := fun _ => True) ?hr ?hp (fun _ hk => hk) trivial (Below.refl _ _) (Nat.le_refl _) (by simp) ?_; (case hd => rfl); (case hg => rfl); (case hr => first | (go_simp; done) | (go_simp; rfl)); (case hp => exact (Reps.c2 (show Kd.M k35 _ _ _ (⟨(⟨#[]⟩ : ByteArray), (⟨#[]⟩ : ByteArray)⟩ : S35) [.string (⟨#[]⟩ : ByteArray), .string (⟨#[]⟩ : ByteArray)] from (k35_mkM _ _ _ (⟨(⟨#[]⟩ : ByteArray), (⟨#[]⟩ : ByteArray)⟩ : S35) )) (Reps.none _ _))); intro v156 w30 ho31 hb hg_ hnew_; clear hg_ hnew_; (first | rw [← Ny155.out] at ho31 | (simp only [Int.reduceToNat] at ho31; rw [← Ny155.out] at ho31)); replace HO147 := Aside0.mk (Kd.N_elder' (by (with_reducible repeat (first | apply Kd.N_alloc | apply Kd.N_drewN | apply Kd.N_drew)); exact HO147.out) (Kd.R_base ho31) hb); have HO157 := lR (nR ho31 HO154) HB; replace HO154 := eR HO154 ho31 hb; replace HB := sB HB hb; clear hb ho31; obtain ⟨Ao32, co32, eo32⟩ := Kd.R_slice HO154.out; subst eo32; obtain ⟨Ao33, co33, eo33⟩ := Kd.R_slice HO157.out; subst eo33) | (go_at_call 16; (with_reducible refine (folkmootref03_Same.calls k _ _ t152 _ _ y155 true _ ?side1 ?side2 ?side3 ?side4 A10.out).mono ?_); (case side1 => exact uC (Kd.R_reads' HO154.out).2.2); (case side2 => exact (Kd.R_reads' HO154.out).2.1); (case side3 => exact uC (Kd.R_reads' HO157.out).2.2); (case side4 => exact (Kd.R_reads' HO157.out).2.1); rintro e w' ⟨rfl, ⟨nd, rfl⟩⟩; have p159 : 0 ≤ (0 : Int) := (by omega); have q159 : 0 < (t145.length : Int) := of_decide_eq_true (by first | (with_reducible assumption) | assumption); obtain ⟨ad159, A159_2, c159_2, e159, hx159_0, hx159_1, hx159_2, hl159_2, hi159_2⟩ := at_T37 (Kd.N_reads' HO147.out).2.2 0 p159 q159; cases e159; obtain ⟨ce159, hce159, hMe159, hcc159⟩ := Kd.N_get HO147.out z37 0 p159 (by first | exact q159 | exact of_decide_eq_true (by first | (with_reducible assumption) | assumption) | (have e_ := (Kd.N_reads' HO147.out).1; omega)); obtain ⟨ua159_2, uc159_2, rfl, ul159_2, ge159_2⟩ := k37_openF hMe159; have hv159_2 := hcc159 2 _ rfl; rw [add_field _ _ 2 (by omega)] at hv159_2; replace hv159_2 := Option.some.inj (hv159_2.symm.trans hx159_2); injection hv159_2 with hva_ hvn_ hvc_; rw [hva_] at ge159_2; rw [hvc_] at ul159_2; have HL159_2 := Aside0.mk (show Kd.V (Kd.int .i64) 3 _ w.heap.size _ _ ((rd_T37 t145 0).f1) from Kd.V_mk ul159_2 ge159_2); clear hva_ hvn_ hvc_ ge159_2 ul159_2; clear hcc159 hce159; have qi159 : (0 < t145.length) = True := eq_true (by omega); (try rw [show ((0 : Int)).toNat = 0 from rfl] at hx159_0); (try rw [show 0 * 3 = 0 from rfl] at hx159_0); (try rw [Addr.add_zero'] at hx159_0); (try rw [show ((0 : Int)).toNat = 0 from rfl] at hx159_1); (try rw [show 0 * 3 = 0 from rfl] at hx159_1); (try rw [Addr.add_zero'] at hx159_1); (try rw [show ((0 : Int)).toNat = 0 from rfl] at hx159_2); (try rw [show 0 * 3 = 0 from rfl] at hx159_2); (try rw [Addr.add_zero'] at hx159_2); have HR159_2 := Aside0.mk hi159_2; have HC159_2 := Aside0.mk hl159_2; clear hi159_2 hl159_2; replace p159 := eq_true p159; replace q159 := eq_true q159) | (go_at_call 21; (with_reducible refine (topo_Quorum.calls ((rd_T37 t145 0).f0.f0) ((rd_T37 t145 0).f0.f1) _ _ ((rd_T37 t145 0).f1) t160 _ ?side1 ?side2 A13.out).mono ?_); (case side1 => exact uC (by repeat (first | (with_reducible exact HR159_2.out) | (with_reducible refine Kd.C_alloc ?_ _) | (with_reducible refine Kd.C_drewN ?_ _) | (with_reducible refine Kd.C_drew ?_) | exact HR159_2.out))); (case side2 => exact HC159_2.out); rintro e w34 ⟨rfl, hb⟩; replace HO147 := Aside0.mk (Kd.N_below (by (with_reducible repeat (first | apply Kd.N_alloc | apply Kd.N_drewN | apply Kd.N_drew)); exact HO147.out) hb); replace HO154 := bR HO154 hb; replace HO157 := bR HO157 hb; replace HL159_2 := Aside0.mk (Kd.V_below (by (with_reducible repeat (first | apply Kd.V_alloc | apply Kd.V_drewN | apply Kd.V_drew)); exact HL159_2.out) hb); replace HR159_2 := Aside0.mk (Kd.C_below (by repeat (first | (with_reducible exact HR159_2.out) | (with_reducible refine Kd.C_alloc ?_ _) | (with_reducible refine Kd.C_drewN ?_ _) | (with_reducible refine Kd.C_drew ?_) | exact HR159_2.out)) hb); replace HB := sB HB hb; (try clear hb); (try clear hb2); (try clear hk); (try clear hi)) | ((with_reducible refine gate_dst (N := 33) rfl ?_); (try (refine gate_guard (by rfl) ?_; dsimp only)); refine Kd.R_lit (Kd.int .i64) _ 3 ?hg (N := 33) ?hd (xs := ([0, 1] : List Int)) (inner := [.int .i64 0, .int .i64 1]) (ok := fun _ => True) (okp := fun _ => True) ?hr ?hp (fun _ hk => hk) trivial (Below.refl _ _) (Nat.le_refl _) (by simp) ?_; (case hd => rfl); (case hg => rfl); (case hr => first | (go_simp; done) | (go_simp; rfl)); (case hp => exact (Reps.one (show Kd.M (Kd.int .i64) _ _ _ 0 [.int .i64 0] from rfl) (Reps.one (show Kd.M (Kd.int .i64) _ _ _ 1 [.int .i64 1] from rfl) (Reps.none _ _)))); intro v162 w35 ho36 hb hg_ hnew_; clear hg_ hnew_; (first | rw [← Ny161.out] at ho36 | (simp only [Int.reduceToNat] at ho36; rw [← Ny161.out] at ho36)); replace HO147 := Aside0.mk (Kd.N_elder' (by (with_reducible repeat (first | apply Kd.N_alloc | apply Kd.N_drewN | apply Kd.N_drew)); exact HO147.out) (Kd.R_base ho36) hb); replace HO154 := bR HO154 hb; replace HO157 := bR HO157 hb; replace HL159_2 := Aside0.mk (Kd.V_elder' (by (with_reducible repeat (first | apply Kd.V_alloc | apply Kd.V_drewN | apply Kd.V_drew)); exact HL159_2.out) (Kd.R_base ho36) hb); have HO163 := lR ho36 HB; replace HR159_2 := Aside0.mk (Kd.C_below (by repeat (first | (with_reducible exact HR159_2.out) | (with_reducible refine Kd.C_alloc ?_ _) | (with_reducible refine Kd.C_drewN ?_ _) | (with_reducible refine Kd.C_drew ?_) | exact HR159_2.out)) hb); replace HB := sB HB hb; clear hb ho36; obtain ⟨Ao37, co37, eo37⟩ := Kd.R_slice HO163.out; subst eo37) | (go_at_call 18; (with_reducible refine (topo_Nodes.calls _ _ t145 _ _ y161 t164 _ ?side1 ?side2 ?side3 ?side4 A15.out).mono ?_); (case side1 => exact uC (Kd.N_reads' HO147.out).2.2); (case side2 => exact (Kd.N_reads' HO147.out).2.1); (case side3 => exact uC (Kd.R_reads' HO163.out).2.2); (case side4 => exact (Kd.R_reads' HO163.out).2.1); rintro e w38 ⟨v165, rfl, ho0, hb⟩; replace HO147 := Aside0.mk (Kd.N_elder' (by (with_reducible repeat (first | apply Kd.N_alloc | apply Kd.N_drewN | apply Kd.N_drew)); exact HO147.out) (Kd.R_base ho0) hb); replace HO154 := bR HO154 hb; replace HO157 := bR HO157 hb; replace HL159_2 := Aside0.mk (Kd.V_elder' (by (with_reducible repeat (first | apply Kd.V_alloc | apply Kd.V_drewN | apply Kd.V_drew)); exact HL159_2.out) (Kd.R_base ho0) hb); have HO166 := lR (nR ho0 HO163) HB; replace HO163 := eR HO163 ho0 hb; replace HR159_2 := Aside0.mk (Kd.C_below (by repeat (first | (with_reducible exact HR159_2.out) | (with_reducible refine Kd.C_alloc ?_ _) | (with_reducible refine Kd.C_drewN ?_ _) | (with_reducible refine Kd.C_drew ?_) | exact HR159_2.out)) hb); replace HB := sB HB hb; (try clear hb); (try clear hb2); (try clear hk); (try clear hi); (try clear ho0)) | ((with_reducible refine gate_dst (N := 35) rfl ?_); (try (refine gate_guard (by rfl) ?_; dsimp only)); refine Kd.R_lit (Kd.int .i64) _ 3 ?hg (N := 35) ?hd (xs := ([1, 2, 3, 4, 5] : List Int)) (inner := [.int .i64 1, .int .i64 2, .int .i64 3, .int .i64 4, .int .i64 5]) (ok := fun _ => True) (okp := fun _ => True) ?hr ?hp (fun _ hk => hk) trivial (Below.refl _ _) (Nat.le_refl _) (by simp) ?_; (case hd => rfl); (case hg => rfl); (case hr => first | (go_simp; done) | (go_simp; rfl)); (case hp => exact (Reps.one (show Kd.M (Kd.int .i64) _ _ _ 1 [.int .i64 1] from rfl) (Reps.one (show Kd.M (Kd.int .i64) _ _ _ 2 [.int .i64 2] from rfl) (Reps.one (show Kd.M (Kd.int .i64) _ _ _ 3 [.int .i64 3] from rfl) (Reps.one (show Kd.M (Kd.int .i64) _ _ _ 4 [.int .i64 4] from rfl) (Reps.one (show Kd.M (Kd.int .i64) _ _ _ 5 [.int .i64 5] from rfl) (Reps.none _ _))))))); intro v168 w39 ho40 hb hg_ hnew_; clear hg_ hnew_; (first | rw [← Ny167.out] at ho40 | (simp only [Int.reduceToNat] at ho40; rw [← Ny167.out] at ho40)); replace HO147 := Aside0.mk (Kd.N_elder' (by (with_reducible repeat (first | apply Kd.N_alloc | apply Kd.N_drewN | apply Kd.N_drew)); exact HO147.out) (Kd.R_base ho40) hb); replace HO154 := bR HO154 hb; replace HO157 := bR HO157 hb; replace HL159_2 := Aside0.mk (Kd.V_elder' (by (with_reducible repeat (first | apply Kd.V_alloc | apply Kd.V_drewN | apply Kd.V_drew)); exact HL159_2.out) (Kd.R_base ho40) hb); have HO169 := lR (nR (nR ho40 HO163) HO166) HB; replace HO163 := eR HO163 ho40 hb; replace HO166 := eR HO166 ho40 hb; replace HR159_2 := Aside0.mk (Kd.C_below (by repeat (first | (with_reducible exact HR159_2.out) | (with_reducible refine Kd.C_alloc ?_ _) | (with_reducible refine Kd.C_drewN ?_ _) | (with_reducible refine Kd.C_drew ?_) | exact HR159_2.out)) hb); replace HB := sB HB hb; clear hb ho40; obtain ⟨Ao41, co41, eo41⟩ := Kd.R_slice HO166.out; subst eo41; obtain ⟨Ao42, co42, eo42⟩ := Kd.R_slice HO169.out; subst eo42) | (go_at_call 24; (with_reducible refine (folkmootref04_Ints.calls k _ _ t164 _ _ y167 true _ ?side1 ?side2 ?side3 ?side4 A16.out).mono ?_); (case side1 => exact uC (Kd.R_reads' HO166.out).2.2); (case side2 => exact (Kd.R_reads' HO166.out).2.1); (case side3 => exact uC (Kd.R_reads' HO169.out).2.2); (case side4 => exact (Kd.R_reads' HO169.out).2.1); rintro e w' ⟨rfl, ⟨nd, rfl⟩⟩) | (go_at_call 12; (refine (topo_Check.calls _ _ ([] : List (S37)) t171 _ ?side1 ?side2 A18.out).mono ?_); (case side1 => exact Kd.C_nil _ _); (case side2 => exact Nat.le_refl _); rintro e w43 ⟨rfl, hb⟩; replace HO147 := Aside0.mk (Kd.N_below (by (with_reducible repeat (first | apply Kd.N_alloc | apply Kd.N_drewN | apply Kd.N_drew)); exact HO147.out) hb); replace HO154 := bR HO154 hb; replace HO157 := bR HO157 hb; replace HL159_2 := Aside0.mk (Kd.V_below (by (with_reducible repeat (first | apply Kd.V_alloc | apply Kd.V_drewN | apply Kd.V_drew)); exact HL159_2.out) hb); replace HO163 := bR HO163 hb; replace HO166 := bR HO166 hb; replace HO169 := bR HO169 hb; replace HR159_2 := Aside0.mk (Kd.C_below (by repeat (first | (with_reducible exact HR159_2.out) | (with_reducible refine Kd.C_alloc ?_ _) | (with_reducible refine Kd.C_drewN ?_ _) | (with_reducible refine Kd.C_drew ?_) | exact HR159_2.out)) hb); replace HB := sB HB hb; (try clear hb); (try clear hb2); (try clear hk); (try clear hi)) | (go_at_call 11; (with_reducible refine (folkmootlaw04_num.calls t171 t172 _ A19.out).mono ?_); rintro e w' ⟨rfl, ⟨nd, rfl⟩⟩) | ((with_reducible refine gate_dst (N := 45) rfl ?_); (try (refine gate_guard (by rfl) ?_; dsimp only)); refine Kd.R_lit (Kd.int .i64) _ 3 ?hg (N := 45) ?hd (xs := ([1] : List Int)) (inner := [.int .i64 1]) (ok := fun _ => True) (okp := fun _ => True) ?hr ?hp (fun _ hk => hk) trivial (Below.refl _ _) (Nat.le_refl _) (by simp) ?_; (case hd => rfl); (case hg => rfl); (case hr => first | (go_simp; done) | (go_simp; rfl)); (case hp => exact (Reps.one (show Kd.M (Kd.int .i64) _ _ _ 1 [.int .i64 1] from rfl) (Reps.none _ _))); intro v174 w44 ho45 hb hg_ hnew_; clear hg_ hnew_; (first | rw [← Ny173.out] at ho45 | (simp only [Int.reduceToNat] at ho45; rw [← Ny173.out] at ho45)); replace HO147 := Aside0.mk (Kd.N_elder' (by (with_reducible repeat (first | apply Kd.N_alloc | apply Kd.N_drewN | apply Kd.N_drew)); exact HO147.out) (Kd.R_base ho45) hb); replace HO154 := bR HO154 hb; replace HO157 := bR HO157 hb; replace HL159_2 := Aside0.mk (Kd.V_elder' (by (with_reducible repeat (first | apply Kd.V_alloc | apply Kd.V_drewN | apply Kd.V_drew)); exact HL159_2.out) (Kd.R_base ho45) hb); have HO175 := lR (nR (nR (nR ho45 HO163) HO166) HO169) HB; replace HO163 := eR HO163 ho45 hb; replace HO166 := eR HO166 ho45 hb; replace HO169 := eR HO169 ho45 hb; replace HR159_2 := Aside0.mk (Kd.C_below (by repeat (first | (with_reducible exact HR159_2.out) | (with_reducible refine Kd.C_alloc ?_ _) | (with_reducible refine Kd.C_drewN ?_ _) | (with_reducible refine Kd.C_drew ?_) | exact HR159_2.out)) hb); replace HB := sB HB hb; clear hb ho45; obtain ⟨Ao46, co46, eo46⟩ := Kd.R_slice HO175.out; subst eo46) | (go_at_call 19; (with_reducible refine (topo_Keeps.calls k _ _ t145 5 _ _ y173 true _ ?side1 ?side2 ?side3 ?side4 A21.out).mono ?_); (case side1 => exact uC (Kd.N_reads' HO147.out).2.2); (case side2 => exact (Kd.N_reads' HO147.out).2.1); (case side3 => exact uC (Kd.R_reads' HO175.out).2.2); (case side4 => exact (Kd.R_reads' HO175.out).2.1); rintro e w47 ⟨rfl, hb⟩; replace HO147 := Aside0.mk (Kd.N_below (by (with_reducible repeat (first | apply Kd.N_alloc | apply Kd.N_drewN | apply Kd.N_drew)); exact HO147.out) hb); replace HO154 := bR HO154 hb; replace HO157 := bR HO157 hb; replace HL159_2 := Aside0.mk (Kd.V_below (by (with_reducible repeat (first | apply Kd.V_alloc | apply Kd.V_drewN | apply Kd.V_drew)); exact HL159_2.out) hb); replace HO163 := bR HO163 hb; replace HO166 := bR HO166 hb; replace HO169 := bR HO169 hb; replace HO175 := bR HO175 hb; replace HR159_2 := Aside0.mk (Kd.C_below (by repeat (first | (with_reducible exact HR159_2.out) | (with_reducible refine Kd.C_alloc ?_ _) | (with_reducible refine Kd.C_drewN ?_ _) | (with_reducible refine Kd.C_drew ?_) | exact HR159_2.out)) hb); replace HB := sB HB hb; (try clear hb); (try clear hb2); (try clear hk); (try clear hi)) | ((with_reducible refine gate_dst (N := 50) rfl ?_); (try (refine gate_guard (by rfl) ?_; dsimp only)); refine Kd.R_lit (Kd.int .i64) _ 3 ?hg (N := 50) ?hd (xs := ([0] : List Int)) (inner := [.int .i64 0]) (ok := fun _ => True) (okp := fun _ => True) ?hr ?hp (fun _ hk => hk) trivial (Below.refl _ _) (Nat.le_refl _) (by simp) ?_; (case hd => rfl); (case hg => rfl); (case hr => first | (go_simp; done) | (go_simp; rfl)); (case hp => exact (Reps.one (show Kd.M (Kd.int .i64) _ _ _ 0 [.int .i64 0] from rfl) (Reps.none _ _))); intro v178 w48 ho49 hb hg_ hnew_; clear hg_ hnew_; (first | rw [← Ny177.out] at ho49 | (simp only [Int.reduceToNat] at ho49; rw [← Ny177.out] at ho49)); replace HO147 := Aside0.mk (Kd.N_elder' (by (with_reducible repeat (first | apply Kd.N_alloc | apply Kd.N_drewN | apply Kd.N_drew)); exact HO147.out) (Kd.R_base ho49) hb); replace HO154 := bR HO154 hb; replace HO157 := bR HO157 hb; replace HL159_2 := Aside0.mk (Kd.V_elder' (by (with_reducible repeat (first | apply Kd.V_alloc | apply Kd.V_drewN | apply Kd.V_drew)); exact HL159_2.out) (Kd.R_base ho49) hb); have HO179 := lR (Kd.R_new' (nR (nR (nR ho49 HO163) HO166) HO169) (Kd.R_lt (uR HO175))) HB; replace HO163 := eR HO163 ho49 hb; replace HO166 := eR HO166 ho49 hb; replace HO169 := eR HO169 ho49 hb; replace HO175 := eR HO175 ho49 hb; replace HR159_2 := Aside0.mk (Kd.C_below (by repeat (first | (with_reducible exact HR159_2.out) | (with_reducible refine Kd.C_alloc ?_ _) | (with_reducible refine Kd.C_drewN ?_ _) | (with_reducible refine Kd.C_drew ?_) | exact HR159_2.out)) hb); replace HB := sB HB hb; clear hb ho49; obtain ⟨Ao50, co50, eo50⟩ := Kd.R_slice HO179.out; subst eo50) | (go_at_call 19; (with_reducible refine (topo_Keeps.calls k _ _ t145 5 _ _ y177 t180 _ ?side1 ?side2 ?side3 ?side4 A23.out).mono ?_); (case side1 => exact uC (Kd.N_reads' HO147.out).2.2); (case side2 => exact (Kd.N_reads' HO147.out).2.1); (case side3 => exact uC (Kd.R_reads' HO179.out).2.2); (case side4 => exact (Kd.R_reads' HO179.out).2.1); rintro e w51 ⟨rfl, hb⟩; replace HO147 := Aside0.mk (Kd.N_below (by (with_reducible repeat (first | apply Kd.N_alloc | apply Kd.N_drewN | apply Kd.N_drew)); exact HO147.out) hb); replace HO154 := bR HO154 hb; replace HO157 := bR HO157 hb; replace HL159_2 := Aside0.mk (Kd.V_below (by (with_reducible repeat (first | apply Kd.V_alloc | apply Kd.V_drewN | apply Kd.V_drew)); exact HL159_2.out) hb); replace HO163 := bR HO163 hb; replace HO166 := bR HO166 hb; replace HO169 := bR HO169 hb; replace HO175 := bR HO175 hb; replace HO179 := bR HO179 hb; replace HR159_2 := Aside0.mk (Kd.C_below (by repeat (first | (with_reducible exact HR159_2.out) | (with_reducible refine Kd.C_alloc ?_ _) | (with_reducible refine Kd.C_drewN ?_ _) | (with_reducible refine Kd.C_drew ?_) | exact HR159_2.out)) hb); replace HB := sB HB hb; (try clear hb); (try clear hb2); (try clear hk); (try clear hi)))
                    go_ret
                    exact ⟨by first | rfl | (simp [errW_none, errW_some] <;> rfl) | (simp [*, errW_none, errW_some] <;> rfl), by repeat (first | (with_reducible first | exact HB.out | apply below_alloc | apply pw_below_drewN | apply below_drew1) | exact HB.out)⟩
                  · replace c22 := Bool.eq_false_iff.mpr c22
                    subst c22
                    have H1 : (some false) = some r := by rw [if_neg (show ¬ (false = true) by decide)] at H; exact H
                    clear H
                    have H := H1
                    clear H1
                    obtain rfl := Option.some.inj H
                    go_enter Try.func10, Try.ntmps10
                    go_wp2_with (first | ((with_reducible refine gate_callee (f := 31) rfl ?_); refine goesL_ (some 2) rfl rfl Try.func31 (by kernel_rfl) rfl #[] rfl (by (try simp only [List.map_toArray, List.map_cons, List.map_nil]); first | done | rfl | (simp only [List.length_drop, List.length_take]; rfl)) ?_; (with_reducible refine (folkmootlaw04_two.calls  t145 _ A1.out).mono ?_); rintro e w52 ⟨v146, rfl, ho0, hb⟩; refine ⟨_, rfl, ?_⟩; have HO147 := Aside0.mk (Kd.N_lower (Kd.N_mono (ok' := fun k_ => True) ho0 (fun k_ hk_ => trivial)) (below_size (uB HB))); replace HB := sB HB hb; (try clear hb); (try clear hb2); (try clear hk); (try clear hi); (try clear ho0); obtain ⟨Ao53, co53, eo53⟩ := Kd.N_slice HO147.out; subst eo53) | ((with_reducible refine gate_callee (f := 12) rfl ?_); refine goesL_ (some 4) rfl rfl Try.func12 (by kernel_rfl) rfl #[.slice Ao53 t145.length co53] rfl (by (try simp only [List.map_toArray, List.map_cons, List.map_nil]); first | done | rfl | (simp only [List.length_drop, List.length_take]; rfl)) ?_; (with_reducible refine (topo_Check.calls _ _ t145 t148 _ ?side1 ?side2 A2.out).mono ?_); (case side1 => exact uC (Kd.N_reads' HO147.out).2.2); (case side2 => exact (Kd.N_reads' HO147.out).2.1); rintro e w54 ⟨rfl, hb⟩; refine ⟨_, rfl, ?_⟩; replace HO147 := Aside0.mk (Kd.N_below (by (with_reducible repeat (first | apply Kd.N_alloc | apply Kd.N_drewN | apply Kd.N_drew)); exact HO147.out) hb); replace HB := sB HB hb; (try clear hb); (try clear hb2); (try clear hk); (try clear hi)) | ((with_reducible refine gate_callee (f := 11) rfl ?_); refine goesL_ (some 5) rfl rfl Try.func11 (by kernel_rfl) rfl #[.int .i64 t148] rfl (by (try simp only [List.map_toArray, List.map_cons, List.map_nil]); first | done | rfl | (simp only [List.length_drop, List.length_take]; rfl)) ?_; (with_reducible refine (folkmootlaw04_num.calls t148 t149 _ A3.out).mono ?_); rintro e w' ⟨rfl, ⟨nd, rfl⟩⟩; refine ⟨_, rfl, ?_⟩) | (go_at_call 22; (with_reducible refine (topo_Find.calls _ _ t145 (⟨#[107]⟩ : ByteArray) t150 _ ?side1 ?side2 A5.out).mono ?_); (case side1 => exact uC (Kd.N_reads' HO147.out).2.2); (case side2 => exact (Kd.N_reads' HO147.out).2.1); rintro e w55 ⟨rfl, hb⟩; replace HO147 := Aside0.mk (Kd.N_below (by (with_reducible repeat (first | apply Kd.N_alloc | apply Kd.N_drewN | apply Kd.N_drew)); exact HO147.out) hb); replace HB := sB HB hb; (try clear hb); (try clear hb2); (try clear hk); (try clear hi)) | (go_at_call 22; (with_reducible refine (topo_Find.calls _ _ t145 (⟨#[109]⟩ : ByteArray) t151 _ ?side1 ?side2 A7.out).mono ?_); (case side1 => exact uC (Kd.N_reads' HO147.out).2.2); (case side2 => exact (Kd.N_reads' HO147.out).2.1); rintro e w56 ⟨rfl, hb⟩; replace HO147 := Aside0.mk (Kd.N_below (by (with_reducible repeat (first | apply Kd.N_alloc | apply Kd.N_drewN | apply Kd.N_drew)); exact HO147.out) hb); replace HB := sB HB hb; (try clear hb); (try clear hb2); (try clear hk); (try clear hi)) | (go_at_call 14; (with_reducible refine (topo_Owned.calls k _ _ t145 3 t152 _ ?side1 ?side2 A9.out).mono ?_); (case side1 => exact uC (Kd.N_reads' HO147.out).2.2); (case side2 => exact (Kd.N_reads' HO147.out).2.1); rintro e w57 ⟨v153, rfl, ho0, hb⟩; replace HO147 := Aside0.mk (Kd.N_elder' (by (with_reducible repeat (first | apply Kd.N_alloc | apply Kd.N_drewN | apply Kd.N_drew)); exact HO147.out) (Kd.R_base ho0) hb); have HO154 := lR ho0 HB; replace HB := sB HB hb; (try clear hb); (try clear hb2); (try clear hk); (try clear hi); (try clear ho0)) | ((with_reducible refine gate_dst (N := 21) rfl ?_); (try (refine gate_guard (by rfl) ?_; dsimp only)); refine Kd.R_lit k35 _ 35 ?hg (N := 21) ?hd (xs := ([(⟨(⟨#[]⟩ : ByteArray), (⟨#[]⟩ : ByteArray)⟩ : S35)] : List (S35))) (inner := [.string (⟨#[]⟩ : ByteArray), .string (⟨#[]⟩ : ByteArray)]) (ok := fun _ => True) (okp := fun _ => True) ?hr ?hp (fun _ hk => hk) trivial (Below.refl _ _) (Nat.le_refl _) (by simp) ?_; (case hd => rfl); (case hg => rfl); (case hr => first | (go_simp; done) | (go_simp; rfl)); (case hp => exact (Reps.c2 (show Kd.M k35 _ _ _ (⟨(⟨#[]⟩ : ByteArray), (⟨#[]⟩ : ByteArray)⟩ : S35) [.string (⟨#[]⟩ : ByteArray), .string (⟨#[]⟩ : ByteArray)] from (k35_mkM _ _ _ (⟨(⟨#[]⟩ : ByteArray), (⟨#[]⟩ : ByteArray)⟩ : S35) )) (Reps.none _ _))); intro v156 w58 ho59 hb hg_ hnew_; clear hg_ hnew_; (first | rw [← Ny155.out] at ho59 | (simp only [Int.reduceToNat] at ho59; rw [← Ny155.out] at ho59)); replace HO147 := Aside0.mk (Kd.N_elder' (by (with_reducible repeat (first | apply Kd.N_alloc | apply Kd.N_drewN | apply Kd.N_drew)); exact HO147.out) (Kd.R_base ho59) hb); have HO157 := lR (nR ho59 HO154) HB; replace HO154 := eR HO154 ho59 hb; replace HB := sB HB hb; clear hb ho59; obtain ⟨Ao60, co60, eo60⟩ := Kd.R_slice HO154.out; subst eo60; obtain ⟨Ao61, co61, eo61⟩ := Kd.R_slice HO157.out; subst eo61) | (go_at_call 16; (with_reducible refine (folkmootref03_Same.calls k _ _ t152 _ _ y155 true _ ?side1 ?side2 ?side3 ?side4 A10.out).mono ?_); (case side1 => exact uC (Kd.R_reads' HO154.out).2.2); (case side2 => exact (Kd.R_reads' HO154.out).2.1); (case side3 => exact uC (Kd.R_reads' HO157.out).2.2); (case side4 => exact (Kd.R_reads' HO157.out).2.1); rintro e w' ⟨rfl, ⟨nd, rfl⟩⟩; have p159 : 0 ≤ (0 : Int) := (by omega); have q159 : 0 < (t145.length : Int) := of_decide_eq_true (by first | (with_reducible assumption) | assumption); obtain ⟨ad159, A159_2, c159_2, e159, hx159_0, hx159_1, hx159_2, hl159_2, hi159_2⟩ := at_T37 (Kd.N_reads' HO147.out).2.2 0 p159 q159; cases e159; obtain ⟨ce159, hce159, hMe159, hcc159⟩ := Kd.N_get HO147.out z37 0 p159 (by first | exact q159 | exact of_decide_eq_true (by first | (with_reducible assumption) | assumption) | (have e_ := (Kd.N_reads' HO147.out).1; omega)); obtain ⟨ua159_2, uc159_2, rfl, ul159_2, ge159_2⟩ := k37_openF hMe159; have hv159_2 := hcc159 2 _ rfl; rw [add_field _ _ 2 (by omega)] at hv159_2; replace hv159_2 := Option.some.inj (hv159_2.symm.trans hx159_2); injection hv159_2 with hva_ hvn_ hvc_; rw [hva_] at ge159_2; rw [hvc_] at ul159_2; have HL159_2 := Aside0.mk (show Kd.V (Kd.int .i64) 3 _ w.heap.size _ _ ((rd_T37 t145 0).f1) from Kd.V_mk ul159_2 ge159_2); clear hva_ hvn_ hvc_ ge159_2 ul159_2; clear hcc159 hce159; have qi159 : (0 < t145.length) = True := eq_true (by omega); (try rw [show ((0 : Int)).toNat = 0 from rfl] at hx159_0); (try rw [show 0 * 3 = 0 from rfl] at hx159_0); (try rw [Addr.add_zero'] at hx159_0); (try rw [show ((0 : Int)).toNat = 0 from rfl] at hx159_1); (try rw [show 0 * 3 = 0 from rfl] at hx159_1); (try rw [Addr.add_zero'] at hx159_1); (try rw [show ((0 : Int)).toNat = 0 from rfl] at hx159_2); (try rw [show 0 * 3 = 0 from rfl] at hx159_2); (try rw [Addr.add_zero'] at hx159_2); have HR159_2 := Aside0.mk hi159_2; have HC159_2 := Aside0.mk hl159_2; clear hi159_2 hl159_2; replace p159 := eq_true p159; replace q159 := eq_true q159) | (go_at_call 21; (with_reducible refine (topo_Quorum.calls ((rd_T37 t145 0).f0.f0) ((rd_T37 t145 0).f0.f1) _ _ ((rd_T37 t145 0).f1) t160 _ ?side1 ?side2 A13.out).mono ?_); (case side1 => exact uC (by repeat (first | (with_reducible exact HR159_2.out) | (with_reducible refine Kd.C_alloc ?_ _) | (with_reducible refine Kd.C_drewN ?_ _) | (with_reducible refine Kd.C_drew ?_) | exact HR159_2.out))); (case side2 => exact HC159_2.out); rintro e w62 ⟨rfl, hb⟩; replace HO147 := Aside0.mk (Kd.N_below (by (with_reducible repeat (first | apply Kd.N_alloc | apply Kd.N_drewN | apply Kd.N_drew)); exact HO147.out) hb); replace HO154 := bR HO154 hb; replace HO157 := bR HO157 hb; replace HL159_2 := Aside0.mk (Kd.V_below (by (with_reducible repeat (first | apply Kd.V_alloc | apply Kd.V_drewN | apply Kd.V_drew)); exact HL159_2.out) hb); replace HR159_2 := Aside0.mk (Kd.C_below (by repeat (first | (with_reducible exact HR159_2.out) | (with_reducible refine Kd.C_alloc ?_ _) | (with_reducible refine Kd.C_drewN ?_ _) | (with_reducible refine Kd.C_drew ?_) | exact HR159_2.out)) hb); replace HB := sB HB hb; (try clear hb); (try clear hb2); (try clear hk); (try clear hi)) | ((with_reducible refine gate_dst (N := 33) rfl ?_); (try (refine gate_guard (by rfl) ?_; dsimp only)); refine Kd.R_lit (Kd.int .i64) _ 3 ?hg (N := 33) ?hd (xs := ([0, 1] : List Int)) (inner := [.int .i64 0, .int .i64 1]) (ok := fun _ => True) (okp := fun _ => True) ?hr ?hp (fun _ hk => hk) trivial (Below.refl _ _) (Nat.le_refl _) (by simp) ?_; (case hd => rfl); (case hg => rfl); (case hr => first | (go_simp; done) | (go_simp; rfl)); (case hp => exact (Reps.one (show Kd.M (Kd.int .i64) _ _ _ 0 [.int .i64 0] from rfl) (Reps.one (show Kd.M (Kd.int .i64) _ _ _ 1 [.int .i64 1] from rfl) (Reps.none _ _)))); intro v162 w63 ho64 hb hg_ hnew_; clear hg_ hnew_; (first | rw [← Ny161.out] at ho64 | (simp only [Int.reduceToNat] at ho64; rw [← Ny161.out] at ho64)); replace HO147 := Aside0.mk (Kd.N_elder' (by (with_reducible repeat (first | apply Kd.N_alloc | apply Kd.N_drewN | apply Kd.N_drew)); exact HO147.out) (Kd.R_base ho64) hb); replace HO154 := bR HO154 hb; replace HO157 := bR HO157 hb; replace HL159_2 := Aside0.mk (Kd.V_elder' (by (with_reducible repeat (first | apply Kd.V_alloc | apply Kd.V_drewN | apply Kd.V_drew)); exact HL159_2.out) (Kd.R_base ho64) hb); have HO163 := lR ho64 HB; replace HR159_2 := Aside0.mk (Kd.C_below (by repeat (first | (with_reducible exact HR159_2.out) | (with_reducible refine Kd.C_alloc ?_ _) | (with_reducible refine Kd.C_drewN ?_ _) | (with_reducible refine Kd.C_drew ?_) | exact HR159_2.out)) hb); replace HB := sB HB hb; clear hb ho64; obtain ⟨Ao65, co65, eo65⟩ := Kd.R_slice HO163.out; subst eo65) | (go_at_call 18; (with_reducible refine (topo_Nodes.calls _ _ t145 _ _ y161 t164 _ ?side1 ?side2 ?side3 ?side4 A15.out).mono ?_); (case side1 => exact uC (Kd.N_reads' HO147.out).2.2); (case side2 => exact (Kd.N_reads' HO147.out).2.1); (case side3 => exact uC (Kd.R_reads' HO163.out).2.2); (case side4 => exact (Kd.R_reads' HO163.out).2.1); rintro e w66 ⟨v165, rfl, ho0, hb⟩; replace HO147 := Aside0.mk (Kd.N_elder' (by (with_reducible repeat (first | apply Kd.N_alloc | apply Kd.N_drewN | apply Kd.N_drew)); exact HO147.out) (Kd.R_base ho0) hb); replace HO154 := bR HO154 hb; replace HO157 := bR HO157 hb; replace HL159_2 := Aside0.mk (Kd.V_elder' (by (with_reducible repeat (first | apply Kd.V_alloc | apply Kd.V_drewN | apply Kd.V_drew)); exact HL159_2.out) (Kd.R_base ho0) hb); have HO166 := lR (nR ho0 HO163) HB; replace HO163 := eR HO163 ho0 hb; replace HR159_2 := Aside0.mk (Kd.C_below (by repeat (first | (with_reducible exact HR159_2.out) | (with_reducible refine Kd.C_alloc ?_ _) | (with_reducible refine Kd.C_drewN ?_ _) | (with_reducible refine Kd.C_drew ?_) | exact HR159_2.out)) hb); replace HB := sB HB hb; (try clear hb); (try clear hb2); (try clear hk); (try clear hi); (try clear ho0)) | ((with_reducible refine gate_dst (N := 35) rfl ?_); (try (refine gate_guard (by rfl) ?_; dsimp only)); refine Kd.R_lit (Kd.int .i64) _ 3 ?hg (N := 35) ?hd (xs := ([1, 2, 3, 4, 5] : List Int)) (inner := [.int .i64 1, .int .i64 2, .int .i64 3, .int .i64 4, .int .i64 5]) (ok := fun _ => True) (okp := fun _ => True) ?hr ?hp (fun _ hk => hk) trivial (Below.refl _ _) (Nat.le_refl _) (by simp) ?_; (case hd => rfl); (case hg => rfl); (case hr => first | (go_simp; done) | (go_simp; rfl)); (case hp => exact (Reps.one (show Kd.M (Kd.int .i64) _ _ _ 1 [.int .i64 1] from rfl) (Reps.one (show Kd.M (Kd.int .i64) _ _ _ 2 [.int .i64 2] from rfl) (Reps.one (show Kd.M (Kd.int .i64) _ _ _ 3 [.int .i64 3] from rfl) (Reps.one (show Kd.M (Kd.int .i64) _ _ _ 4 [.int .i64 4] from rfl) (Reps.one (show Kd.M (Kd.int .i64) _ _ _ 5 [.int .i64 5] from rfl) (Reps.none _ _))))))); intro v168 w67 ho68 hb hg_ hnew_; clear hg_ hnew_; (first | rw [← Ny167.out] at ho68 | (simp only [Int.reduceToNat] at ho68; rw [← Ny167.out] at ho68)); replace HO147 := Aside0.mk (Kd.N_elder' (by (with_reducible repeat (first | apply Kd.N_alloc | apply Kd.N_drewN | apply Kd.N_drew)); exact HO147.out) (Kd.R_base ho68) hb); replace HO154 := bR HO154 hb; replace HO157 := bR HO157 hb; replace HL159_2 := Aside0.mk (Kd.V_elder' (by (with_reducible repeat (first | apply Kd.V_alloc | apply Kd.V_drewN | apply Kd.V_drew)); exact HL159_2.out) (Kd.R_base ho68) hb); have HO169 := lR (nR (nR ho68 HO163) HO166) HB; replace HO163 := eR HO163 ho68 hb; replace HO166 := eR HO166 ho68 hb; replace HR159_2 := Aside0.mk (Kd.C_below (by repeat (first | (with_reducible exact HR159_2.out) | (with_reducible refine Kd.C_alloc ?_ _) | (with_reducible refine Kd.C_drewN ?_ _) | (with_reducible refine Kd.C_drew ?_) | exact HR159_2.out)) hb); replace HB := sB HB hb; clear hb ho68; obtain ⟨Ao69, co69, eo69⟩ := Kd.R_slice HO166.out; subst eo69; obtain ⟨Ao70, co70, eo70⟩ := Kd.R_slice HO169.out; subst eo70) | (go_at_call 24; (with_reducible refine (folkmootref04_Ints.calls k _ _ t164 _ _ y167 true _ ?side1 ?side2 ?side3 ?side4 A16.out).mono ?_); (case side1 => exact uC (Kd.R_reads' HO166.out).2.2); (case side2 => exact (Kd.R_reads' HO166.out).2.1); (case side3 => exact uC (Kd.R_reads' HO169.out).2.2); (case side4 => exact (Kd.R_reads' HO169.out).2.1); rintro e w' ⟨rfl, ⟨nd, rfl⟩⟩) | (go_at_call 12; (refine (topo_Check.calls _ _ ([] : List (S37)) t171 _ ?side1 ?side2 A18.out).mono ?_); (case side1 => exact Kd.C_nil _ _); (case side2 => exact Nat.le_refl _); rintro e w71 ⟨rfl, hb⟩; replace HO147 := Aside0.mk (Kd.N_below (by (with_reducible repeat (first | apply Kd.N_alloc | apply Kd.N_drewN | apply Kd.N_drew)); exact HO147.out) hb); replace HO154 := bR HO154 hb; replace HO157 := bR HO157 hb; replace HL159_2 := Aside0.mk (Kd.V_below (by (with_reducible repeat (first | apply Kd.V_alloc | apply Kd.V_drewN | apply Kd.V_drew)); exact HL159_2.out) hb); replace HO163 := bR HO163 hb; replace HO166 := bR HO166 hb; replace HO169 := bR HO169 hb; replace HR159_2 := Aside0.mk (Kd.C_below (by repeat (first | (with_reducible exact HR159_2.out) | (with_reducible refine Kd.C_alloc ?_ _) | (with_reducible refine Kd.C_drewN ?_ _) | (with_reducible refine Kd.C_drew ?_) | exact HR159_2.out)) hb); replace HB := sB HB hb; (try clear hb); (try clear hb2); (try clear hk); (try clear hi)) | (go_at_call 11; (with_reducible refine (folkmootlaw04_num.calls t171 t172 _ A19.out).mono ?_); rintro e w' ⟨rfl, ⟨nd, rfl⟩⟩) | ((with_reducible refine gate_dst (N := 45) rfl ?_); (try (refine gate_guard (by rfl) ?_; dsimp only)); refine Kd.R_lit (Kd.int .i64) _ 3 ?hg (N := 45) ?hd (xs := ([1] : List Int)) (inner := [.int .i64 1]) (ok := fun _ => True) (okp := fun _ => True) ?hr ?hp (fun _ hk => hk) trivial (Below.refl _ _) (Nat.le_refl _) (by simp) ?_; (case hd => rfl); (case hg => rfl); (case hr => first | (go_simp; done) | (go_simp; rfl)); (case hp => exact (Reps.one (show Kd.M (Kd.int .i64) _ _ _ 1 [.int .i64 1] from rfl) (Reps.none _ _))); intro v174 w72 ho73 hb hg_ hnew_; clear hg_ hnew_; (first | rw [← Ny173.out] at ho73 | (simp only [Int.reduceToNat] at ho73; rw [← Ny173.out] at ho73)); replace HO147 := Aside0.mk (Kd.N_elder' (by (with_reducible repeat (first | apply Kd.N_alloc | apply Kd.N_drewN | apply Kd.N_drew)); exact HO147.out) (Kd.R_base ho73) hb); replace HO154 := bR HO154 hb; replace HO157 := bR HO157 hb; replace HL159_2 := Aside0.mk (Kd.V_elder' (by (with_reducible repeat (first | apply Kd.V_alloc | apply Kd.V_drewN | apply Kd.V_drew)); exact HL159_2.out) (Kd.R_base ho73) hb); have HO175 := lR (nR (nR (nR ho73 HO163) HO166) HO169) HB; replace HO163 := eR HO163 ho73 hb; replace HO166 := eR HO166 ho73 hb; replace HO169 := eR HO169 ho73 hb; replace HR159_2 := Aside0.mk (Kd.C_below (by repeat (first | (with_reducible exact HR159_2.out) | (with_reducible refine Kd.C_alloc ?_ _) | (with_reducible refine Kd.C_drewN ?_ _) | (with_reducible refine Kd.C_drew ?_) | exact HR159_2.out)) hb); replace HB := sB HB hb; clear hb ho73; obtain ⟨Ao74, co74, eo74⟩ := Kd.R_slice HO175.out; subst eo74) | (go_at_call 19; (with_reducible refine (topo_Keeps.calls k _ _ t145 5 _ _ y173 false _ ?side1 ?side2 ?side3 ?side4 A21.out).mono ?_); (case side1 => exact uC (Kd.N_reads' HO147.out).2.2); (case side2 => exact (Kd.N_reads' HO147.out).2.1); (case side3 => exact uC (Kd.R_reads' HO175.out).2.2); (case side4 => exact (Kd.R_reads' HO175.out).2.1); rintro e w75 ⟨rfl, hb⟩; replace HO147 := Aside0.mk (Kd.N_below (by (with_reducible repeat (first | apply Kd.N_alloc | apply Kd.N_drewN | apply Kd.N_drew)); exact HO147.out) hb); replace HO154 := bR HO154 hb; replace HO157 := bR HO157 hb; replace HL159_2 := Aside0.mk (Kd.V_below (by (with_reducible repeat (first | apply Kd.V_alloc | apply Kd.V_drewN | apply Kd.V_drew)); exact HL159_2.out) hb); replace HO163 := bR HO163 hb; replace HO166 := bR HO166 hb; replace HO169 := bR HO169 hb; replace HO175 := bR HO175 hb; replace HR159_2 := Aside0.mk (Kd.C_below (by repeat (first | (with_reducible exact HR159_2.out) | (with_reducible refine Kd.C_alloc ?_ _) | (with_reducible refine Kd.C_drewN ?_ _) | (with_reducible refine Kd.C_drew ?_) | exact HR159_2.out)) hb); replace HB := sB HB hb; (try clear hb); (try clear hb2); (try clear hk); (try clear hi)))
                    go_ret
                    exact ⟨by first | rfl | (simp [errW_none, errW_some] <;> rfl) | (simp [*, errW_none, errW_some] <;> rfl), by repeat (first | (with_reducible first | exact HB.out | apply below_alloc | apply pw_below_drewN | apply below_drew1) | exact HB.out)⟩
                · rw [if_neg c20] at H
                  have c20b0 : (t172 == 40) = false := beq_eq_false_iff_ne.mpr c20
                  (try (have c20e : ¬ (t172 = 40) := by simpa using c20))
                  have c20b1 : (t172 != 40) = true := bne_iff_ne.mpr c20
                  obtain rfl := Option.some.inj H
                  go_enter Try.func10, Try.ntmps10
                  go_wp2_with (first | ((with_reducible refine gate_callee (f := 31) rfl ?_); refine goesL_ (some 2) rfl rfl Try.func31 (by kernel_rfl) rfl #[] rfl (by (try simp only [List.map_toArray, List.map_cons, List.map_nil]); first | done | rfl | (simp only [List.length_drop, List.length_take]; rfl)) ?_; (with_reducible refine (folkmootlaw04_two.calls  t145 _ A1.out).mono ?_); rintro e w76 ⟨v146, rfl, ho0, hb⟩; refine ⟨_, rfl, ?_⟩; have HO147 := Aside0.mk (Kd.N_lower (Kd.N_mono (ok' := fun k_ => True) ho0 (fun k_ hk_ => trivial)) (below_size (uB HB))); replace HB := sB HB hb; (try clear hb); (try clear hb2); (try clear hk); (try clear hi); (try clear ho0); obtain ⟨Ao77, co77, eo77⟩ := Kd.N_slice HO147.out; subst eo77) | ((with_reducible refine gate_callee (f := 12) rfl ?_); refine goesL_ (some 4) rfl rfl Try.func12 (by kernel_rfl) rfl #[.slice Ao77 t145.length co77] rfl (by (try simp only [List.map_toArray, List.map_cons, List.map_nil]); first | done | rfl | (simp only [List.length_drop, List.length_take]; rfl)) ?_; (with_reducible refine (topo_Check.calls _ _ t145 t148 _ ?side1 ?side2 A2.out).mono ?_); (case side1 => exact uC (Kd.N_reads' HO147.out).2.2); (case side2 => exact (Kd.N_reads' HO147.out).2.1); rintro e w78 ⟨rfl, hb⟩; refine ⟨_, rfl, ?_⟩; replace HO147 := Aside0.mk (Kd.N_below (by (with_reducible repeat (first | apply Kd.N_alloc | apply Kd.N_drewN | apply Kd.N_drew)); exact HO147.out) hb); replace HB := sB HB hb; (try clear hb); (try clear hb2); (try clear hk); (try clear hi)) | ((with_reducible refine gate_callee (f := 11) rfl ?_); refine goesL_ (some 5) rfl rfl Try.func11 (by kernel_rfl) rfl #[.int .i64 t148] rfl (by (try simp only [List.map_toArray, List.map_cons, List.map_nil]); first | done | rfl | (simp only [List.length_drop, List.length_take]; rfl)) ?_; (with_reducible refine (folkmootlaw04_num.calls t148 t149 _ A3.out).mono ?_); rintro e w' ⟨rfl, ⟨nd, rfl⟩⟩; refine ⟨_, rfl, ?_⟩) | (go_at_call 22; (with_reducible refine (topo_Find.calls _ _ t145 (⟨#[107]⟩ : ByteArray) t150 _ ?side1 ?side2 A5.out).mono ?_); (case side1 => exact uC (Kd.N_reads' HO147.out).2.2); (case side2 => exact (Kd.N_reads' HO147.out).2.1); rintro e w79 ⟨rfl, hb⟩; replace HO147 := Aside0.mk (Kd.N_below (by (with_reducible repeat (first | apply Kd.N_alloc | apply Kd.N_drewN | apply Kd.N_drew)); exact HO147.out) hb); replace HB := sB HB hb; (try clear hb); (try clear hb2); (try clear hk); (try clear hi)) | (go_at_call 22; (with_reducible refine (topo_Find.calls _ _ t145 (⟨#[109]⟩ : ByteArray) t151 _ ?side1 ?side2 A7.out).mono ?_); (case side1 => exact uC (Kd.N_reads' HO147.out).2.2); (case side2 => exact (Kd.N_reads' HO147.out).2.1); rintro e w80 ⟨rfl, hb⟩; replace HO147 := Aside0.mk (Kd.N_below (by (with_reducible repeat (first | apply Kd.N_alloc | apply Kd.N_drewN | apply Kd.N_drew)); exact HO147.out) hb); replace HB := sB HB hb; (try clear hb); (try clear hb2); (try clear hk); (try clear hi)) | (go_at_call 14; (with_reducible refine (topo_Owned.calls k _ _ t145 3 t152 _ ?side1 ?side2 A9.out).mono ?_); (case side1 => exact uC (Kd.N_reads' HO147.out).2.2); (case side2 => exact (Kd.N_reads' HO147.out).2.1); rintro e w81 ⟨v153, rfl, ho0, hb⟩; replace HO147 := Aside0.mk (Kd.N_elder' (by (with_reducible repeat (first | apply Kd.N_alloc | apply Kd.N_drewN | apply Kd.N_drew)); exact HO147.out) (Kd.R_base ho0) hb); have HO154 := lR ho0 HB; replace HB := sB HB hb; (try clear hb); (try clear hb2); (try clear hk); (try clear hi); (try clear ho0)) | ((with_reducible refine gate_dst (N := 21) rfl ?_); (try (refine gate_guard (by rfl) ?_; dsimp only)); refine Kd.R_lit k35 _ 35 ?hg (N := 21) ?hd (xs := ([(⟨(⟨#[]⟩ : ByteArray), (⟨#[]⟩ : ByteArray)⟩ : S35)] : List (S35))) (inner := [.string (⟨#[]⟩ : ByteArray), .string (⟨#[]⟩ : ByteArray)]) (ok := fun _ => True) (okp := fun _ => True) ?hr ?hp (fun _ hk => hk) trivial (Below.refl _ _) (Nat.le_refl _) (by simp) ?_; (case hd => rfl); (case hg => rfl); (case hr => first | (go_simp; done) | (go_simp; rfl)); (case hp => exact (Reps.c2 (show Kd.M k35 _ _ _ (⟨(⟨#[]⟩ : ByteArray), (⟨#[]⟩ : ByteArray)⟩ : S35) [.string (⟨#[]⟩ : ByteArray), .string (⟨#[]⟩ : ByteArray)] from (k35_mkM _ _ _ (⟨(⟨#[]⟩ : ByteArray), (⟨#[]⟩ : ByteArray)⟩ : S35) )) (Reps.none _ _))); intro v156 w82 ho83 hb hg_ hnew_; clear hg_ hnew_; (first | rw [← Ny155.out] at ho83 | (simp only [Int.reduceToNat] at ho83; rw [← Ny155.out] at ho83)); replace HO147 := Aside0.mk (Kd.N_elder' (by (with_reducible repeat (first | apply Kd.N_alloc | apply Kd.N_drewN | apply Kd.N_drew)); exact HO147.out) (Kd.R_base ho83) hb); have HO157 := lR (nR ho83 HO154) HB; replace HO154 := eR HO154 ho83 hb; replace HB := sB HB hb; clear hb ho83; obtain ⟨Ao84, co84, eo84⟩ := Kd.R_slice HO154.out; subst eo84; obtain ⟨Ao85, co85, eo85⟩ := Kd.R_slice HO157.out; subst eo85) | (go_at_call 16; (with_reducible refine (folkmootref03_Same.calls k _ _ t152 _ _ y155 true _ ?side1 ?side2 ?side3 ?side4 A10.out).mono ?_); (case side1 => exact uC (Kd.R_reads' HO154.out).2.2); (case side2 => exact (Kd.R_reads' HO154.out).2.1); (case side3 => exact uC (Kd.R_reads' HO157.out).2.2); (case side4 => exact (Kd.R_reads' HO157.out).2.1); rintro e w' ⟨rfl, ⟨nd, rfl⟩⟩; have p159 : 0 ≤ (0 : Int) := (by omega); have q159 : 0 < (t145.length : Int) := of_decide_eq_true (by first | (with_reducible assumption) | assumption); obtain ⟨ad159, A159_2, c159_2, e159, hx159_0, hx159_1, hx159_2, hl159_2, hi159_2⟩ := at_T37 (Kd.N_reads' HO147.out).2.2 0 p159 q159; cases e159; obtain ⟨ce159, hce159, hMe159, hcc159⟩ := Kd.N_get HO147.out z37 0 p159 (by first | exact q159 | exact of_decide_eq_true (by first | (with_reducible assumption) | assumption) | (have e_ := (Kd.N_reads' HO147.out).1; omega)); obtain ⟨ua159_2, uc159_2, rfl, ul159_2, ge159_2⟩ := k37_openF hMe159; have hv159_2 := hcc159 2 _ rfl; rw [add_field _ _ 2 (by omega)] at hv159_2; replace hv159_2 := Option.some.inj (hv159_2.symm.trans hx159_2); injection hv159_2 with hva_ hvn_ hvc_; rw [hva_] at ge159_2; rw [hvc_] at ul159_2; have HL159_2 := Aside0.mk (show Kd.V (Kd.int .i64) 3 _ w.heap.size _ _ ((rd_T37 t145 0).f1) from Kd.V_mk ul159_2 ge159_2); clear hva_ hvn_ hvc_ ge159_2 ul159_2; clear hcc159 hce159; have qi159 : (0 < t145.length) = True := eq_true (by omega); (try rw [show ((0 : Int)).toNat = 0 from rfl] at hx159_0); (try rw [show 0 * 3 = 0 from rfl] at hx159_0); (try rw [Addr.add_zero'] at hx159_0); (try rw [show ((0 : Int)).toNat = 0 from rfl] at hx159_1); (try rw [show 0 * 3 = 0 from rfl] at hx159_1); (try rw [Addr.add_zero'] at hx159_1); (try rw [show ((0 : Int)).toNat = 0 from rfl] at hx159_2); (try rw [show 0 * 3 = 0 from rfl] at hx159_2); (try rw [Addr.add_zero'] at hx159_2); have HR159_2 := Aside0.mk hi159_2; have HC159_2 := Aside0.mk hl159_2; clear hi159_2 hl159_2; replace p159 := eq_true p159; replace q159 := eq_true q159) | (go_at_call 21; (with_reducible refine (topo_Quorum.calls ((rd_T37 t145 0).f0.f0) ((rd_T37 t145 0).f0.f1) _ _ ((rd_T37 t145 0).f1) t160 _ ?side1 ?side2 A13.out).mono ?_); (case side1 => exact uC (by repeat (first | (with_reducible exact HR159_2.out) | (with_reducible refine Kd.C_alloc ?_ _) | (with_reducible refine Kd.C_drewN ?_ _) | (with_reducible refine Kd.C_drew ?_) | exact HR159_2.out))); (case side2 => exact HC159_2.out); rintro e w86 ⟨rfl, hb⟩; replace HO147 := Aside0.mk (Kd.N_below (by (with_reducible repeat (first | apply Kd.N_alloc | apply Kd.N_drewN | apply Kd.N_drew)); exact HO147.out) hb); replace HO154 := bR HO154 hb; replace HO157 := bR HO157 hb; replace HL159_2 := Aside0.mk (Kd.V_below (by (with_reducible repeat (first | apply Kd.V_alloc | apply Kd.V_drewN | apply Kd.V_drew)); exact HL159_2.out) hb); replace HR159_2 := Aside0.mk (Kd.C_below (by repeat (first | (with_reducible exact HR159_2.out) | (with_reducible refine Kd.C_alloc ?_ _) | (with_reducible refine Kd.C_drewN ?_ _) | (with_reducible refine Kd.C_drew ?_) | exact HR159_2.out)) hb); replace HB := sB HB hb; (try clear hb); (try clear hb2); (try clear hk); (try clear hi)) | ((with_reducible refine gate_dst (N := 33) rfl ?_); (try (refine gate_guard (by rfl) ?_; dsimp only)); refine Kd.R_lit (Kd.int .i64) _ 3 ?hg (N := 33) ?hd (xs := ([0, 1] : List Int)) (inner := [.int .i64 0, .int .i64 1]) (ok := fun _ => True) (okp := fun _ => True) ?hr ?hp (fun _ hk => hk) trivial (Below.refl _ _) (Nat.le_refl _) (by simp) ?_; (case hd => rfl); (case hg => rfl); (case hr => first | (go_simp; done) | (go_simp; rfl)); (case hp => exact (Reps.one (show Kd.M (Kd.int .i64) _ _ _ 0 [.int .i64 0] from rfl) (Reps.one (show Kd.M (Kd.int .i64) _ _ _ 1 [.int .i64 1] from rfl) (Reps.none _ _)))); intro v162 w87 ho88 hb hg_ hnew_; clear hg_ hnew_; (first | rw [← Ny161.out] at ho88 | (simp only [Int.reduceToNat] at ho88; rw [← Ny161.out] at ho88)); replace HO147 := Aside0.mk (Kd.N_elder' (by (with_reducible repeat (first | apply Kd.N_alloc | apply Kd.N_drewN | apply Kd.N_drew)); exact HO147.out) (Kd.R_base ho88) hb); replace HO154 := bR HO154 hb; replace HO157 := bR HO157 hb; replace HL159_2 := Aside0.mk (Kd.V_elder' (by (with_reducible repeat (first | apply Kd.V_alloc | apply Kd.V_drewN | apply Kd.V_drew)); exact HL159_2.out) (Kd.R_base ho88) hb); have HO163 := lR ho88 HB; replace HR159_2 := Aside0.mk (Kd.C_below (by repeat (first | (with_reducible exact HR159_2.out) | (with_reducible refine Kd.C_alloc ?_ _) | (with_reducible refine Kd.C_drewN ?_ _) | (with_reducible refine Kd.C_drew ?_) | exact HR159_2.out)) hb); replace HB := sB HB hb; clear hb ho88; obtain ⟨Ao89, co89, eo89⟩ := Kd.R_slice HO163.out; subst eo89) | (go_at_call 18; (with_reducible refine (topo_Nodes.calls _ _ t145 _ _ y161 t164 _ ?side1 ?side2 ?side3 ?side4 A15.out).mono ?_); (case side1 => exact uC (Kd.N_reads' HO147.out).2.2); (case side2 => exact (Kd.N_reads' HO147.out).2.1); (case side3 => exact uC (Kd.R_reads' HO163.out).2.2); (case side4 => exact (Kd.R_reads' HO163.out).2.1); rintro e w90 ⟨v165, rfl, ho0, hb⟩; replace HO147 := Aside0.mk (Kd.N_elder' (by (with_reducible repeat (first | apply Kd.N_alloc | apply Kd.N_drewN | apply Kd.N_drew)); exact HO147.out) (Kd.R_base ho0) hb); replace HO154 := bR HO154 hb; replace HO157 := bR HO157 hb; replace HL159_2 := Aside0.mk (Kd.V_elder' (by (with_reducible repeat (first | apply Kd.V_alloc | apply Kd.V_drewN | apply Kd.V_drew)); exact HL159_2.out) (Kd.R_base ho0) hb); have HO166 := lR (nR ho0 HO163) HB; replace HO163 := eR HO163 ho0 hb; replace HR159_2 := Aside0.mk (Kd.C_below (by repeat (first | (with_reducible exact HR159_2.out) | (with_reducible refine Kd.C_alloc ?_ _) | (with_reducible refine Kd.C_drewN ?_ _) | (with_reducible refine Kd.C_drew ?_) | exact HR159_2.out)) hb); replace HB := sB HB hb; (try clear hb); (try clear hb2); (try clear hk); (try clear hi); (try clear ho0)) | ((with_reducible refine gate_dst (N := 35) rfl ?_); (try (refine gate_guard (by rfl) ?_; dsimp only)); refine Kd.R_lit (Kd.int .i64) _ 3 ?hg (N := 35) ?hd (xs := ([1, 2, 3, 4, 5] : List Int)) (inner := [.int .i64 1, .int .i64 2, .int .i64 3, .int .i64 4, .int .i64 5]) (ok := fun _ => True) (okp := fun _ => True) ?hr ?hp (fun _ hk => hk) trivial (Below.refl _ _) (Nat.le_refl _) (by simp) ?_; (case hd => rfl); (case hg => rfl); (case hr => first | (go_simp; done) | (go_simp; rfl)); (case hp => exact (Reps.one (show Kd.M (Kd.int .i64) _ _ _ 1 [.int .i64 1] from rfl) (Reps.one (show Kd.M (Kd.int .i64) _ _ _ 2 [.int .i64 2] from rfl) (Reps.one (show Kd.M (Kd.int .i64) _ _ _ 3 [.int .i64 3] from rfl) (Reps.one (show Kd.M (Kd.int .i64) _ _ _ 4 [.int .i64 4] from rfl) (Reps.one (show Kd.M (Kd.int .i64) _ _ _ 5 [.int .i64 5] from rfl) (Reps.none _ _))))))); intro v168 w91 ho92 hb hg_ hnew_; clear hg_ hnew_; (first | rw [← Ny167.out] at ho92 | (simp only [Int.reduceToNat] at ho92; rw [← Ny167.out] at ho92)); replace HO147 := Aside0.mk (Kd.N_elder' (by (with_reducible repeat (first | apply Kd.N_alloc | apply Kd.N_drewN | apply Kd.N_drew)); exact HO147.out) (Kd.R_base ho92) hb); replace HO154 := bR HO154 hb; replace HO157 := bR HO157 hb; replace HL159_2 := Aside0.mk (Kd.V_elder' (by (with_reducible repeat (first | apply Kd.V_alloc | apply Kd.V_drewN | apply Kd.V_drew)); exact HL159_2.out) (Kd.R_base ho92) hb); have HO169 := lR (nR (nR ho92 HO163) HO166) HB; replace HO163 := eR HO163 ho92 hb; replace HO166 := eR HO166 ho92 hb; replace HR159_2 := Aside0.mk (Kd.C_below (by repeat (first | (with_reducible exact HR159_2.out) | (with_reducible refine Kd.C_alloc ?_ _) | (with_reducible refine Kd.C_drewN ?_ _) | (with_reducible refine Kd.C_drew ?_) | exact HR159_2.out)) hb); replace HB := sB HB hb; clear hb ho92; obtain ⟨Ao93, co93, eo93⟩ := Kd.R_slice HO166.out; subst eo93; obtain ⟨Ao94, co94, eo94⟩ := Kd.R_slice HO169.out; subst eo94) | (go_at_call 24; (with_reducible refine (folkmootref04_Ints.calls k _ _ t164 _ _ y167 true _ ?side1 ?side2 ?side3 ?side4 A16.out).mono ?_); (case side1 => exact uC (Kd.R_reads' HO166.out).2.2); (case side2 => exact (Kd.R_reads' HO166.out).2.1); (case side3 => exact uC (Kd.R_reads' HO169.out).2.2); (case side4 => exact (Kd.R_reads' HO169.out).2.1); rintro e w' ⟨rfl, ⟨nd, rfl⟩⟩) | (go_at_call 12; (refine (topo_Check.calls _ _ ([] : List (S37)) t171 _ ?side1 ?side2 A18.out).mono ?_); (case side1 => exact Kd.C_nil _ _); (case side2 => exact Nat.le_refl _); rintro e w95 ⟨rfl, hb⟩; replace HO147 := Aside0.mk (Kd.N_below (by (with_reducible repeat (first | apply Kd.N_alloc | apply Kd.N_drewN | apply Kd.N_drew)); exact HO147.out) hb); replace HO154 := bR HO154 hb; replace HO157 := bR HO157 hb; replace HL159_2 := Aside0.mk (Kd.V_below (by (with_reducible repeat (first | apply Kd.V_alloc | apply Kd.V_drewN | apply Kd.V_drew)); exact HL159_2.out) hb); replace HO163 := bR HO163 hb; replace HO166 := bR HO166 hb; replace HO169 := bR HO169 hb; replace HR159_2 := Aside0.mk (Kd.C_below (by repeat (first | (with_reducible exact HR159_2.out) | (with_reducible refine Kd.C_alloc ?_ _) | (with_reducible refine Kd.C_drewN ?_ _) | (with_reducible refine Kd.C_drew ?_) | exact HR159_2.out)) hb); replace HB := sB HB hb; (try clear hb); (try clear hb2); (try clear hk); (try clear hi)) | (go_at_call 11; (with_reducible refine (folkmootlaw04_num.calls t171 t172 _ A19.out).mono ?_); rintro e w' ⟨rfl, ⟨nd, rfl⟩⟩))
                  go_ret
                  exact ⟨by first | rfl | (simp [errW_none, errW_some] <;> rfl) | (simp [*, errW_none, errW_some] <;> rfl), by repeat (first | (with_reducible first | exact HB.out | apply below_alloc | apply pw_below_drewN | apply below_drew1) | exact HB.out)⟩
              · replace c17 := Bool.eq_false_iff.mpr c17
                subst c17
                have H1 : (some false) = some r := by rw [if_neg (show ¬ (false = true) by decide)] at H; exact H
                clear H
                have H := H1
                clear H1
                obtain rfl := Option.some.inj H
                go_enter Try.func10, Try.ntmps10
                go_wp2_with (first | ((with_reducible refine gate_callee (f := 31) rfl ?_); refine goesL_ (some 2) rfl rfl Try.func31 (by kernel_rfl) rfl #[] rfl (by (try simp only [List.map_toArray, List.map_cons, List.map_nil]); first | done | rfl | (simp only [List.length_drop, List.length_take]; rfl)) ?_; (with_reducible refine (folkmootlaw04_two.calls  t145 _ A1.out).mono ?_); rintro e w96 ⟨v146, rfl, ho0, hb⟩; refine ⟨_, rfl, ?_⟩; have HO147 := Aside0.mk (Kd.N_lower (Kd.N_mono (ok' := fun k_ => True) ho0 (fun k_ hk_ => trivial)) (below_size (uB HB))); replace HB := sB HB hb; (try clear hb); (try clear hb2); (try clear hk); (try clear hi); (try clear ho0); obtain ⟨Ao97, co97, eo97⟩ := Kd.N_slice HO147.out; subst eo97) | ((with_reducible refine gate_callee (f := 12) rfl ?_); refine goesL_ (some 4) rfl rfl Try.func12 (by kernel_rfl) rfl #[.slice Ao97 t145.length co97] rfl (by (try simp only [List.map_toArray, List.map_cons, List.map_nil]); first | done | rfl | (simp only [List.length_drop, List.length_take]; rfl)) ?_; (with_reducible refine (topo_Check.calls _ _ t145 t148 _ ?side1 ?side2 A2.out).mono ?_); (case side1 => exact uC (Kd.N_reads' HO147.out).2.2); (case side2 => exact (Kd.N_reads' HO147.out).2.1); rintro e w98 ⟨rfl, hb⟩; refine ⟨_, rfl, ?_⟩; replace HO147 := Aside0.mk (Kd.N_below (by (with_reducible repeat (first | apply Kd.N_alloc | apply Kd.N_drewN | apply Kd.N_drew)); exact HO147.out) hb); replace HB := sB HB hb; (try clear hb); (try clear hb2); (try clear hk); (try clear hi)) | ((with_reducible refine gate_callee (f := 11) rfl ?_); refine goesL_ (some 5) rfl rfl Try.func11 (by kernel_rfl) rfl #[.int .i64 t148] rfl (by (try simp only [List.map_toArray, List.map_cons, List.map_nil]); first | done | rfl | (simp only [List.length_drop, List.length_take]; rfl)) ?_; (with_reducible refine (folkmootlaw04_num.calls t148 t149 _ A3.out).mono ?_); rintro e w' ⟨rfl, ⟨nd, rfl⟩⟩; refine ⟨_, rfl, ?_⟩) | (go_at_call 22; (with_reducible refine (topo_Find.calls _ _ t145 (⟨#[107]⟩ : ByteArray) t150 _ ?side1 ?side2 A5.out).mono ?_); (case side1 => exact uC (Kd.N_reads' HO147.out).2.2); (case side2 => exact (Kd.N_reads' HO147.out).2.1); rintro e w99 ⟨rfl, hb⟩; replace HO147 := Aside0.mk (Kd.N_below (by (with_reducible repeat (first | apply Kd.N_alloc | apply Kd.N_drewN | apply Kd.N_drew)); exact HO147.out) hb); replace HB := sB HB hb; (try clear hb); (try clear hb2); (try clear hk); (try clear hi)) | (go_at_call 22; (with_reducible refine (topo_Find.calls _ _ t145 (⟨#[109]⟩ : ByteArray) t151 _ ?side1 ?side2 A7.out).mono ?_); (case side1 => exact uC (Kd.N_reads' HO147.out).2.2); (case side2 => exact (Kd.N_reads' HO147.out).2.1); rintro e w100 ⟨rfl, hb⟩; replace HO147 := Aside0.mk (Kd.N_below (by (with_reducible repeat (first | apply Kd.N_alloc | apply Kd.N_drewN | apply Kd.N_drew)); exact HO147.out) hb); replace HB := sB HB hb; (try clear hb); (try clear hb2); (try clear hk); (try clear hi)) | (go_at_call 14; (with_reducible refine (topo_Owned.calls k _ _ t145 3 t152 _ ?side1 ?side2 A9.out).mono ?_); (case side1 => exact uC (Kd.N_reads' HO147.out).2.2); (case side2 => exact (Kd.N_reads' HO147.out).2.1); rintro e w101 ⟨v153, rfl, ho0, hb⟩; replace HO147 := Aside0.mk (Kd.N_elder' (by (with_reducible repeat (first | apply Kd.N_alloc | apply Kd.N_drewN | apply Kd.N_drew)); exact HO147.out) (Kd.R_base ho0) hb); have HO154 := lR ho0 HB; replace HB := sB HB hb; (try clear hb); (try clear hb2); (try clear hk); (try clear hi); (try clear ho0)) | ((with_reducible refine gate_dst (N := 21) rfl ?_); (try (refine gate_guard (by rfl) ?_; dsimp only)); refine Kd.R_lit k35 _ 35 ?hg (N := 21) ?hd (xs := ([(⟨(⟨#[]⟩ : ByteArray), (⟨#[]⟩ : ByteArray)⟩ : S35)] : List (S35))) (inner := [.string (⟨#[]⟩ : ByteArray), .string (⟨#[]⟩ : ByteArray)]) (ok := fun _ => True) (okp := fun _ => True) ?hr ?hp (fun _ hk => hk) trivial (Below.refl _ _) (Nat.le_refl _) (by simp) ?_; (case hd => rfl); (case hg => rfl); (case hr => first | (go_simp; done) | (go_simp; rfl)); (case hp => exact (Reps.c2 (show Kd.M k35 _ _ _ (⟨(⟨#[]⟩ : ByteArray), (⟨#[]⟩ : ByteArray)⟩ : S35) [.string (⟨#[]⟩ : ByteArray), .string (⟨#[]⟩ : ByteArray)] from (k35_mkM _ _ _ (⟨(⟨#[]⟩ : ByteArray), (⟨#[]⟩ : ByteArray)⟩ : S35) )) (Reps.none _ _))); intro v156 w102 ho103 hb hg_ hnew_; clear hg_ hnew_; (first | rw [← Ny155.out] at ho103 | (simp only [Int.reduceToNat] at ho103; rw [← Ny155.out] at ho103)); replace HO147 := Aside0.mk (Kd.N_elder' (by (with_reducible repeat (first | apply Kd.N_alloc | apply Kd.N_drewN | apply Kd.N_drew)); exact HO147.out) (Kd.R_base ho103) hb); have HO157 := lR (nR ho103 HO154) HB; replace HO154 := eR HO154 ho103 hb; replace HB := sB HB hb; clear hb ho103; obtain ⟨Ao104, co104, eo104⟩ := Kd.R_slice HO154.out; subst eo104; obtain ⟨Ao105, co105, eo105⟩ := Kd.R_slice HO157.out; subst eo105) | (go_at_call 16; (with_reducible refine (folkmootref03_Same.calls k _ _ t152 _ _ y155 true _ ?side1 ?side2 ?side3 ?side4 A10.out).mono ?_); (case side1 => exact uC (Kd.R_reads' HO154.out).2.2); (case side2 => exact (Kd.R_reads' HO154.out).2.1); (case side3 => exact uC (Kd.R_reads' HO157.out).2.2); (case side4 => exact (Kd.R_reads' HO157.out).2.1); rintro e w' ⟨rfl, ⟨nd, rfl⟩⟩; have p159 : 0 ≤ (0 : Int) := (by omega); have q159 : 0 < (t145.length : Int) := of_decide_eq_true (by first | (with_reducible assumption) | assumption); obtain ⟨ad159, A159_2, c159_2, e159, hx159_0, hx159_1, hx159_2, hl159_2, hi159_2⟩ := at_T37 (Kd.N_reads' HO147.out).2.2 0 p159 q159; cases e159; obtain ⟨ce159, hce159, hMe159, hcc159⟩ := Kd.N_get HO147.out z37 0 p159 (by first | exact q159 | exact of_decide_eq_true (by first | (with_reducible assumption) | assumption) | (have e_ := (Kd.N_reads' HO147.out).1; omega)); obtain ⟨ua159_2, uc159_2, rfl, ul159_2, ge159_2⟩ := k37_openF hMe159; have hv159_2 := hcc159 2 _ rfl; rw [add_field _ _ 2 (by omega)] at hv159_2; replace hv159_2 := Option.some.inj (hv159_2.symm.trans hx159_2); injection hv159_2 with hva_ hvn_ hvc_; rw [hva_] at ge159_2; rw [hvc_] at ul159_2; have HL159_2 := Aside0.mk (show Kd.V (Kd.int .i64) 3 _ w.heap.size _ _ ((rd_T37 t145 0).f1) from Kd.V_mk ul159_2 ge159_2); clear hva_ hvn_ hvc_ ge159_2 ul159_2; clear hcc159 hce159; have qi159 : (0 < t145.length) = True := eq_true (by omega); (try rw [show ((0 : Int)).toNat = 0 from rfl] at hx159_0); (try rw [show 0 * 3 = 0 from rfl] at hx159_0); (try rw [Addr.add_zero'] at hx159_0); (try rw [show ((0 : Int)).toNat = 0 from rfl] at hx159_1); (try rw [show 0 * 3 = 0 from rfl] at hx159_1); (try rw [Addr.add_zero'] at hx159_1); (try rw [show ((0 : Int)).toNat = 0 from rfl] at hx159_2); (try rw [show 0 * 3 = 0 from rfl] at hx159_2); (try rw [Addr.add_zero'] at hx159_2); have HR159_2 := Aside0.mk hi159_2; have HC159_2 := Aside0.mk hl159_2; clear hi159_2 hl159_2; replace p159 := eq_true p159; replace q159 := eq_true q159) | (go_at_call 21; (with_reducible refine (topo_Quorum.calls ((rd_T37 t145 0).f0.f0) ((rd_T37 t145 0).f0.f1) _ _ ((rd_T37 t145 0).f1) t160 _ ?side1 ?side2 A13.out).mono ?_); (case side1 => exact uC (by repeat (first | (with_reducible exact HR159_2.out) | (with_reducible refine Kd.C_alloc ?_ _) | (with_reducible refine Kd.C_drewN ?_ _) | (with_reducible refine Kd.C_drew ?_) | exact HR159_2.out))); (case side2 => exact HC159_2.out); rintro e w106 ⟨rfl, hb⟩; replace HO147 := Aside0.mk (Kd.N_below (by (with_reducible repeat (first | apply Kd.N_alloc | apply Kd.N_drewN | apply Kd.N_drew)); exact HO147.out) hb); replace HO154 := bR HO154 hb; replace HO157 := bR HO157 hb; replace HL159_2 := Aside0.mk (Kd.V_below (by (with_reducible repeat (first | apply Kd.V_alloc | apply Kd.V_drewN | apply Kd.V_drew)); exact HL159_2.out) hb); replace HR159_2 := Aside0.mk (Kd.C_below (by repeat (first | (with_reducible exact HR159_2.out) | (with_reducible refine Kd.C_alloc ?_ _) | (with_reducible refine Kd.C_drewN ?_ _) | (with_reducible refine Kd.C_drew ?_) | exact HR159_2.out)) hb); replace HB := sB HB hb; (try clear hb); (try clear hb2); (try clear hk); (try clear hi)) | ((with_reducible refine gate_dst (N := 33) rfl ?_); (try (refine gate_guard (by rfl) ?_; dsimp only)); refine Kd.R_lit (Kd.int .i64) _ 3 ?hg (N := 33) ?hd (xs := ([0, 1] : List Int)) (inner := [.int .i64 0, .int .i64 1]) (ok := fun _ => True) (okp := fun _ => True) ?hr ?hp (fun _ hk => hk) trivial (Below.refl _ _) (Nat.le_refl _) (by simp) ?_; (case hd => rfl); (case hg => rfl); (case hr => first | (go_simp; done) | (go_simp; rfl)); (case hp => exact (Reps.one (show Kd.M (Kd.int .i64) _ _ _ 0 [.int .i64 0] from rfl) (Reps.one (show Kd.M (Kd.int .i64) _ _ _ 1 [.int .i64 1] from rfl) (Reps.none _ _)))); intro v162 w107 ho108 hb hg_ hnew_; clear hg_ hnew_; (first | rw [← Ny161.out] at ho108 | (simp only [Int.reduceToNat] at ho108; rw [← Ny161.out] at ho108)); replace HO147 := Aside0.mk (Kd.N_elder' (by (with_reducible repeat (first | apply Kd.N_alloc | apply Kd.N_drewN | apply Kd.N_drew)); exact HO147.out) (Kd.R_base ho108) hb); replace HO154 := bR HO154 hb; replace HO157 := bR HO157 hb; replace HL159_2 := Aside0.mk (Kd.V_elder' (by (with_reducible repeat (first | apply Kd.V_alloc | apply Kd.V_drewN | apply Kd.V_drew)); exact HL159_2.out) (Kd.R_base ho108) hb); have HO163 := lR ho108 HB; replace HR159_2 := Aside0.mk (Kd.C_below (by repeat (first | (with_reducible exact HR159_2.out) | (with_reducible refine Kd.C_alloc ?_ _) | (with_reducible refine Kd.C_drewN ?_ _) | (with_reducible refine Kd.C_drew ?_) | exact HR159_2.out)) hb); replace HB := sB HB hb; clear hb ho108; obtain ⟨Ao109, co109, eo109⟩ := Kd.R_slice HO163.out; subst eo109) | (go_at_call 18; (with_reducible refine (topo_Nodes.calls _ _ t145 _ _ y161 t164 _ ?side1 ?side2 ?side3 ?side4 A15.out).mono ?_); (case side1 => exact uC (Kd.N_reads' HO147.out).2.2); (case side2 => exact (Kd.N_reads' HO147.out).2.1); (case side3 => exact uC (Kd.R_reads' HO163.out).2.2); (case side4 => exact (Kd.R_reads' HO163.out).2.1); rintro e w110 ⟨v165, rfl, ho0, hb⟩; replace HO147 := Aside0.mk (Kd.N_elder' (by (with_reducible repeat (first | apply Kd.N_alloc | apply Kd.N_drewN | apply Kd.N_drew)); exact HO147.out) (Kd.R_base ho0) hb); replace HO154 := bR HO154 hb; replace HO157 := bR HO157 hb; replace HL159_2 := Aside0.mk (Kd.V_elder' (by (with_reducible repeat (first | apply Kd.V_alloc | apply Kd.V_drewN | apply Kd.V_drew)); exact HL159_2.out) (Kd.R_base ho0) hb); have HO166 := lR (nR ho0 HO163) HB; replace HO163 := eR HO163 ho0 hb; replace HR159_2 := Aside0.mk (Kd.C_below (by repeat (first | (with_reducible exact HR159_2.out) | (with_reducible refine Kd.C_alloc ?_ _) | (with_reducible refine Kd.C_drewN ?_ _) | (with_reducible refine Kd.C_drew ?_) | exact HR159_2.out)) hb); replace HB := sB HB hb; (try clear hb); (try clear hb2); (try clear hk); (try clear hi); (try clear ho0)) | ((with_reducible refine gate_dst (N := 35) rfl ?_); (try (refine gate_guard (by rfl) ?_; dsimp only)); refine Kd.R_lit (Kd.int .i64) _ 3 ?hg (N := 35) ?hd (xs := ([1, 2, 3, 4, 5] : List Int)) (inner := [.int .i64 1, .int .i64 2, .int .i64 3, .int .i64 4, .int .i64 5]) (ok := fun _ => True) (okp := fun _ => True) ?hr ?hp (fun _ hk => hk) trivial (Below.refl _ _) (Nat.le_refl _) (by simp) ?_; (case hd => rfl); (case hg => rfl); (case hr => first | (go_simp; done) | (go_simp; rfl)); (case hp => exact (Reps.one (show Kd.M (Kd.int .i64) _ _ _ 1 [.int .i64 1] from rfl) (Reps.one (show Kd.M (Kd.int .i64) _ _ _ 2 [.int .i64 2] from rfl) (Reps.one (show Kd.M (Kd.int .i64) _ _ _ 3 [.int .i64 3] from rfl) (Reps.one (show Kd.M (Kd.int .i64) _ _ _ 4 [.int .i64 4] from rfl) (Reps.one (show Kd.M (Kd.int .i64) _ _ _ 5 [.int .i64 5] from rfl) (Reps.none _ _))))))); intro v168 w111 ho112 hb hg_ hnew_; clear hg_ hnew_; (first | rw [← Ny167.out] at ho112 | (simp only [Int.reduceToNat] at ho112; rw [← Ny167.out] at ho112)); replace HO147 := Aside0.mk (Kd.N_elder' (by (with_reducible repeat (first | apply Kd.N_alloc | apply Kd.N_drewN | apply Kd.N_drew)); exact HO147.out) (Kd.R_base ho112) hb); replace HO154 := bR HO154 hb; replace HO157 := bR HO157 hb; replace HL159_2 := Aside0.mk (Kd.V_elder' (by (with_reducible repeat (first | apply Kd.V_alloc | apply Kd.V_drewN | apply Kd.V_drew)); exact HL159_2.out) (Kd.R_base ho112) hb); have HO169 := lR (nR (nR ho112 HO163) HO166) HB; replace HO163 := eR HO163 ho112 hb; replace HO166 := eR HO166 ho112 hb; replace HR159_2 := Aside0.mk (Kd.C_below (by repeat (first | (with_reducible exact HR159_2.out) | (with_reducible refine Kd.C_alloc ?_ _) | (with_reducible refine Kd.C_drewN ?_ _) | (with_reducible refine Kd.C_drew ?_) | exact HR159_2.out)) hb); replace HB := sB HB hb; clear hb ho112; obtain ⟨Ao113, co113, eo113⟩ := Kd.R_slice HO166.out; subst eo113; obtain ⟨Ao114, co114, eo114⟩ := Kd.R_slice HO169.out; subst eo114) | (go_at_call 24; (with_reducible refine (folkmootref04_Ints.calls k _ _ t164 _ _ y167 false _ ?side1 ?side2 ?side3 ?side4 A16.out).mono ?_); (case side1 => exact uC (Kd.R_reads' HO166.out).2.2); (case side2 => exact (Kd.R_reads' HO166.out).2.1); (case side3 => exact uC (Kd.R_reads' HO169.out).2.2); (case side4 => exact (Kd.R_reads' HO169.out).2.1); rintro e w' ⟨rfl, ⟨nd, rfl⟩⟩))
                go_ret
                exact ⟨by first | rfl | (simp [errW_none, errW_some] <;> rfl) | (simp [*, errW_none, errW_some] <;> rfl), by repeat (first | (with_reducible first | exact HB.out | apply below_alloc | apply pw_below_drewN | apply below_drew1) | exact HB.out)⟩
            · rw [if_neg c14] at H
              have c14b0 : (t160 == 2) = false := beq_eq_false_iff_ne.mpr c14
              (try (have c14e : ¬ (t160 = 2) := by simpa using c14))
              have c14b1 : (t160 != 2) = true := bne_iff_ne.mpr c14
              obtain rfl := Option.some.inj H
              go_enter Try.func10, Try.ntmps10
              go_wp2_with (first | ((with_reducible refine gate_callee (f := 31) rfl ?_); refine goesL_ (some 2) rfl rfl Try.func31 (by kernel_rfl) rfl #[] rfl (by (try simp only [List.map_toArray, List.map_cons, List.map_nil]); first | done | rfl | (simp only [List.length_drop, List.length_take]; rfl)) ?_; (with_reducible refine (folkmootlaw04_two.calls  t145 _ A1.out).mono ?_); rintro e w115 ⟨v146, rfl, ho0, hb⟩; refine ⟨_, rfl, ?_⟩; have HO147 := Aside0.mk (Kd.N_lower (Kd.N_mono (ok' := fun k_ => True) ho0 (fun k_ hk_ => trivial)) (below_size (uB HB))); replace HB := sB HB hb; (try clear hb); (try clear hb2); (try clear hk); (try clear hi); (try clear ho0); obtain ⟨Ao116, co116, eo116⟩ := Kd.N_slice HO147.out; subst eo116) | ((with_reducible refine gate_callee (f := 12) rfl ?_); refine goesL_ (some 4) rfl rfl Try.func12 (by kernel_rfl) rfl #[.slice Ao116 t145.length co116] rfl (by (try simp only [List.map_toArray, List.map_cons, List.map_nil]); first | done | rfl | (simp only [List.length_drop, List.length_take]; rfl)) ?_; (with_reducible refine (topo_Check.calls _ _ t145 t148 _ ?side1 ?side2 A2.out).mono ?_); (case side1 => exact uC (Kd.N_reads' HO147.out).2.2); (case side2 => exact (Kd.N_reads' HO147.out).2.1); rintro e w117 ⟨rfl, hb⟩; refine ⟨_, rfl, ?_⟩; replace HO147 := Aside0.mk (Kd.N_below (by (with_reducible repeat (first | apply Kd.N_alloc | apply Kd.N_drewN | apply Kd.N_drew)); exact HO147.out) hb); replace HB := sB HB hb; (try clear hb); (try clear hb2); (try clear hk); (try clear hi)) | ((with_reducible refine gate_callee (f := 11) rfl ?_); refine goesL_ (some 5) rfl rfl Try.func11 (by kernel_rfl) rfl #[.int .i64 t148] rfl (by (try simp only [List.map_toArray, List.map_cons, List.map_nil]); first | done | rfl | (simp only [List.length_drop, List.length_take]; rfl)) ?_; (with_reducible refine (folkmootlaw04_num.calls t148 t149 _ A3.out).mono ?_); rintro e w' ⟨rfl, ⟨nd, rfl⟩⟩; refine ⟨_, rfl, ?_⟩) | (go_at_call 22; (with_reducible refine (topo_Find.calls _ _ t145 (⟨#[107]⟩ : ByteArray) t150 _ ?side1 ?side2 A5.out).mono ?_); (case side1 => exact uC (Kd.N_reads' HO147.out).2.2); (case side2 => exact (Kd.N_reads' HO147.out).2.1); rintro e w118 ⟨rfl, hb⟩; replace HO147 := Aside0.mk (Kd.N_below (by (with_reducible repeat (first | apply Kd.N_alloc | apply Kd.N_drewN | apply Kd.N_drew)); exact HO147.out) hb); replace HB := sB HB hb; (try clear hb); (try clear hb2); (try clear hk); (try clear hi)) | (go_at_call 22; (with_reducible refine (topo_Find.calls _ _ t145 (⟨#[109]⟩ : ByteArray) t151 _ ?side1 ?side2 A7.out).mono ?_); (case side1 => exact uC (Kd.N_reads' HO147.out).2.2); (case side2 => exact (Kd.N_reads' HO147.out).2.1); rintro e w119 ⟨rfl, hb⟩; replace HO147 := Aside0.mk (Kd.N_below (by (with_reducible repeat (first | apply Kd.N_alloc | apply Kd.N_drewN | apply Kd.N_drew)); exact HO147.out) hb); replace HB := sB HB hb; (try clear hb); (try clear hb2); (try clear hk); (try clear hi)) | (go_at_call 14; (with_reducible refine (topo_Owned.calls k _ _ t145 3 t152 _ ?side1 ?side2 A9.out).mono ?_); (case side1 => exact uC (Kd.N_reads' HO147.out).2.2); (case side2 => exact (Kd.N_reads' HO147.out).2.1); rintro e w120 ⟨v153, rfl, ho0, hb⟩; replace HO147 := Aside0.mk (Kd.N_elder' (by (with_reducible repeat (first | apply Kd.N_alloc | apply Kd.N_drewN | apply Kd.N_drew)); exact HO147.out) (Kd.R_base ho0) hb); have HO154 := lR ho0 HB; replace HB := sB HB hb; (try clear hb); (try clear hb2); (try clear hk); (try clear hi); (try clear ho0)) | ((with_reducible refine gate_dst (N := 21) rfl ?_); (try (refine gate_guard (by rfl) ?_; dsimp only)); refine Kd.R_lit k35 _ 35 ?hg (N := 21) ?hd (xs := ([(⟨(⟨#[]⟩ : ByteArray), (⟨#[]⟩ : ByteArray)⟩ : S35)] : List (S35))) (inner := [.string (⟨#[]⟩ : ByteArray), .string (⟨#[]⟩ : ByteArray)]) (ok := fun _ => True) (okp := fun _ => True) ?hr ?hp (fun _ hk => hk) trivial (Below.refl _ _) (Nat.le_refl _) (by simp) ?_; (case hd => rfl); (case hg => rfl); (case hr => first | (go_simp; done) | (go_simp; rfl)); (case hp => exact (Reps.c2 (show Kd.M k35 _ _ _ (⟨(⟨#[]⟩ : ByteArray), (⟨#[]⟩ : ByteArray)⟩ : S35) [.string (⟨#[]⟩ : ByteArray), .string (⟨#[]⟩ : ByteArray)] from (k35_mkM _ _ _ (⟨(⟨#[]⟩ : ByteArray), (⟨#[]⟩ : ByteArray)⟩ : S35) )) (Reps.none _ _))); intro v156 w121 ho122 hb hg_ hnew_; clear hg_ hnew_; (first | rw [← Ny155.out] at ho122 | (simp only [Int.reduceToNat] at ho122; rw [← Ny155.out] at ho122)); replace HO147 := Aside0.mk (Kd.N_elder' (by (with_reducible repeat (first | apply Kd.N_alloc | apply Kd.N_drewN | apply Kd.N_drew)); exact HO147.out) (Kd.R_base ho122) hb); have HO157 := lR (nR ho122 HO154) HB; replace HO154 := eR HO154 ho122 hb; replace HB := sB HB hb; clear hb ho122; obtain ⟨Ao123, co123, eo123⟩ := Kd.R_slice HO154.out; subst eo123; obtain ⟨Ao124, co124, eo124⟩ := Kd.R_slice HO157.out; subst eo124) | (go_at_call 16; (with_reducible refine (folkmootref03_Same.calls k _ _ t152 _ _ y155 true _ ?side1 ?side2 ?side3 ?side4 A10.out).mono ?_); (case side1 => exact uC (Kd.R_reads' HO154.out).2.2); (case side2 => exact (Kd.R_reads' HO154.out).2.1); (case side3 => exact uC (Kd.R_reads' HO157.out).2.2); (case side4 => exact (Kd.R_reads' HO157.out).2.1); rintro e w' ⟨rfl, ⟨nd, rfl⟩⟩; have p159 : 0 ≤ (0 : Int) := (by omega); have q159 : 0 < (t145.length : Int) := of_decide_eq_true (by first | (with_reducible assumption) | assumption); obtain ⟨ad159, A159_2, c159_2, e159, hx159_0, hx159_1, hx159_2, hl159_2, hi159_2⟩ := at_T37 (Kd.N_reads' HO147.out).2.2 0 p159 q159; cases e159; obtain ⟨ce159, hce159, hMe159, hcc159⟩ := Kd.N_get HO147.out z37 0 p159 (by first | exact q159 | exact of_decide_eq_true (by first | (with_reducible assumption) | assumption) | (have e_ := (Kd.N_reads' HO147.out).1; omega)); obtain ⟨ua159_2, uc159_2, rfl, ul159_2, ge159_2⟩ := k37_openF hMe159; have hv159_2 := hcc159 2 _ rfl; rw [add_field _ _ 2 (by omega)] at hv159_2; replace hv159_2 := Option.some.inj (hv159_2.symm.trans hx159_2); injection hv159_2 with hva_ hvn_ hvc_; rw [hva_] at ge159_2; rw [hvc_] at ul159_2; have HL159_2 := Aside0.mk (show Kd.V (Kd.int .i64) 3 _ w.heap.size _ _ ((rd_T37 t145 0).f1) from Kd.V_mk ul159_2 ge159_2); clear hva_ hvn_ hvc_ ge159_2 ul159_2; clear hcc159 hce159; have qi159 : (0 < t145.length) = True := eq_true (by omega); (try rw [show ((0 : Int)).toNat = 0 from rfl] at hx159_0); (try rw [show 0 * 3 = 0 from rfl] at hx159_0); (try rw [Addr.add_zero'] at hx159_0); (try rw [show ((0 : Int)).toNat = 0 from rfl] at hx159_1); (try rw [show 0 * 3 = 0 from rfl] at hx159_1); (try rw [Addr.add_zero'] at hx159_1); (try rw [show ((0 : Int)).toNat = 0 from rfl] at hx159_2); (try rw [show 0 * 3 = 0 from rfl] at hx159_2); (try rw [Addr.add_zero'] at hx159_2); have HR159_2 := Aside0.mk hi159_2; have HC159_2 := Aside0.mk hl159_2; clear hi159_2 hl159_2; replace p159 := eq_true p159; replace q159 := eq_true q159) | (go_at_call 21; (with_reducible refine (topo_Quorum.calls ((rd_T37 t145 0).f0.f0) ((rd_T37 t145 0).f0.f1) _ _ ((rd_T37 t145 0).f1) t160 _ ?side1 ?side2 A13.out).mono ?_); (case side1 => exact uC (by repeat (first | (with_reducible exact HR159_2.out) | (with_reducible refine Kd.C_alloc ?_ _) | (with_reducible refine Kd.C_drewN ?_ _) | (with_reducible refine Kd.C_drew ?_) | exact HR159_2.out))); (case side2 => exact HC159_2.out); rintro e w125 ⟨rfl, hb⟩; replace HO147 := Aside0.mk (Kd.N_below (by (with_reducible repeat (first | apply Kd.N_alloc | apply Kd.N_drewN | apply Kd.N_drew)); exact HO147.out) hb); replace HO154 := bR HO154 hb; replace HO157 := bR HO157 hb; replace HL159_2 := Aside0.mk (Kd.V_below (by (with_reducible repeat (first | apply Kd.V_alloc | apply Kd.V_drewN | apply Kd.V_drew)); exact HL159_2.out) hb); replace HR159_2 := Aside0.mk (Kd.C_below (by repeat (first | (with_reducible exact HR159_2.out) | (with_reducible refine Kd.C_alloc ?_ _) | (with_reducible refine Kd.C_drewN ?_ _) | (with_reducible refine Kd.C_drew ?_) | exact HR159_2.out)) hb); replace HB := sB HB hb; (try clear hb); (try clear hb2); (try clear hk); (try clear hi)))
              go_ret
              exact ⟨by first | rfl | (simp [errW_none, errW_some] <;> rfl) | (simp [*, errW_none, errW_some] <;> rfl), by repeat (first | (with_reducible first | exact HB.out | apply below_alloc | apply pw_below_drewN | apply below_drew1) | exact HB.out)⟩
          · rw [if_neg c12] at H
            exact absurd H (by simp)
        · replace c11 := Bool.eq_false_iff.mpr c11
          subst c11
          have H1 : (some false) = some r := by rw [if_neg (show ¬ (false = true) by decide)] at H; exact H
          clear H
          have H := H1
          clear H1
          obtain rfl := Option.some.inj H
          go_enter Try.func10, Try.ntmps10
          go_wp2_with (first | ((with_reducible refine gate_callee (f := 31) rfl ?_); refine goesL_ (some 2) rfl rfl Try.func31 (by kernel_rfl) rfl #[] rfl (by (try simp only [List.map_toArray, List.map_cons, List.map_nil]); first | done | rfl | (simp only [List.length_drop, List.length_take]; rfl)) ?_; (with_reducible refine (folkmootlaw04_two.calls  t145 _ A1.out).mono ?_); rintro e w126 ⟨v146, rfl, ho0, hb⟩; refine ⟨_, rfl, ?_⟩; have HO147 := Aside0.mk (Kd.N_lower (Kd.N_mono (ok' := fun k_ => True) ho0 (fun k_ hk_ => trivial)) (below_size (uB HB))); replace HB := sB HB hb; (try clear hb); (try clear hb2); (try clear hk); (try clear hi); (try clear ho0); obtain ⟨Ao127, co127, eo127⟩ := Kd.N_slice HO147.out; subst eo127) | ((with_reducible refine gate_callee (f := 12) rfl ?_); refine goesL_ (some 4) rfl rfl Try.func12 (by kernel_rfl) rfl #[.slice Ao127 t145.length co127] rfl (by (try simp only [List.map_toArray, List.map_cons, List.map_nil]); first | done | rfl | (simp only [List.length_drop, List.length_take]; rfl)) ?_; (with_reducible refine (topo_Check.calls _ _ t145 t148 _ ?side1 ?side2 A2.out).mono ?_); (case side1 => exact uC (Kd.N_reads' HO147.out).2.2); (case side2 => exact (Kd.N_reads' HO147.out).2.1); rintro e w128 ⟨rfl, hb⟩; refine ⟨_, rfl, ?_⟩; replace HO147 := Aside0.mk (Kd.N_below (by (with_reducible repeat (first | apply Kd.N_alloc | apply Kd.N_drewN | apply Kd.N_drew)); exact HO147.out) hb); replace HB := sB HB hb; (try clear hb); (try clear hb2); (try clear hk); (try clear hi)) | ((with_reducible refine gate_callee (f := 11) rfl ?_); refine goesL_ (some 5) rfl rfl Try.func11 (by kernel_rfl) rfl #[.int .i64 t148] rfl (by (try simp only [List.map_toArray, List.map_cons, List.map_nil]); first | done | rfl | (simp only [List.length_drop, List.length_take]; rfl)) ?_; (with_reducible refine (folkmootlaw04_num.calls t148 t149 _ A3.out).mono ?_); rintro e w' ⟨rfl, ⟨nd, rfl⟩⟩; refine ⟨_, rfl, ?_⟩) | (go_at_call 22; (with_reducible refine (topo_Find.calls _ _ t145 (⟨#[107]⟩ : ByteArray) t150 _ ?side1 ?side2 A5.out).mono ?_); (case side1 => exact uC (Kd.N_reads' HO147.out).2.2); (case side2 => exact (Kd.N_reads' HO147.out).2.1); rintro e w129 ⟨rfl, hb⟩; replace HO147 := Aside0.mk (Kd.N_below (by (with_reducible repeat (first | apply Kd.N_alloc | apply Kd.N_drewN | apply Kd.N_drew)); exact HO147.out) hb); replace HB := sB HB hb; (try clear hb); (try clear hb2); (try clear hk); (try clear hi)) | (go_at_call 22; (with_reducible refine (topo_Find.calls _ _ t145 (⟨#[109]⟩ : ByteArray) t151 _ ?side1 ?side2 A7.out).mono ?_); (case side1 => exact uC (Kd.N_reads' HO147.out).2.2); (case side2 => exact (Kd.N_reads' HO147.out).2.1); rintro e w130 ⟨rfl, hb⟩; replace HO147 := Aside0.mk (Kd.N_below (by (with_reducible repeat (first | apply Kd.N_alloc | apply Kd.N_drewN | apply Kd.N_drew)); exact HO147.out) hb); replace HB := sB HB hb; (try clear hb); (try clear hb2); (try clear hk); (try clear hi)) | (go_at_call 14; (with_reducible refine (topo_Owned.calls k _ _ t145 3 t152 _ ?side1 ?side2 A9.out).mono ?_); (case side1 => exact uC (Kd.N_reads' HO147.out).2.2); (case side2 => exact (Kd.N_reads' HO147.out).2.1); rintro e w131 ⟨v153, rfl, ho0, hb⟩; replace HO147 := Aside0.mk (Kd.N_elder' (by (with_reducible repeat (first | apply Kd.N_alloc | apply Kd.N_drewN | apply Kd.N_drew)); exact HO147.out) (Kd.R_base ho0) hb); have HO154 := lR ho0 HB; replace HB := sB HB hb; (try clear hb); (try clear hb2); (try clear hk); (try clear hi); (try clear ho0)) | ((with_reducible refine gate_dst (N := 21) rfl ?_); (try (refine gate_guard (by rfl) ?_; dsimp only)); refine Kd.R_lit k35 _ 35 ?hg (N := 21) ?hd (xs := ([(⟨(⟨#[]⟩ : ByteArray), (⟨#[]⟩ : ByteArray)⟩ : S35)] : List (S35))) (inner := [.string (⟨#[]⟩ : ByteArray), .string (⟨#[]⟩ : ByteArray)]) (ok := fun _ => True) (okp := fun _ => True) ?hr ?hp (fun _ hk => hk) trivial (Below.refl _ _) (Nat.le_refl _) (by simp) ?_; (case hd => rfl); (case hg => rfl); (case hr => first | (go_simp; done) | (go_simp; rfl)); (case hp => exact (Reps.c2 (show Kd.M k35 _ _ _ (⟨(⟨#[]⟩ : ByteArray), (⟨#[]⟩ : ByteArray)⟩ : S35) [.string (⟨#[]⟩ : ByteArray), .string (⟨#[]⟩ : ByteArray)] from (k35_mkM _ _ _ (⟨(⟨#[]⟩ : ByteArray), (⟨#[]⟩ : ByteArray)⟩ : S35) )) (Reps.none _ _))); intro v156 w132 ho133 hb hg_ hnew_; clear hg_ hnew_; (first | rw [← Ny155.out] at ho133 | (simp only [Int.reduceToNat] at ho133; rw [← Ny155.out] at ho133)); replace HO147 := Aside0.mk (Kd.N_elder' (by (with_reducible repeat (first | apply Kd.N_alloc | apply Kd.N_drewN | apply Kd.N_drew)); exact HO147.out) (Kd.R_base ho133) hb); have HO157 := lR (nR ho133 HO154) HB; replace HO154 := eR HO154 ho133 hb; replace HB := sB HB hb; clear hb ho133; obtain ⟨Ao134, co134, eo134⟩ := Kd.R_slice HO154.out; subst eo134; obtain ⟨Ao135, co135, eo135⟩ := Kd.R_slice HO157.out; subst eo135) | (go_at_call 16; (with_reducible refine (folkmootref03_Same.calls k _ _ t152 _ _ y155 false _ ?side1 ?side2 ?side3 ?side4 A10.out).mono ?_); (case side1 => exact uC (Kd.R_reads' HO154.out).2.2); (case side2 => exact (Kd.R_reads' HO154.out).2.1); (case side3 => exact uC (Kd.R_reads' HO157.out).2.2); (case side4 => exact (Kd.R_reads' HO157.out).2.1); rintro e w' ⟨rfl, ⟨nd, rfl⟩⟩))
          go_ret
          exact ⟨by first | rfl | (simp [errW_none, errW_some] <;> rfl) | (simp [*, errW_none, errW_some] <;> rfl), by repeat (first | (with_reducible first | exact HB.out | apply below_alloc | apply pw_below_drewN | apply below_drew1) | exact HB.out)⟩
      · rw [if_neg c8] at H
        have c8b0 : (t151 == 1) = false := beq_eq_false_iff_ne.mpr c8
        (try (have c8e : ¬ (t151 = 1) := by simpa using c8))
        have c8b1 : (t151 != 1) = true := bne_iff_ne.mpr c8
        obtain rfl := Option.some.inj H
        go_enter Try.func10, Try.ntmps10
        go_wp2_with (first | ((with_reducible refine gate_callee (f := 31) rfl ?_); refine goesL_ (some 2) rfl rfl Try.func31 (by kernel_rfl) rfl #[] rfl (by (try simp only [List.map_toArray, List.map_cons, List.map_nil]); first | done | rfl | (simp only [List.length_drop, List.length_take]; rfl)) ?_; (with_reducible refine (folkmootlaw04_two.calls  t145 _ A1.out).mono ?_); rintro e w136 ⟨v146, rfl, ho0, hb⟩; refine ⟨_, rfl, ?_⟩; have HO147 := Aside0.mk (Kd.N_lower (Kd.N_mono (ok' := fun k_ => True) ho0 (fun k_ hk_ => trivial)) (below_size (uB HB))); replace HB := sB HB hb; (try clear hb); (try clear hb2); (try clear hk); (try clear hi); (try clear ho0); obtain ⟨Ao137, co137, eo137⟩ := Kd.N_slice HO147.out; subst eo137) | ((with_reducible refine gate_callee (f := 12) rfl ?_); refine goesL_ (some 4) rfl rfl Try.func12 (by kernel_rfl) rfl #[.slice Ao137 t145.length co137] rfl (by (try simp only [List.map_toArray, List.map_cons, List.map_nil]); first | done | rfl | (simp only [List.length_drop, List.length_take]; rfl)) ?_; (with_reducible refine (topo_Check.calls _ _ t145 t148 _ ?side1 ?side2 A2.out).mono ?_); (case side1 => exact uC (Kd.N_reads' HO147.out).2.2); (case side2 => exact (Kd.N_reads' HO147.out).2.1); rintro e w138 ⟨rfl, hb⟩; refine ⟨_, rfl, ?_⟩; replace HO147 := Aside0.mk (Kd.N_below (by (with_reducible repeat (first | apply Kd.N_alloc | apply Kd.N_drewN | apply Kd.N_drew)); exact HO147.out) hb); replace HB := sB HB hb; (try clear hb); (try clear hb2); (try clear hk); (try clear hi)) | ((with_reducible refine gate_callee (f := 11) rfl ?_); refine goesL_ (some 5) rfl rfl Try.func11 (by kernel_rfl) rfl #[.int .i64 t148] rfl (by (try simp only [List.map_toArray, List.map_cons, List.map_nil]); first | done | rfl | (simp only [List.length_drop, List.length_take]; rfl)) ?_; (with_reducible refine (folkmootlaw04_num.calls t148 t149 _ A3.out).mono ?_); rintro e w' ⟨rfl, ⟨nd, rfl⟩⟩; refine ⟨_, rfl, ?_⟩) | (go_at_call 22; (with_reducible refine (topo_Find.calls _ _ t145 (⟨#[107]⟩ : ByteArray) t150 _ ?side1 ?side2 A5.out).mono ?_); (case side1 => exact uC (Kd.N_reads' HO147.out).2.2); (case side2 => exact (Kd.N_reads' HO147.out).2.1); rintro e w139 ⟨rfl, hb⟩; replace HO147 := Aside0.mk (Kd.N_below (by (with_reducible repeat (first | apply Kd.N_alloc | apply Kd.N_drewN | apply Kd.N_drew)); exact HO147.out) hb); replace HB := sB HB hb; (try clear hb); (try clear hb2); (try clear hk); (try clear hi)) | (go_at_call 22; (with_reducible refine (topo_Find.calls _ _ t145 (⟨#[109]⟩ : ByteArray) t151 _ ?side1 ?side2 A7.out).mono ?_); (case side1 => exact uC (Kd.N_reads' HO147.out).2.2); (case side2 => exact (Kd.N_reads' HO147.out).2.1); rintro e w140 ⟨rfl, hb⟩; replace HO147 := Aside0.mk (Kd.N_below (by (with_reducible repeat (first | apply Kd.N_alloc | apply Kd.N_drewN | apply Kd.N_drew)); exact HO147.out) hb); replace HB := sB HB hb; (try clear hb); (try clear hb2); (try clear hk); (try clear hi)))
        go_ret
        exact ⟨by first | rfl | (simp [errW_none, errW_some] <;> rfl) | (simp [*, errW_none, errW_some] <;> rfl), by repeat (first | (with_reducible first | exact HB.out | apply below_alloc | apply pw_below_drewN | apply below_drew1) | exact HB.out)⟩
    · rw [if_neg c6] at H
      have c6b0 : (t150 == 0) = false := beq_eq_false_iff_ne.mpr c6
      (try (have c6e : ¬ (t150 = 0) := by simpa using c6))
      have c6b1 : (t150 != 0) = true := bne_iff_ne.mpr c6
      obtain rfl := Option.some.inj H
      go_enter Try.func10, Try.ntmps10
      go_wp2_with (first | ((with_reducible refine gate_callee (f := 31) rfl ?_); refine goesL_ (some 2) rfl rfl Try.func31 (by kernel_rfl) rfl #[] rfl (by (try simp only [List.map_toArray, List.map_cons, List.map_nil]); first | done | rfl | (simp only [List.length_drop, List.length_take]; rfl)) ?_; (with_reducible refine (folkmootlaw04_two.calls  t145 _ A1.out).mono ?_); rintro e w141 ⟨v146, rfl, ho0, hb⟩; refine ⟨_, rfl, ?_⟩; have HO147 := Aside0.mk (Kd.N_lower (Kd.N_mono (ok' := fun k_ => True) ho0 (fun k_ hk_ => trivial)) (below_size (uB HB))); replace HB := sB HB hb; (try clear hb); (try clear hb2); (try clear hk); (try clear hi); (try clear ho0); obtain ⟨Ao142, co142, eo142⟩ := Kd.N_slice HO147.out; subst eo142) | ((with_reducible refine gate_callee (f := 12) rfl ?_); refine goesL_ (some 4) rfl rfl Try.func12 (by kernel_rfl) rfl #[.slice Ao142 t145.length co142] rfl (by (try simp only [List.map_toArray, List.map_cons, List.map_nil]); first | done | rfl | (simp only [List.length_drop, List.length_take]; rfl)) ?_; (with_reducible refine (topo_Check.calls _ _ t145 t148 _ ?side1 ?side2 A2.out).mono ?_); (case side1 => exact uC (Kd.N_reads' HO147.out).2.2); (case side2 => exact (Kd.N_reads' HO147.out).2.1); rintro e w143 ⟨rfl, hb⟩; refine ⟨_, rfl, ?_⟩; replace HO147 := Aside0.mk (Kd.N_below (by (with_reducible repeat (first | apply Kd.N_alloc | apply Kd.N_drewN | apply Kd.N_drew)); exact HO147.out) hb); replace HB := sB HB hb; (try clear hb); (try clear hb2); (try clear hk); (try clear hi)) | ((with_reducible refine gate_callee (f := 11) rfl ?_); refine goesL_ (some 5) rfl rfl Try.func11 (by kernel_rfl) rfl #[.int .i64 t148] rfl (by (try simp only [List.map_toArray, List.map_cons, List.map_nil]); first | done | rfl | (simp only [List.length_drop, List.length_take]; rfl)) ?_; (with_reducible refine (folkmootlaw04_num.calls t148 t149 _ A3.out).mono ?_); rintro e w' ⟨rfl, ⟨nd, rfl⟩⟩; refine ⟨_, rfl, ?_⟩) | (go_at_call 22; (with_reducible refine (topo_Find.calls _ _ t145 (⟨#[107]⟩ : ByteArray) t150 _ ?side1 ?side2 A5.out).mono ?_); (case side1 => exact uC (Kd.N_reads' HO147.out).2.2); (case side2 => exact (Kd.N_reads' HO147.out).2.1); rintro e w144 ⟨rfl, hb⟩; replace HO147 := Aside0.mk (Kd.N_below (by (with_reducible repeat (first | apply Kd.N_alloc | apply Kd.N_drewN | apply Kd.N_drew)); exact HO147.out) hb); replace HB := sB HB hb; (try clear hb); (try clear hb2); (try clear hk); (try clear hi)))
      go_ret
      exact ⟨by first | rfl | (simp [errW_none, errW_some] <;> rfl) | (simp [*, errW_none, errW_some] <;> rfl), by repeat (first | (with_reducible first | exact HB.out | apply below_alloc | apply pw_below_drewN | apply below_drew1) | exact HB.out)⟩
  · rw [if_neg c4] at H
    have c4b0 : (t149 == 0) = false := beq_eq_false_iff_ne.mpr c4
    (try (have c4e : ¬ (t149 = 0) := by simpa using c4))
    have c4b1 : (t149 != 0) = true := bne_iff_ne.mpr c4
    obtain rfl := Option.some.inj H
    go_enter Try.func10, Try.ntmps10
    go_wp2_with (first | ((with_reducible refine gate_callee (f := 31) rfl ?_); refine goesL_ (some 2) rfl rfl Try.func31 (by kernel_rfl) rfl #[] rfl (by (try simp only [List.map_toArray, List.map_cons, List.map_nil]); first | done | rfl | (simp only [List.length_drop, List.length_take]; rfl)) ?_; (with_reducible refine (folkmootlaw04_two.calls  t145 _ A1.out).mono ?_); rintro e w145 ⟨v146, rfl, ho0, hb⟩; refine ⟨_, rfl, ?_⟩; have HO147 := Aside0.mk (Kd.N_lower (Kd.N_mono (ok' := fun k_ => True) ho0 (fun k_ hk_ => trivial)) (below_size (uB HB))); replace HB := sB HB hb; (try clear hb); (try clear hb2); (try clear hk); (try clear hi); (try clear ho0); obtain ⟨Ao146, co146, eo146⟩ := Kd.N_slice HO147.out; subst eo146) | ((with_reducible refine gate_callee (f := 12) rfl ?_); refine goesL_ (some 4) rfl rfl Try.func12 (by kernel_rfl) rfl #[.slice Ao146 t145.length co146] rfl (by (try simp only [List.map_toArray, List.map_cons, List.map_nil]); first | done | rfl | (simp only [List.length_drop, List.length_take]; rfl)) ?_; (with_reducible refine (topo_Check.calls _ _ t145 t148 _ ?side1 ?side2 A2.out).mono ?_); (case side1 => exact uC (Kd.N_reads' HO147.out).2.2); (case side2 => exact (Kd.N_reads' HO147.out).2.1); rintro e w147 ⟨rfl, hb⟩; refine ⟨_, rfl, ?_⟩; replace HO147 := Aside0.mk (Kd.N_below (by (with_reducible repeat (first | apply Kd.N_alloc | apply Kd.N_drewN | apply Kd.N_drew)); exact HO147.out) hb); replace HB := sB HB hb; (try clear hb); (try clear hb2); (try clear hk); (try clear hi)) | ((with_reducible refine gate_callee (f := 11) rfl ?_); refine goesL_ (some 5) rfl rfl Try.func11 (by kernel_rfl) rfl #[.int .i64 t148] rfl (by (try simp only [List.map_toArray, List.map_cons, List.map_nil]); first | done | rfl | (simp only [List.length_drop, List.length_take]; rfl)) ?_; (with_reducible refine (folkmootlaw04_num.calls t148 t149 _ A3.out).mono ?_); rintro e w' ⟨rfl, ⟨nd, rfl⟩⟩; refine ⟨_, rfl, ?_⟩))
    go_ret
    exact ⟨by first | rfl | (simp [errW_none, errW_some] <;> rfl) | (simp [*, errW_none, errW_some] <;> rfl), by repeat (first | (with_reducible first | exact HB.out | apply below_alloc | apply pw_below_drewN | apply below_drew1) | exact HB.out)⟩
end Go.Proofs.Ytaedgbkeiankcaa.P
namespace Go.Proofs.Ytaedgbkeiankcaa.P
open Go.RowKit Go.Proofs.YtaedgbkeiankcaaW.PrintWords
set_option linter.unusedVariables false
set_option linter.unusedSimpArgs false
abbrev Spn := S35
def twoT : List Shd := [(⟨(⟨(⟨#[]⟩ : ByteArray), (⟨#[109]⟩ : ByteArray)⟩ : Spn), (([1, 2, 3] : List Int))⟩ : Shd), (⟨(⟨(⟨#[109]⟩ : ByteArray), (⟨#[]⟩ : ByteArray)⟩ : Spn), (([3, 4, 5] : List Int))⟩ : Shd)]
def twoS : List Spn := [(⟨(⟨#[]⟩ : ByteArray), (⟨#[109]⟩ : ByteArray)⟩ : Spn), (⟨(⟨#[109]⟩ : ByteArray), (⟨#[]⟩ : ByteArray)⟩ : Spn)]
theorem two_union : span_Union.f twoS = some [(⟨(⟨#[]⟩ : ByteArray), (⟨#[]⟩ : ByteArray)⟩ : Spn)] := by
  have hf : twoS.filter fullSp = twoS := by kernel_rfl
  have hr : Rises ltFrom twoS := by
    unfold Rises twoS
    refine List.Pairwise.cons ?_ (List.Pairwise.cons ?_ List.Pairwise.nil)
    · intro x hx
      simp only [List.mem_cons, List.not_mem_nil, or_false] at hx
      subst hx
      kernel_rfl
    · intro x hx
      cases hx
  have h := (union_one twoS twoS (by rw [hf]) hr).1
  unfold span_Union.f
  rw [if_pos (by decide), ← h]
  exact (show some (mergeAll twoS) = some [(⟨(⟨#[]⟩ : ByteArray), (⟨#[]⟩ : ByteArray)⟩ : Spn)] by kernel_rfl)
theorem tlive_val : folkmootlaw04_live.f 40 = some true := by
  have e0 : folkmootlaw04_two.f = some twoT := rfl
  have e1 : topo_Check.f twoT = some 0 := by kernel_rfl
  have e2 : ∀ x, folkmootlaw04_num.f x = some x := fun _ => rfl
  have e3 : topo_Find.f twoT (⟨#[107]⟩ : ByteArray) = some 0 := by kernel_rfl
  have e4 : topo_Find.f twoT (⟨#[109]⟩ : ByteArray) = some 1 := by kernel_rfl
  have e5 : topo_Owned.f 40 twoT 3 = span_Union.f twoS := by kernel_rfl
  rw [two_union] at e5
  have e6 : folkmootref03_Same.f 40 [(⟨(⟨#[]⟩ : ByteArray), (⟨#[]⟩ : ByteArray)⟩ : Spn)] [(⟨(⟨#[]⟩ : ByteArray), (⟨#[]⟩ : ByteArray)⟩ : Spn)] = some true := by kernel_rfl
  have e7 : topo_Quorum.f ((rd_T37 twoT 0).f0.f0) ((rd_T37 twoT 0).f0.f1) ((rd_T37 twoT 0).f1) = some 2 := by kernel_rfl
  have e8 : topo_Nodes.f twoT [0, 1] = some [1, 2, 3, 4, 5] := by kernel_rfl
  have e9 : folkmootref04_Ints.f 40 [1, 2, 3, 4, 5] [1, 2, 3, 4, 5] = some true := by kernel_rfl
  have e10 : topo_Check.f [] = some 40 := by kernel_rfl
  have e11 : topo_Keeps.f 40 twoT 5 [1] = some true := by kernel_rfl
  have e12 : topo_Keeps.f 40 twoT 5 [0] = some false := by kernel_rfl
  have hl : (0 : Int) < (twoT.length : Int) := by decide
  unfold folkmootlaw04_live.f
  simp only [e0, e1, e2, e3, e4, e5, e6, e7, e8, e9, e10, e11, e12, Option.bind_some, if_true, if_pos hl, Bool.not_false]
theorem tlive_ev : Ev (fun k => folkmootlaw04_live.f k) true := Ev.of (g := fun k => folkmootlaw04_live.f k) folkmootlaw04_live.mono tlive_val
theorem tsmall_end (l : List Shd) (s : List Spn) (x : Int) : ∃ b, (if (l.length : Int) ≤ 30 then (if (s.length : Int) ≤ 30 then (some (decide (x ≤ 4000))) else (some false)) else (some false)) = some b ∧ (b = true → l.length ≤ 30 ∧ s.length ≤ 30) := by
  by_cases c : (l.length : Int) ≤ 30
  · by_cases c2 : (s.length : Int) ≤ 30
    · exact ⟨_, by rw [if_pos c, if_pos c2], fun _ => by omega⟩
    · exact ⟨false, by rw [if_pos c, if_neg c2], fun h => by cases h⟩
  · exact ⟨false, by rw [if_neg c], fun h => by cases h⟩
theorem tsmall_l1 (l : List Shd) (s : List Spn) (hs : s.length ≤ 9223372036854775806) : ∀ (d i : Nat) (x : Int), i ≤ s.length → s.length - i = d → ∃ b, Ev (fun k => folkmootlaw04_small.l1 k l s x (i : Int)) b ∧ (b = true → l.length ≤ 30 ∧ s.length ≤ 30) := by
  intro d
  induction d with
  | zero =>
    intro i x hi hd
    have h1 : ¬ (i : Int) < (s.length : Int) := by omega
    obtain ⟨b, hb, hb2⟩ := tsmall_end l s x
    exact ⟨b, Ev.step (f := fun _ => some b) (fun k => by simp only [folkmootlaw04_small.l1, if_neg h1, hb]) (Ev.val _), hb2⟩
  | succ d ih =>
    intro i x hi hd
    have h1 : (i : Int) < (s.length : Int) := by omega
    have h0 : (0 : Int) ≤ (i : Int) := by omega
    have hw : wrap64 ((i : Int) + 1) = ((i + 1 : Nat) : Int) := by rw [wrap_in] <;> omega
    by_cases h2 : (i : Int) ≤ 30
    · obtain ⟨b, hb, hb2⟩ := ih (i + 1) (wrap64 ((wrap64 (x + (((rd_T35 s (i : Int)).f0).size : Int))) + (((rd_T35 s (i : Int)).f1).size : Int))) (by omega) (by omega)
      exact ⟨b, Ev.step (fun k => by simp only [folkmootlaw04_small.l1, if_pos h1, if_pos h2, if_pos h0, hw]) hb, hb2⟩
    · obtain ⟨b, hb, hb2⟩ := tsmall_end l s x
      exact ⟨b, Ev.step (f := fun _ => some b) (fun k => by simp only [folkmootlaw04_small.l1, if_pos h1, if_neg h2, hb]) (Ev.val _), hb2⟩
theorem tsmall_j1 (l : List Shd) (s : List Spn) (hs : s.length ≤ 9223372036854775806) (x : Int) : ∃ b, Ev (fun k => folkmootlaw04_small.j1 k l s x) b ∧ (b = true → l.length ≤ 30 ∧ s.length ≤ 30) := by
  obtain ⟨b, hb, hb2⟩ := tsmall_l1 l s hs s.length 0 x (Nat.zero_le _) (Nat.sub_zero _)
  exact ⟨b, Ev.step (fun k => by simp only [folkmootlaw04_small.j1] <;> rfl) hb, hb2⟩
theorem tsmall_l0 (l : List Shd) (s : List Spn) (hl : l.length ≤ 9223372036854775806) (hs : s.length ≤ 9223372036854775806) : ∀ (d i : Nat) (x : Int), i ≤ l.length → l.length - i = d → ∃ b, Ev (fun k => folkmootlaw04_small.l0 k l s x (i : Int)) b ∧ (b = true → l.length ≤ 30 ∧ s.length ≤ 30) := by
  intro d
  induction d with
  | zero =>
    intro i x hi hd
    have h1 : ¬ (i : Int) < (l.length : Int) := by omega
    obtain ⟨b, hb, hb2⟩ := tsmall_j1 l s hs x
    exact ⟨b, Ev.step (fun k => by simp only [folkmootlaw04_small.l0, if_neg h1] <;> rfl) hb, hb2⟩
  | succ d ih =>
    intro i x hi hd
    have h1 : (i : Int) < (l.length : Int) := by omega
    have h0 : (0 : Int) ≤ (i : Int) := by omega
    have hw : wrap64 ((i : Int) + 1) = ((i + 1 : Nat) : Int) := by rw [wrap_in] <;> omega
    by_cases h2 : (i : Int) ≤ 30
    · obtain ⟨b, hb, hb2⟩ := ih (i + 1) (wrap64 ((wrap64 ((wrap64 (x + (((rd_T37 l (i : Int)).f0.f0).size : Int))) + (((rd_T37 l (i : Int)).f0.f1).size : Int))) + (((rd_T37 l (i : Int)).f1).length : Int))) (by omega) (by omega)
      exact ⟨b, Ev.step (fun k => by simp only [folkmootlaw04_small.l0, if_pos h1, if_pos h2, if_pos h0, hw]) hb, hb2⟩
    · obtain ⟨b, hb, hb2⟩ := tsmall_j1 l s hs x
      exact ⟨b, Ev.step (fun k => by simp only [folkmootlaw04_small.l0, if_pos h1, if_neg h2] <;> rfl) hb, hb2⟩
theorem tsmall_ev (l : List Shd) (s : List Spn) (hl : l.length ≤ 9223372036854775806) (hs : s.length ≤ 9223372036854775806) : ∃ b, Ev (fun k => folkmootlaw04_small.f k l s) b ∧ (b = true → l.length ≤ 30 ∧ s.length ≤ 30) := tsmall_l0 l s hl hs l.length 0 _ (Nat.zero_le _) (Nat.sub_zero _)
end Go.Proofs.Ytaedgbkeiankcaa.P
namespace Go.Proofs.Ytaedgbkeiankcaa.P
open Go.RowKit Go.Proofs.YtaedgbkeiankcaaW.PrintWords
set_option linter.unusedVariables false
set_option linter.unusedSimpArgs false
theorem rin_l0 (l : List Int) (v : Int) (hl : l.length ≤ 9223372036854775806) : ∀ (d i : Nat), i ≤ l.length → l.length - i = d → Ev (fun k => folkmootref04_In.l0 k l v (i : Int)) ((l.drop i).contains v) := by
  intro d
  induction d with
  | zero =>
    intro i hi hd
    have h1 : ¬ (i : Int) < (l.length : Int) := by omega
    rw [List.drop_of_length_le (by omega)]
    exact Ev.step (fun k => by simp only [folkmootref04_In.l0, if_neg h1] <;> rfl) (Ev.val _)
  | succ d ih =>
    intro i hi hd
    have h1 : (i : Int) < (l.length : Int) := by omega
    have h0 : (0 : Int) ≤ (i : Int) := by omega
    have hil : i < l.length := by omega
    have hw : wrap64 ((i : Int) + 1) = ((i + 1 : Nat) : Int) := by rw [wrap_in] <;> omega
    have hr := rdI_at l i hil
    rw [List.drop_eq_getElem_cons hil, List.contains_cons]
    have hn := ih (i + 1) (by omega) (by omega)
    generalize l[i] = x at hr
    by_cases hq : x = v
    · rw [beq_iff_eq.2 hq.symm, Bool.true_or]
      exact Ev.step (fun k => by simp only [folkmootref04_In.l0, if_pos h1, if_pos h0, hr, if_pos hq] <;> rfl) (Ev.val _)
    · rw [beq_eq_false_iff_ne.2 (fun e => hq e.symm), Bool.false_or]
      exact Ev.step (fun k => by simp only [folkmootref04_In.l0, if_pos h1, if_pos h0, hr, if_neg hq, hw] <;> rfl) hn
theorem rin_ev (l : List Int) (v : Int) (hl : l.length ≤ 9223372036854775806) : Ev (fun k => folkmootref04_In.f k l v) (l.contains v) := rin_l0 l v hl l.length 0 (Nat.zero_le _) (Nat.sub_zero _)
theorem ints_l0 (l : List Int) (hl : l.length ≤ 9223372036854775806) : ∀ (d i : Nat), i ≤ l.length → l.length - i = d → Ev (fun k => folkmootref04_Ints.l0 k l l (i : Int)) true := by
  intro d
  induction d with
  | zero =>
    intro i hi hd
    have h1 : ¬ (i : Int) < (l.length : Int) := by omega
    exact Ev.step (fun k => by simp only [folkmootref04_Ints.l0, if_neg h1] <;> rfl) (Ev.val _)
  | succ d ih =>
    intro i hi hd
    have h1 : (i : Int) < (l.length : Int) := by omega
    have h0 : (0 : Int) ≤ (i : Int) := by omega
    have hw : wrap64 ((i : Int) + 1) = ((i + 1 : Nat) : Int) := by rw [wrap_in] <;> omega
    exact Ev.step (fun k => by simp only [folkmootref04_Ints.l0, if_pos h1, if_pos h0, if_true, hw] <;> rfl) (ih (i + 1) (by omega) (by omega))
theorem ints_ev (l : List Int) (hl : l.length ≤ 9223372036854775806) : Ev (fun k => folkmootref04_Ints.f k l l) true :=
  Ev.congr (fun k => by simp only [folkmootref04_Ints.f, if_true] <;> rfl) (ints_l0 l hl l.length 0 (by omega) (by omega))
theorem places_mem {α : Type} (p : α → Bool) (z : α) (l : List α) (k : Nat) (v : Int) : v ∈ placesN p z l k ↔ ∃ j : Nat, v = (j : Int) ∧ j < k ∧ p (l.getD j z) = true := by
  unfold placesN
  rw [List.mem_map]
  constructor
  · rintro ⟨j, hj, rfl⟩
    rw [List.mem_filter, List.mem_range] at hj
    exact ⟨j, rfl, hj.1, hj.2⟩
  · rintro ⟨j, rfl, h1, h2⟩
    exact ⟨j, by rw [List.mem_filter, List.mem_range]; exact ⟨h1, h2⟩, rfl⟩
theorem places_contains {α : Type} (p : α → Bool) (z : α) (l : List α) (k j : Nat) : (placesN p z l k).contains (j : Int) = (decide (j < k) && p (l.getD j z)) := by
  rw [Bool.eq_iff_iff, List.contains_iff_mem, places_mem, Bool.and_eq_true, decide_eq_true_iff]
  constructor
  · rintro ⟨i, h, h1, h2⟩
    obtain rfl : j = i := by omega
    exact ⟨h1, h2⟩
  · rintro ⟨h1, h2⟩
    exact ⟨j, rfl, h1, h2⟩
theorem markA_at (a : List Bool) (n : Int) (j : Nat) (hj : j < a.length) (h0 : 0 < j) (h8 : a.length = 8) : (markA a n).getD j false = (a.getD j false || decide (n = (j : Int))) := by
  unfold markA
  by_cases h : 0 < n ∧ n < 8
  · rw [if_pos h]
    rw [List.getD_eq_getElem?_getD, List.getElem?_set, List.getD_eq_getElem?_getD]
    by_cases e : n.toNat = j
    · have : n = (j : Int) := by omega
      simp [e, hj, this]
    · have : ¬ n = (j : Int) := by omega
      simp [e, this]
  · rw [if_neg h]
    have : ¬ n = (j : Int) := by omega
    simp [this]
theorem markA_zero (a : List Bool) (n : Int) : (markA a n).getD 0 false = a.getD 0 false := by
  unfold markA
  split
  · rename_i h
    rw [List.getD_eq_getElem?_getD, List.getElem?_set, List.getD_eq_getElem?_getD, if_neg (by omega)]
  · rfl
theorem foldA_at (ns : List Int) : ∀ (a : List Bool) (j : Nat), j < a.length → 0 < j → a.length = 8 → (ns.foldl markA a).getD j false = (a.getD j false || ns.contains (j : Int)) := by
  induction ns with
  | nil => intro a j _ _ _; simp
  | cons n ns ih =>
    intro a j hj h0 h8
    rw [List.foldl_cons, ih _ j (by rw [markA_len]; exact hj) h0 (by rw [markA_len]; exact h8), markA_at a n j hj h0 h8, List.contains_cons, Bool.or_assoc]
    congr 2
    rw [Bool.eq_iff_iff, decide_eq_true_iff, beq_iff_eq]
    exact ⟨fun h => h.symm, fun h => h.symm⟩
theorem foldA_zero (ns : List Int) : ∀ (a : List Bool), (ns.foldl markA a).getD 0 false = a.getD 0 false := by
  induction ns with
  | nil => intro a; rfl
  | cons n ns ih => intro a; rw [List.foldl_cons, ih, markA_zero]
/-- is it a node of the shard at this place? -/
def nodeAt (l : List Shd) (i : Int) (j : Nat) : Bool := decide (0 ≤ i ∧ i < l.length) && (l.getD i.toNat z37).f1.contains (j : Int)
theorem markS_at (l : List Shd) (a : List Bool) (i : Int) (j : Nat) (hj : j < a.length) (h0 : 0 < j) (h8 : a.length = 8) : (markS l a i).getD j false = (a.getD j false || nodeAt l i j) := by
  unfold markS nodeAt
  by_cases h : 0 ≤ i ∧ i < l.length
  · rw [if_pos h, decide_eq_true h, Bool.true_and]
    exact foldA_at _ a j hj h0 h8
  · rw [if_neg h, decide_eq_false h, Bool.false_and, Bool.or_false]
theorem markS_zero (l : List Shd) (a : List Bool) (i : Int) : (markS l a i).getD 0 false = a.getD 0 false := by
  unfold markS
  split
  · exact foldA_zero _ _
  · rfl
theorem foldS_at (l : List Shd) (is : List Int) : ∀ (a : List Bool) (j : Nat), j < a.length → 0 < j → a.length = 8 → (is.foldl (markS l) a).getD j false = (a.getD j false || is.any fun i => nodeAt l i j) := by
  induction is with
  | nil => intro a j _ _ _; simp
  | cons n ns ih =>
    intro a j hj h0 h8
    rw [List.foldl_cons, ih _ j (by rw [markS_len]; exact hj) h0 (by rw [markS_len]; exact h8), markS_at l a n j hj h0 h8, List.any_cons, Bool.or_assoc]
theorem foldS_zero (l : List Shd) (is : List Int) : ∀ (a : List Bool), (is.foldl (markS l) a).getD 0 false = a.getD 0 false := by
  induction is with
  | nil => intro a; rfl
  | cons n ns ih => intro a; rw [List.foldl_cons, ih, markS_zero]
theorem nodesL_contains (l : List Shd) (is : List Int) (j : Nat) : (nodesL l is).contains (j : Int) = (decide (0 < j ∧ j < 8) && is.any fun i => nodeAt l i j) := by
  unfold nodesL
  rw [places_contains]
  by_cases h8 : j < 8
  · by_cases h0 : 0 < j
    · rw [decide_eq_true h8, decide_eq_true ⟨h0, h8⟩, Bool.true_and, Bool.true_and, id_eq, foldS_at l is _ j (by simpa using h8) h0 (by simp)]
      have : (List.replicate 8 false).getD j false = false := by rw [List.getD_eq_getElem?_getD, List.getElem?_replicate]; split <;> rfl
      rw [this, Bool.false_or]
    · obtain rfl : j = 0 := by omega
      rw [id_eq, foldS_zero]
      simp
  · rw [decide_eq_false h8, decide_eq_false (by omega), Bool.false_and, Bool.false_and]
theorem nodesL_len (l : List Shd) (is : List Int) : (nodesL l is).length ≤ 8 := placesN_len _ _ _ _
theorem tnodes_f (l : List Shd) (is : List Int) : topo_Nodes.f l is = some (nodesL l is) := rfl
end Go.Proofs.Ytaedgbkeiankcaa.P
namespace Go.Proofs.Ytaedgbkeiankcaa.P
open Go.RowKit Go.Proofs.YtaedgbkeiankcaaW.PrintWords
set_option linter.unusedVariables false
theorem inSp_iff (k : ByteArray) (x : S35) : inSp k x = true ↔ Sp.inn (tx k) (toSp x) := by
  unfold inSp Sp.inn toSp
  simp only [Bool.and_eq_true, Bool.not_eq_true', Bool.or_eq_true, List.isEmpty_iff, ← tx_nil]
  exact Iff.rfl
theorem any_iff (l : List S35) (k : ByteArray) : l.any (inSp k) = true ↔ Sp.mem (l.map toSp) (tx k) := by
  rw [List.any_eq_true]
  constructor
  · rintro ⟨x, hx, h⟩
    exact ⟨toSp x, List.mem_map.2 ⟨x, hx, rfl⟩, (inSp_iff k x).1 h⟩
  · rintro ⟨s, hs, h⟩
    obtain ⟨x, hx, rfl⟩ := List.mem_map.1 hs
    exact ⟨x, hx, (inSp_iff k x).2 h⟩
theorem in_val (x : S35) (k : ByteArray) : folkmootref03_in.f x.f0 x.f1 k = some (inSp k x) := by
  unfold folkmootref03_in.f inSp
  cases h1 : Op.bytesLess k.toList x.f0.toList with
  | true => simp
  | false =>
    by_cases h2 : x.f1.toList = []
    · simp [h2]
    · have : x.f1.toList.isEmpty = false := by simpa using h2
      simp [h2]
theorem has_l0 (l : List S35) (a : ByteArray) (hl : l.length ≤ 9223372036854775806) : ∀ (d i : Nat), i ≤ l.length → l.length - i = d → Ev (fun k => folkmootref03_Has.l0 k l a (i : Int)) ((l.drop i).any (inSp a)) := by
  intro d
  induction d with
  | zero =>
    intro i hi hd
    have h1 : ¬ (i : Int) < (l.length : Int) := by omega
    rw [List.drop_eq_nil_of_le (by omega)]
    exact Ev.step (fun k => by simp only [folkmootref03_Has.l0, if_neg h1]; rfl) (Ev.val _)
  | succ d ih =>
    intro i hi hd
    have h1 : (i : Int) < (l.length : Int) := by omega
    have h0 : (0 : Int) ≤ (i : Int) := by omega
    have hil : i < l.length := by omega
    have hw : wrap64 ((i : Int) + 1) = ((i + 1 : Nat) : Int) := by rw [wrap_in] <;> omega
    rw [List.drop_eq_getElem_cons hil, List.any_cons]
    cases c : inSp a l[i] with
    | true =>
      exact Ev.step (fun k => by simp only [folkmootref03_Has.l0, if_pos h1, if_pos h0, rd_at l i hil, in_val, c, Option.bind_some, if_true]) (Ev.eq (Ev.val true) (by simp))
    | false =>
      exact Ev.step (fun k => by simp only [folkmootref03_Has.l0, if_pos h1, if_pos h0, rd_at l i hil, in_val, c, Option.bind_some, Bool.false_eq_true, if_false, hw]) (Ev.eq (ih (i + 1) (by omega) (by omega)) (by simp))
theorem has_ev (l : List S35) (a : ByteArray) (hl : l.length ≤ 9223372036854775806) : Ev (fun k => folkmootref03_Has.f k l a) (l.any (inSp a)) := has_l0 l a hl l.length 0 (by omega) (by omega)
theorem nil_list : (⟨#[]⟩ : ByteArray).toList = [] := by
  first | rfl | kernel_rfl | decide | simp
section
variable (a b : List S35) (w : Int) (m : List ByteArray)
end
theorem any_full (l : List S35) (k : ByteArray) : (l.filter fullSp).any (inSp k) = l.any (inSp k) := by
  rw [List.any_filter]
  congr 1
  funext x
  cases c : inSp k x with
  | false => simp
  | true =>
    have h1 := (inSp_iff k x).1 c
    have : fullSp x = true := (fullSp_iff x).2 (by
      unfold Sp.full
      obtain ⟨h2, h3 | h3⟩ := h1
      · exact .inl h3
      · right
        grind)
    rw [this]
    rfl
theorem union_any (l : List S35) (k : ByteArray) : (unionL l).any (inSp k) = l.any (inSp k) := by
  rw [← any_full l]
  exact Bool.eq_iff_iff.2 (by rw [any_iff, any_iff, (union_of l).mem])
theorem union_len (l : List S35) : (unionL l).length ≤ l.length := by
  have := (union_of l).len
  rw [List.length_map, List.length_map] at this
  have := List.length_filter_le fullSp l
  omega
end Go.Proofs.Ytaedgbkeiankcaa.P
namespace Go.Proofs.Ytaedgbkeiankcaa.P
open Go.RowKit Go.Proofs.YtaedgbkeiankcaaW.PrintWords
set_option linter.unusedVariables false
theorem least_or (a b : ByteArray) : (tx (leastV a b) = tx a ∧ (tx b = .nil ∨ (tx a ≠ .nil ∧ tx a ≤ tx b))) ∨ (tx (leastV a b) = tx b ∧ tx b ≠ .nil ∧ (tx a = .nil ∨ tx b < tx a)) := by
  unfold leastV
  by_cases h1 : a.toList = []
  · have e1 := (tx_nil a).2 h1
    rw [if_pos h1]
    by_cases h2 : b.toList = []
    · have e2 := (tx_nil b).2 h2
      exact .inl ⟨by rw [e1, e2], .inl e2⟩
    · exact .inr ⟨rfl, fun e => h2 ((tx_nil b).1 e), .inl e1⟩
  · rw [if_neg h1]
    have e1 : tx a ≠ .nil := fun e => h1 ((tx_nil a).1 e)
    by_cases h2 : b.toList = []
    · rw [if_pos h2]
      exact .inl ⟨rfl, .inl ((tx_nil b).2 h2)⟩
    · rw [if_neg h2]
      have e2 : tx b ≠ .nil := fun e => h2 ((tx_nil b).1 e)
      by_cases h3 : Op.bytesLess b.toList a.toList = true
      · rw [if_pos h3]
        exact .inr ⟨rfl, e2, .inr h3⟩
      · rw [if_neg h3]
        exact .inl ⟨rfl, .inr ⟨e1, Bool.eq_false_iff.2 h3⟩⟩
theorem mxs_or (a b : ByteArray) : (tx (mxs a b) = tx a ∧ tx b ≤ tx a) ∨ (tx (mxs a b) = tx b ∧ tx a ≤ tx b) := by
  unfold mxs
  split
  · rename_i h
    exact .inr ⟨rfl, bytesLess_asymm h⟩
  · rename_i h
    exact .inl ⟨rfl, Bool.eq_false_iff.2 h⟩
theorem both_in (s t : S35) (k : Txt) : Sp.inn k (toSp (bothV s t)) ↔ Sp.inn k (toSp s) ∧ Sp.inn k (toSp t) := by
  have h1 := least_or s.f1 t.f1
  have h2 := mxs_or s.f0 t.f0
  unfold Sp.inn toSp bothV
  dsimp only
  grind
theorem in_full {k : Txt} {s : Sp} (h : Sp.inn k s) : Sp.full s := by
  unfold Sp.inn at h
  unfold Sp.full
  grind
theorem cut_spec : ∀ (n : Nat) (a b : List S35), a.length + b.length ≤ n → Sp.Can (a.map toSp) → Sp.Can (b.map toSp) → Sp.Can ((cutN n a b).map toSp) ∧ ∀ k : Txt, Sp.mem ((cutN n a b).map toSp) k ↔ Sp.mem (a.map toSp) k ∧ Sp.mem (b.map toSp) k
  | n, [], b, _, _, _ => by
    rw [cutN_nil]
    exact ⟨Sp.can_nil, fun k => by simp [Sp.mem_nil]⟩
  | n, s :: a, [], _, _, _ => by
    rw [cutN_nil2]
    exact ⟨Sp.can_nil, fun k => by simp [Sp.mem_nil]⟩
  | 0, s :: a, t :: b, h, _, _ => by simp at h
  | n + 1, s :: a, t :: b, h, ha, hb => by
    simp only [List.length_cons] at h
    rw [List.map_cons] at ha hb
    have hL := least_or s.f1 t.f1
    have hbi := both_in s t
    have hbt : (toSp (bothV s t)).t = tx (leastV s.f1 t.f1) := rfl
    have hst : (toSp s).t = tx s.f1 := rfl
    have htt : (toSp t).t = tx t.f1 := rfl
    -- what is behind
    obtain ⟨hc, hm, hg⟩ : Sp.Can ((if (bothV s t).f1.toList = s.f1.toList then cutN n a (t :: b) else cutN n (s :: a) b).map toSp) ∧
        (∀ k, (Sp.mem (toSp s :: a.map toSp) k ∧ Sp.mem (toSp t :: b.map toSp) k) ↔ Sp.inn k (toSp (bothV s t)) ∨ Sp.mem ((if (bothV s t).f1.toList = s.f1.toList then cutN n a (t :: b) else cutN n (s :: a) b).map toSp) k) ∧
        (∀ k, Sp.mem ((if (bothV s t).f1.toList = s.f1.toList then cutN n a (t :: b) else cutN n (s :: a) b).map toSp) k → (toSp (bothV s t)).t ≠ .nil ∧ (toSp (bothV s t)).t < k) := by
      by_cases c : (bothV s t).f1.toList = s.f1.toList
      · have c' : tx (leastV s.f1 t.f1) = tx s.f1 := by unfold tx; exact congrArg Txt.mk c
        simp only [if_pos c]
        obtain ⟨h1, h2⟩ := cut_spec n a (t :: b) (by simp only [List.length_cons]; omega) ha.tail (by rw [List.map_cons]; exact hb)
        rw [List.map_cons] at h2
        refine ⟨h1, fun k => ?_, fun k hk => ?_⟩
        · rw [h2, hbi, Sp.mem_cons, Sp.mem_cons]
          have hb1 := fun h => hb.behind (k := k) h
          rw [htt] at hb1
          unfold Sp.inn
          rw [hst, htt]
          grind
        · have := ha.behind ((h2 k).1 hk).1
          rw [hbt, c']
          exact this
      · have c' : tx (leastV s.f1 t.f1) ≠ tx s.f1 := fun e => c (congrArg Txt.l e)
        simp only [if_neg c]
        obtain ⟨h1, h2⟩ := cut_spec n (s :: a) b (by simp only [List.length_cons]; omega) (by rw [List.map_cons]; exact ha) hb.tail
        rw [List.map_cons] at h2
        have hL2 : tx (leastV s.f1 t.f1) = tx t.f1 ∧ tx t.f1 ≠ .nil ∧ (tx s.f1 = .nil ∨ tx t.f1 < tx s.f1) := by
          rcases hL with h | h
          · exact absurd h.1 c'
          · exact h
        refine ⟨h1, fun k => ?_, fun k hk => ?_⟩
        · rw [h2, hbi, Sp.mem_cons, Sp.mem_cons]
          have ha1 := fun h => ha.behind (k := k) h
          rw [hst] at ha1
          unfold Sp.inn
          rw [hst, htt]
          grind
        · have := hb.behind ((h2 k).1 hk).2
          rw [hbt, hL2.1]
          exact this
    unfold cutN
    generalize (if (bothV s t).f1.toList = s.f1.toList then cutN n a (t :: b) else cutN n (s :: a) b) = R at *
    by_cases cf : fullSp (bothV s t) = true
    · rw [if_pos cf, List.singleton_append, List.map_cons]
      refine ⟨Sp.can_cons ((fullSp_iff _).1 cf) hc (fun x hx => ?_), fun k => ?_⟩
      · exact hg x.f ⟨x, hx, Sp.full_in (hc.1 x hx)⟩
      · rw [Sp.mem_cons, List.map_cons, List.map_cons, hm]
    · rw [if_neg cf, List.nil_append]
      refine ⟨hc, fun k => ?_⟩
      rw [List.map_cons, List.map_cons, hm]
      constructor
      · exact .inr
      · rintro (h | h)
        · exact absurd ((fullSp_iff _).2 (in_full h)) cf
        · exact h
end Go.Proofs.Ytaedgbkeiankcaa.P
namespace Go.Proofs.Ytaedgbkeiankcaa.P
open Go.RowKit Go.Proofs.YtaedgbkeiankcaaW.PrintWords
set_option linter.unusedVariables false
set_option linter.unusedSimpArgs false
theorem topoB_iff (l : List Shd) (h : topoB l = true) : l.length ≠ 0 ∧ l.length ≤ 8 ∧ (∀ k, k < l.length - 1 → badS (beg l k) (l.getD k z37) = false) ∧ lastS (beg l (l.length - 1)) (l.getD (l.length - 1) z37) = true ∧ (∀ x ∈ l, nodesB x.f1 = true) := by
  unfold topoB at h
  rw [Bool.and_eq_true, Bool.and_eq_true, Bool.and_eq_true, decide_eq_true_iff, List.all_eq_true, List.all_eq_true] at h
  obtain ⟨⟨h0, h8⟩, h1, h2, h3⟩ := h
  exact ⟨h0, h8, fun k hk => by have := h1 k (List.mem_range.2 hk); simpa using this, h2, h3⟩
/-- each one begins where the last one has ended; each is whole -/
theorem topo_span (l : List Shd) (h : topoB l = true) (k : Nat) (hk : k < l.length) : (toSp l[k].f0).f = tx (beg l k) ∧ ((k + 1 = l.length ∧ (toSp l[k].f0).t = .nil) ∨ (k + 1 < l.length ∧ tx (beg l k) < (toSp l[k].f0).t ∧ (toSp l[k].f0).t ≠ .nil)) := by
  obtain ⟨h0, h8, h1, h2, h3⟩ := topoB_iff l h
  have hgd : l.getD k z37 = l[k] := by simp [List.getD_eq_getElem?_getD, hk]
  by_cases hl : k < l.length - 1
  · have hb := h1 k hl
    rw [hgd] at hb
    unfold badS at hb
    rw [Bool.or_eq_false_iff, Bool.or_eq_false_iff] at hb
    obtain ⟨b1, b2, b3⟩ := hb
    have e1 : l[k].f0.f0.toList = (beg l k).toList := by simpa using b1
    have e2 : Op.bytesLess (beg l k).toList l[k].f0.f1.toList = true := by simpa using b2
    refine ⟨by show (⟨l[k].f0.f0.toList⟩ : Txt) = ⟨(beg l k).toList⟩; rw [e1], .inr ⟨by omega, e2, fun e => ?_⟩⟩
    have e3 : l[k].f0.f1.toList = [] := (tx_nil _).1 e
    rw [e3] at e2
    have := Txt.nil_le ⟨(beg l k).toList⟩
    rw [Txt.le_def] at this
    exact absurd e2 (by rw [show Op.bytesLess (beg l k).toList [] = false from this]; simp)
  · have ek : k = l.length - 1 := by omega
    have hb := h2
    rw [← ek, hgd] at hb
    unfold lastS at hb
    rw [Bool.and_eq_true, beq_iff_eq, beq_iff_eq] at hb
    exact ⟨by show (⟨l[k].f0.f0.toList⟩ : Txt) = ⟨(beg l k).toList⟩; rw [hb.1], .inl ⟨by omega, (tx_nil _).2 hb.2⟩⟩
theorem topo_full (l : List Shd) (h : topoB l = true) (x : Shd) (hx : x ∈ l) : Sp.full (toSp x.f0) := by
  obtain ⟨k, hk, rfl⟩ := List.getElem_of_mem hx
  obtain ⟨h1, h2⟩ := topo_span l h k hk
  rcases h2 with ⟨_, h2⟩ | ⟨_, h2, _⟩
  · exact .inl h2
  · exact .inr (h1 ▸ h2)
theorem can_one {s : Sp} (h : Sp.full s) : Sp.Can [s] := Sp.can_cons h Sp.can_nil (fun t ht => by cases ht)
theorem ttouch_f (l : List Shd) (set : List Spn) (hl : l.length < 4398046511104) (hs : set.length + 1 < 4398046511104) : topo_Touch.f l set = some (placesL (meetP set) l) := by unfold topo_Touch.f; rw [if_pos ⟨hl, hs⟩]
end Go.Proofs.Ytaedgbkeiankcaa.P
namespace Go.Proofs.Ytaedgbkeiankcaa.P
open Go.RowKit Go.Proofs.YtaedgbkeiankcaaW.PrintWords
set_option linter.unusedVariables false
set_option linter.unusedSimpArgs false
theorem incD_iff : ∀ l : List Int, incD l = true ↔ l.Pairwise (· < ·)
  | [] => by simp [incD]
  | [a] => by simp [incD]
  | a :: b :: l => by
    rw [incD, Bool.and_eq_true, decide_eq_true_iff, incD_iff (b :: l), List.pairwise_cons (a := a)]
    constructor
    · rintro ⟨h1, h2⟩
      refine ⟨fun x hx => ?_, h2⟩
      rcases List.mem_cons.1 hx with rfl | hx
      · exact h1
      · have := (List.pairwise_cons.1 h2).1 x hx; omega
    · rintro ⟨h1, h2⟩
      exact ⟨h1 b (List.mem_cons_self ..), h2⟩
def okN (ns : List Int) (j : Nat) : Bool := (decide (1 ≤ ns.getD j 0) && decide (ns.getD j 0 ≤ 7)) && (decide (j = 0) || decide (ns.getD (j - 1) 0 < ns.getD j 0))
def okR (p : Nat → Bool) : Nat → Nat → Bool
  | 0, _ => true
  | d + 1, i => p i && okR p d (i + 1)
theorem okR_iff (p : Nat → Bool) : ∀ d i, okR p d i = true ↔ ∀ m, i ≤ m → m < i + d → p m = true
  | 0, i => by
    constructor
    · intro _ m h1 h2; omega
    · intro _; rfl
  | d + 1, i => by
    rw [okR, Bool.and_eq_true, okR_iff p d (i + 1)]
    constructor
    · rintro ⟨h1, h2⟩ m h3 h4
      by_cases e : m = i
      · subst e; exact h1
      · exact h2 m (by omega) (by omega)
    · intro h
      exact ⟨h i (Nat.le_refl _) (by omega), fun m h1 h2 => h m (by omega) (by omega)⟩
theorem nodesB_ok (ns : List Int) : nodesB ns = (decide (ns.length ≠ 0 ∧ ns.length ≤ 5) && okR (okN ns) ns.length 0) := by
  rw [Bool.eq_iff_iff, Bool.and_eq_true, decide_eq_true_iff, okR_iff]
  unfold nodesB
  have gd : ∀ m (h : m < ns.length), ns.getD m 0 = ns[m] := fun m h => by simp [List.getD_eq_getElem?_getD, h]
  constructor
  · intro h
    split at h
    · cases h
    · rename_i hn
      have h0 : ns.length ≠ 0 := fun e => hn (.inl e)
      have h5 : ¬ 5 < ns.length := fun e => hn (.inr (.inl e))
      have h1 : ¬ ns.getD 0 0 < 1 := fun e => hn (.inr (.inr (.inl e)))
      have h7 : ¬ 7 < ns.getD (ns.length - 1) 0 := fun e => hn (.inr (.inr (.inr e)))
      have hp := (incD_iff ns).1 h
      refine ⟨⟨h0, by omega⟩, fun m _ hm => ?_⟩
      rw [gd 0 (by omega)] at h1
      rw [gd (ns.length - 1) (by omega)] at h7
      unfold okN
      rw [gd m (by omega)]
      have a1 : 1 ≤ ns[m] := by
        by_cases e : m = 0
        · subst e; omega
        · have := List.pairwise_iff_getElem.1 hp 0 m (by omega) (by omega) (by omega); omega
      have a2 : ns[m] ≤ 7 := by
        by_cases e : m = ns.length - 1
        · subst e; omega
        · have := List.pairwise_iff_getElem.1 hp m (ns.length - 1) (by omega) (by omega) (by omega); omega
      rw [decide_eq_true a1, decide_eq_true a2]
      by_cases e : m = 0
      · simp [e]
      · rw [gd (m - 1) (by omega), decide_eq_true (List.pairwise_iff_getElem.1 hp (m - 1) m (by omega) (by omega) (by omega))]
        simp
  · rintro ⟨⟨h0, h5⟩, h⟩
    have hk : ∀ m (hm : m < ns.length), (1 ≤ ns[m] ∧ ns[m] ≤ 7) ∧ (m = 0 ∨ ns.getD (m - 1) 0 < ns[m]) := fun m hm => by
      have := h m (Nat.zero_le _) (by omega)
      unfold okN at this
      rw [gd m hm, Bool.and_eq_true, Bool.and_eq_true, Bool.or_eq_true, decide_eq_true_iff, decide_eq_true_iff, decide_eq_true_iff, decide_eq_true_iff] at this
      exact this
    have k0 := hk 0 (by omega)
    have k1 := hk (ns.length - 1) (by omega)
    rw [gd 0 (by omega), gd (ns.length - 1) (by omega), if_neg (by omega), incD_iff]
    have hstep : ∀ d i (hi : i + d + 1 < ns.length), ns[i] < ns[i + d + 1] := by
      intro d
      induction d with
      | zero =>
        intro i hi
        have := (hk (i + 1) (by omega)).2
        rw [show i + 1 - 1 = i from by omega, gd i (by omega)] at this
        rcases this with h | h
        · omega
        · exact h
      | succ d ih =>
        intro i hi
        have h1 := ih i (by omega)
        have h2 := (hk (i + (d + 1) + 1) (by omega)).2
        rw [show i + (d + 1) + 1 - 1 = i + d + 1 from by omega, gd (i + d + 1) (by omega)] at h2
        rcases h2 with h | h
        · omega
        · omega
    refine List.pairwise_iff_getElem.2 fun i j hi hj hij => ?_
    have := hstep (j - i - 1) i (by omega)
    have e : i + (j - i - 1) + 1 = j := by omega
    simpa [e] using this
end Go.Proofs.Ytaedgbkeiankcaa.P
namespace Go.Proofs.Ytaedgbkeiankcaa.P
open Go.RowKit Go.Proofs.YtaedgbkeiankcaaW.PrintWords
set_option linter.unusedVariables false
set_option linter.unusedSimpArgs false
/-- the spans of shards -/
def spnL (l : List Shd) (is : List Int) : List Spn := is.map fun i => (rd_T37 l i).f0
theorem spnL_len (l : List Shd) (is : List Int) : (spnL l is).length = is.length := List.length_map _
def ofL (l : List Shd) (n : Int) : List Int := placesL (fun x => x.f1.contains n) l
theorem ofL_len (l : List Shd) (n : Int) : (ofL l n).length ≤ l.length := by unfold ofL placesL; exact placesN_len _ _ _ _
theorem tof_f (l : List Shd) (n : Int) (hl : l.length < 4398046511104) : topo_Of.f l n = some (ofL l n) := by unfold topo_Of.f; rw [if_pos hl]; rfl
theorem ofL_at (l : List Shd) (n : Int) (v : Int) (h : v ∈ ofL l n) : ∃ j : Nat, v = (j : Int) ∧ ∃ hj : j < l.length, l[j].f1.contains n = true := by
  unfold ofL placesL at h
  obtain ⟨j, rfl, h1, h2⟩ := (places_mem _ _ _ _ _).1 h
  rw [show l.getD j z37 = l[j] by simp [List.getD_eq_getElem?_getD, h1]] at h2
  exact ⟨j, rfl, h1, h2⟩
def ownL (l : List Shd) (n : Int) : List Spn := unionL (spnL l (ofL l n))
theorem owned_l0 (l : List Shd) (is : List Int) (hl : l.length ≤ 30) (hi : is.length ≤ 30) (hm : ∀ v ∈ is, ∃ j : Nat, v = (j : Int) ∧ j < l.length) : ∀ (d i : Nat), i ≤ is.length → is.length - i = d →
    Ev (fun k => topo_Owned.l0 k l (spnL l (is.take i)) is (is.length : Int) (i : Int)) (unionL (spnL l is)) := by
  intro d
  induction d with
  | zero =>
    intro i hi2 hd
    have h1 : ¬ (i : Int) < (is.length : Int) := by omega
    rw [List.take_of_length_le (by omega)]
    have e : span_Union.f (spnL l is) = some (unionL (spnL l is)) := by unfold span_Union.f; rw [if_pos (by rw [spnL_len]; omega)]
    exact Ev.step (fun k => by simp only [topo_Owned.l0, if_neg h1, e, Option.bind_some] <;> rfl) (Ev.val _)
  | succ d ih =>
    intro i hi2 hd
    have h1 : (i : Int) < (is.length : Int) := by omega
    have h0 : (0 : Int) ≤ (i : Int) := by omega
    have hil : i < is.length := by omega
    have hw : wrap64 ((i : Int) + 1) = ((i + 1 : Nat) : Int) := by rw [wrap_in] <;> omega
    have hr := rdI_at is i hil
    obtain ⟨j, hj, hjl⟩ := hm _ (List.getElem_mem hil)
    have hn := ih (i + 1) (by omega) (by omega)
    have ht : spnL l (is.take (i + 1)) = spnL l (is.take i) ++ [(⟨(rd_T37 l is[i]).f0.f0, (rd_T37 l is[i]).f0.f1⟩ : Spn)] := by
      unfold spnL
      rw [List.take_succ_eq_append_getElem hil, List.map_append]
      rfl
    rw [ht] at hn
    have hlen : (spnL l (is.take i)).length < 4398046511104 := by rw [spnL_len, List.length_take]; omega
    have h2 : (0 : Int) ≤ is[i] := by omega
    have h3 : is[i] < (l.length : Int) := by omega
    exact Ev.step (fun k => by simp only [topo_Owned.l0, if_pos h1, if_pos h0, hr, if_pos h2, if_pos h3, if_pos hlen, hw] <;> rfl) hn
theorem owned_ev (l : List Shd) (n : Int) (hl : l.length ≤ 30) : Ev (fun k => topo_Owned.f k l n) (ownL l n) := by
  have h := ofL_len l n
  exact Ev.congr (fun k => by simp only [topo_Owned.f, tof_f l n (by omega), Option.bind_some] <;> rfl) (owned_l0 l (ofL l n) hl (by omega) (fun v hv => by obtain ⟨j, h1, h2, _⟩ := ofL_at l n v hv; exact ⟨j, h1, h2⟩) _ 0 (Nat.zero_le _) rfl)
theorem ownL_len (l : List Shd) (n : Int) : (ownL l n).length ≤ l.length := by
  have h1 := union_len (spnL l (ofL l n))
  rw [spnL_len] at h1
  have := ofL_len l n
  unfold ownL
  omega
theorem own_has (l : List Shd) (n : Int) (k : ByteArray) : (ownL l n).any (inSp k) = l.any fun x => x.f1.contains n && inSp k x.f0 := by
  unfold ownL
  rw [union_any, Bool.eq_iff_iff, List.any_eq_true, List.any_eq_true]
  constructor
  · rintro ⟨s, hs, h⟩
    obtain ⟨v, hv, rfl⟩ := List.mem_map.1 hs
    obtain ⟨j, rfl, hj, hc⟩ := ofL_at l n v hv
    have e : rd_T37 l (j : Int) = l[j] := by simp [rd_T37, List.getD_eq_getElem?_getD, hj]
    rw [e] at h
    exact ⟨l[j], List.getElem_mem hj, by rw [hc, h]; rfl⟩
  · rintro ⟨x, hx, h⟩
    obtain ⟨j, hj, rfl⟩ := List.getElem_of_mem hx
    rw [Bool.and_eq_true] at h
    have hm : (j : Int) ∈ ofL l n := by
      unfold ofL placesL
      exact (places_mem _ _ _ _ _).2 ⟨j, rfl, hj, by rw [show l.getD j z37 = l[j] by simp [List.getD_eq_getElem?_getD, hj]]; exact h.1⟩
    refine ⟨l[j].f0, List.mem_map.2 ⟨(j : Int), hm, ?_⟩, h.2⟩
    simp [rd_T37, List.getD_eq_getElem?_getD, hj]
theorem node_range (ns : List Int) (h : nodesB ns = true) (v : Int) (hv : v ∈ ns) : 1 ≤ v ∧ v ≤ 7 := by
  rw [nodesB_ok, Bool.and_eq_true, okR_iff] at h
  obtain ⟨j, hj, rfl⟩ := List.getElem_of_mem hv
  have := h.2 j (Nat.zero_le _) (by omega)
  unfold okN at this
  rw [Bool.and_eq_true, Bool.and_eq_true, decide_eq_true_iff, decide_eq_true_iff] at this
  have e : ns.getD j 0 = ns[j] := by simp [List.getD_eq_getElem?_getD, hj]
  rw [e] at this
  exact this.1
end Go.Proofs.Ytaedgbkeiankcaa.P
namespace Go.Proofs.Ytaedgbkeiankcaa.P
open Go.RowKit Go.Proofs.YtaedgbkeiankcaaW.PrintWords
set_option linter.unusedVariables false
set_option linter.unusedSimpArgs false
theorem tkeeps_ev (l : List Shd) (n : Int) (is : List Int) : Ev (fun k => topo_Keeps.f k l n is) ((nodesL l is).contains n) := by
  have hl := nodesL_len l is
  exact Ev.congr (fun k => by simp only [topo_Keeps.f, tnodes_f, Option.bind_some] <;> rfl) (Ev.bind (containsI_ev (nodesL l is) n (by omega)) (Ev.val _))
end Go.Proofs.Ytaedgbkeiankcaa.P
namespace Go.Proofs.Ytaedgbkeiankcaa.P
open Go.RowKit Go.Proofs.YtaedgbkeiankcaaW.PrintWords
set_option linter.unusedVariables false
set_option linter.unusedSimpArgs false
theorem rdT_at (l : List Shd) (i : Nat) (hi : i < l.length) : rd_T37 l (i : Int) = l[i] := by simp [rd_T37, List.getD_eq_getElem?_getD, hi]
theorem gdT_at (l : List Shd) (i : Nat) (hi : i < l.length) : l.getD i z37 = l[i] := by simp [List.getD_eq_getElem?_getD, hi]
theorem rhas_one (x : Shd) (key : ByteArray) : Ev (fun k => folkmootref03_Has.f k [(⟨x.f0.f0, x.f0.f1⟩ : Spn)] key) (inSp key x.f0) :=
  Ev.eq (has_ev [(⟨x.f0.f0, x.f0.f1⟩ : Spn)] key (by simp)) (by simp)
/-- is it a node of the shard at this place? (any number) -/
def nodeIn (l : List Shd) (n : Int) (i : Int) : Bool := decide (0 ≤ i ∧ i < l.length) && (l.getD i.toNat z37).f1.contains n
theorem nodeIn_range (l : List Shd) (ht : topoB l = true) (n i : Int) (h : nodeIn l n i = true) : 1 ≤ n ∧ n ≤ 7 := by
  unfold nodeIn at h
  rw [Bool.and_eq_true, decide_eq_true_iff] at h
  obtain ⟨⟨h0, h1⟩, h2⟩ := h
  rw [gdT_at l i.toNat (by omega), List.contains_iff_mem] at h2
  exact node_range _ ((topoB_iff l ht).2.2.2.2 _ (List.getElem_mem _)) n h2
theorem keeps_eq (l : List Shd) (ht : topoB l = true) (n : Int) (is : List Int) : (nodesL l is).contains n = is.any (nodeIn l n) := by
  by_cases hn : 1 ≤ n ∧ n ≤ 7
  · obtain ⟨j, rfl⟩ := Int.eq_ofNat_of_zero_le (show 0 ≤ n by omega)
    rw [nodesL_contains, decide_eq_true (by omega), Bool.true_and]
    rfl
  · have h1 : is.any (nodeIn l n) = false := by
      rw [List.any_eq_false]
      intro i _ h
      exact hn (nodeIn_range l ht n i h)
    rw [h1]
    cases h : (nodesL l is).contains n with
    | false => rfl
    | true =>
      exfalso
      have hm := List.contains_iff_mem.1 h
      obtain ⟨j, rfl, hj, _⟩ := (places_mem _ _ _ _ _).1 hm
      rw [nodesL_contains, Bool.and_eq_true, decide_eq_true_iff] at h
      omega
end Go.Proofs.Ytaedgbkeiankcaa.P
namespace Go.Proofs.Ytaedgbkeiankcaa.P
open Go.RowKit Go.Proofs.YtaedgbkeiankcaaW.PrintWords
set_option linter.unusedVariables false
set_option linter.unusedSimpArgs false
theorem quorum_f (a b : ByteArray) (ns : List Int) (h : ns.length ≤ 1000) : topo_Quorum.f a b ns = some ((ns.length : Int) / 2 + 1) := by
  unfold topo_Quorum.f
  rw [wrap_in (x := (ns.length : Int) / 2) (by omega) (by omega), wrap_in (by omega) (by omega)]
end Go.Proofs.Ytaedgbkeiankcaa.P
