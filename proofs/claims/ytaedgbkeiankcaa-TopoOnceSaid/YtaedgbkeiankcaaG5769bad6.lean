/- Texts of the proofs of TopoOnce, merged (PToE, Pxfmlaw04TopoTouches, PToA, PToW, Pxfmlaw04TopoOnce, PToO, PToV). -/
import Derived.Test.YtaedgbkeiankcaaWWords
import Derived.Test.YtaedgbkeiankcaaWLast
import Derived.Test.YtaedgbkeiankcaaWTab
import Derived.Test.YtaedgbkeiankcaaWQPut
import Derived.Test.YtaedgbkeiankcaaWApart
import Derived.Test.YtaedgbkeiankcaaWArr
import Derived.Test.YtaedgbkeiankcaaWZeros
import Derived.Test.YtaedgbkeiankcaaWFoot
import Derived.Test.YtaedgbkeiankcaaWKept
import Derived.Test.YtaedgbkeiankcaaWShare
import Derived.Test.YtaedgbkeiankcaaWN
import Derived.Test.YtaedgbkeiankcaaWEqStruct
import Derived.Test.YtaedgbkeiankcaaWRepsOne
import Derived.Test.YtaedgbkeiankcaaWGuard
import Derived.Test.YtaedgbkeiankcaaWNEv
import Derived.Test.YtaedgbkeiankcaaWMore
import Derived.Test.YtaedgbkeiankcaaG64eb9ef8
import Derived.Test.YtaedgbkeiankcaaGca2bd920
import Derived.Test.YtaedgbkeiankcaaGff33e446
import Derived.Test.YtaedgbkeiankcaaG5fc94eef
import Derived.Test.YtaedgbkeiankcaaG4bcd870f
import Derived.Test.YtaedgbkeiankcaaG41c11834
import Derived.Test.YtaedgbkeiankcaaG132b0fe3
import Derived.Test.YtaedgbkeiankcaaG0dc59620
import Derived.Test.YtaedgbkeiankcaaGc773388e
import Derived.Test.YtaedgbkeiankcaaG8ef4219a
import Derived.Test.YtaedgbkeiankcaaGae6c6a1e
import Derived.Test.YtaedgbkeiankcaaG59233577
import Derived.Test.YtaedgbkeiankcaaG9f496484
import Derived.Test.YtaedgbkeiankcaaG432ab4c7
import Derived.Test.YtaedgbkeiankcaaG9919190a
import Derived.Test.YtaedgbkeiankcaaG9a577d31
import Derived.Test.YtaedgbkeiankcaaG59149f34
import Derived.Test.YtaedgbkeiankcaaG76e5816a
namespace Go.Proofs.Ytaedgbkeiankcaa.P
open Go.RowKit Go.Proofs.YtaedgbkeiankcaaW.PrintWords
set_option linter.unusedVariables false
set_option linter.unusedSimpArgs false
theorem tnum_f (x : Int) : folkmootlaw04_num.f x = some x := rfl
theorem tcheck_f (l : List Shd) : topo_Check.f l = some (if topoB l = true then 0 else 40) := rfl
theorem places_inc {α : Type} (p : α → Bool) (z : α) (l : List α) (k : Nat) : (placesN p z l k).Pairwise (· < ·) := by
  unfold placesN
  rw [List.pairwise_map]
  refine List.Pairwise.filter _ ?_
  exact List.pairwise_lt_range.imp fun {a b} h => by show (a : Int) < (b : Int); omega
end Go.Proofs.Ytaedgbkeiankcaa.P
namespace Go.Proofs.Ytaedgbkeiankcaa.P
open Go.RowKit Go.Proofs.YtaedgbkeiankcaaW.PrintWords Go.Proofs.YtaedgbkeiankcaaW.PrintLast Go.Proofs.YtaedgbkeiankcaaW.PrintMore
attribute [local go_sem] str_leq str_geq max2_str max2_int min2_int max_two min_two max_three min_three max_four min_four
set_option linter.unusedVariables false
set_option linter.unusedSimpArgs false
theorem bool_bne_t {a b : Bool} (h : (a != b) = true) : ¬ (a = b) := by cases a <;> cases b <;> simp_all
theorem bool_bne_f {a b : Bool} (h : ¬ (a != b) = true) : a = b := by cases a <;> cases b <;> simp_all
end Go.Proofs.Ytaedgbkeiankcaa.P
namespace Go.Proofs.Ytaedgbkeiankcaa.P
open Go.RowKit Go.Proofs.YtaedgbkeiankcaaW.PrintWords
set_option linter.unusedVariables false
set_option linter.unusedSimpArgs false
/-- does a shard meet a set? by the texts -/
theorem meetP_iff (set : List Spn) (hc : Sp.Can (set.map toSp)) (x : Shd) (hx : Sp.Can ([x.f0].map toSp)) (hl : set.length + 1 < 4398046511104) : meetP set x = true ↔ ∃ k : Txt, Sp.mem ([x.f0].map toSp) k ∧ Sp.mem (set.map toSp) k := by
  have h := meetP_f set x hl
  unfold span_Meet.f span_Cut.f at h
  rw [if_pos (by simp; omega), Option.bind_some] at h
  have h2 := Option.some.inj h
  rw [← h2, decide_eq_true_iff]
  obtain ⟨h3, h4⟩ := cut_spec ([x.f0].length + set.length) [x.f0] set (Nat.le_refl _) hx hc
  constructor
  · intro hp
    have hne : (cutN ([x.f0].length + set.length) [x.f0] set) ≠ [] := by
      intro e; rw [e] at hp; simp at hp
    obtain ⟨y, hy⟩ := List.exists_mem_of_ne_nil _ hne
    exact ⟨(toSp y).f, (h4 _).1 ⟨toSp y, List.mem_map.2 ⟨y, hy, rfl⟩, Sp.full_in (h3.1 _ (List.mem_map.2 ⟨y, hy, rfl⟩))⟩⟩
  · rintro ⟨k, hk⟩
    have hm := (h4 k).2 hk
    cases e : cutN ([x.f0].length + set.length) [x.f0] set with
    | nil => rw [e] at hm; exact absurd hm (Sp.mem_nil k)
    | cons a l => simp
theorem meet_topo (l : List Shd) (h : topoB l = true) (x : Shd) (hx : x ∈ l) (set : List Spn) (hc : Sp.Can (set.map toSp)) (hl : set.length + 1 < 4398046511104) : meetP set x = true ↔ ∃ k : Txt, Sp.inn k (toSp x.f0) ∧ Sp.mem (set.map toSp) k := by
  rw [meetP_iff set hc x (can_one (topo_full l h x hx)) hl]
  constructor
  · rintro ⟨k, ⟨s, hs, h1⟩, h2⟩
    obtain rfl := List.mem_singleton.1 hs
    exact ⟨k, h1, h2⟩
  · rintro ⟨k, h1, h2⟩
    exact ⟨k, ⟨_, List.mem_singleton.2 rfl, h1⟩, h2⟩
end Go.Proofs.Ytaedgbkeiankcaa.P
namespace Go.Proofs.Ytaedgbkeiankcaa.P
open Go.RowKit Go.Proofs.YtaedgbkeiankcaaW.PrintWords
set_option linter.unusedVariables false
set_option linter.unusedSimpArgs false
theorem topo_cover (l : List Shd) (h : topoB l = true) (k : Txt) : ∃ i, ∃ hi : i < l.length, Sp.inn k (toSp l[i].f0) := by
  obtain ⟨h0, h8, _⟩ := topoB_iff l h
  have key : ∀ d i (hi : i < l.length), l.length - i = d + 1 → (toSp l[i].f0).f ≤ k → ∃ j, ∃ hj : j < l.length, Sp.inn k (toSp l[j].f0) := by
    intro d
    induction d with
    | zero =>
      intro i hi hd hf
      obtain ⟨h1, h2⟩ := topo_span l h i hi
      rcases h2 with ⟨_, h2⟩ | ⟨h3, _, _⟩
      · exact ⟨i, hi, hf, .inl h2⟩
      · omega
    | succ d ih =>
      intro i hi hd hf
      obtain ⟨h1, h2⟩ := topo_span l h i hi
      rcases h2 with ⟨h3, h2⟩ | ⟨h3, h4, h5⟩
      · exact ⟨i, hi, hf, .inl h2⟩
      · by_cases hk : k < (toSp l[i].f0).t
        · exact ⟨i, hi, hf, .inr hk⟩
        · refine ih (i + 1) h3 (by omega) ?_
          rw [(topo_span l h (i + 1) h3).1, beg_succ l i hi]
          exact Std.not_lt.1 hk
  refine key (l.length - 1) 0 (by omega) (by omega) ?_
  rw [(topo_span l h 0 (by omega)).1]
  rw [show tx (beg l 0) = Txt.nil from (tx_nil _).2 nil_list]
  exact Txt.nil_le _
end Go.Proofs.Ytaedgbkeiankcaa.P
namespace Go.Proofs.Ytaedgbkeiankcaa.P
open Go.RowKit Go.Proofs.YtaedgbkeiankcaaW.PrintWords Go.Proofs.YtaedgbkeiankcaaW.PrintLast Go.Proofs.YtaedgbkeiankcaaW.PrintMore
attribute [local go_sem] str_leq str_geq max2_str max2_int min2_int max_two min_two max_three min_three max_four min_four
set_option linter.unusedVariables false
set_option linter.unusedSimpArgs false
mutual
def folkmootlaw04_TopoOnce.j0 : Nat → List (S37) → ByteArray → Bool → Option (Bool)
  | 0, _, _, _ => none
  | k + 1, x0, x1, x23 => if x23 = true then ((folkmootlaw04_live.f k).bind fun t326 => (some t326)) else ((topo_Find.f x0 x1).bind fun t327 => (if t327 < 0 then (folkmootlaw04_TopoOnce.j1 k x0 x1 t327 true) else (folkmootlaw04_TopoOnce.j1 k x0 x1 t327 (decide (t327 ≥ (x0.length : Int))))))
def folkmootlaw04_TopoOnce.j1 : Nat → List (S37) → ByteArray → Int → Bool → Option (Bool)
  | 0, _, _, _, _ => none
  | k + 1, x0, x1, x5, x35 => if x35 = true then (some false) else (folkmootlaw04_TopoOnce.l0 k x0 x1 x5 0)
def folkmootlaw04_TopoOnce.l0 : Nat → List (S37) → ByteArray → Int → Int → Option (Bool)
  | 0, _, _, _, _ => none
  | k + 1, x0, x1, x5, x6 => if x6 < (x0.length : Int) then (if 0 ≤ x6 then ((folkmootref03_Has.f k (([(⟨(rd_T37 x0 x6).f0.f0, (rd_T37 x0 x6).f0.f1⟩ : S35)] : List (S35))) x1).bind fun t332 => (if (t332 != (x6 == x5)) = true then (some false) else (folkmootlaw04_TopoOnce.l0 k x0 x1 x5 (wrap64 (x6 + 1))))) else (none)) else (folkmootlaw04_TopoOnce.l1 k x0 x1 x5 0 1)
def folkmootlaw04_TopoOnce.l1 : Nat → List (S37) → ByteArray → Int → Int → Int → Option (Bool)
  | 0, _, _, _, _, _ => none
  | k + 1, x0, x1, x5, x7, x8 => if x8 ≤ 7 then ((topo_Owned.f k x0 x8).bind fun t333 => ((folkmootref03_Has.f k t333 x1).bind fun t336 => (if 0 ≤ x5 then (if x5 < (x0.length : Int) then ((folkmootref04_In.f k ((rd_T37 x0 x5).f1) x8).bind fun t338 => (if (t336 != t338) = true then (some false) else ((topo_Keeps.f k x0 x8 (([x5] : List Int))).bind fun t342 => (if t342 = true then (folkmootlaw04_TopoOnce.l1 k x0 x1 x5 (wrap64 (x7 + 1)) (wrap64 (x8 + 1))) else (folkmootlaw04_TopoOnce.l1 k x0 x1 x5 x7 (wrap64 (x8 + 1))))))) else (none)) else (none)))) else (if x1.size + 1 ≤ 9223372036854775807 then (if 0 ≤ x5 then (if x5 < (x0.length : Int) then (if x7 = (((rd_T37 x0 x5).f1).length : Int) then ((topo_Quorum.f ((rd_T37 x0 x5).f0.f0) ((rd_T37 x0 x5).f0.f1) ((rd_T37 x0 x5).f1)).bind fun t348 => (if (wrap64 (2 * t348)) > x7 then ((topo_Quorum.f ((rd_T37 x0 x5).f0.f0) ((rd_T37 x0 x5).f0.f1) ((rd_T37 x0 x5).f1)).bind fun t350 => (if t350 ≤ x7 then ((topo_Touch.f x0 (([(⟨x1, x1 ++ (⟨#[0]⟩ : ByteArray)⟩ : S35)] : List (S35)))).bind fun t351 => ((folkmootref04_Ints.f k t351 (([x5] : List Int))).bind fun t357 => (if t357 = true then ((folkmootlaw04_live.f k).bind fun t358 => (some t358)) else (some false)))) else (some false))) else (some false))) else (some false)) else (none)) else (none)) else (none))
end
def folkmootlaw04_TopoOnce.f (k : Nat) (l0 : List (S37)) (a1 : ByteArray) : Option (Bool) := (folkmootlaw04_small.f k l0 ([] : List (S35))).bind fun t323 => (if t323 = true then (if (a1.size : Int) > 4000 then (folkmootlaw04_TopoOnce.j0 k l0 a1 true) else ((topo_Check.f l0).bind fun t324 => ((folkmootlaw04_num.f t324).bind fun t325 => (folkmootlaw04_TopoOnce.j0 k l0 a1 (t325 != 0))))) else (folkmootlaw04_TopoOnce.j0 k l0 a1 true))
def folkmootlaw04_TopoOnce.T15 : Bool × List (List Nat × List Nat) := (true, [([], []), ([], []), ([0, 1], [0, 1]), ([], []), ([2, 3, 2], [2, 3]), ([], []), ([], []), ([5, 6], [5, 6]), ([7], [7]), ([8], [8]), ([], []), ([9, 10, 4], [9, 10]), ([4, 11], [4, 11])])
def folkmootlaw04_TopoOnce.B15 : List Nat := [0, 0, 3, 0, 15, 0, 0, 96, 224, 480, 0, 2047, 4095]
theorem folkmootlaw04_TopoOnce.tab15 : rtab .any (opsOf Try.f7 15) = folkmootlaw04_TopoOnce.T15 := by kernel_rfl
theorem folkmootlaw04_TopoOnce.bits15 : waitsOk folkmootlaw04_TopoOnce.T15.2 folkmootlaw04_TopoOnce.B15 = true := by kernel_rfl
set_option maxHeartbeats 8000000 in
set_option maxRecDepth 100000 in
theorem folkmootlaw04_TopoOnce.calls (k : Nat) (A0 : Option Addr) (c0 : Nat) (l0 : List (S37)) (a1 : ByteArray) (r : Bool) (w : World) (hr0 : Kd.C k37 w A0 l0.length l0) (hc0 : l0.length ≤ c0) (h : folkmootlaw04_TopoOnce.f k l0 a1 = some r) (hrt_ : r = true := by rfl) :
    Calls Try.prog 7 #[.slice A0 l0.length c0, .string a1] w fun e w' => e = .returned (.bool r) ∧ Below w.heap.size w w' := by
  subst hrt_
  have hu35 := Try.underlying35
  have hu37 := Try.underlying37
  have HR0 := Aside0.mk hr0
  have HC0 := Aside0.mk hc0
  clear hr0 hc0
  have HB := Aside0.mk (Below.refl w.heap.size w)
  have H : ((folkmootlaw04_small.f k l0 ([] : List (S35))).bind fun t323 => (if t323 = true then (if (a1.size : Int) > 4000 then (folkmootlaw04_TopoOnce.j0 k l0 a1 true) else ((topo_Check.f l0).bind fun t324 => ((folkmootlaw04_num.f t324).bind fun t325 => (folkmootlaw04_TopoOnce.j0 k l0 a1 (t325 != 0))))) else (folkmootlaw04_TopoOnce.j0 k l0 a1 true))) = some true := h
  clear h
  have HC3 := Aside0.mk H
  clear H
  go_enter Try.func7, Try.ntmps7
  go_upto_region 1 with (fail)
  go_cut [23] (fun v23 wc => ∃ (kq : Nat) (x23_2 : Bool), v23 = .bool x23_2 ∧ Aside0 (folkmootlaw04_TopoOnce.j0 kq l0 a1 x23_2 = some true) ∧ Aside0 (kq ≤ k) ∧ Aside0 (Below w.heap.size w wc))
  case first =>
    have H := HC3.out
    clear HC3
    replace H := Option.bind_eq_some_iff.mp H
    obtain ⟨t323, A40, H⟩ := H
    replace H : (if t323 = true then (if (a1.size : Int) > 4000 then (folkmootlaw04_TopoOnce.j0 k l0 a1 true) else ((topo_Check.f l0).bind fun t324 => ((folkmootlaw04_num.f t324).bind fun t325 => (folkmootlaw04_TopoOnce.j0 k l0 a1 (t325 != 0))))) else (folkmootlaw04_TopoOnce.j0 k l0 a1 true)) = some true := H
    have A4 := Aside0.mk A40
    clear A40
    by_cases c5 : t323 = true
    · subst c5
      have H1 : (if (a1.size : Int) > 4000 then (folkmootlaw04_TopoOnce.j0 k l0 a1 true) else ((topo_Check.f l0).bind fun t324 => ((folkmootlaw04_num.f t324).bind fun t325 => (folkmootlaw04_TopoOnce.j0 k l0 a1 (t325 != 0))))) = some true := by rw [if_pos rfl] at H; exact H
      clear H
      have H := H1
      clear H1
      by_cases c6 : (a1.size : Int) > 4000
      · rw [if_pos c6] at H
        have c6b0 : decide (4000 < (a1.size : Int)) = true := decide_eq_true c6
        have c6b1 : decide (4000 < a1.size) = true := decide_eq_true (by omega)
        clear c6
        (first | rw [c6b0] | (simp only [i64_w, i32_w]; rw [c6b0]) | skip)
        have H' := Aside0.mk H
        clear H
        go_wp2_with (first | ((with_reducible refine gate_callee (f := 9) rfl ?_); refine goesL_ (some 11) rfl rfl Try.func9 (by kernel_rfl) rfl #[.slice A0 l0.length c0, .slice none 0 0] rfl (by (try simp only [List.map_toArray, List.map_cons, List.map_nil]); first | done | rfl | (simp only [List.length_drop, List.length_take]; rfl)) ?_; (refine (folkmootlaw04_small.calls k _ _ l0 _ _ ([] : List (S35)) true _ ?side1 ?side2 ?side3 ?side4 A4.out).mono ?_); (case side1 => exact uC (Kd.C_below HR0.out HB.out)); (case side2 => exact HC0.out); (case side3 => exact Kd.C_nil _ _); (case side4 => exact Nat.le_refl _); rintro e w' ⟨rfl, ⟨nd, rfl⟩⟩; refine ⟨_, rfl, ?_⟩))
        go_meet
        case rel => exact ⟨_, (true), (by first | rfl | (simp; done) | (simp [*]; done)), H', ⟨by first | omega | exact Nat.le_refl _⟩, ⟨by repeat (first | (with_reducible first | exact HB.out | apply below_alloc | apply pw_below_drewN | apply below_drew1) | exact HB.out)⟩⟩
      · rw [if_neg c6] at H
        have c6b0 : decide (4000 < (a1.size : Int)) = false := decide_eq_false c6
        have c6b1 : decide (4000 < a1.size) = false := decide_eq_false (by omega)
        clear c6
        (first | rw [c6b0] | (simp only [i64_w, i32_w]; rw [c6b0]) | skip)
        replace H := Option.bind_eq_some_iff.mp H
        obtain ⟨t324, A70, H⟩ := H
        replace H : ((folkmootlaw04_num.f t324).bind fun t325 => (folkmootlaw04_TopoOnce.j0 k l0 a1 (t325 != 0))) = some true := H
        have A7 := Aside0.mk A70
        clear A70
        replace H := Option.bind_eq_some_iff.mp H
        obtain ⟨t325, A80, H⟩ := H
        replace H : (folkmootlaw04_TopoOnce.j0 k l0 a1 (t325 != 0)) = some true := H
        have A8 := Aside0.mk A80
        clear A80
        have H' := Aside0.mk H
        clear H
        go_wp2_with (first | ((with_reducible refine gate_callee (f := 9) rfl ?_); refine goesL_ (some 11) rfl rfl Try.func9 (by kernel_rfl) rfl #[.slice A0 l0.length c0, .slice none 0 0] rfl (by (try simp only [List.map_toArray, List.map_cons, List.map_nil]); first | done | rfl | (simp only [List.length_drop, List.length_take]; rfl)) ?_; (refine (folkmootlaw04_small.calls k _ _ l0 _ _ ([] : List (S35)) true _ ?side1 ?side2 ?side3 ?side4 A4.out).mono ?_); (case side1 => exact uC (Kd.C_below HR0.out HB.out)); (case side2 => exact HC0.out); (case side3 => exact Kd.C_nil _ _); (case side4 => exact Nat.le_refl _); rintro e w' ⟨rfl, ⟨nd, rfl⟩⟩; refine ⟨_, rfl, ?_⟩) | (go_at_call 12; (with_reducible refine (topo_Check.calls _ _ l0 t324 _ ?side1 ?side2 A7.out).mono ?_); (case side1 => exact (Kd.C_below HR0.out (uB HB))); (case side2 => exact HC0.out); rintro e w9 ⟨rfl, hb⟩; replace HB := sB HB hb; (try clear hb); (try clear hb2); (try clear hk); (try clear hi)) | (go_at_call 11; (with_reducible refine (folkmootlaw04_num.calls t324 t325 _ A8.out).mono ?_); rintro e w' ⟨rfl, ⟨nd, rfl⟩⟩))
        go_meet
        case rel => exact ⟨_, ((t325 != 0)), (by first | rfl | (simp; done) | (simp [*]; done)), H', ⟨by first | omega | exact Nat.le_refl _⟩, ⟨by repeat (first | (with_reducible first | exact HB.out | apply below_alloc | apply pw_below_drewN | apply below_drew1) | exact HB.out)⟩⟩
    · replace c5 := Bool.eq_false_iff.mpr c5
      subst c5
      have H1 : (folkmootlaw04_TopoOnce.j0 k l0 a1 true) = some true := by rw [if_neg (show ¬ (false = true) by decide)] at H; exact H
      clear H
      have H := H1
      clear H1
      have H' := Aside0.mk H
      clear H
      go_wp2_with (first | ((with_reducible refine gate_callee (f := 9) rfl ?_); refine goesL_ (some 11) rfl rfl Try.func9 (by kernel_rfl) rfl #[.slice A0 l0.length c0, .slice none 0 0] rfl (by (try simp only [List.map_toArray, List.map_cons, List.map_nil]); first | done | rfl | (simp only [List.length_drop, List.length_take]; rfl)) ?_; (refine (folkmootlaw04_small.calls k _ _ l0 _ _ ([] : List (S35)) false _ ?side1 ?side2 ?side3 ?side4 A4.out).mono ?_); (case side1 => exact uC (Kd.C_below HR0.out HB.out)); (case side2 => exact HC0.out); (case side3 => exact Kd.C_nil _ _); (case side4 => exact Nat.le_refl _); rintro e w' ⟨rfl, ⟨nd, rfl⟩⟩; refine ⟨_, rfl, ?_⟩))
      go_meet
      case rel => exact ⟨_, (true), (by first | rfl | (simp; done) | (simp [*]; done)), H', ⟨by first | omega | exact Nat.le_refl _⟩, ⟨by repeat (first | (with_reducible first | exact HB.out | apply below_alloc | apply pw_below_drewN | apply below_drew1) | exact HB.out)⟩⟩
  case rest =>
    clear HC3
    try clear p2
    try clear c5
    try clear c6
    try clear c6b0
    try clear c6b1
    try clear c7
    try clear c9
    obtain ⟨kq, x23_2, rfl, HA, HJ2, HB⟩ := hcut
    cases kq with
    | zero => exact absurd HA.out (by simp [folkmootlaw04_TopoOnce.j0])
    | succ kj2 =>
      have H := HA.out
      clear HA
      simp only [folkmootlaw04_TopoOnce.j0] at H
      by_cases c10 : x23_2 = true
      · subst c10
        have H1 : ((folkmootlaw04_live.f kj2).bind fun t326 => (some t326)) = some true := by rw [if_pos rfl] at H; exact H
        clear H
        have H := H1
        clear H1
        replace H := Option.bind_eq_some_iff.mp H
        obtain ⟨t326, A110, H⟩ := H
        replace H : (some t326) = some true := H
        have A11 := Aside0.mk A110
        clear A110
        have hrt_ := Aside0.mk (Option.some.inj H)
        clear H
        go_wp2_with (first | ((with_reducible refine gate_callee (f := 10) rfl ?_); refine goesL_ (some 24) rfl rfl Try.func10 (by kernel_rfl) rfl #[] rfl (by (try simp only [List.map_toArray, List.map_cons, List.map_nil]); first | done | rfl | (simp only [List.length_drop, List.length_take]; rfl)) ?_; (with_reducible refine (folkmootlaw04_live.calls kj2  t326 _ A11.out).mono ?_); rintro e w12 ⟨rfl, hb⟩; refine ⟨_, rfl, ?_⟩; replace HB := sB HB hb; (try clear hb); (try clear hb2); (try clear hk); (try clear hi)))
        go_ret
        exact ⟨by first | rfl | (exact congrArg (fun b_ => Ending.returned (Value.bool b_)) hrt_.out) | (simp [errW_none, errW_some] <;> rfl) | (simp [*, errW_none, errW_some] <;> rfl), by repeat (first | (with_reducible first | exact HB.out | apply below_alloc | apply pw_below_drewN | apply below_drew1) | exact HB.out)⟩
      · replace c10 := Bool.eq_false_iff.mpr c10
        subst c10
        have H1 : ((topo_Find.f l0 a1).bind fun t327 => (if t327 < 0 then (folkmootlaw04_TopoOnce.j1 kj2 l0 a1 t327 true) else (folkmootlaw04_TopoOnce.j1 kj2 l0 a1 t327 (decide (t327 ≥ (l0.length : Int)))))) = some true := by rw [if_neg (show ¬ (false = true) by decide)] at H; exact H
        clear H
        have H := H1
        clear H1
        replace H := Option.bind_eq_some_iff.mp H
        obtain ⟨t327, A130, H⟩ := H
        replace H : (if t327 < 0 then (folkmootlaw04_TopoOnce.j1 kj2 l0 a1 t327 true) else (folkmootlaw04_TopoOnce.j1 kj2 l0 a1 t327 (decide (t327 ≥ (l0.length : Int))))) = some true := H
        have A13 := Aside0.mk A130
        clear A130
        have HC14 := Aside0.mk H
        clear H
        go_upto_region 4 with (first | ((with_reducible refine gate_callee (f := 22) rfl ?_); refine goesL_ (some 27) rfl rfl Try.func22 (by kernel_rfl) rfl #[.slice A0 l0.length c0, .string a1] rfl (by (try simp only [List.map_toArray, List.map_cons, List.map_nil]); first | done | rfl | (simp only [List.length_drop, List.length_take]; rfl)) ?_; (with_reducible refine (topo_Find.calls _ _ l0 a1 t327 _ ?side1 ?side2 A13.out).mono ?_); (case side1 => exact uC (Kd.C_below HR0.out HB.out)); (case side2 => exact HC0.out); rintro e w15 ⟨rfl, hb⟩; refine ⟨_, rfl, ?_⟩; replace HB := sB HB hb; (try clear hb); (try clear hb2); (try clear hk); (try clear hi)))
        (try simp only [Act.put, List.setIfInBounds_toArray, List.set_cons_zero, List.set_cons_succ])
        go_cut [35] (fun v35 wc => ∃ (kq : Nat) (x35_13 : Bool), v35 = .bool x35_13 ∧ Aside0 (folkmootlaw04_TopoOnce.j1 kq l0 a1 t327 x35_13 = some true) ∧ Aside0 (kq ≤ kj2) ∧ Aside0 (Below w.heap.size w wc))
        case first =>
          have H := HC14.out
          clear HC14
          by_cases c16 : t327 < 0
          · rw [if_pos c16] at H
            have c16b0 : decide (t327 < 0) = true := decide_eq_true c16
            clear c16
            (first | rw [c16b0] | (simp only [i64_w, i32_w]; rw [c16b0]) | skip)
            have H' := Aside0.mk H
            clear H
            go_wp2
            go_meet
            case rel => exact ⟨_, (true), (by first | rfl | (simp; done) | (simp [*]; done)), H', ⟨by have := HJ2.out; first | omega | exact Nat.le_refl _⟩, ⟨by repeat (first | (with_reducible first | exact HB.out | apply below_alloc | apply pw_below_drewN | apply below_drew1) | exact HB.out)⟩⟩
          · rw [if_neg c16] at H
            have c16b0 : decide (t327 < 0) = false := decide_eq_false c16
            clear c16
            (first | rw [c16b0] | (simp only [i64_w, i32_w]; rw [c16b0]) | skip)
            have H' := Aside0.mk H
            clear H
            go_wp2
            go_meet
            case rel => exact ⟨_, (decide (t327 ≥ (l0.length : Int))), (by first | rfl | (simp; done) | (simp [*]; done)), H', ⟨by have := HJ2.out; first | omega | exact Nat.le_refl _⟩, ⟨by repeat (first | (with_reducible first | exact HB.out | apply below_alloc | apply pw_below_drewN | apply below_drew1) | exact HB.out)⟩⟩
        case rest =>
          clear HC14
          try clear c1
          try clear c2
          try clear p2
          try clear c5
          try clear c6
          try clear c6b0
          try clear c6b1
          try clear c7
          try clear c9
          try clear c10
          try clear c16
          try clear c16b0
          try clear p2
          obtain ⟨kq, x35_13, rfl, HA, HJ13, HB⟩ := hcut
          cases kq with
          | zero => exact absurd HA.out (by simp [folkmootlaw04_TopoOnce.j1])
          | succ kj13 =>
            have H := HA.out
            clear HA
            simp only [folkmootlaw04_TopoOnce.j1] at H
            by_cases c17 : x35_13 = true
            · subst c17
              have H1 : (some false) = some true := by rw [if_pos rfl] at H; exact H
              exact absurd H1 (by simp)
            · replace c17 := Bool.eq_false_iff.mpr c17
              subst c17
              have H1 : (folkmootlaw04_TopoOnce.l0 kj13 l0 a1 t327 0) = some true := by rw [if_neg (show ¬ (false = true) by decide)] at H; exact H
              clear H
              have H := H1
              clear H1
              have H' := Aside0.mk H
              clear H
              go_wp2
              go_loopg [6] kj13 (fun kq v6 w' => ∃ (x6_3 : Int), v6 = .int .i64 x6_3 ∧ Aside0 (folkmootlaw04_TopoOnce.l0 kq l0 a1 t327 x6_3 = some true) ∧ Aside0 (kq ≤ kj13) ∧ Aside0 (Below w.heap.size w w'))
              case atStart => exact ⟨(0), (by first | rfl | (simp; done) | (simp [*]; done)), H', ⟨Nat.le_refl _⟩, ⟨by repeat (first | (with_reducible first | exact HB.out | apply below_alloc | apply pw_below_drewN | apply below_drew1) | exact HB.out)⟩⟩
              case round =>
                clear H'
                try clear c1
                try clear c2
                try clear p2
                try clear c5
                try clear c6
                try clear c6b0
                try clear c6b1
                try clear c7
                try clear c9
                try clear c10
                try clear c16
                try clear c16b0
                try clear c17
                try clear p2
                obtain ⟨x6_3, rfl, HA, HK3, HB⟩ := hrel
                cases gk with
                | zero => exact absurd HA.out (by simp [folkmootlaw04_TopoOnce.l0])
                | succ k3 =>
                  have H := HA.out
                  clear HA
                  simp only [folkmootlaw04_TopoOnce.l0] at H
                  by_cases c18 : x6_3 < (l0.length : Int)
                  · rw [if_pos c18] at H
                    have c18b0 : decide (x6_3 < (l0.length : Int)) = true := decide_eq_true c18
                    clear c18
                    by_cases c19 : 0 ≤ x6_3
                    · rw [if_pos c19] at H
                      have c19b0 : decide (0 ≤ x6_3) = true := decide_eq_true c19
                      clear c19
                      obtain ⟨y329, hy329⟩ : ∃ y_ : List (S35), y_ = (([(⟨(rd_T37 l0 x6_3).f0.f0, (rd_T37 l0 x6_3).f0.f1⟩ : S35)] : List (S35))) := ⟨_, rfl⟩
                      replace H : ((folkmootref03_Has.f k3 y329 a1).bind fun t332 => (if (t332 != (x6_3 == t327)) = true then (some false) else (folkmootlaw04_TopoOnce.l0 k3 l0 a1 t327 (wrap64 (x6_3 + 1))))) = some true := by first | (rw [hy329]; with_reducible exact H) | (have H2_ := (Option.bind_some _ _).symm.trans H; rw [hy329]; with_reducible exact H2_) | (have H2_ := (Option.bind_some _ _).symm.trans H; with_reducible exact H2_) | with_reducible exact H | (rw [hy329]; exact H) | exact H
                      have Ny329 := Aside0.mk hy329
                      clear hy329
                      replace H := Option.bind_eq_some_iff.mp H
                      obtain ⟨t332, A200, H⟩ := H
                      replace H : (if (t332 != (x6_3 == t327)) = true then (some false) else (folkmootlaw04_TopoOnce.l0 k3 l0 a1 t327 (wrap64 (x6_3 + 1)))) = some true := H
                      have A20 := Aside0.mk A200
                      clear A200
                      by_cases c21 : (t332 != (x6_3 == t327)) = true
                      · rw [if_pos c21] at H
                        have c21b0 : (t332 != (x6_3 == t327)) = true := c21
                        (try (have c21b1 : decide (t332 = (x6_3 == t327)) = false := by simpa using c21))
                        (try (have c21b2 : (t332 == (x6_3 == t327)) = false := by simpa using c21))
                        (try (have c21b3 : ¬ (t332 = (x6_3 == t327)) := by simpa using c21))
                        clear c21
                        exact absurd H (by simp)
                      · rw [if_neg c21] at H
                        have c21b0 : (t332 != (x6_3 == t327)) = false := by simpa using c21
                        (try (have c21b1 : decide (t332 = (x6_3 == t327)) = true := by simpa using c21))
                        (try (have c21b2 : (t332 == (x6_3 == t327)) = true := by simpa using c21))
                        clear c21
                        have H' := Aside0.mk H
                        clear H
                        have p328 : 0 ≤ (x6_3 : Int) := of_decide_eq_true (by first | (with_reducible assumption) | assumption)
                        have q328 : x6_3 < (l0.length : Int) := of_decide_eq_true (by first | (with_reducible assumption) | assumption)
                        obtain ⟨ad328, A328_2, c328_2, e328, hx328_0, hx328_1, hx328_2, hl328_2, hi328_2⟩ := at_T37 HR0.out x6_3 p328 q328
                        cases e328
                        replace hx328_0 := (HB.out.cell (World.block_lt_of_cell? w _ hx328_0)).trans hx328_0
                        replace hx328_1 := (HB.out.cell (World.block_lt_of_cell? w _ hx328_1)).trans hx328_1
                        replace hx328_2 := (HB.out.cell (World.block_lt_of_cell? w _ hx328_2)).trans hx328_2
                        have HR328_2 := Aside0.mk hi328_2
                        have HC328_2 := Aside0.mk hl328_2
                        clear hi328_2 hl328_2
                        replace p328 := eq_true p328
                        replace q328 := eq_true q328
                        go_wp2_with (first | ((with_reducible refine gate_dst (N := 47) rfl ?_); (try (refine gate_guard (by rfl) ?_; dsimp only)); refine Kd.R_lit k35 _ 35 ?hg (N := 47) ?hd (xs := ([(⟨(rd_T37 l0 x6_3).f0.f0, (rd_T37 l0 x6_3).f0.f1⟩ : S35)] : List (S35))) (inner := [.string ((rd_T37 l0 x6_3).f0.f0), .string ((rd_T37 l0 x6_3).f0.f1)]) (ok := fun _ => True) (okp := fun _ => True) ?hr ?hp (fun _ hk => hk) trivial (Below.refl _ _) (Nat.le_refl _) (by simp) ?_; (case hd => rfl); (case hg => rfl); (case hr => first | (go_simp; done) | (go_simp; rfl)); (case hp => exact (Reps.c2 (show Kd.M k35 _ _ _ (⟨(rd_T37 l0 x6_3).f0.f0, (rd_T37 l0 x6_3).f0.f1⟩ : S35) [.string ((rd_T37 l0 x6_3).f0.f0), .string ((rd_T37 l0 x6_3).f0.f1)] from (k35_mkM _ _ _ (⟨(rd_T37 l0 x6_3).f0.f0, (rd_T37 l0 x6_3).f0.f1⟩ : S35) )) (Reps.none _ _))); intro v330 w26 ho27 hb hg_ hnew_; clear hg_ hnew_; (first | rw [← Ny329.out] at ho27 | (simp only [Int.reduceToNat] at ho27; rw [← Ny329.out] at ho27)); have HO331 := lR ho27 HB; replace HB := sB HB hb; clear hb ho27; obtain ⟨Ao28, co28, eo28⟩ := Kd.R_slice HO331.out; subst eo28) | ((with_reducible refine gate_callee (f := 30) rfl ?_); refine goesL_ (some 49) rfl rfl Try.func30 (by kernel_rfl) rfl #[.slice Ao28 y329.length co28, .string a1] rfl (by (try simp only [List.map_toArray, List.map_cons, List.map_nil]); first | done | rfl | (simp only [List.length_drop, List.length_take]; rfl)) ?_; (with_reducible refine (folkmootref03_Has.calls k3 _ _ y329 a1 t332 _ ?side1 ?side2 A20.out).mono ?_); (case side1 => exact uC (Kd.R_reads' HO331.out).2.2); (case side2 => exact (Kd.R_reads' HO331.out).2.1); rintro e w29 ⟨rfl, hb⟩; refine ⟨_, rfl, ?_⟩; replace HO331 := bR HO331 hb; replace HB := sB HB hb; (try clear hb); (try clear hb2); (try clear hk); (try clear hi)))
                        go_roundg k3
                        case measure => have := HJ2.out; have := HJ13.out; have := HK3.out; omega
                        case rel => exact ⟨(wrap64 (x6_3 + 1)), (by first | rfl | (simp; done) | (simp [*]; done)), H', ⟨by have := HJ2.out; have := HJ13.out; have := HK3.out; omega⟩, ⟨by repeat (first | (with_reducible first | exact HB.out | apply below_alloc | apply pw_below_drewN | apply below_drew1) | exact HB.out)⟩⟩
                    · rw [if_neg c19] at H
                      exact absurd H (by simp)
                  · rw [if_neg c18] at H
                    have c18b0 : decide (x6_3 < (l0.length : Int)) = false := decide_eq_false c18
                    clear c18
                    have H' := Aside0.mk H
                    clear H
                    go_wp2
                    go_loopg [7, 8] k3 (fun kq v7 v8 w' => ∃ (x7_4 : Int) (x8_4 : Int), v7 = .int .i64 x7_4 ∧ v8 = .int .i64 x8_4 ∧ Aside0 (folkmootlaw04_TopoOnce.l1 kq l0 a1 t327 x7_4 x8_4 = some true) ∧ Aside0 (kq ≤ k3) ∧ Aside0 (Below w.heap.size w w'))
                    case atStart => exact ⟨(0), (1), (by first | rfl | (simp; done) | (simp [*]; done)), (by first | rfl | (simp; done) | (simp [*]; done)), H', ⟨Nat.le_refl _⟩, ⟨by repeat (first | (with_reducible first | exact HB.out | apply below_alloc | apply pw_below_drewN | apply below_drew1) | exact HB.out)⟩⟩
                    case round =>
                      clear H'
                      try clear c1
                      try clear c2
                      try clear p2
                      try clear c3
                      try clear p3
                      try clear q3
                      try clear hx3
                      try clear c5
                      try clear c6
                      try clear c6b0
                      try clear c6b1
                      try clear p6
                      try clear c7
                      try clear c9
                      try clear c10
                      try clear c16
                      try clear c16b0
                      try clear c17
                      try clear c18
                      try clear c18b0
                      try clear c19
                      try clear c19b0
                      try clear c21
                      try clear c21b0
                      try clear c21b1
                      try clear c21b2
                      try clear c22
                      try clear hx328_0
                      try clear hx328_1
                      try clear hx328_2
                      try clear p2
                      try clear p328
                      try clear q328
                      obtain ⟨x7_4, x8_4, rfl, rfl, HA, HK4, HB⟩ := hrel
                      cases gk with
                      | zero => exact absurd HA.out (by simp [folkmootlaw04_TopoOnce.l1])
                      | succ k4 =>
                        have H := HA.out
                        clear HA
                        simp only [folkmootlaw04_TopoOnce.l1] at H
                        by_cases c30 : x8_4 ≤ 7
                        · rw [if_pos c30] at H
                          have c30b0 : decide (x8_4 ≤ 7) = true := decide_eq_true c30
                          clear c30
                          replace H := Option.bind_eq_some_iff.mp H
                          obtain ⟨t333, A310, H⟩ := H
                          replace H : ((folkmootref03_Has.f k4 t333 a1).bind fun t336 => (if 0 ≤ t327 then (if t327 < (l0.length : Int) then ((folkmootref04_In.f k4 ((rd_T37 l0 t327).f1) x8_4).bind fun t338 => (if (t336 != t338) = true then (some false) else ((topo_Keeps.f k4 l0 x8_4 (([t327] : List Int))).bind fun t342 => (if t342 = true then (folkmootlaw04_TopoOnce.l1 k4 l0 a1 t327 (wrap64 (x7_4 + 1)) (wrap64 (x8_4 + 1))) else (folkmootlaw04_TopoOnce.l1 k4 l0 a1 t327 x7_4 (wrap64 (x8_4 + 1))))))) else (none)) else (none))) = some true := H
                          have A31 := Aside0.mk A310
                          clear A310
                          replace H := Option.bind_eq_some_iff.mp H
                          obtain ⟨t336, A320, H⟩ := H
                          replace H : (if 0 ≤ t327 then (if t327 < (l0.length : Int) then ((folkmootref04_In.f k4 ((rd_T37 l0 t327).f1) x8_4).bind fun t338 => (if (t336 != t338) = true then (some false) else ((topo_Keeps.f k4 l0 x8_4 (([t327] : List Int))).bind fun t342 => (if t342 = true then (folkmootlaw04_TopoOnce.l1 k4 l0 a1 t327 (wrap64 (x7_4 + 1)) (wrap64 (x8_4 + 1))) else (folkmootlaw04_TopoOnce.l1 k4 l0 a1 t327 x7_4 (wrap64 (x8_4 + 1))))))) else (none)) else (none)) = some true := H
                          have A32 := Aside0.mk A320
                          clear A320
                          by_cases c33 : 0 ≤ t327
                          · rw [if_pos c33] at H
                            have c33b0 : decide (0 ≤ t327) = true := decide_eq_true c33
                            clear c33
                            by_cases c34 : t327 < (l0.length : Int)
                            · rw [if_pos c34] at H
                              have c34b0 : decide (t327 < (l0.length : Int)) = true := decide_eq_true c34
                              clear c34
                              replace H := Option.bind_eq_some_iff.mp H
                              obtain ⟨t338, A350, H⟩ := H
                              replace H : (if (t336 != t338) = true then (some false) else ((topo_Keeps.f k4 l0 x8_4 (([t327] : List Int))).bind fun t342 => (if t342 = true then (folkmootlaw04_TopoOnce.l1 k4 l0 a1 t327 (wrap64 (x7_4 + 1)) (wrap64 (x8_4 + 1))) else (folkmootlaw04_TopoOnce.l1 k4 l0 a1 t327 x7_4 (wrap64 (x8_4 + 1)))))) = some true := H
                              have A35 := Aside0.mk A350
                              clear A350
                              by_cases c36 : (t336 != t338) = true
                              · rw [if_pos c36] at H
                                have c36b0 : (t336 != t338) = true := c36
                                (try (have c36e := bool_bne_t c36))
                                (try (have c36b1 : decide (t336 = t338) = false := by simpa using c36))
                                (try (have c36b2 : (t336 == t338) = false := by simpa using c36))
                                (try (have c36b3 : ¬ (t336 = t338) := by simpa using c36))
                                clear c36
                                exact absurd H (by simp)
                              · rw [if_neg c36] at H
                                have c36b0 : (t336 != t338) = false := by simpa using c36
                                (try (have c36e := bool_bne_f c36))
                                (try (have c36b1 : decide (t336 = t338) = true := by simpa using c36))
                                (try (have c36b2 : (t336 == t338) = true := by simpa using c36))
                                clear c36
                                obtain ⟨y339, hy339⟩ : ∃ y_ : List Int, y_ = (([t327] : List Int)) := ⟨_, rfl⟩
                                replace H : ((topo_Keeps.f k4 l0 x8_4 y339).bind fun t342 => (if t342 = true then (folkmootlaw04_TopoOnce.l1 k4 l0 a1 t327 (wrap64 (x7_4 + 1)) (wrap64 (x8_4 + 1))) else (folkmootlaw04_TopoOnce.l1 k4 l0 a1 t327 x7_4 (wrap64 (x8_4 + 1))))) = some true := by first | (rw [hy339]; with_reducible exact H) | (have H2_ := (Option.bind_some _ _).symm.trans H; rw [hy339]; with_reducible exact H2_) | (have H2_ := (Option.bind_some _ _).symm.trans H; with_reducible exact H2_) | with_reducible exact H | (rw [hy339]; exact H) | exact H
                                have Ny339 := Aside0.mk hy339
                                clear hy339
                                replace H := Option.bind_eq_some_iff.mp H
                                obtain ⟨t342, A410, H⟩ := H
                                replace H : (if t342 = true then (folkmootlaw04_TopoOnce.l1 k4 l0 a1 t327 (wrap64 (x7_4 + 1)) (wrap64 (x8_4 + 1))) else (folkmootlaw04_TopoOnce.l1 k4 l0 a1 t327 x7_4 (wrap64 (x8_4 + 1)))) = some true := H
                                have A41 := Aside0.mk A410
                                clear A410
                                by_cases c42 : t342 = true
                                · subst c42
                                  have H1 : (folkmootlaw04_TopoOnce.l1 k4 l0 a1 t327 (wrap64 (x7_4 + 1)) (wrap64 (x8_4 + 1))) = some true := by rw [if_pos rfl] at H; exact H
                                  clear H
                                  have H := H1
                                  clear H1
                                  have H' := Aside0.mk H
                                  clear H
                                  try go_wp2
                                  replace HB := Aside0.mk (below_drew1 HB.out)
                                  have p337 : 0 ≤ (t327 : Int) := of_decide_eq_true (by first | (with_reducible assumption) | assumption)
                                  have q337 : t327 < (l0.length : Int) := of_decide_eq_true (by first | (with_reducible assumption) | assumption)
                                  obtain ⟨ad337, A337_2, c337_2, e337, hx337_0, hx337_1, hx337_2, hl337_2, hi337_2⟩ := at_T37 HR0.out t327 p337 q337
                                  have hw337_2 := hx337_2
                                  have hw337_1 := hx337_1
                                  have hw337_0 := hx337_0
                                  cases e337
                                  replace hx337_0 := (HB.out.cell (World.block_lt_of_cell? w _ hx337_0)).trans hx337_0
                                  replace hx337_1 := (HB.out.cell (World.block_lt_of_cell? w _ hx337_1)).trans hx337_1
                                  replace hx337_2 := (HB.out.cell (World.block_lt_of_cell? w _ hx337_2)).trans hx337_2
                                  have HR337_2 := Aside0.mk hi337_2
                                  have HC337_2 := Aside0.mk hl337_2
                                  clear hi337_2 hl337_2
                                  replace p337 := eq_true p337
                                  replace q337 := eq_true q337
                                  refine start_ (n := 13) (S := fun w' => w'.cell? (ad337.add ((t327).toNat * 3)) = some (.string ((rd_T37 l0 t327).f0.f0)) ∧ w'.cell? ⟨(ad337.add ((t327).toNat * 3)).block, (ad337.add ((t327).toNat * 3)).off + 1, none⟩ = some (.string ((rd_T37 l0 t327).f0.f1)) ∧ w'.cell? ⟨(ad337.add ((t327).toNat * 3)).block, (ad337.add ((t327).toNat * 3)).off + 2, none⟩ = some (.slice A337_2 ((rd_T37 l0 t327).f1).length c337_2)) (ds := []) #[false, false, false, false, false, false, false, false, false, false, false, false, false] (by kernel_rfl) rfl rfl ⟨((HB.out.cell (World.block_lt_of_cell? w _ hw337_0)).trans hw337_0), ((HB.out.cell (World.block_lt_of_cell? w _ hw337_1)).trans hw337_1), ((HB.out.cell (World.block_lt_of_cell? w _ hw337_2)).trans hw337_2)⟩ (fun hHeld => ?_); refine with_tabW folkmootlaw04_TopoOnce.tab15 folkmootlaw04_TopoOnce.bits15 (fun HT_ HW_ => ?_)
                                  generalize wr.drew = w43 at HB HR337_2 hx337_0 hx337_1 hx337_2 hHeld ⊢
                                  refine pure_ (i := 0) (N := some 58) (v := ?_) (a' := ?_) #[true, false, false, false, false, false, false, false, false, false, false, false, false] rfl rfl (any_of HT_.out (by kernel_rfl)) (fun _ _ _ h => h) (Or.inl ⟨by rfl, ?_⟩) ?_ ?_
                                  rotate_left
                                  · intro w'
                                    go_simp
                                    with_reducible rfl
                                  rotate_left
                                  · simp only [Act.put, List.setIfInBounds_toArray, List.set_cons_zero, List.set_cons_succ, i64_w, i32_w]
                                    rfl
                                  refine pure_ (i := 1) (N := some 59) (v := ?_) (a' := ?_) #[true, true, false, false, false, false, false, false, false, false, false, false, false] rfl rfl (any_of HT_.out (by kernel_rfl)) (fun _ _ _ h => h) (Or.inl ⟨by rfl, ?_⟩) ?_ ?_
                                  rotate_left
                                  · intro w'
                                    go_simp
                                    with_reducible rfl
                                  rotate_left
                                  · simp only [Act.put, List.setIfInBounds_toArray, List.set_cons_zero, List.set_cons_succ, i64_w, i32_w]
                                    rfl
                                  refine pure_ (i := 3) (N := some 61) (v := ?_) (a' := ?_) #[true, true, false, true, false, false, false, false, false, false, false, false, false] rfl rfl (any_of HT_.out (by kernel_rfl)) (fun _ _ _ h => h) (Or.inl ⟨by rfl, ?_⟩) ?_ ?_
                                  rotate_left
                                  · intro w'
                                    go_simp
                                    with_reducible rfl
                                  rotate_left
                                  · simp only [Act.put, List.setIfInBounds_toArray, List.set_cons_zero, List.set_cons_succ, i64_w, i32_w]
                                    rfl
                                  refine pure_ (i := 5) (N := some 63) (v := ?_) (a' := ?_) #[true, true, false, true, false, true, false, false, false, false, false, false, false] rfl rfl (any_of HT_.out (by kernel_rfl)) (fun _ _ _ h => h) (Or.inl ⟨by rfl, ?_⟩) ?_ ?_
                                  rotate_left
                                  · intro w'
                                    go_simp
                                    with_reducible rfl
                                  rotate_left
                                  · simp only [Act.put, List.setIfInBounds_toArray, List.set_cons_zero, List.set_cons_succ, i64_w, i32_w]
                                    rfl
                                  refine pure_ (i := 6) (N := some 64) (v := ?_) (a' := ?_) #[true, true, false, true, false, true, true, false, false, false, false, false, false] rfl rfl (any_of HT_.out (by kernel_rfl)) (fun _ _ _ h => h) (Or.inl ⟨by rfl, ?_⟩) ?_ ?_
                                  rotate_left
                                  · intro w'
                                    go_simp
                                    with_reducible rfl
                                  rotate_left
                                  · simp only [Act.put, List.setIfInBounds_toArray, List.set_cons_zero, List.set_cons_succ, i64_w, i32_w]
                                    rfl
                                  refine pure_ (i := 7) (N := some 65) (v := ?_) (a' := ?_) #[true, true, false, true, false, true, true, true, false, false, false, false, false] rfl rfl (any_of HT_.out (by kernel_rfl)) (fun _ _ _ h => h) (Or.inl ⟨by rfl, ?_⟩) ?_ ?_
                                  rotate_left
                                  · intro w'
                                    go_simp
                                    with_reducible rfl
                                  rotate_left
                                  · simp only [Act.put, List.setIfInBounds_toArray, List.set_cons_zero, List.set_cons_succ, i64_w, i32_w]
                                    rfl
                                  refine pure_ (i := 8) (N := some 66) (v := ?_) (a' := ?_) #[true, true, false, true, false, true, true, true, true, false, false, false, false] rfl rfl (any_of HT_.out (by kernel_rfl)) (fun _ _ _ h => h) (Or.inl ⟨by rfl, ?_⟩) ?_ ?_
                                  rotate_left
                                  · intro w'
                                    go_simp
                                    with_reducible rfl
                                  rotate_left
                                  · simp only [Act.put, List.setIfInBounds_toArray, List.set_cons_zero, List.set_cons_succ, i64_w, i32_w]
                                    rfl
                                  refine pure_ (i := 10) (N := some 68) (v := ?_) (a' := ?_) #[true, true, false, true, false, true, true, true, true, false, true, false, false] rfl rfl (any_of HT_.out (by kernel_rfl)) (fun _ _ _ h => h) (Or.inl ⟨by rfl, ?_⟩) ?_ ?_
                                  rotate_left
                                  · intro w'
                                    go_simp
                                    with_reducible rfl
                                  rotate_left
                                  · simp only [Act.put, List.setIfInBounds_toArray, List.set_cons_zero, List.set_cons_succ, i64_w, i32_w]
                                    rfl
                                  refine take_ (i := 9) (N := some 67) (v := ?_) (a' := ?_) #[true, true, false, true, false, true, true, true, true, true, true, false, false] rfl rfl (take_ofW HT_.out HW_.out (by kernel_rfl)) (fun _ _ _ h => h) (Or.inl ⟨by rfl, ?_⟩) hHeld ?_ ?_
                                  rotate_left
                                  · rintro w' ⟨s0, s1, s2⟩
                                    go_simp
                                    with_reducible rfl
                                  rotate_left
                                  · simp only [Act.put, List.setIfInBounds_toArray, List.set_cons_zero, List.set_cons_succ, i64_w, i32_w]
                                    rfl
                                  refine one_ (i := 2) (N := some 60) #[true, true, true, true, false, true, true, true, true, true, true, false, false] rfl rfl (one_of HT_.out (by kernel_rfl)) (by decide) (fun K hK => ?_)
                                  refine goes_ Try.func14 (by kernel_rfl) rfl #[.slice (some ad337) l0.length c0, .int .i64 x8_4] (by rfl) rfl rfl (by (try simp only [List.map_toArray, List.map_cons, List.map_nil]); first | done | rfl | (simp only [List.length_drop, List.length_take]; rfl)) ?_
                                  with_reducible refine (topo_Owned.calls k4 _ _ l0 x8_4 t333 _ ?side1 ?side2 A31.out).mono ?_
                                  (case side1 => exact uC (Kd.C_below HR0.out HB.out))
                                  (case side2 => exact HC0.out)
                                  rintro e w44 ⟨v334, rfl, ho0, hb⟩
                                  refine ⟨_, rfl, ?_⟩
                                  have HO335 := lR ho0 HB
                                  replace HB := sB HB hb
                                  (try clear hb)
                                  (try clear hb2)
                                  (try clear hk)
                                  (try clear hi)
                                  (try clear ho0)
                                  obtain ⟨Ao45, co45, eo45⟩ := Kd.R_slice HO335.out
                                  (first | subst eo45 | (injection eo45 with f1_ f2_ f3_; have f4_ := f1_.symm; have f5_ := f3_.symm; clear f1_ f2_ f3_; subst f4_; subst f5_))
                                  refine hK.out _ _ ⟨((HB.out.cell (World.block_lt_of_cell? w _ hw337_0)).trans hw337_0), ((HB.out.cell (World.block_lt_of_cell? w _ hw337_1)).trans hw337_1), ((HB.out.cell (World.block_lt_of_cell? w _ hw337_2)).trans hw337_2)⟩ (fun hHeld => ?_)
                                  clear hK K
                                  refine norm_ (a' := ?_) ?_ ?_
                                  rotate_left
                                  · show Act.put _ (some 60) _ = _
                                    simp only [Act.put, List.setIfInBounds_toArray, List.set_cons_zero, List.set_cons_succ, i64_w, i32_w]
                                    rfl
                                  refine one_ (i := 4) (N := some 62) #[true, true, true, true, true, true, true, true, true, true, true, false, false] rfl rfl (one_of HT_.out (by kernel_rfl)) (by decide) (fun K hK => ?_)
                                  refine goes_ Try.func30 (by kernel_rfl) rfl #[.slice Ao45 t333.length co45, .string a1] (by rfl) rfl rfl (by (try simp only [List.map_toArray, List.map_cons, List.map_nil]); first | done | rfl | (simp only [List.length_drop, List.length_take]; rfl)) ?_
                                  with_reducible refine (folkmootref03_Has.calls k4 _ _ t333 a1 t336 _ ?side1 ?side2 A32.out).mono ?_
                                  (case side1 => exact uC (Kd.R_reads' HO335.out).2.2)
                                  (case side2 => exact (Kd.R_reads' HO335.out).2.1)
                                  rintro e w46 ⟨rfl, hb⟩
                                  refine ⟨_, rfl, ?_⟩
                                  replace HO335 := bR HO335 hb
                                  replace HB := sB HB hb
                                  (try clear hb)
                                  (try clear hb2)
                                  (try clear hk)
                                  (try clear hi)
                                  refine hK.out _ _ ⟨((HB.out.cell (World.block_lt_of_cell? w _ hw337_0)).trans hw337_0), ((HB.out.cell (World.block_lt_of_cell? w _ hw337_1)).trans hw337_1), ((HB.out.cell (World.block_lt_of_cell? w _ hw337_2)).trans hw337_2)⟩ (fun hHeld => ?_)
                                  clear hK K
                                  refine norm_ (a' := ?_) ?_ ?_
                                  rotate_left
                                  · show Act.put _ (some 62) _ = _
                                    simp only [Act.put, List.setIfInBounds_toArray, List.set_cons_zero, List.set_cons_succ, i64_w, i32_w]
                                    rfl
                                  refine one_ (i := 11) (N := some 69) #[true, true, true, true, true, true, true, true, true, true, true, true, false] rfl rfl (one_of HT_.out (by kernel_rfl)) (by decide) (fun K hK => ?_)
                                  refine goes_ Try.func20 (by kernel_rfl) rfl #[.slice A337_2 ((rd_T37 l0 t327).f1).length c337_2, .int .i64 x8_4] (by rfl) rfl rfl (by (try simp only [List.map_toArray, List.map_cons, List.map_nil]); first | done | rfl | (simp only [List.length_drop, List.length_take]; rfl)) ?_
                                  with_reducible refine (folkmootref04_In.calls k4 _ _ ((rd_T37 l0 t327).f1) x8_4 t338 _ ?side1 ?side2 A35.out).mono ?_
                                  (case side1 => exact uC (Kd.C_below HR337_2.out HB.out))
                                  (case side2 => exact HC337_2.out)
                                  rintro e w' ⟨rfl, ⟨nd, rfl⟩⟩
                                  refine ⟨_, rfl, ?_⟩
                                  refine hK.out _ _ ⟨((HB.out.cell (World.block_lt_of_cell? w _ hw337_0)).trans hw337_0), ((HB.out.cell (World.block_lt_of_cell? w _ hw337_1)).trans hw337_1), ((HB.out.cell (World.block_lt_of_cell? w _ hw337_2)).trans hw337_2)⟩ (fun hHeld => ?_)
                                  clear hK K
                                  refine norm_ (a' := ?_) ?_ ?_
                                  rotate_left
                                  · show Act.put _ (some 69) _ = _
                                    simp only [Act.put, List.setIfInBounds_toArray, List.set_cons_zero, List.set_cons_succ, i64_w, i32_w]
                                    rfl
                                  refine pure_ (i := 12) (N := some 70) (v := ?_) (a' := ?_) #[true, true, true, true, true, true, true, true, true, true, true, true, true] rfl rfl (any_of HT_.out (by kernel_rfl)) (fun _ _ _ h => h) (Or.inl ⟨by rfl, ?_⟩) ?_ ?_
                                  rotate_left
                                  · intro w'
                                    go_simp
                                    with_reducible rfl
                                  rotate_left
                                  · simp only [Act.put, List.setIfInBounds_toArray, List.set_cons_zero, List.set_cons_succ, i64_w, i32_w]
                                    rfl
                                  refine done_ (done_of HT_.out (by kernel_rfl)) ?_
                                  try go_wp2_with (first | ((with_reducible refine gate_dst (N := 74) rfl ?_); (try (refine gate_guard (by rfl) ?_; dsimp only)); refine Kd.R_lit (Kd.int .i64) _ 3 ?hg (N := 74) ?hd (xs := ([t327] : List Int)) (inner := [.int .i64 t327]) (ok := fun _ => True) (okp := fun _ => True) ?hr ?hp (fun _ hk => hk) trivial (Below.refl _ _) (Nat.le_refl _) (by simp) ?_; (case hd => rfl); (case hg => rfl); (case hr => first | (go_simp; done) | (go_simp; rfl)); (case hp => exact (Reps.one (show Kd.M (Kd.int .i64) _ _ _ t327 [.int .i64 t327] from rfl) (Reps.none _ _))); intro v340 w47 ho48 hb hg_ hnew_; clear hg_ hnew_; (first | rw [← Ny339.out] at ho48 | (simp only [Int.reduceToNat] at ho48; rw [← Ny339.out] at ho48)); replace HO335 := bR HO335 hb; have HO341 := lR ho48 HB; replace HB := sB HB hb; clear hb ho48; obtain ⟨Ao49, co49, eo49⟩ := Kd.R_slice HO341.out; subst eo49) | ((with_reducible refine gate_callee (f := 19) rfl ?_); refine goesL_ (some 75) rfl rfl Try.func19 (by kernel_rfl) rfl #[.slice (some ad337) l0.length c0, .int .i64 x8_4, .slice Ao49 y339.length co49] rfl (by (try simp only [List.map_toArray, List.map_cons, List.map_nil]); first | done | rfl | (simp only [List.length_drop, List.length_take]; rfl)) ?_; (with_reducible refine (topo_Keeps.calls k4 _ _ l0 x8_4 _ _ y339 true _ ?side1 ?side2 ?side3 ?side4 A41.out).mono ?_); (case side1 => exact uC (Kd.C_below HR0.out HB.out)); (case side2 => exact HC0.out); (case side3 => exact uC (Kd.R_reads' HO341.out).2.2); (case side4 => exact (Kd.R_reads' HO341.out).2.1); rintro e w50 ⟨rfl, hb⟩; refine ⟨_, rfl, ?_⟩; replace HO335 := bR HO335 hb; replace HO341 := bR HO341 hb; replace HB := sB HB hb; (try clear hb); (try clear hb2); (try clear hk); (try clear hi)))
                                  go_roundg k4
                                  case measure => have := HJ2.out; have := HJ13.out; have := HK3.out; have := HK4.out; omega
                                  case rel => exact ⟨(wrap64 (x7_4 + 1)), (wrap64 (x8_4 + 1)), (by first | rfl | (simp; done) | (simp [*]; done)), (by first | rfl | (simp; done) | (simp [*]; done)), H', ⟨by have := HJ2.out; have := HJ13.out; have := HK3.out; have := HK4.out; omega⟩, ⟨by repeat (first | (with_reducible first | exact HB.out | apply below_alloc | apply pw_below_drewN | apply below_drew1) | exact HB.out)⟩⟩
                                · replace c42 := Bool.eq_false_iff.mpr c42
                                  subst c42
                                  have H1 : (folkmootlaw04_TopoOnce.l1 k4 l0 a1 t327 x7_4 (wrap64 (x8_4 + 1))) = some true := by rw [if_neg (show ¬ (false = true) by decide)] at H; exact H
                                  clear H
                                  have H := H1
                                  clear H1
                                  have H' := Aside0.mk H
                                  clear H
                                  try go_wp2
                                  replace HB := Aside0.mk (below_drew1 HB.out)
                                  have p337 : 0 ≤ (t327 : Int) := of_decide_eq_true (by first | (with_reducible assumption) | assumption)
                                  have q337 : t327 < (l0.length : Int) := of_decide_eq_true (by first | (with_reducible assumption) | assumption)
                                  obtain ⟨ad337, A337_2, c337_2, e337, hx337_0, hx337_1, hx337_2, hl337_2, hi337_2⟩ := at_T37 HR0.out t327 p337 q337
                                  have hw337_2 := hx337_2
                                  have hw337_1 := hx337_1
                                  have hw337_0 := hx337_0
                                  cases e337
                                  replace hx337_0 := (HB.out.cell (World.block_lt_of_cell? w _ hx337_0)).trans hx337_0
                                  replace hx337_1 := (HB.out.cell (World.block_lt_of_cell? w _ hx337_1)).trans hx337_1
                                  replace hx337_2 := (HB.out.cell (World.block_lt_of_cell? w _ hx337_2)).trans hx337_2
                                  have HR337_2 := Aside0.mk hi337_2
                                  have HC337_2 := Aside0.mk hl337_2
                                  clear hi337_2 hl337_2
                                  replace p337 := eq_true p337
                                  replace q337 := eq_true q337
                                  refine start_ (n := 13) (S := fun w' => w'.cell? (ad337.add ((t327).toNat * 3)) = some (.string ((rd_T37 l0 t327).f0.f0)) ∧ w'.cell? ⟨(ad337.add ((t327).toNat * 3)).block, (ad337.add ((t327).toNat * 3)).off + 1, none⟩ = some (.string ((rd_T37 l0 t327).f0.f1)) ∧ w'.cell? ⟨(ad337.add ((t327).toNat * 3)).block, (ad337.add ((t327).toNat * 3)).off + 2, none⟩ = some (.slice A337_2 ((rd_T37 l0 t327).f1).length c337_2)) (ds := []) #[false, false, false, false, false, false, false, false, false, false, false, false, false] (by kernel_rfl) rfl rfl ⟨((HB.out.cell (World.block_lt_of_cell? w _ hw337_0)).trans hw337_0), ((HB.out.cell (World.block_lt_of_cell? w _ hw337_1)).trans hw337_1), ((HB.out.cell (World.block_lt_of_cell? w _ hw337_2)).trans hw337_2)⟩ (fun hHeld => ?_); refine with_tabW folkmootlaw04_TopoOnce.tab15 folkmootlaw04_TopoOnce.bits15 (fun HT_ HW_ => ?_)
                                  generalize wr.drew = w51 at HB HR337_2 hx337_0 hx337_1 hx337_2 hHeld ⊢
                                  refine pure_ (i := 0) (N := some 58) (v := ?_) (a' := ?_) #[true, false, false, false, false, false, false, false, false, false, false, false, false] rfl rfl (any_of HT_.out (by kernel_rfl)) (fun _ _ _ h => h) (Or.inl ⟨by rfl, ?_⟩) ?_ ?_
                                  rotate_left
                                  · intro w'
                                    go_simp
                                    with_reducible rfl
                                  rotate_left
                                  · simp only [Act.put, List.setIfInBounds_toArray, List.set_cons_zero, List.set_cons_succ, i64_w, i32_w]
                                    rfl
                                  refine pure_ (i := 1) (N := some 59) (v := ?_) (a' := ?_) #[true, true, false, false, false, false, false, false, false, false, false, false, false] rfl rfl (any_of HT_.out (by kernel_rfl)) (fun _ _ _ h => h) (Or.inl ⟨by rfl, ?_⟩) ?_ ?_
                                  rotate_left
                                  · intro w'
                                    go_simp
                                    with_reducible rfl
                                  rotate_left
                                  · simp only [Act.put, List.setIfInBounds_toArray, List.set_cons_zero, List.set_cons_succ, i64_w, i32_w]
                                    rfl
                                  refine pure_ (i := 3) (N := some 61) (v := ?_) (a' := ?_) #[true, true, false, true, false, false, false, false, false, false, false, false, false] rfl rfl (any_of HT_.out (by kernel_rfl)) (fun _ _ _ h => h) (Or.inl ⟨by rfl, ?_⟩) ?_ ?_
                                  rotate_left
                                  · intro w'
                                    go_simp
                                    with_reducible rfl
                                  rotate_left
                                  · simp only [Act.put, List.setIfInBounds_toArray, List.set_cons_zero, List.set_cons_succ, i64_w, i32_w]
                                    rfl
                                  refine pure_ (i := 5) (N := some 63) (v := ?_) (a' := ?_) #[true, true, false, true, false, true, false, false, false, false, false, false, false] rfl rfl (any_of HT_.out (by kernel_rfl)) (fun _ _ _ h => h) (Or.inl ⟨by rfl, ?_⟩) ?_ ?_
                                  rotate_left
                                  · intro w'
                                    go_simp
                                    with_reducible rfl
                                  rotate_left
                                  · simp only [Act.put, List.setIfInBounds_toArray, List.set_cons_zero, List.set_cons_succ, i64_w, i32_w]
                                    rfl
                                  refine pure_ (i := 6) (N := some 64) (v := ?_) (a' := ?_) #[true, true, false, true, false, true, true, false, false, false, false, false, false] rfl rfl (any_of HT_.out (by kernel_rfl)) (fun _ _ _ h => h) (Or.inl ⟨by rfl, ?_⟩) ?_ ?_
                                  rotate_left
                                  · intro w'
                                    go_simp
                                    with_reducible rfl
                                  rotate_left
                                  · simp only [Act.put, List.setIfInBounds_toArray, List.set_cons_zero, List.set_cons_succ, i64_w, i32_w]
                                    rfl
                                  refine pure_ (i := 7) (N := some 65) (v := ?_) (a' := ?_) #[true, true, false, true, false, true, true, true, false, false, false, false, false] rfl rfl (any_of HT_.out (by kernel_rfl)) (fun _ _ _ h => h) (Or.inl ⟨by rfl, ?_⟩) ?_ ?_
                                  rotate_left
                                  · intro w'
                                    go_simp
                                    with_reducible rfl
                                  rotate_left
                                  · simp only [Act.put, List.setIfInBounds_toArray, List.set_cons_zero, List.set_cons_succ, i64_w, i32_w]
                                    rfl
                                  refine pure_ (i := 8) (N := some 66) (v := ?_) (a' := ?_) #[true, true, false, true, false, true, true, true, true, false, false, false, false] rfl rfl (any_of HT_.out (by kernel_rfl)) (fun _ _ _ h => h) (Or.inl ⟨by rfl, ?_⟩) ?_ ?_
                                  rotate_left
                                  · intro w'
                                    go_simp
                                    with_reducible rfl
                                  rotate_left
                                  · simp only [Act.put, List.setIfInBounds_toArray, List.set_cons_zero, List.set_cons_succ, i64_w, i32_w]
                                    rfl
                                  refine pure_ (i := 10) (N := some 68) (v := ?_) (a' := ?_) #[true, true, false, true, false, true, true, true, true, false, true, false, false] rfl rfl (any_of HT_.out (by kernel_rfl)) (fun _ _ _ h => h) (Or.inl ⟨by rfl, ?_⟩) ?_ ?_
                                  rotate_left
                                  · intro w'
                                    go_simp
                                    with_reducible rfl
                                  rotate_left
                                  · simp only [Act.put, List.setIfInBounds_toArray, List.set_cons_zero, List.set_cons_succ, i64_w, i32_w]
                                    rfl
                                  refine take_ (i := 9) (N := some 67) (v := ?_) (a' := ?_) #[true, true, false, true, false, true, true, true, true, true, true, false, false] rfl rfl (take_ofW HT_.out HW_.out (by kernel_rfl)) (fun _ _ _ h => h) (Or.inl ⟨by rfl, ?_⟩) hHeld ?_ ?_
                                  rotate_left
                                  · rintro w' ⟨s0, s1, s2⟩
                                    go_simp
                                    with_reducible rfl
                                  rotate_left
                                  · simp only [Act.put, List.setIfInBounds_toArray, List.set_cons_zero, List.set_cons_succ, i64_w, i32_w]
                                    rfl
                                  refine one_ (i := 2) (N := some 60) #[true, true, true, true, false, true, true, true, true, true, true, false, false] rfl rfl (one_of HT_.out (by kernel_rfl)) (by decide) (fun K hK => ?_)
                                  refine goes_ Try.func14 (by kernel_rfl) rfl #[.slice (some ad337) l0.length c0, .int .i64 x8_4] (by rfl) rfl rfl (by (try simp only [List.map_toArray, List.map_cons, List.map_nil]); first | done | rfl | (simp only [List.length_drop, List.length_take]; rfl)) ?_
                                  with_reducible refine (topo_Owned.calls k4 _ _ l0 x8_4 t333 _ ?side1 ?side2 A31.out).mono ?_
                                  (case side1 => exact uC (Kd.C_below HR0.out HB.out))
                                  (case side2 => exact HC0.out)
                                  rintro e w52 ⟨v334, rfl, ho0, hb⟩
                                  refine ⟨_, rfl, ?_⟩
                                  have HO335 := lR ho0 HB
                                  replace HB := sB HB hb
                                  (try clear hb)
                                  (try clear hb2)
                                  (try clear hk)
                                  (try clear hi)
                                  (try clear ho0)
                                  obtain ⟨Ao53, co53, eo53⟩ := Kd.R_slice HO335.out
                                  (first | subst eo53 | (injection eo53 with f1_ f2_ f3_; have f4_ := f1_.symm; have f5_ := f3_.symm; clear f1_ f2_ f3_; subst f4_; subst f5_))
                                  refine hK.out _ _ ⟨((HB.out.cell (World.block_lt_of_cell? w _ hw337_0)).trans hw337_0), ((HB.out.cell (World.block_lt_of_cell? w _ hw337_1)).trans hw337_1), ((HB.out.cell (World.block_lt_of_cell? w _ hw337_2)).trans hw337_2)⟩ (fun hHeld => ?_)
                                  clear hK K
                                  refine norm_ (a' := ?_) ?_ ?_
                                  rotate_left
                                  · show Act.put _ (some 60) _ = _
                                    simp only [Act.put, List.setIfInBounds_toArray, List.set_cons_zero, List.set_cons_succ, i64_w, i32_w]
                                    rfl
                                  refine one_ (i := 4) (N := some 62) #[true, true, true, true, true, true, true, true, true, true, true, false, false] rfl rfl (one_of HT_.out (by kernel_rfl)) (by decide) (fun K hK => ?_)
                                  refine goes_ Try.func30 (by kernel_rfl) rfl #[.slice Ao53 t333.length co53, .string a1] (by rfl) rfl rfl (by (try simp only [List.map_toArray, List.map_cons, List.map_nil]); first | done | rfl | (simp only [List.length_drop, List.length_take]; rfl)) ?_
                                  with_reducible refine (folkmootref03_Has.calls k4 _ _ t333 a1 t336 _ ?side1 ?side2 A32.out).mono ?_
                                  (case side1 => exact uC (Kd.R_reads' HO335.out).2.2)
                                  (case side2 => exact (Kd.R_reads' HO335.out).2.1)
                                  rintro e w54 ⟨rfl, hb⟩
                                  refine ⟨_, rfl, ?_⟩
                                  replace HO335 := bR HO335 hb
                                  replace HB := sB HB hb
                                  (try clear hb)
                                  (try clear hb2)
                                  (try clear hk)
                                  (try clear hi)
                                  refine hK.out _ _ ⟨((HB.out.cell (World.block_lt_of_cell? w _ hw337_0)).trans hw337_0), ((HB.out.cell (World.block_lt_of_cell? w _ hw337_1)).trans hw337_1), ((HB.out.cell (World.block_lt_of_cell? w _ hw337_2)).trans hw337_2)⟩ (fun hHeld => ?_)
                                  clear hK K
                                  refine norm_ (a' := ?_) ?_ ?_
                                  rotate_left
                                  · show Act.put _ (some 62) _ = _
                                    simp only [Act.put, List.setIfInBounds_toArray, List.set_cons_zero, List.set_cons_succ, i64_w, i32_w]
                                    rfl
                                  refine one_ (i := 11) (N := some 69) #[true, true, true, true, true, true, true, true, true, true, true, true, false] rfl rfl (one_of HT_.out (by kernel_rfl)) (by decide) (fun K hK => ?_)
                                  refine goes_ Try.func20 (by kernel_rfl) rfl #[.slice A337_2 ((rd_T37 l0 t327).f1).length c337_2, .int .i64 x8_4] (by rfl) rfl rfl (by (try simp only [List.map_toArray, List.map_cons, List.map_nil]); first | done | rfl | (simp only [List.length_drop, List.length_take]; rfl)) ?_
                                  with_reducible refine (folkmootref04_In.calls k4 _ _ ((rd_T37 l0 t327).f1) x8_4 t338 _ ?side1 ?side2 A35.out).mono ?_
                                  (case side1 => exact uC (Kd.C_below HR337_2.out HB.out))
                                  (case side2 => exact HC337_2.out)
                                  rintro e w' ⟨rfl, ⟨nd, rfl⟩⟩
                                  refine ⟨_, rfl, ?_⟩
                                  refine hK.out _ _ ⟨((HB.out.cell (World.block_lt_of_cell? w _ hw337_0)).trans hw337_0), ((HB.out.cell (World.block_lt_of_cell? w _ hw337_1)).trans hw337_1), ((HB.out.cell (World.block_lt_of_cell? w _ hw337_2)).trans hw337_2)⟩ (fun hHeld => ?_)
                                  clear hK K
                                  refine norm_ (a' := ?_) ?_ ?_
                                  rotate_left
                                  · show Act.put _ (some 69) _ = _
                                    simp only [Act.put, List.setIfInBounds_toArray, List.set_cons_zero, List.set_cons_succ, i64_w, i32_w]
                                    rfl
                                  refine pure_ (i := 12) (N := some 70) (v := ?_) (a' := ?_) #[true, true, true, true, true, true, true, true, true, true, true, true, true] rfl rfl (any_of HT_.out (by kernel_rfl)) (fun _ _ _ h => h) (Or.inl ⟨by rfl, ?_⟩) ?_ ?_
                                  rotate_left
                                  · intro w'
                                    go_simp
                                    with_reducible rfl
                                  rotate_left
                                  · simp only [Act.put, List.setIfInBounds_toArray, List.set_cons_zero, List.set_cons_succ, i64_w, i32_w]
                                    rfl
                                  refine done_ (done_of HT_.out (by kernel_rfl)) ?_
                                  try go_wp2_with (first | ((with_reducible refine gate_dst (N := 74) rfl ?_); (try (refine gate_guard (by rfl) ?_; dsimp only)); refine Kd.R_lit (Kd.int .i64) _ 3 ?hg (N := 74) ?hd (xs := ([t327] : List Int)) (inner := [.int .i64 t327]) (ok := fun _ => True) (okp := fun _ => True) ?hr ?hp (fun _ hk => hk) trivial (Below.refl _ _) (Nat.le_refl _) (by simp) ?_; (case hd => rfl); (case hg => rfl); (case hr => first | (go_simp; done) | (go_simp; rfl)); (case hp => exact (Reps.one (show Kd.M (Kd.int .i64) _ _ _ t327 [.int .i64 t327] from rfl) (Reps.none _ _))); intro v340 w55 ho56 hb hg_ hnew_; clear hg_ hnew_; (first | rw [← Ny339.out] at ho56 | (simp only [Int.reduceToNat] at ho56; rw [← Ny339.out] at ho56)); replace HO335 := bR HO335 hb; have HO341 := lR ho56 HB; replace HB := sB HB hb; clear hb ho56; obtain ⟨Ao57, co57, eo57⟩ := Kd.R_slice HO341.out; subst eo57) | ((with_reducible refine gate_callee (f := 19) rfl ?_); refine goesL_ (some 75) rfl rfl Try.func19 (by kernel_rfl) rfl #[.slice (some ad337) l0.length c0, .int .i64 x8_4, .slice Ao57 y339.length co57] rfl (by (try simp only [List.map_toArray, List.map_cons, List.map_nil]); first | done | rfl | (simp only [List.length_drop, List.length_take]; rfl)) ?_; (with_reducible refine (topo_Keeps.calls k4 _ _ l0 x8_4 _ _ y339 false _ ?side1 ?side2 ?side3 ?side4 A41.out).mono ?_); (case side1 => exact uC (Kd.C_below HR0.out HB.out)); (case side2 => exact HC0.out); (case side3 => exact uC (Kd.R_reads' HO341.out).2.2); (case side4 => exact (Kd.R_reads' HO341.out).2.1); rintro e w58 ⟨rfl, hb⟩; refine ⟨_, rfl, ?_⟩; replace HO335 := bR HO335 hb; replace HO341 := bR HO341 hb; replace HB := sB HB hb; (try clear hb); (try clear hb2); (try clear hk); (try clear hi)))
                                  go_roundg k4
                                  case measure => have := HJ2.out; have := HJ13.out; have := HK3.out; have := HK4.out; omega
                                  case rel => exact ⟨(x7_4), (wrap64 (x8_4 + 1)), (by first | rfl | (simp; done) | (simp [*]; done)), (by first | rfl | (simp; done) | (simp [*]; done)), H', ⟨by have := HJ2.out; have := HJ13.out; have := HK3.out; have := HK4.out; omega⟩, ⟨by repeat (first | (with_reducible first | exact HB.out | apply below_alloc | apply pw_below_drewN | apply below_drew1) | exact HB.out)⟩⟩
                            · rw [if_neg c34] at H
                              exact absurd H (by simp)
                          · rw [if_neg c33] at H
                            exact absurd H (by simp)
                        · rw [if_neg c30] at H
                          have c30b0 : decide (x8_4 ≤ 7) = false := decide_eq_false c30
                          clear c30
                          by_cases c59 : a1.size + 1 ≤ 9223372036854775807
                          · rw [if_pos c59] at H
                            have c59b0 := eq_true c59
                            have c59b1 : decide (a1.size + 1 ≤ 9223372036854775807) = true := decide_eq_true c59
                            try have c59b2 : (9223372036854775807 < a1.size + 1) = False := eq_false (Nat.not_lt.2 c59)
                            obtain ⟨y343, hy343⟩ : ∃ y_ : List (S35), y_ = (([(⟨a1, a1 ++ (⟨#[0]⟩ : ByteArray)⟩ : S35)] : List (S35))) := ⟨_, rfl⟩
                            replace H : (if 0 ≤ t327 then (if t327 < (l0.length : Int) then (if x7_4 = (((rd_T37 l0 t327).f1).length : Int) then ((topo_Quorum.f ((rd_T37 l0 t327).f0.f0) ((rd_T37 l0 t327).f0.f1) ((rd_T37 l0 t327).f1)).bind fun t348 => (if (wrap64 (2 * t348)) > x7_4 then ((topo_Quorum.f ((rd_T37 l0 t327).f0.f0) ((rd_T37 l0 t327).f0.f1) ((rd_T37 l0 t327).f1)).bind fun t350 => (if t350 ≤ x7_4 then ((topo_Touch.f l0 y343).bind fun t351 => ((folkmootref04_Ints.f k4 t351 (([t327] : List Int))).bind fun t357 => (if t357 = true then ((folkmootlaw04_live.f k4).bind fun t358 => (some t358)) else (some false)))) else (some false))) else (some false))) else (some false)) else (none)) else (none)) = some true := by first | (rw [hy343]; with_reducible exact H) | (have H2_ := (Option.bind_some _ _).symm.trans H; rw [hy343]; with_reducible exact H2_) | (have H2_ := (Option.bind_some _ _).symm.trans H; with_reducible exact H2_) | with_reducible exact H | (rw [hy343]; exact H) | exact H
                            have Ny343 := Aside0.mk hy343
                            clear hy343
                            by_cases c60 : 0 ≤ t327
                            · rw [if_pos c60] at H
                              have c60b0 : decide (0 ≤ t327) = true := decide_eq_true c60
                              clear c60
                              by_cases c61 : t327 < (l0.length : Int)
                              · rw [if_pos c61] at H
                                have c61b0 : decide (t327 < (l0.length : Int)) = true := decide_eq_true c61
                                clear c61
                                by_cases c62 : x7_4 = (((rd_T37 l0 t327).f1).length : Int)
                                · rw [if_pos c62] at H
                                  have c62b0 : (x7_4 == (((rd_T37 l0 t327).f1).length : Int)) = true := beq_iff_eq.mpr c62
                                  have c62b1 : (x7_4 != (((rd_T37 l0 t327).f1).length : Int)) = false := bne_eq_false_iff_eq.mpr c62
                                  clear c62
                                  replace H := Option.bind_eq_some_iff.mp H
                                  obtain ⟨t348, A630, H⟩ := H
                                  replace H : (if (wrap64 (2 * t348)) > x7_4 then ((topo_Quorum.f ((rd_T37 l0 t327).f0.f0) ((rd_T37 l0 t327).f0.f1) ((rd_T37 l0 t327).f1)).bind fun t350 => (if t350 ≤ x7_4 then ((topo_Touch.f l0 y343).bind fun t351 => ((folkmootref04_Ints.f k4 t351 (([t327] : List Int))).bind fun t357 => (if t357 = true then ((folkmootlaw04_live.f k4).bind fun t358 => (some t358)) else (some false)))) else (some false))) else (some false)) = some true := H
                                  have A63 := Aside0.mk A630
                                  clear A630
                                  by_cases c64 : (wrap64 (2 * t348)) > x7_4
                                  · rw [if_pos c64] at H
                                    have c64b0 : decide (x7_4 < (wrap64 (2 * t348))) = true := decide_eq_true c64
                                    clear c64
                                    replace H := Option.bind_eq_some_iff.mp H
                                    obtain ⟨t350, A650, H⟩ := H
                                    replace H : (if t350 ≤ x7_4 then ((topo_Touch.f l0 y343).bind fun t351 => ((folkmootref04_Ints.f k4 t351 (([t327] : List Int))).bind fun t357 => (if t357 = true then ((folkmootlaw04_live.f k4).bind fun t358 => (some t358)) else (some false)))) else (some false)) = some true := H
                                    have A65 := Aside0.mk A650
                                    clear A650
                                    by_cases c66 : t350 ≤ x7_4
                                    · rw [if_pos c66] at H
                                      have c66b0 : decide (t350 ≤ x7_4) = true := decide_eq_true c66
                                      clear c66
                                      replace H := Option.bind_eq_some_iff.mp H
                                      obtain ⟨t351, A670, H⟩ := H
                                      replace H : ((folkmootref04_Ints.f k4 t351 (([t327] : List Int))).bind fun t357 => (if t357 = true then ((folkmootlaw04_live.f k4).bind fun t358 => (some t358)) else (some false))) = some true := H
                                      have A67 := Aside0.mk A670
                                      clear A670
                                      obtain ⟨y354, hy354⟩ : ∃ y_ : List Int, y_ = (([t327] : List Int)) := ⟨_, rfl⟩
                                      replace H : ((folkmootref04_Ints.f k4 t351 y354).bind fun t357 => (if t357 = true then ((folkmootlaw04_live.f k4).bind fun t358 => (some t358)) else (some false))) = some true := by first | (rw [hy354]; with_reducible exact H) | (have H2_ := (Option.bind_some _ _).symm.trans H; rw [hy354]; with_reducible exact H2_) | (have H2_ := (Option.bind_some _ _).symm.trans H; with_reducible exact H2_) | with_reducible exact H | (rw [hy354]; exact H) | exact H
                                      have Ny354 := Aside0.mk hy354
                                      clear hy354
                                      replace H := Option.bind_eq_some_iff.mp H
                                      obtain ⟨t357, A680, H⟩ := H
                                      replace H : (if t357 = true then ((folkmootlaw04_live.f k4).bind fun t358 => (some t358)) else (some false)) = some true := H
                                      have A68 := Aside0.mk A680
                                      clear A680
                                      by_cases c69 : t357 = true
                                      · subst c69
                                        have H1 : ((folkmootlaw04_live.f k4).bind fun t358 => (some t358)) = some true := by rw [if_pos rfl] at H; exact H
                                        clear H
                                        have H := H1
                                        clear H1
                                        replace H := Option.bind_eq_some_iff.mp H
                                        obtain ⟨t358, A700, H⟩ := H
                                        replace H : (some t358) = some true := H
                                        have A70 := Aside0.mk A700
                                        clear A700
                                        have hrt_ := Aside0.mk (Option.some.inj H)
                                        clear H
                                        go_wp2_with (first | ((with_reducible refine gate_dst (N := 82) rfl ?_); (try (refine gate_guard (by rfl) ?_; dsimp only)); refine Kd.R_lit k35 _ 35 ?hg (N := 82) ?hd (xs := ([(⟨a1, a1 ++ (⟨#[0]⟩ : ByteArray)⟩ : S35)] : List (S35))) (inner := [.string a1, .string (a1 ++ (⟨#[0]⟩ : ByteArray))]) (ok := fun _ => True) (okp := fun _ => True) ?hr ?hp (fun _ hk => hk) trivial (Below.refl _ _) (Nat.le_refl _) (by simp) ?_; (case hd => rfl); (case hg => rfl); (case hr => first | (go_simp; done) | (go_simp; rfl)); (case hp => exact (Reps.c2 (show Kd.M k35 _ _ _ (⟨a1, a1 ++ (⟨#[0]⟩ : ByteArray)⟩ : S35) [.string a1, .string (a1 ++ (⟨#[0]⟩ : ByteArray))] from (k35_mkM _ _ _ (⟨a1, a1 ++ (⟨#[0]⟩ : ByteArray)⟩ : S35) )) (Reps.none _ _))); intro v344 w71 ho72 hb hg_ hnew_; clear hg_ hnew_; (first | rw [← Ny343.out] at ho72 | (simp only [Int.reduceToNat] at ho72; rw [← Ny343.out] at ho72)); have HO345 := lR ho72 HB; replace HB := sB HB hb; clear hb ho72; have p346 : 0 ≤ (t327 : Int) := of_decide_eq_true (by first | (with_reducible assumption) | assumption); have q346 : t327 < (l0.length : Int) := of_decide_eq_true (by first | (with_reducible assumption) | assumption); obtain ⟨ad346, A346_2, c346_2, e346, hx346_0, hx346_1, hx346_2, hl346_2, hi346_2⟩ := at_T37 HR0.out t327 p346 q346; cases e346; replace hx346_0 := (HB.out.cell (World.block_lt_of_cell? w _ hx346_0)).trans hx346_0; replace hx346_1 := (HB.out.cell (World.block_lt_of_cell? w _ hx346_1)).trans hx346_1; replace hx346_2 := (HB.out.cell (World.block_lt_of_cell? w _ hx346_2)).trans hx346_2; have HR346_2 := Aside0.mk hi346_2; have HC346_2 := Aside0.mk hl346_2; clear hi346_2 hl346_2; replace p346 := eq_true p346; replace q346 := eq_true q346; have p347 : 0 ≤ (t327 : Int) := of_decide_eq_true (by first | (with_reducible assumption) | assumption); have q347 : t327 < (l0.length : Int) := of_decide_eq_true (by first | (with_reducible assumption) | assumption); obtain ⟨ad347, A347_2, c347_2, e347, hx347_0, hx347_1, hx347_2, hl347_2, hi347_2⟩ := at_T37 HR0.out t327 p347 q347; obtain rfl : ad346 = ad347 := (by injection e347); replace hx347_0 := (HB.out.cell (World.block_lt_of_cell? w _ hx347_0)).trans hx347_0; replace hx347_1 := (HB.out.cell (World.block_lt_of_cell? w _ hx347_1)).trans hx347_1; replace hx347_2 := (HB.out.cell (World.block_lt_of_cell? w _ hx347_2)).trans hx347_2; have HR347_2 := Aside0.mk hi347_2; have HC347_2 := Aside0.mk hl347_2; clear hi347_2 hl347_2; replace p347 := eq_true p347; replace q347 := eq_true q347; have ea_ := Option.some.inj (hx346_2.symm.trans hx347_2); injection ea_ with ea_ en_ ec_; subst ea_; subst ec_; clear en_) | (go_at_call 21; (with_reducible refine (topo_Quorum.calls ((rd_T37 l0 t327).f0.f0) ((rd_T37 l0 t327).f0.f1) _ _ ((rd_T37 l0 t327).f1) t348 _ ?side1 ?side2 A63.out).mono ?_); (case side1 => exact uC (Kd.C_below HR347_2.out HB.out)); (case side2 => exact HC347_2.out); rintro e w73 ⟨rfl, hb⟩; replace HO345 := bR HO345 hb; replace HB := sB HB hb; (try clear hb); (try clear hb2); (try clear hk); (try clear hi); have p349 : 0 ≤ (t327 : Int) := of_decide_eq_true (by first | (with_reducible assumption) | assumption); have q349 : t327 < (l0.length : Int) := of_decide_eq_true (by first | (with_reducible assumption) | assumption); obtain ⟨ad349, A349_2, c349_2, e349, hx349_0, hx349_1, hx349_2, hl349_2, hi349_2⟩ := at_T37 HR0.out t327 p349 q349; obtain rfl : ad346 = ad349 := (by injection e349); replace hx349_0 := (HB.out.cell (World.block_lt_of_cell? w _ hx349_0)).trans hx349_0; replace hx349_1 := (HB.out.cell (World.block_lt_of_cell? w _ hx349_1)).trans hx349_1; replace hx349_2 := (HB.out.cell (World.block_lt_of_cell? w _ hx349_2)).trans hx349_2; have HR349_2 := Aside0.mk hi349_2; have HC349_2 := Aside0.mk hl349_2; clear hi349_2 hl349_2; replace p349 := eq_true p349; replace q349 := eq_true q349; clear A63) | (go_at_call 21; (with_reducible refine (topo_Quorum.calls ((rd_T37 l0 t327).f0.f0) ((rd_T37 l0 t327).f0.f1) _ _ ((rd_T37 l0 t327).f1) t350 _ ?side1 ?side2 A65.out).mono ?_); (case side1 => exact uC (Kd.C_below HR349_2.out HB.out)); (case side2 => exact HC349_2.out); rintro e w74 ⟨rfl, hb⟩; replace HO345 := bR HO345 hb; replace HB := sB HB hb; (try clear hb); (try clear hb2); (try clear hk); (try clear hi); obtain ⟨Ao75, co75, eo75⟩ := Kd.R_slice HO345.out; subst eo75; clear A65) | (go_at_call 25; (with_reducible refine (topo_Touch.calls _ _ l0 _ _ y343 t351 _ ?side1 ?side2 ?side3 ?side4 A67.out).mono ?_); (case side1 => exact uC (Kd.C_below HR0.out HB.out)); (case side2 => exact HC0.out); (case side3 => exact uC (Kd.R_reads' HO345.out).2.2); (case side4 => exact (Kd.R_reads' HO345.out).2.1); rintro e w76 ⟨v352, rfl, ho0, hb⟩; replace HO345 := bR HO345 hb; have HO353 := lR ho0 HB; replace HB := sB HB hb; (try clear hb); (try clear hb2); (try clear hk); (try clear hi); (try clear ho0)) | ((with_reducible refine gate_dst (N := 115) rfl ?_); (try (refine gate_guard (by rfl) ?_; dsimp only)); refine Kd.R_lit (Kd.int .i64) _ 3 ?hg (N := 115) ?hd (xs := ([t327] : List Int)) (inner := [.int .i64 t327]) (ok := fun _ => True) (okp := fun _ => True) ?hr ?hp (fun _ hk => hk) trivial (Below.refl _ _) (Nat.le_refl _) (by simp) ?_; (case hd => rfl); (case hg => rfl); (case hr => first | (go_simp; done) | (go_simp; rfl)); (case hp => exact (Reps.one (show Kd.M (Kd.int .i64) _ _ _ t327 [.int .i64 t327] from rfl) (Reps.none _ _))); intro v355 w77 ho78 hb hg_ hnew_; clear hg_ hnew_; (first | rw [← Ny354.out] at ho78 | (simp only [Int.reduceToNat] at ho78; rw [← Ny354.out] at ho78)); replace HO345 := bR HO345 hb; have HO356 := lR (nR ho78 HO353) HB; replace HO353 := eR HO353 ho78 hb; replace HB := sB HB hb; clear hb ho78; obtain ⟨Ao79, co79, eo79⟩ := Kd.R_slice HO353.out; subst eo79; obtain ⟨Ao80, co80, eo80⟩ := Kd.R_slice HO356.out; subst eo80) | (go_at_call 24; (with_reducible refine (folkmootref04_Ints.calls k4 _ _ t351 _ _ y354 true _ ?side1 ?side2 ?side3 ?side4 A68.out).mono ?_); (case side1 => exact uC (Kd.R_reads' HO353.out).2.2); (case side2 => exact (Kd.R_reads' HO353.out).2.1); (case side3 => exact uC (Kd.R_reads' HO356.out).2.2); (case side4 => exact (Kd.R_reads' HO356.out).2.1); rintro e w' ⟨rfl, ⟨nd, rfl⟩⟩) | (go_at_call 10; (with_reducible refine (folkmootlaw04_live.calls k4  t358 _ A70.out).mono ?_); rintro e w81 ⟨rfl, hb⟩; replace HO345 := bR HO345 hb; replace HO353 := bR HO353 hb; replace HO356 := bR HO356 hb; replace HB := sB HB hb; (try clear hb); (try clear hb2); (try clear hk); (try clear hi)))
                                        go_ret
                                        exact ⟨by first | rfl | (exact congrArg (fun b_ => Ending.returned (Value.bool b_)) hrt_.out) | (simp [errW_none, errW_some] <;> rfl) | (simp [*, errW_none, errW_some] <;> rfl), by repeat (first | (with_reducible first | exact HB.out | apply below_alloc | apply pw_below_drewN | apply below_drew1) | exact HB.out)⟩
                                      · replace c69 := Bool.eq_false_iff.mpr c69
                                        subst c69
                                        have H1 : (some false) = some true := by rw [if_neg (show ¬ (false = true) by decide)] at H; exact H
                                        exact absurd H1 (by simp)
                                    · rw [if_neg c66] at H
                                      have c66b0 : decide (t350 ≤ x7_4) = false := decide_eq_false c66
                                      clear c66
                                      exact absurd H (by simp)
                                  · rw [if_neg c64] at H
                                    have c64b0 : decide (x7_4 < (wrap64 (2 * t348))) = false := decide_eq_false c64
                                    clear c64
                                    exact absurd H (by simp)
                                · rw [if_neg c62] at H
                                  have c62b0 : (x7_4 == (((rd_T37 l0 t327).f1).length : Int)) = false := beq_eq_false_iff_ne.mpr c62
                                  have c62b1 : (x7_4 != (((rd_T37 l0 t327).f1).length : Int)) = true := bne_iff_ne.mpr c62
                                  exact absurd H (by simp)
                              · rw [if_neg c61] at H
                                exact absurd H (by simp)
                            · rw [if_neg c60] at H
                              exact absurd H (by simp)
                          · rw [if_neg c59] at H
                            exact absurd H (by simp)
end Go.Proofs.Ytaedgbkeiankcaa.P
namespace Go.Proofs.Ytaedgbkeiankcaa.P
open Go.RowKit Go.Proofs.YtaedgbkeiankcaaW.PrintWords
set_option linter.unusedVariables false
set_option linter.unusedSimpArgs false
theorem less_zero : ∀ (x k : List UInt8), Op.bytesLess k (x ++ [0]) = (Op.bytesLess k x || k == x)
  | [], [] => rfl
  | [], a :: k => by
    have h : Op.bytesLess k [] = false := bytesLess_nil k
    have h0 : ¬ a < 0 := UInt8.not_lt_zero
    simp [Op.bytesLess, h, h0]
  | b :: x, [] => by simp [Op.bytesLess]
  | b :: x, a :: k => by
    have ih := less_zero x k
    simp only [List.cons_append, Op.bytesLess, ih, List.cons_beq_cons]
    cases decide (a < b) <;> cases (a == b) <;> simp
def pt (x : ByteArray) : S35 := ⟨x, x ++ (⟨#[0]⟩ : ByteArray)⟩
theorem point_in (x k : ByteArray) : inSp k (pt x) = (x.toList == k.toList) := by
  have h : (x ++ (⟨#[0]⟩ : ByteArray)).toList = x.toList ++ [0] := by
    rw [← toList_data, ← toList_data]
    simp
  have h2 : (x.toList ++ [0]).isEmpty = false := by cases x.toList <;> rfl
  unfold inSp pt
  rw [h, less_zero, h2]
  by_cases c : k.toList = x.toList
  · rw [c, bytesLess_irrefl]
    simp
  · have c1 : (k.toList == x.toList) = false := beq_eq_false_iff_ne.2 c
    have c2 : (x.toList == k.toList) = false := beq_eq_false_iff_ne.2 (fun e => c e.symm)
    rw [c1, c2]
    cases Op.bytesLess k.toList x.toList <;> rfl
theorem topo_mono (l : List Shd) (h : topoB l = true) : ∀ d i (hi : i + d + 1 < l.length), (toSp (l[i]'(by omega)).f0).t ≠ .nil ∧ (toSp (l[i]'(by omega)).f0).t ≤ (toSp l[i + d + 1].f0).f := by
  intro d
  induction d with
  | zero =>
    intro i hi
    obtain ⟨h1, h2⟩ := topo_span l h i (by omega)
    rcases h2 with ⟨h3, _⟩ | ⟨_, _, h5⟩
    · omega
    · refine ⟨h5, ?_⟩
      rw [(topo_span l h (i + 0 + 1) hi).1, beg_succ l i (by omega)]
      exact Std.IsPreorder.le_refl _
  | succ d ih =>
    intro i hi
    obtain ⟨h1, h2⟩ := ih i (by omega)
    refine ⟨h1, ?_⟩
    have hn := topo_span l h (i + d + 1) (by omega)
    obtain ⟨e1, e2⟩ := hn
    rcases e2 with ⟨h3, _⟩ | ⟨_, h4, h5⟩
    · omega
    · have e3 : (toSp l[i + (d + 1) + 1].f0).f = (toSp (l[i + d + 1]'(by omega)).f0).t := by
        rw [(topo_span l h (i + (d + 1) + 1) hi).1]
        exact congrArg tx (beg_succ l (i + d + 1) (by omega))
      rw [e3]
      rw [← e1] at h4
      exact Std.IsPreorder.le_trans _ _ _ h2 (Std.le_of_lt h4)
theorem topo_unique (l : List Shd) (h : topoB l = true) (k : Txt) (i j : Nat) (hi : i < l.length) (hj : j < l.length) (h1 : Sp.inn k (toSp l[i].f0)) (h2 : Sp.inn k (toSp l[j].f0)) : i = j := by
  have key : ∀ i j (hi : i < l.length) (hj : j < l.length), i < j → Sp.inn k (toSp l[i].f0) → Sp.inn k (toSp l[j].f0) → False := by
    intro i j hi hj hij h1 h2
    obtain ⟨m1, m2⟩ := topo_mono l h (j - i - 1) i (by omega)
    have e : i + (j - i - 1) + 1 = j := by omega
    have m3 : (toSp l[i].f0).t ≤ (toSp l[j].f0).f := by simpa [e] using m2
    rcases h1.2 with c | c
    · exact m1 c
    · have := Std.lt_of_lt_of_le c (Std.IsPreorder.le_trans _ _ _ m3 h2.1)
      exact absurd this (Std.lt_irrefl)
  rcases Nat.lt_trichotomy i j with c | c | c
  · exact (key i j hi hj c h1 h2).elim
  · exact c
  · exact (key j i hj hi c h2 h1).elim
/-- the one shard of a key -/
theorem topo_one (l : List Shd) (h : topoB l = true) (key : ByteArray) : ∃ a : Nat, ∃ ha : a < l.length, topo_Find.f l key = some (a : Int) ∧ ∀ i (hi : i < l.length), inSp key l[i].f0 = decide (i = a) := by
  obtain ⟨a, ha, hk⟩ := topo_cover l h (tx key)
  have hin : ∀ i (hi : i < l.length), inSp key l[i].f0 = decide (i = a) := fun i hi => Bool.eq_iff_iff.2 (by
    rw [inSp_iff, decide_eq_true_iff]
    constructor
    · intro hx; exact topo_unique l h (tx key) i a hi ha hx hk
    · rintro rfl; exact hk)
  refine ⟨a, ha, ?_, hin⟩
  unfold topo_Find.f
  rcases idxR_spec (fun x : Shd => inSp key x.f0) l with ⟨e, hm⟩ | ⟨k0, hk0, e, hit, _⟩
  · have := hm _ (List.getElem_mem ha)
    rw [hin a ha] at this
    simp at this
  · rw [e]
    have h2 := hin k0 hk0
    rw [show inSp key l[k0].f0 = true from hit] at h2
    obtain rfl : k0 = a := by simpa using h2
    congr 1
    omega
/-- how many of the nodes 1 to m are in a list -/
def cntN (ns : List Int) : Nat → Nat
  | 0 => 0
  | m + 1 => cntN ns m + (if ns.contains ((m + 1 : Nat) : Int) = true then 1 else 0)
theorem cntN_le (ns : List Int) : ∀ m, cntN ns m ≤ m
  | 0 => Nat.le_refl _
  | m + 1 => by have := cntN_le ns m; unfold cntN; split <;> omega
theorem cntN_cons (v : Int) (ns : List Int) (hv : 1 ≤ v) (hn : v ∉ ns) : ∀ m : Nat, cntN (v :: ns) m = cntN ns m + (if v ≤ (m : Int) then 1 else 0)
  | 0 => by
    have c : ¬ v ≤ ((0 : Nat) : Int) := by omega
    rw [if_neg c]; rfl
  | m + 1 => by
    rw [cntN, cntN, cntN_cons v ns hv hn m, List.contains_cons]
    by_cases e : ((m + 1 : Nat) : Int) = v
    · have e1 : (((m + 1 : Nat) : Int) == v) = true := beq_iff_eq.2 e
      have e2 : ns.contains ((m + 1 : Nat) : Int) = false := by
        cases hc : ns.contains ((m + 1 : Nat) : Int) with
        | false => rfl
        | true => exact absurd (e ▸ List.contains_iff_mem.1 hc) hn
      have c1 : ¬ v ≤ (m : Int) := by omega
      have c2 : v ≤ ((m + 1 : Nat) : Int) := by omega
      rw [e1, e2, if_neg c1, if_pos c2]
      simp
    · have e1 : (((m + 1 : Nat) : Int) == v) = false := beq_eq_false_iff_ne.2 e
      rw [e1, Bool.false_or]
      by_cases c : v ≤ (m : Int)
      · have c2 : v ≤ ((m + 1 : Nat) : Int) := by omega
        rw [if_pos c, if_pos c2]; omega
      · have c2 : ¬ v ≤ ((m + 1 : Nat) : Int) := by omega
        rw [if_neg c, if_neg c2]; omega
theorem cntN_all : ∀ ns : List Int, ns.Pairwise (· < ·) → (∀ v ∈ ns, 1 ≤ v ∧ v ≤ 7) → cntN ns 7 = ns.length
  | [], _, _ => by rfl
  | v :: ns, hp, hr => by
    obtain ⟨h1, h2⟩ := List.pairwise_cons.1 hp
    have hv := hr v (List.mem_cons_self ..)
    rw [cntN_cons v ns hv.1 (fun hm => by have := h1 v hm; omega) 7, if_pos (show v ≤ ((7 : Nat) : Int) by omega), cntN_all ns h2 (fun x hx => hr x (List.mem_cons_of_mem _ hx)), List.length_cons]
theorem nodes_inc (ns : List Int) (h : nodesB ns = true) : ns.Pairwise (· < ·) := by
  unfold nodesB at h
  split at h
  · cases h
  · exact (incD_iff ns).1 h
theorem tx_onto (k : Txt) : ∃ b : ByteArray, tx b = k := ⟨⟨k.l.toArray⟩, by unfold tx; rw [← toList_data]⟩
theorem only_one (L : List Int) (hp : L.Pairwise (· < ·)) (a : Int) (hm : ∀ v, v ∈ L ↔ v = a) : L = [a] := by
  match L, hp, hm with
  | [], _, hm => exact absurd ((hm a).2 rfl) (by simp)
  | x :: t, hp, hm =>
    have hx : x = a := (hm x).1 (List.mem_cons_self ..)
    match t, hp, hm with
    | [], _, _ => rw [hx]
    | y :: t, hp, hm =>
      have hy : y = a := (hm y).1 (by simp)
      have := (List.pairwise_cons.1 hp).1 y (List.mem_cons_self ..)
      omega
theorem touch_point (l : List Shd) (h : topoB l = true) (key : ByteArray) (a : Nat) (ha : a < l.length) (hin : ∀ i (hi : i < l.length), inSp key l[i].f0 = decide (i = a)) : placesL (meetP [pt key]) l = [(a : Int)] := by
  have hf : Sp.inn (tx key) (toSp (pt key)) := (inSp_iff key (pt key)).1 (by rw [point_in]; exact beq_self_eq_true _)
  have hc : Sp.Can ([pt key].map toSp) := can_one (in_full hf)
  have hp : ∀ i (hi : i < l.length), meetP [pt key] l[i] = decide (i = a) := fun i hi => Bool.eq_iff_iff.2 (by
    rw [meet_topo l h _ (List.getElem_mem hi) _ hc (by simp), ← hin i hi, inSp_iff]
    constructor
    · rintro ⟨k, h1, h2⟩
      obtain ⟨b, rfl⟩ := tx_onto k
      obtain ⟨s, hs, h3⟩ := h2
      obtain rfl := List.mem_singleton.1 hs
      have h4 := (inSp_iff b (pt key)).2 h3
      rw [point_in] at h4
      have h6 : tx b = tx key := by unfold tx; rw [eq_of_beq h4]
      exact h6 ▸ h1
    · intro hx
      exact ⟨tx key, hx, _, List.mem_singleton.2 rfl, hf⟩)
  refine only_one _ (places_inc _ _ _ _) _ (fun v => ?_)
  rw [places_mem]
  constructor
  · rintro ⟨j, rfl, hj, hm⟩
    rw [gdT_at l j hj, hp j hj, decide_eq_true_iff] at hm
    rw [hm]
  · rintro rfl
    exact ⟨a, rfl, ha, by rw [gdT_at l a ha, hp a ha]; simp⟩
theorem own_one (l : List Shd) (key : ByteArray) (a : Nat) (ha : a < l.length) (hin : ∀ i (hi : i < l.length), inSp key l[i].f0 = decide (i = a)) (n : Int) : (ownL l n).any (inSp key) = l[a].f1.contains n := by
  rw [own_has, Bool.eq_iff_iff, List.any_eq_true]
  constructor
  · rintro ⟨x, hx, h⟩
    obtain ⟨j, hj, rfl⟩ := List.getElem_of_mem hx
    rw [Bool.and_eq_true, hin j hj, decide_eq_true_iff] at h
    obtain ⟨h1, rfl⟩ := h
    exact h1
  · intro h
    exact ⟨l[a], List.getElem_mem ha, by rw [h, hin a ha]; simp⟩
theorem keeps_one (l : List Shd) (ht : topoB l = true) (a : Nat) (ha : a < l.length) (n : Int) : (nodesL l [(a : Int)]).contains n = l[a].f1.contains n := by
  rw [keeps_eq l ht n]
  simp only [List.any_cons, List.any_nil, Bool.or_false]
  unfold nodeIn
  rw [decide_eq_true (show 0 ≤ (a : Int) ∧ (a : Int) < (l.length : Int) by omega), Bool.true_and, show ((a : Int)).toNat = a from rfl, gdT_at l a ha]
theorem nodes_pos (ns : List Int) (h : nodesB ns = true) : 1 ≤ ns.length ∧ ns.length ≤ 5 := by
  rw [nodesB_ok, Bool.and_eq_true, decide_eq_true_iff] at h
  omega
end Go.Proofs.Ytaedgbkeiankcaa.P
namespace Go.Proofs.Ytaedgbkeiankcaa.P
open Go.RowKit Go.Proofs.YtaedgbkeiankcaaW.PrintWords
set_option linter.unusedVariables false
set_option linter.unusedSimpArgs false
theorem once_end (l : List Shd) (key : ByteArray) (a : Nat) (ht : topoB l = true) (hl : l.length ≤ 30) (hk : key.size ≤ 4000) (ha : a < l.length) (hin : ∀ i (hi : i < l.length), inSp key l[i].f0 = decide (i = a)) (c : Int) (e : c = ((rd_T37 l (a : Int)).f1.length : Int)) (h1 : 1 ≤ (rd_T37 l (a : Int)).f1.length) (h5 : (rd_T37 l (a : Int)).f1.length ≤ 5) (m : Int) (hm : ¬ m ≤ 7) : Ev (fun k => folkmootlaw04_TopoOnce.l1 k l key (a : Int) c m) true := by
  have h0 : (0 : Int) ≤ (a : Int) := by omega
  have h2 : (a : Int) < (l.length : Int) := by omega
  have hsz : key.size + 1 ≤ 9223372036854775807 := by omega
  have hq := quorum_f (rd_T37 l (a : Int)).f0.f0 (rd_T37 l (a : Int)).f0.f1 (rd_T37 l (a : Int)).f1 (by omega)
  have htc : topo_Touch.f l [(⟨key, key ++ (⟨#[0]⟩ : ByteArray)⟩ : Spn)] = some [(a : Int)] := by
    have := ttouch_f l [pt key] (by omega) (by simp)
    rw [touch_point l ht key a ha hin] at this
    exact this
  have hi := ints_ev [(a : Int)] (by simp)
  have c1 : wrap64 (2 * (((rd_T37 l (a : Int)).f1.length : Int) / 2 + 1)) > c := by rw [e, wrap_in (by omega) (by omega)]; omega
  have c2 : (((rd_T37 l (a : Int)).f1.length : Int) / 2 + 1) ≤ c := by rw [e]; omega
  generalize ((rd_T37 l (a : Int)).f1.length : Int) / 2 + 1 = q at hq c1 c2
  refine Ev.step (fun k => by rw [folkmootlaw04_TopoOnce.l1, if_neg hm, if_pos hsz, if_pos h0, if_pos h2, if_pos e, hq, Option.bind_some, if_pos c1, Option.bind_some, if_pos c2, htc, Option.bind_some]) (Ev.bind hi ?_)
  simp only [if_true]
  exact Ev.bind tlive_ev (Ev.val _)
theorem once_l1 (l : List Shd) (key : ByteArray) (a : Nat) (ht : topoB l = true) (hl : l.length ≤ 30) (hk : key.size ≤ 4000) (ha : a < l.length) (hin : ∀ i (hi : i < l.length), inSp key l[i].f0 = decide (i = a)) : ∀ (d m : Nat), m ≤ 7 → 7 - m = d → Ev (fun k => folkmootlaw04_TopoOnce.l1 k l key (a : Int) ((cntN (rd_T37 l (a : Int)).f1 m : Nat) : Int) ((m + 1 : Nat) : Int)) true := by
  have hr := rdT_at l a ha
  have hb : nodesB (rd_T37 l (a : Int)).f1 = true := by rw [hr]; exact (topoB_iff l ht).2.2.2.2 _ (List.getElem_mem ha)
  have hnp := nodes_pos _ hb
  have h0 : (0 : Int) ≤ (a : Int) := by omega
  have h2 : (a : Int) < (l.length : Int) := by omega
  intro d
  induction d with
  | zero =>
    intro m hm hd
    have hc := cntN_all _ (nodes_inc _ hb) (node_range _ hb)
    have e7 : m = 7 := by omega
    have e : ((cntN (rd_T37 l (a : Int)).f1 m : Nat) : Int) = ((rd_T37 l (a : Int)).f1.length : Int) := by rw [e7, hc]
    exact once_end l key a ht hl hk ha hin _ e hnp.1 hnp.2 _ (by omega)
  | succ d ih =>
    intro m hm hd
    have h1 : ((m + 1 : Nat) : Int) ≤ 7 := by omega
    have hw : wrap64 (((m + 1 : Nat) : Int) + 1) = ((m + 1 + 1 : Nat) : Int) := by rw [wrap_in] <;> omega
    have hol := ownL_len l ((m + 1 : Nat) : Int)
    have eh := has_ev (ownL l ((m + 1 : Nat) : Int)) key (by omega)
    rw [own_one l key a ha hin, ← hr] at eh
    have ek := tkeeps_ev l ((m + 1 : Nat) : Int) [(a : Int)]
    rw [keeps_one l ht a ha, ← hr] at ek
    have ei := rin_ev (rd_T37 l (a : Int)).f1 ((m + 1 : Nat) : Int) (by omega)
    have hn := ih (m + 1) (by omega) (by omega)
    have hle := cntN_le (rd_T37 l (a : Int)).f1 m
    have hs : cntN (rd_T37 l (a : Int)).f1 (m + 1) = cntN (rd_T37 l (a : Int)).f1 m + (if (rd_T37 l (a : Int)).f1.contains ((m + 1 : Nat) : Int) = true then 1 else 0) := rfl
    rw [hs] at hn
    refine Ev.step (fun k => by simp only [folkmootlaw04_TopoOnce.l1, if_pos h1] <;> rfl) (Ev.bind (owned_ev l _ hl) (Ev.bind eh ?_))
    simp only [if_pos h0, if_pos h2]
    refine Ev.bind ei ?_
    simp only [bne_self_eq_false, Bool.false_eq_true, if_false]
    refine Ev.bind ek ?_
    generalize (rd_T37 l (a : Int)).f1.contains ((m + 1 : Nat) : Int) = c at hn
    generalize cntN (rd_T37 l (a : Int)).f1 m = v at hn hle
    have hv : wrap64 ((v : Int) + 1) = ((v + 1 : Nat) : Int) := by rw [wrap_in] <;> omega
    cases c with
    | true =>
      simp only [if_true, hw, hv] at hn ⊢
      exact hn
    | false =>
      simp only [Bool.false_eq_true, if_false, hw, Nat.add_zero] at hn ⊢
      exact hn
theorem once_l0 (l : List Shd) (key : ByteArray) (a : Nat) (ht : topoB l = true) (hl : l.length ≤ 30) (hk : key.size ≤ 4000) (ha : a < l.length) (hin : ∀ i (hi : i < l.length), inSp key l[i].f0 = decide (i = a)) : ∀ (d i : Nat), i ≤ l.length → l.length - i = d → Ev (fun k => folkmootlaw04_TopoOnce.l0 k l key (a : Int) (i : Int)) true := by
  intro d
  induction d with
  | zero =>
    intro i hii hd
    have h1 : ¬ (i : Int) < (l.length : Int) := by omega
    have hz : cntN (rd_T37 l (a : Int)).f1 0 = 0 := rfl
    have hn := once_l1 l key a ht hl hk ha hin 7 0 (by omega) rfl
    rw [hz] at hn
    exact Ev.step (fun k => by simp only [folkmootlaw04_TopoOnce.l0, if_neg h1] <;> rfl) hn
  | succ d ih =>
    intro i hii hd
    have h1 : (i : Int) < (l.length : Int) := by omega
    have h0 : (0 : Int) ≤ (i : Int) := by omega
    have hil : i < l.length := by omega
    have hw : wrap64 ((i : Int) + 1) = ((i + 1 : Nat) : Int) := by rw [wrap_in] <;> omega
    have hr := rdT_at l i hil
    have eh := rhas_one (rd_T37 l (i : Int)) key
    rw [hr, hin i hil, ← hr] at eh
    have hb : ((i : Int) == (a : Int)) = decide (i = a) := by
      rw [Bool.eq_iff_iff, beq_iff_eq, decide_eq_true_iff]; omega
    refine Ev.step (fun k => by simp only [folkmootlaw04_TopoOnce.l0, if_pos h1, if_pos h0] <;> rfl) (Ev.bind eh ?_)
    simp only [hb, bne_self_eq_false, Bool.false_eq_true, if_false, hw]
    exact ih (i + 1) (by omega) (by omega)
theorem once_j0 (l : List Shd) (key : ByteArray) (c : Bool) (h : c = false → l.length ≤ 30 ∧ key.size ≤ 4000 ∧ topoB l = true) : Ev (fun k => folkmootlaw04_TopoOnce.j0 k l key c) true := by
  cases c with
  | true => exact Ev.step (fun k => by simp only [folkmootlaw04_TopoOnce.j0, if_true] <;> rfl) (Ev.bind tlive_ev (Ev.val _))
  | false =>
    obtain ⟨hl, hk, ht⟩ := h rfl
    obtain ⟨a, ha, hf, hin⟩ := topo_one l ht key
    have c0 : ¬ (a : Int) < 0 := by omega
    have c1 : decide ((a : Int) ≥ (l.length : Int)) = false := decide_eq_false (by omega)
    refine Ev.step (fun k => by simp only [folkmootlaw04_TopoOnce.j0, Bool.false_eq_true, if_false, hf, Option.bind_some, if_neg c0, c1] <;> rfl) ?_
    exact Ev.step (fun k => by simp only [folkmootlaw04_TopoOnce.j1, Bool.false_eq_true, if_false] <;> rfl) (once_l0 l key a ht hl hk ha hin l.length 0 (Nat.zero_le _) (Nat.sub_zero _))
theorem topoOnce_pure (l : List Shd) (key : ByteArray) (hl : l.length ≤ 140737488351232) (hk : key.size ≤ 140737488351232) : ∃ k, folkmootlaw04_TopoOnce.f k l key = some true := by
  obtain ⟨b, hb, hsm⟩ := tsmall_ev l [] (by omega) (by simp)
  refine Ev.rounds (g := fun k => folkmootlaw04_TopoOnce.f k l key) (Ev.bind hb ?_)
  have jt := once_j0 l key true (fun h => by cases h)
  cases b with
  | false =>
    simp only [Bool.false_eq_true, if_false]
    exact jt
  | true =>
    simp only [if_true]
    by_cases c1 : (key.size : Int) > 4000
    · simp only [if_pos c1]
      exact jt
    · simp only [if_neg c1, tcheck_f, tnum_f, Option.bind_some]
      refine once_j0 l key _ (fun h => ⟨(hsm rfl).1, by omega, ?_⟩)
      cases e : topoB l with
      | true => rfl
      | false => rw [e] at h; simp at h
end Go.Proofs.Ytaedgbkeiankcaa.P
