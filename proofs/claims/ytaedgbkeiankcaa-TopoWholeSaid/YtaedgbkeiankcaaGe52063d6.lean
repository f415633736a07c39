/- Texts of the proofs of TopoChecks, TopoOnce, TopoTells, TopoWhole, merged (Pxfmlaw04TopoChecks, PToC). -/
import Derived.Test.YtaedgbkeiankcaaGe915ef09
import Derived.Test.YtaedgbkeiankcaaG704dbd53
import Derived.Test.YtaedgbkeiankcaaG5918b891
import Derived.Test.YtaedgbkeiankcaaG460e519e
import Derived.Test.YtaedgbkeiankcaaG22679f8d
-- printed by a program of this session (wip/hp.py over the kit's print)
namespace Go.Proofs.Ytaedgbkeiankcaa.P
open Go.RowKit Go.Proofs.YtaedgbkeiankcaaW.PrintWords Go.Proofs.YtaedgbkeiankcaaW.PrintLast Go.Proofs.YtaedgbkeiankcaaW.PrintMore
attribute [local go_sem] str_leq str_gtr str_geq max2_str max2_int min2_int max_two min_two max_three min_three max_four min_four   -- for this text's walks alone
set_option linter.unusedVariables false
set_option linter.unusedSimpArgs false

/-! ### folkmootlaw04_TopoChecks: function 3 -/
def folkmootlaw04_TopoChecks.f (k : Nat) (l0 : List (S37)) : Option (Bool) := (folkmootlaw04_small.f k l0 ([] : List (S35))).bind fun t188 => (if t188 = true then ((topo_Check.f l0).bind fun t190 => ((folkmootlaw04_num.f t190).bind fun t191 => ((folkmootref04_Check.f k l0).bind fun t192 => (if t191 = t192 then ((folkmootlaw04_live.f k).bind fun t193 => (some t193)) else (some false))))) else ((folkmootlaw04_live.f k).bind fun t189 => (some t189)))
theorem folkmootlaw04_TopoChecks.mono : ∀ a0 k, LeO (folkmootlaw04_TopoChecks.f k a0) (folkmootlaw04_TopoChecks.f (k + 1) a0) := by
  intro a0 k
  unfold folkmootlaw04_TopoChecks.f
  repeat' first
      | (with_reducible exact folkmootlaw04_live.mono _)
      | (with_reducible exact folkmootlaw04_small.mono _ _ _)
      | (with_reducible exact folkmootref04_Check.mono _ _)
      | (with_reducible exact LeO.refl _)
      | (with_reducible exact LeO.none _)
      | (with_reducible refine LeO.ite ?_ ?_)
      | (with_reducible refine LeO.bind ?_ (fun _ => ?_))
      | exact folkmootlaw04_live.mono _
      | exact folkmootlaw04_small.mono _ _ _
      | exact folkmootref04_Check.mono _ _
      | exact LeO.none _
      | refine LeO.ite ?_ ?_
      | refine LeO.bind ?_ (fun _ => ?_)
set_option maxHeartbeats 8000000 in
set_option maxRecDepth 100000 in
theorem folkmootlaw04_TopoChecks.calls (k : Nat) (A0 : Option Addr) (c0 : Nat) (l0 : List (S37)) (r : Bool) (w : World) (hr0 : Kd.C k37 w A0 l0.length l0) (hc0 : l0.length ≤ c0) (h : folkmootlaw04_TopoChecks.f k l0 = some r) (hrt_ : r = true := by rfl) :
    Calls Try.prog 3 #[.slice A0 l0.length c0] w fun e w' => e = .returned (.bool r) ∧ Below w.heap.size w w' := by
  subst hrt_
  have HR0 := Aside0.mk hr0
  have HC0 := Aside0.mk hc0
  clear hr0 hc0
  have HB := Aside0.mk (Below.refl w.heap.size w)
  have H : ((folkmootlaw04_small.f k l0 ([] : List (S35))).bind fun t188 => (if t188 = true then ((topo_Check.f l0).bind fun t190 => ((folkmootlaw04_num.f t190).bind fun t191 => ((folkmootref04_Check.f k l0).bind fun t192 => (if t191 = t192 then ((folkmootlaw04_live.f k).bind fun t193 => (some t193)) else (some false))))) else ((folkmootlaw04_live.f k).bind fun t189 => (some t189)))) = some true := h
  clear h
  replace H := Option.bind_eq_some_iff.mp H
  obtain ⟨t188, A20, H⟩ := H
  replace H : (if t188 = true then ((topo_Check.f l0).bind fun t190 => ((folkmootlaw04_num.f t190).bind fun t191 => ((folkmootref04_Check.f k l0).bind fun t192 => (if t191 = t192 then ((folkmootlaw04_live.f k).bind fun t193 => (some t193)) else (some false))))) else ((folkmootlaw04_live.f k).bind fun t189 => (some t189))) = some true := H
  have A2 := Aside0.mk A20
  clear A20
  by_cases c3 : t188 = true
  · subst c3
    have H1 : ((topo_Check.f l0).bind fun t190 => ((folkmootlaw04_num.f t190).bind fun t191 => ((folkmootref04_Check.f k l0).bind fun t192 => (if t191 = t192 then ((folkmootlaw04_live.f k).bind fun t193 => (some t193)) else (some false))))) = some true := by rw [if_pos rfl] at H; exact H
    clear H
    have H := H1
    clear H1
    replace H := Option.bind_eq_some_iff.mp H
    obtain ⟨t190, A40, H⟩ := H
    replace H : ((folkmootlaw04_num.f t190).bind fun t191 => ((folkmootref04_Check.f k l0).bind fun t192 => (if t191 = t192 then ((folkmootlaw04_live.f k).bind fun t193 => (some t193)) else (some false)))) = some true := H
    have A4 := Aside0.mk A40
    clear A40
    replace H := Option.bind_eq_some_iff.mp H
    obtain ⟨t191, A50, H⟩ := H
    replace H : ((folkmootref04_Check.f k l0).bind fun t192 => (if t191 = t192 then ((folkmootlaw04_live.f k).bind fun t193 => (some t193)) else (some false))) = some true := H
    have A5 := Aside0.mk A50
    clear A50
    replace H := Option.bind_eq_some_iff.mp H
    obtain ⟨t192, A60, H⟩ := H
    replace H : (if t191 = t192 then ((folkmootlaw04_live.f k).bind fun t193 => (some t193)) else (some false)) = some true := H
    have A6 := Aside0.mk A60
    clear A60
    by_cases c7 : t191 = t192
    · rw [if_pos c7] at H
      have c7b0 : (t191 == t192) = true := beq_iff_eq.mpr c7
      (try (have c7e : (t191 = t192) := by simpa using c7))
      have c7b1 : (t191 != t192) = false := bne_eq_false_iff_eq.mpr c7
      clear c7
      replace H := Option.bind_eq_some_iff.mp H
      obtain ⟨t193, A80, H⟩ := H
      replace H : (some t193) = some true := H
      have A8 := Aside0.mk A80
      clear A80
      have hrt_ := Aside0.mk (Option.some.inj H)
      clear H
      go_enter Try.func3, Try.ntmps3
      go_wp2_with (first | ((with_reducible refine gate_callee (f := 9) rfl ?_); refine goesL_ (some 4) rfl rfl Try.func9 (by kernel_rfl) rfl #[.slice A0 l0.length c0, .slice none 0 0] rfl (by (try simp only [List.map_toArray, List.map_cons, List.map_nil]); first | done | rfl | (simp only [List.length_drop, List.length_take]; rfl)) ?_; (refine (folkmootlaw04_small.calls k _ _ l0 _ _ ([] : List (S35)) true _ ?side1 ?side2 ?side3 ?side4 A2.out).mono ?_); (case side1 => repeat (first | exact HR0.out | (with_reducible refine Kd.C_alloc ?_ _) | (with_reducible refine Kd.C_drewN ?_ _) | (with_reducible refine Kd.C_drew ?_))); (case side2 => exact HC0.out); (case side3 => exact Kd.C_nil _ _); (case side4 => exact Nat.le_refl _); rintro e w' ⟨rfl, ⟨nd, rfl⟩⟩; refine ⟨_, rfl, ?_⟩) | ((with_reducible refine gate_callee (f := 12) rfl ?_); refine goesL_ (some 8) rfl rfl Try.func12 (by kernel_rfl) rfl #[.slice A0 l0.length c0] rfl (by (try simp only [List.map_toArray, List.map_cons, List.map_nil]); first | done | rfl | (simp only [List.length_drop, List.length_take]; rfl)) ?_; (with_reducible refine (topo_Check.calls _ _ l0 t190 _ ?side1 ?side2 A4.out).mono ?_); (case side1 => repeat (first | exact HR0.out | (with_reducible refine Kd.C_alloc ?_ _) | (with_reducible refine Kd.C_drewN ?_ _) | (with_reducible refine Kd.C_drew ?_))); (case side2 => exact HC0.out); rintro e w9 ⟨rfl, hb⟩; refine ⟨_, rfl, ?_⟩; replace HB := sB HB hb; (try clear hb); (try clear hb2); (try clear hk); (try clear hi)) | ((with_reducible refine gate_callee (f := 11) rfl ?_); refine goesL_ (some 9) rfl rfl Try.func11 (by kernel_rfl) rfl #[.int .i64 t190] rfl (by (try simp only [List.map_toArray, List.map_cons, List.map_nil]); first | done | rfl | (simp only [List.length_drop, List.length_take]; rfl)) ?_; (with_reducible refine (folkmootlaw04_num.calls t190 t191 _ A5.out).mono ?_); rintro e w' ⟨rfl, ⟨nd, rfl⟩⟩; refine ⟨_, rfl, ?_⟩) | ((with_reducible refine gate_callee (f := 13) rfl ?_); refine goesL_ (some 11) rfl rfl Try.func13 (by kernel_rfl) rfl #[.slice A0 l0.length c0] rfl (by (try simp only [List.map_toArray, List.map_cons, List.map_nil]); first | done | rfl | (simp only [List.length_drop, List.length_take]; rfl)) ?_; (with_reducible refine (folkmootref04_Check.calls k _ _ l0 t192 _ ?side1 ?side2 A6.out).mono ?_); (case side1 => exact (Kd.C_below HR0.out (uB HB))); (case side2 => exact HC0.out); rintro e w10 ⟨rfl, hb⟩; refine ⟨_, rfl, ?_⟩; replace HB := sB HB hb; (try clear hb); (try clear hb2); (try clear hk); (try clear hi)) | (go_at_call 10; (with_reducible refine (folkmootlaw04_live.calls k  t193 _ A8.out).mono ?_); rintro e w11 ⟨rfl, hb⟩; replace HB := sB HB hb; (try clear hb); (try clear hb2); (try clear hk); (try clear hi)))
      go_ret
      exact ⟨by first | rfl | (exact congrArg (fun b_ => Ending.returned (Value.bool b_)) hrt_.out) | (simp [errW_none, errW_some] <;> rfl) | (simp [*, errW_none, errW_some] <;> rfl), by repeat (first | (with_reducible first | exact HB.out | apply below_alloc | apply pw_below_drewN | apply below_drew1) | exact HB.out)⟩
    · rw [if_neg c7] at H
      have c7b0 : (t191 == t192) = false := beq_eq_false_iff_ne.mpr c7
      (try (have c7e : ¬ (t191 = t192) := by simpa using c7))
      have c7b1 : (t191 != t192) = true := bne_iff_ne.mpr c7
      exact absurd H (by simp)
  · replace c3 := Bool.eq_false_iff.mpr c3
    subst c3
    have H1 : ((folkmootlaw04_live.f k).bind fun t189 => (some t189)) = some true := by rw [if_neg (show ¬ (false = true) by decide)] at H; exact H
    clear H
    have H := H1
    clear H1
    replace H := Option.bind_eq_some_iff.mp H
    obtain ⟨t189, A140, H⟩ := H
    replace H : (some t189) = some true := H
    have A14 := Aside0.mk A140
    clear A140
    have hrt_ := Aside0.mk (Option.some.inj H)
    clear H
    go_enter Try.func3, Try.ntmps3
    go_wp2_with (first | ((with_reducible refine gate_callee (f := 9) rfl ?_); refine goesL_ (some 4) rfl rfl Try.func9 (by kernel_rfl) rfl #[.slice A0 l0.length c0, .slice none 0 0] rfl (by (try simp only [List.map_toArray, List.map_cons, List.map_nil]); first | done | rfl | (simp only [List.length_drop, List.length_take]; rfl)) ?_; (refine (folkmootlaw04_small.calls k _ _ l0 _ _ ([] : List (S35)) false _ ?side1 ?side2 ?side3 ?side4 A2.out).mono ?_); (case side1 => repeat (first | exact HR0.out | (with_reducible refine Kd.C_alloc ?_ _) | (with_reducible refine Kd.C_drewN ?_ _) | (with_reducible refine Kd.C_drew ?_))); (case side2 => exact HC0.out); (case side3 => exact Kd.C_nil _ _); (case side4 => exact Nat.le_refl _); rintro e w' ⟨rfl, ⟨nd, rfl⟩⟩; refine ⟨_, rfl, ?_⟩) | ((with_reducible refine gate_callee (f := 10) rfl ?_); refine goesL_ (some 6) rfl rfl Try.func10 (by kernel_rfl) rfl #[] rfl (by (try simp only [List.map_toArray, List.map_cons, List.map_nil]); first | done | rfl | (simp only [List.length_drop, List.length_take]; rfl)) ?_; (with_reducible refine (folkmootlaw04_live.calls k  t189 _ A14.out).mono ?_); rintro e w15 ⟨rfl, hb⟩; refine ⟨_, rfl, ?_⟩; replace HB := sB HB hb; (try clear hb); (try clear hb2); (try clear hk); (try clear hi)))
    go_ret
    exact ⟨by first | rfl | (exact congrArg (fun b_ => Ending.returned (Value.bool b_)) hrt_.out) | (simp [errW_none, errW_some] <;> rfl) | (simp [*, errW_none, errW_some] <;> rfl), by repeat (first | (with_reducible first | exact HB.out | apply below_alloc | apply pw_below_drewN | apply below_drew1) | exact HB.out)⟩

end Go.Proofs.Ytaedgbkeiankcaa.P
/- Plain: the reference's Check; the printed law TopoChecks comes to true. -/
namespace Go.Proofs.Ytaedgbkeiankcaa.P
open Go.RowKit Go.Proofs.YtaedgbkeiankcaaW.PrintWords
set_option linter.unusedVariables false
set_option linter.unusedSimpArgs false

theorem incD_iff : ∀ l : List Int, incD l = true ↔ l.Pairwise (· < ·)
  | [] => by simp [incD]
  | [a] => by simp [incD]
  | a :: b :: l => by
    rw [incD, Bool.and_eq_true, decide_eq_true_iff, incD_iff (b :: l), List.pairwise_cons (a := a)]
    constructor
    · rintro ⟨h1, h2⟩
      refine ⟨fun x hx => ?_, h2⟩
      rcases List.mem_cons.1 hx with rfl | hx
      · exact h1
      · have := (List.pairwise_cons.1 h2).1 x hx; omega
    · rintro ⟨h1, h2⟩
      exact ⟨h1 b (List.mem_cons_self ..), h2⟩
def okN (ns : List Int) (j : Nat) : Bool := (decide (1 ≤ ns.getD j 0) && decide (ns.getD j 0 ≤ 7)) && (decide (j = 0) || decide (ns.getD (j - 1) 0 < ns.getD j 0))
def okR (p : Nat → Bool) : Nat → Nat → Bool
  | 0, _ => true
  | d + 1, i => p i && okR p d (i + 1)
theorem okR_iff (p : Nat → Bool) : ∀ d i, okR p d i = true ↔ ∀ m, i ≤ m → m < i + d → p m = true
  | 0, i => by
    constructor
    · intro _ m h1 h2; omega
    · intro _; rfl
  | d + 1, i => by
    rw [okR, Bool.and_eq_true, okR_iff p d (i + 1)]
    constructor
    · rintro ⟨h1, h2⟩ m h3 h4
      by_cases e : m = i
      · subst e; exact h1
      · exact h2 m (by omega) (by omega)
    · intro h
      exact ⟨h i (Nat.le_refl _) (by omega), fun m h1 h2 => h m (by omega) (by omega)⟩
theorem nodesB_ok (ns : List Int) : nodesB ns = (decide (ns.length ≠ 0 ∧ ns.length ≤ 5) && okR (okN ns) ns.length 0) := by
  rw [Bool.eq_iff_iff, Bool.and_eq_true, decide_eq_true_iff, okR_iff]
  unfold nodesB
  have gd : ∀ m (h : m < ns.length), ns.getD m 0 = ns[m] := fun m h => by simp [List.getD_eq_getElem?_getD, h]
  constructor
  · intro h
    split at h
    · cases h
    · rename_i hn
      have h0 : ns.length ≠ 0 := fun e => hn (.inl e)
      have h5 : ¬ 5 < ns.length := fun e => hn (.inr (.inl e))
      have h1 : ¬ ns.getD 0 0 < 1 := fun e => hn (.inr (.inr (.inl e)))
      have h7 : ¬ 7 < ns.getD (ns.length - 1) 0 := fun e => hn (.inr (.inr (.inr e)))
      have hp := (incD_iff ns).1 h
      refine ⟨⟨h0, by omega⟩, fun m _ hm => ?_⟩
      rw [gd 0 (by omega)] at h1
      rw [gd (ns.length - 1) (by omega)] at h7
      unfold okN
      rw [gd m (by omega)]
      have a1 : 1 ≤ ns[m] := by
        by_cases e : m = 0
        · subst e; omega
        · have := List.pairwise_iff_getElem.1 hp 0 m (by omega) (by omega) (by omega); omega
      have a2 : ns[m] ≤ 7 := by
        by_cases e : m = ns.length - 1
        · subst e; omega
        · have := List.pairwise_iff_getElem.1 hp m (ns.length - 1) (by omega) (by omega) (by omega); omega
      rw [decide_eq_true a1, decide_eq_true a2]
      by_cases e : m = 0
      · simp [e]
      · rw [gd (m - 1) (by omega), decide_eq_true (List.pairwise_iff_getElem.1 hp (m - 1) m (by omega) (by omega) (by omega))]
        simp
  · rintro ⟨⟨h0, h5⟩, h⟩
    have hk : ∀ m (hm : m < ns.length), (1 ≤ ns[m] ∧ ns[m] ≤ 7) ∧ (m = 0 ∨ ns.getD (m - 1) 0 < ns[m]) := fun m hm => by
      have := h m (Nat.zero_le _) (by omega)
      unfold okN at this
      rw [gd m hm, Bool.and_eq_true, Bool.and_eq_true, Bool.or_eq_true, decide_eq_true_iff, decide_eq_true_iff, decide_eq_true_iff, decide_eq_true_iff] at this
      exact this
    have k0 := hk 0 (by omega)
    have k1 := hk (ns.length - 1) (by omega)
    rw [gd 0 (by omega), gd (ns.length - 1) (by omega), if_neg (by omega), incD_iff]
    have hstep : ∀ d i (hi : i + d + 1 < ns.length), ns[i] < ns[i + d + 1] := by
      intro d
      induction d with
      | zero =>
        intro i hi
        have := (hk (i + 1) (by omega)).2
        rw [show i + 1 - 1 = i from by omega, gd i (by omega)] at this
        rcases this with h | h
        · omega
        · exact h
      | succ d ih =>
        intro i hi
        have h1 := ih i (by omega)
        have h2 := (hk (i + (d + 1) + 1) (by omega)).2
        rw [show i + (d + 1) + 1 - 1 = i + d + 1 from by omega, gd (i + d + 1) (by omega)] at h2
        rcases h2 with h | h
        · omega
        · omega
    refine List.pairwise_iff_getElem.2 fun i j hi hj hij => ?_
    have := hstep (j - i - 1) i (by omega)
    have e : i + (j - i - 1) + 1 = j := by omega
    simpa [e] using this
def okS (l : List Shd) (m : Nat) : Bool := (if m + 1 < l.length then !(badS (beg l m) (l.getD m z37)) else lastS (beg l m) (l.getD m z37)) && nodesB (l.getD m z37).f1
theorem topoB_ok (l : List Shd) : topoB l = (decide (l.length ≠ 0 ∧ l.length ≤ 8) && okR (okS l) l.length 0) := by
  unfold topoB
  by_cases hn : l.length ≠ 0 ∧ l.length ≤ 8
  · rw [decide_eq_true hn, Bool.true_and, Bool.true_and, Bool.eq_iff_iff, Bool.and_eq_true, Bool.and_eq_true, okR_iff, List.all_eq_true, List.all_eq_true]
    have gd : ∀ m (h : m < l.length), l.getD m z37 = l[m] := fun m h => by simp [List.getD_eq_getElem?_getD, h]
    constructor
    · rintro ⟨h1, h2, h3⟩ m _ hm
      unfold okS
      rw [Bool.and_eq_true]
      refine ⟨?_, by rw [gd m (by omega)]; exact h3 _ (List.getElem_mem _)⟩
      split
      · exact h1 m (List.mem_range.2 (by omega))
      · rw [show m = l.length - 1 from by omega]; exact h2
    · intro h
      refine ⟨fun m hm => ?_, ?_, fun x hx => ?_⟩
      · have hm := List.mem_range.1 hm
        have := h m (Nat.zero_le _) (by omega)
        unfold okS at this
        rw [if_pos (by omega), Bool.and_eq_true] at this
        exact this.1
      · have := h (l.length - 1) (Nat.zero_le _) (by omega)
        unfold okS at this
        rw [if_neg (by omega), Bool.and_eq_true] at this
        exact this.1
      · obtain ⟨m, hm, rfl⟩ := List.getElem_of_mem hx
        have := h m (Nat.zero_le _) (by omega)
        unfold okS at this
        rw [Bool.and_eq_true, gd m hm] at this
        exact this.2
  · rw [decide_eq_false hn, Bool.false_and, Bool.false_and]
theorem rchk_l1 (l : List Shd) (ns : List Int) (hns : ns.length ≤ 1000) (x3 : ByteArray) (i : Nat) (hi : i < 1000) (R : Int) (hR : Ev (fun k => folkmootref04_Check.l0 k l x3 ((i + 1 : Nat) : Int)) R) : ∀ (d j : Nat), j ≤ ns.length → ns.length - j = d →
    Ev (fun k => folkmootref04_Check.l1 k l x3 (i : Int) ns (j : Int)) (if okR (okN ns) d j = true then R else 40) := by
  intro d
  induction d with
  | zero =>
    intro j hj hd
    have h1 : ¬ (j : Int) < (ns.length : Int) := by omega
    have hw : wrap64 ((i : Int) + 1) = ((i + 1 : Nat) : Int) := by rw [wrap_in] <;> omega
    rw [okR, if_pos rfl]
    exact Ev.step (fun k => by simp only [folkmootref04_Check.l1, if_neg h1, hw] <;> rfl) hR
  | succ d ih =>
    intro j hj hd
    have h1 : (j : Int) < (ns.length : Int) := by omega
    have h0 : (0 : Int) ≤ (j : Int) := by omega
    have hw : wrap64 ((j : Int) + 1) = ((j + 1 : Nat) : Int) := by rw [wrap_in] <;> omega
    have hm : j ≠ 0 → wrap64 ((j : Int) - 1) = ((j - 1 : Nat) : Int) := fun _ => by rw [wrap_in] <;> omega
    have r1 : rd ns (j : Int) = ns.getD j 0 := rfl
    have r2 : rd ns ((j - 1 : Nat) : Int) = ns.getD (j - 1) 0 := rfl
    have h2 : (0 : Int) ≤ ((j - 1 : Nat) : Int) := by omega
    have h3 : ((j - 1 : Nat) : Int) < (ns.length : Int) := by omega
    have hn := ih (j + 1) (by omega) (by omega)
    rw [okR]
    unfold okN
    by_cases c1 : ns.getD j 0 < 1
    · rw [decide_eq_false (by omega : ¬ 1 ≤ ns.getD j 0), Bool.false_and, Bool.false_and, Bool.false_and, if_neg (by simp)]
      exact Ev.step (fun k => by simp only [folkmootref04_Check.l1, if_pos h1, if_pos h0, r1, if_pos c1] <;> rfl) (Ev.val _)
    · rw [decide_eq_true (by omega : 1 ≤ ns.getD j 0), Bool.true_and]
      by_cases c2 : ns.getD j 0 > 7
      · rw [decide_eq_false (by omega : ¬ ns.getD j 0 ≤ 7), Bool.false_and, Bool.false_and, if_neg (by simp)]
        exact Ev.step (fun k => by simp only [folkmootref04_Check.l1, if_pos h1, if_pos h0, r1, if_neg c1, if_pos c2] <;> rfl) (Ev.val _)
      · rw [decide_eq_true (by omega : ns.getD j 0 ≤ 7), Bool.true_and]
        by_cases c3 : j = 0
        · have c3' : ¬ (j : Int) > 0 := by omega
          rw [decide_eq_true c3, Bool.true_or, Bool.true_and]
          exact Ev.step (fun k => by simp only [folkmootref04_Check.l1, if_pos h1, if_pos h0, r1, if_neg c1, if_neg c2, if_neg c3', hw] <;> rfl) hn
        · have c3' : (j : Int) > 0 := by omega
          rw [decide_eq_false c3, Bool.false_or]
          by_cases c4 : ns.getD j 0 ≤ ns.getD (j - 1) 0
          · rw [decide_eq_false (by omega : ¬ ns.getD (j - 1) 0 < ns.getD j 0), Bool.false_and, if_neg (by simp)]
            exact Ev.step (fun k => by simp only [folkmootref04_Check.l1, if_pos h1, if_pos h0, r1, if_neg c1, if_neg c2, if_pos c3', hm c3, if_pos h2, if_pos h3, r2, if_pos c4] <;> rfl) (Ev.val _)
          · rw [decide_eq_true (by omega : ns.getD (j - 1) 0 < ns.getD j 0), Bool.true_and]
            exact Ev.step (fun k => by simp only [folkmootref04_Check.l1, if_pos h1, if_pos h0, r1, if_neg c1, if_neg c2, if_pos c3', hm c3, if_pos h2, if_pos h3, r2, if_neg c4, hw] <;> rfl) hn
theorem rchk_j2 (l : List Shd) (i : Nat) (hil : i < l.length) (hl : l.length ≤ 8) (fr : ByteArray) (R : Int) (hR : Ev (fun k => folkmootref04_Check.l0 k l l[i].f0.f1 ((i + 1 : Nat) : Int)) R) (c : Bool) :
    Ev (fun k => folkmootref04_Check.j2 k l (i : Int) c fr l[i].f0.f1) (if c = true then 40 else if nodesB l[i].f1 = true then R else 40) := by
  cases c with
  | true => exact Ev.step (fun k => by simp only [folkmootref04_Check.j2, if_true] <;> rfl) (Ev.val _)
  | false =>
    have h1 : (i : Int) < (l.length : Int) := by omega
    have h0 : (0 : Int) ≤ (i : Int) := by omega
    have hr : rd_T37 l (i : Int) = l[i] := by simp [rd_T37, List.getD_eq_getElem?_getD, hil]
    rw [if_neg (by simp), nodesB_ok]
    generalize l[i].f0.f1 = x3 at *
    generalize hns' : l[i].f1 = ns
    have hr1 : (rd_T37 l (i : Int)).f1 = ns := by rw [hr]; exact hns'
    have j3t : Ev (fun k => folkmootref04_Check.j3 k l x3 (i : Int) ns true) 40 := Ev.step (fun k => by simp only [folkmootref04_Check.j3, if_true] <;> rfl) (Ev.val _)
    by_cases c0 : (ns.length : Int) < 1
    · rw [decide_eq_false (by omega), Bool.false_and, if_neg (by simp)]
      exact Ev.step (fun k => by simp only [folkmootref04_Check.j2, Bool.false_eq_true, if_false, if_pos h0, if_pos h1, hr1, if_pos c0] <;> rfl) j3t
    · by_cases c5 : (ns.length : Int) > 5
      · rw [decide_eq_false (by omega), Bool.false_and, if_neg (by simp)]
        exact Ev.step (fun k => by simp only [folkmootref04_Check.j2, Bool.false_eq_true, if_false, if_pos h0, if_pos h1, hr1, if_neg c0, decide_eq_true c5] <;> rfl) j3t
      · rw [decide_eq_true (by omega : ns.length ≠ 0 ∧ ns.length ≤ 5), Bool.true_and]
        refine Ev.step (fun k => by simp only [folkmootref04_Check.j2, Bool.false_eq_true, if_false, if_pos h0, if_pos h1, hr1, if_neg c0, decide_eq_false c5] <;> rfl) ?_
        exact Ev.step (fun k => by simp only [folkmootref04_Check.j3, Bool.false_eq_true, if_false] <;> rfl) (rchk_l1 l ns (by omega) x3 i (by omega) R hR ns.length 0 (Nat.zero_le _) (Nat.sub_zero _))
theorem rchk_l0 (l : List Shd) (hl : l.length ≤ 8) : ∀ (d i : Nat) (fr : ByteArray), i ≤ l.length → l.length - i = d → (i < l.length → fr = beg l i) → Ev (fun k => folkmootref04_Check.l0 k l fr (i : Int)) (if okR (okS l) d i = true then 0 else 40) := by
  intro d
  induction d with
  | zero =>
    intro i fr hi hd hf
    have h1 : ¬ (i : Int) < (l.length : Int) := by omega
    rw [okR, if_pos rfl]
    exact Ev.step (fun k => by simp only [folkmootref04_Check.l0, if_neg h1] <;> rfl) (Ev.val _)
  | succ d ih =>
    intro i fr hi hd hf
    have h1 : (i : Int) < (l.length : Int) := by omega
    have h0 : (0 : Int) ≤ (i : Int) := by omega
    have hil : i < l.length := by omega
    have hfr := hf hil
    have hgd : l.getD i z37 = l[i] := by simp [List.getD_eq_getElem?_getD, hil]
    have hr : rd_T37 l (i : Int) = l[i] := by simp [rd_T37, List.getD_eq_getElem?_getD, hil]
    have hm : wrap64 ((l.length : Int) - 1) = ((l.length - 1 : Nat) : Int) := by rw [wrap_in] <;> omega
    have hn := ih (i + 1) l[i].f0.f1 (by omega) (by omega) (fun h => (beg_succ l i hil).symm)
    have hj := fun (fr2 : ByteArray) (c : Bool) => rchk_j2 l i hil hl fr2 _ hn c
    clear hn
    rw [okR]
    generalize okR (okS l) d (i + 1) = rest at hj ⊢
    unfold okS
    rw [hgd, ← hfr]
    generalize nodesB l[i].f1 = nb at hj ⊢
    by_cases cF : l[i].f0.f0.toList = fr.toList
    · by_cases cL : (i : Int) = ((l.length - 1 : Nat) : Int)
      · rw [if_neg (show ¬ i + 1 < l.length by omega)]
        by_cases cT : l[i].f0.f1.toList = ([] : List UInt8)
        · have e : lastS fr l[i] = true := by unfold lastS; rw [beq_iff_eq.2 cF, beq_iff_eq.2 cT]; rfl
          rw [e, Bool.true_and]
          refine Ev.eq (Ev.step (fun k => by simp only [folkmootref04_Check.l0, if_pos h1, if_pos h0, hr, if_pos cF, hm, if_pos cL, if_pos cT] <;> rfl) (hj l[i].f0.f0 false)) ?_
          cases nb <;> cases rest <;> rfl
        · have e : lastS fr l[i] = false := by unfold lastS; rw [beq_iff_eq.2 cF, beq_eq_false_iff_ne.2 cT]; rfl
          rw [e, Bool.false_and, Bool.false_and]
          exact Ev.eq (Ev.step (fun k => by simp only [folkmootref04_Check.l0, if_pos h1, if_pos h0, hr, if_pos cF, hm, if_pos cL, if_neg cT] <;> rfl) (hj l[i].f0.f0 true)) rfl
      · rw [if_pos (show i + 1 < l.length by omega)]
        by_cases cB : Op.bytesLess l[i].f0.f0.toList l[i].f0.f1.toList = true
        · have e : (!(badS fr l[i])) = !(decide ((l[i].f0.f1.size : Int) > 16)) := by
            unfold badS
            have hs : decide (16 < l[i].f0.f1.size) = decide ((l[i].f0.f1.size : Int) > 16) := by rw [decide_eq_decide]; omega
            rw [beq_iff_eq.2 cF, ← cF, cB, hs]
            rfl
          rw [e]
          refine Ev.eq (Ev.step (fun k => by simp only [folkmootref04_Check.l0, if_pos h1, if_pos h0, hr, if_pos cF, hm, if_neg cL, if_pos cB] <;> rfl) (hj l[i].f0.f0 (decide ((l[i].f0.f1.size : Int) > 16)))) ?_
          cases decide ((l[i].f0.f1.size : Int) > 16) <;> cases nb <;> cases rest <;> rfl
        · have e : badS fr l[i] = true := by
            unfold badS
            rw [beq_iff_eq.2 cF, ← cF, show Op.bytesLess l[i].f0.f0.toList l[i].f0.f1.toList = false by simpa using cB]
            rfl
          rw [e, Bool.not_true, Bool.false_and, Bool.false_and]
          exact Ev.eq (Ev.step (fun k => by simp only [folkmootref04_Check.l0, if_pos h1, if_pos h0, hr, if_pos cF, hm, if_neg cL, if_neg cB] <;> rfl) (hj l[i].f0.f0 true)) rfl
    · have e1 : badS fr l[i] = true := by unfold badS; rw [beq_eq_false_iff_ne.2 cF]; rfl
      have e2 : lastS fr l[i] = false := by unfold lastS; rw [beq_eq_false_iff_ne.2 cF]; rfl
      rw [e1, e2]
      have e3 : (if i + 1 < l.length then (!true) else false) = false := by split <;> rfl
      rw [e3, Bool.false_and, Bool.false_and]
      exact Ev.eq (Ev.step (fun k => by simp only [folkmootref04_Check.l0, if_pos h1, if_pos h0, hr, if_neg cF] <;> rfl) (hj l[i].f0.f0 true)) rfl
theorem rcheck_ev (l : List Shd) : Ev (fun k => folkmootref04_Check.f k l) (if topoB l = true then 0 else 40) := by
  rw [topoB_ok]
  have jt : Ev (fun k => folkmootref04_Check.j0 k l true) 40 := Ev.step (fun k => by simp only [folkmootref04_Check.j0, if_true] <;> rfl) (Ev.val _)
  unfold folkmootref04_Check.f
  by_cases c0 : (l.length : Int) < 1
  · simp only [if_pos c0]
    rw [decide_eq_false (by omega), Bool.false_and]
    exact jt
  · by_cases c8 : (l.length : Int) > 8
    · simp only [if_neg c0, decide_eq_true c8]
      rw [decide_eq_false (by omega : ¬ (l.length ≠ 0 ∧ l.length ≤ 8)), Bool.false_and]
      exact jt
    · simp only [if_neg c0, decide_eq_false c8]
      rw [decide_eq_true (by omega : l.length ≠ 0 ∧ l.length ≤ 8), Bool.true_and]
      exact Ev.step (fun k => by simp only [folkmootref04_Check.j0, Bool.false_eq_true, if_false] <;> rfl) (rchk_l0 l (by omega) l.length 0 _ (Nat.zero_le _) (Nat.sub_zero _) (fun _ => rfl))
theorem topoChecks_pure (l : List Shd) (hl : l.length ≤ 140737488351232) : ∃ k, folkmootlaw04_TopoChecks.f k l = some true := by
  obtain ⟨b, hb, hs⟩ := tsmall_ev l [] (by omega) (by simp)
  refine Ev.rounds (g := fun k => folkmootlaw04_TopoChecks.f k l) (Ev.bind hb ?_)
  cases b with
  | false =>
    simp only [Bool.false_eq_true, if_false]
    exact Ev.bind tlive_ev (Ev.val _)
  | true =>
    simp only [if_true, tcheck_f, tnum_f, Option.bind_some]
    refine Ev.bind (rcheck_ev l) ?_
    simp only [if_true]
    exact Ev.bind tlive_ev (Ev.val _)
end Go.Proofs.Ytaedgbkeiankcaa.P
