/- Texts of the proofs of TopoOnce, TopoTells, merged (ToP, ToC, ToN, PxtopoOwned, PxtopoKeeps). -/
import Derived.Test.YtaedgbkeiankcaaWWords
import Derived.Test.YtaedgbkeiankcaaWLast
import Derived.Test.YtaedgbkeiankcaaWTab
import Derived.Test.YtaedgbkeiankcaaWQPut
import Derived.Test.YtaedgbkeiankcaaWApart
import Derived.Test.YtaedgbkeiankcaaWArr
import Derived.Test.YtaedgbkeiankcaaWZeros
import Derived.Test.YtaedgbkeiankcaaWFoot
import Derived.Test.YtaedgbkeiankcaaWKept
import Derived.Test.YtaedgbkeiankcaaWShare
import Derived.Test.YtaedgbkeiankcaaWN
import Derived.Test.YtaedgbkeiankcaaWEqStruct
import Derived.Test.YtaedgbkeiankcaaWRepsOne
import Derived.Test.YtaedgbkeiankcaaWGuard
import Derived.Test.YtaedgbkeiankcaaWNEv
import Derived.Test.YtaedgbkeiankcaaWMore
import Derived.Test.YtaedgbkeiankcaaG64eb9ef8
import Derived.Test.YtaedgbkeiankcaaGca2bd920
import Derived.Test.YtaedgbkeiankcaaGff33e446
import Derived.Test.YtaedgbkeiankcaaG5fc94eef
import Derived.Test.YtaedgbkeiankcaaG4bcd870f
import Derived.Test.YtaedgbkeiankcaaG41c11834
import Derived.Test.YtaedgbkeiankcaaG132b0fe3
import Derived.Test.YtaedgbkeiankcaaG0dc59620
import Derived.Test.YtaedgbkeiankcaaGc773388e
import Derived.Test.YtaedgbkeiankcaaG8ef4219a
import Derived.Test.YtaedgbkeiankcaaGae6c6a1e
import Derived.Test.YtaedgbkeiankcaaG59233577
import Derived.Test.YtaedgbkeiankcaaG9f496484
import Derived.Test.YtaedgbkeiankcaaG432ab4c7
namespace Go.Proofs.Ytaedgbkeiankcaa.P
open Go.RowKit
open Go.Proofs.YtaedgbkeiankcaaW.PrintWords (Kd Aside0 Ev)
set_option linter.unusedVariables false
def intsV (l : List Int) : List Value := l.map (Value.int .i64)
theorem R_rawInt {w : World} {base : Nat} {v : Value} {l : List Int} (h : w.ownsRow base 3 1 v l.length (intsV l)) : Kd.R (Kd.int .i64) 3 w base (fun _ => True) v l :=
  Kd.R_of_own h (fun _ _ => trivial)
/-- the places, below k, of which p holds -/
def placesN {α : Type} (p : α → Bool) (z : α) (l : List α) (k : Nat) : List Int := ((List.range k).filter fun j => p (l.getD j z)).map Int.ofNat
theorem placesN_succ {α : Type} (p : α → Bool) (z : α) (l : List α) (k : Nat) : placesN p z l (k + 1) = placesN p z l k ++ (if p (l.getD k z) = true then [(k : Int)] else []) := by
  unfold placesN
  rw [List.range_succ, List.filter_append, List.map_append]
  congr 1
  cases h : p (l.getD k z) <;> simp [List.getD_eq_getElem?_getD] at h ⊢ <;> simp [h]
theorem placesN_len {α : Type} (p : α → Bool) (z : α) (l : List α) (k : Nat) : (placesN p z l k).length ≤ k := by
  unfold placesN
  rw [List.length_map]
  refine Nat.le_trans (List.length_filter_le _ _) ?_
  simp
def placesL (p : Shd → Bool) (l : List Shd) : List Int := placesN p z37 l l.length
theorem int_info : (Try.prog.info? 3).map (fun i => (i.zero, i.size, i.bytes)) = some (some (.int .i64 0), 1, 8) := by kernel_rfl
set_option maxHeartbeats 8000000 in
set_option maxRecDepth 100000 in
theorem places_walk (g : Nat) (lb : Array Value) (p : Shd → Bool) (eg : ∀ args w, (callFunc g args).run Try.prog w = .ok (.enter g args) w) (A : Option Addr) (c : Nat) (l : List Shd) (w : World)
    (hr : Kd.C k37 w A l.length l) (hp : FnK_sh g lb p l w) (hl : l.length < 4398046511104) :
    Calls Try.prog 36 #[.slice A l.length c, .func (.func g) #[] lb] w fun e w' => ∃ v, e = .returned v ∧ w'.ownsRow w.heap.size 3 1 v (placesL p l).length (intsV (placesL p l)) ∧ Ext w w' := by
  unfold placesL
  have HR := Lib.hid hr
  have HP := Lib.hid hp
  obtain ⟨i0, hi0, hz0, hz1, hz2⟩ := info_parts int_info
  have HI0 := Lib.hid hi0
  have HZ0 := Lib.hid hz0
  have HZ1 := Lib.hid hz1
  have HZ2 := Lib.hid hz2
  clear hr hp hi0 hz0 hz1 hz2
  go_enter Try.func36, Try.ntmps36
  go_wp2
  go_loopg [4, 9] l.length (fun gg s4 s9 wr => ∃ k : Nat, k ≤ l.length ∧ l.length - k ≤ gg ∧ s9 = .int .i64 k ∧ Hid (wr.ownsRow w.heap.size 3 1 s4 (placesN p z37 l k).length (intsV (placesN p z37 l k))) ∧ Hid (Ext w wr))
  case atStart => exact ⟨0, Nat.zero_le _, by omega, rfl, Lib.hid (World.ownsRow_nil _ _ _ _), Lib.hid (Ext.refl _)⟩
  case round =>
    obtain ⟨k, hk, hg, rfl, HO, HX⟩ := hrel
    by_cases hn : k < l.length
    · have hnz : (k : Int) < (l.length : Int) := by omega
      obtain ⟨ad, rfl, hrow⟩ := (Kd.C_below HR.out HX.out.below).2.2 (by omega)
      obtain ⟨y, hlen, hK, hcl0⟩ := hrow k l[k] (List.getElem?_eq_getElem hn)
      obtain ⟨A2, c2, rfl, _, _⟩ := k37_open hK
      have hcl : ∀ i u, ([Value.string l[k].f0.f0, .string l[k].f0.f1, .slice A2 l[k].f1.length c2])[i]? = some u → wr.cell? (ad.add (k * 3 + i)) = some u := hcl0
      have f0 := hcl 0 _ rfl
      have f1 := hcl 1 _ rfl
      have f2 := hcl 2 _ rfl
      rw [Nat.add_zero] at f0
      rw [add_plus _ _ 1 (by omega)] at f1
      rw [add_plus _ _ 2 (by omega)] at f2
      have HS := Lib.hid (placesN_succ p z37 l k)
      have hle := placesN_len p z37 l k
      have hgd : l.getD k z37 = l[k] := by simp [List.getD_eq_getElem?_getD, hn]
      have HCALL := Lib.hid (fun W (hW : Ext wr W) => HP.out W l[k] _ (HX.out.trans hW) (List.getElem_mem hn) (k37.K_below hW.below hK))
      have HG := Lib.hid hgd
      generalize placesN p z37 l k = out at HO HS hle
      generalize l[k] = x at f0 f1 f2 HCALL HG
      clear hcl hcl0 hlen hrow hK hgd
      cases hq : p x with
      | true =>
        rw [hq] at HCALL
        have hss : placesN p z37 l (k + 1) = out ++ [(k : Int)] := by rw [HS.out, HG.out, hq, if_pos rfl]
        have HSS := Lib.hid hss
        clear hq hss HS
        go_wp2_with fail
        refine (HCALL.out _ ((Ext.refl _).alloc _)).mono ?_
        rintro e w1 ⟨rfl, hx1⟩
        have hX1 : Ext wr w1 := Ext.trans ((Ext.refl wr).alloc _) hx1
        have HX1 := Lib.hid hX1
        have HO1 := Lib.hid (own_ext HO.out hX1)
        have hwb : w.heap.size ≤ w1.heap.size := Nat.le_trans HX.out.size hX1.size
        have HWB := Lib.hid hwb
        clear hx1 hX1 hwb HCALL f0 f1 f2
        go_wp2_with (at_builtin; go_loud (refine wpList_append_any _ rfl (.tmp 17) (.tmp 19) _ rfl w.heap.size 3 i0 _ 1 8 Try.underlying32 HI0.out HZ0.out HZ1.out HZ2.out (by simp [Value.cells]) (by omega) _ _ _ rfl (own_ext HO1.out ((Ext.refl _).alloc _)) _ _ 1 _ [.int .i64 (k : Int)] rfl (new_reads [.int .i64 (k : Int)] rfl rfl) (by simp [Value.oneCell']) (by simp only [maxLen]; omega) (by omega) (by simp; exact Nat.le_succ_of_le HWB.out) ?_); intro v2 w2 hown2 hg2 hat2)
        have HO2 := Lib.hid hown2
        have HX2 := Lib.hid (Chs.to_ext (S := fun i => i ≥ w.heap.size) (Chs.grown (.of_ext ((HX.out.trans HX1.out).alloc _)) hg2 (fun i hi => .inr (HO1.out.lt i hi).1)) (fun i hi e => by omega))
        clear hown2 hg2 hat2
        go_wp2
        go_roundg (l.length - (k + 1))
        case measure => omega
        case rel =>
          refine ⟨k + 1, by omega, by omega, by go_num, ?_, HX2⟩
          rw [HSS.out, List.length_append, intsV, List.map_append]
          exact HO2
      | false =>
        rw [hq] at HCALL
        have hss : placesN p z37 l (k + 1) = out := by rw [HS.out, HG.out, hq, if_neg (by simp), List.append_nil]
        have HSS := Lib.hid hss
        clear hq hss HS
        go_wp2_with fail
        refine (HCALL.out _ ((Ext.refl _).alloc _)).mono ?_
        rintro e w1 ⟨rfl, hx1⟩
        have hX1 : Ext wr w1 := Ext.trans ((Ext.refl wr).alloc _) hx1
        have HX1 := Lib.hid hX1
        have HO1 := Lib.hid (own_ext HO.out hX1)
        clear hx1 hX1 HCALL f0 f1 f2
        go_wp2
        go_roundg (l.length - (k + 1))
        case measure => omega
        case rel =>
          refine ⟨k + 1, by omega, by omega, by go_num, ?_, Lib.hid (HX.out.trans HX1.out)⟩
          rw [HSS.out]
          exact HO1
    · obtain rfl : k = l.length := by omega
      have hnz : ¬ (l.length : Int) < (l.length : Int) := by omega
      go_wp2
      go_ret
      exact ⟨_, rfl, HO.out, HX.out⟩
theorem rdI_at (l : List Int) (i : Nat) (hi : i < l.length) : Go.Proofs.YtaedgbkeiankcaaW.PrintWords.rd l (i : Int) = l[i] := by
  simp [Go.Proofs.YtaedgbkeiankcaaW.PrintWords.rd, List.getD_eq_getElem?_getD, hi]
section
open Go.Proofs.YtaedgbkeiankcaaW.PrintWords
theorem indexI_l0 (l : List Int) (v : Int) (hl : l.length ≤ 9223372036854775807) : ∀ (d i : Nat), i ≤ l.length → l.length - i = d → ∃ r, Ev (fun k => slices_Index_int_int.l0 k l v (l.length : Int) (i : Int)) r ∧ (decide (r ≥ 0)) = (l.drop i).contains v := by
  intro d
  induction d with
  | zero =>
    intro i hi hd
    have h1 : ¬ (i : Int) < (l.length : Int) := by omega
    rw [List.drop_of_length_le (by omega)]
    exact ⟨-1, Ev.step (fun k => by simp only [slices_Index_int_int.l0, if_neg h1] <;> rfl) (Ev.val _), rfl⟩
  | succ d ih =>
    intro i hi hd
    have h1 : (i : Int) < (l.length : Int) := by omega
    have h0 : (0 : Int) ≤ (i : Int) := by omega
    have hil : i < l.length := by omega
    have hw : wrap64 ((i : Int) + 1) = ((i + 1 : Nat) : Int) := by rw [wrap_in] <;> omega
    have hr := rdI_at l i hil
    rw [List.drop_eq_getElem_cons hil, List.contains_cons]
    obtain ⟨r, hn, hc⟩ := ih (i + 1) (by omega) (by omega)
    generalize l[i] = x at hr
    by_cases hq : v = x
    · refine ⟨(i : Int), Ev.step (fun k => by simp only [slices_Index_int_int.l0, if_pos h1, if_pos h0, hr, if_pos hq] <;> rfl) (Ev.val _), ?_⟩
      rw [decide_eq_true (by omega), beq_iff_eq.2 hq, Bool.true_or]
    · refine ⟨r, Ev.step (fun k => by simp only [slices_Index_int_int.l0, if_pos h1, if_pos h0, hr, if_neg hq, hw] <;> rfl) hn, ?_⟩
      rw [hc, beq_eq_false_iff_ne.2 hq, Bool.false_or]
theorem containsI_ev (l : List Int) (v : Int) (hl : l.length ≤ 9223372036854775807) : Ev (fun k => slices_Contains_int_int.f k l v) (l.contains v) := by
  obtain ⟨r, h1, h2⟩ := indexI_l0 l v hl l.length 0 (Nat.zero_le _) (Nat.sub_zero _)
  rw [List.drop_zero] at h2
  exact Ev.bind (f := fun _ t => some (decide (t ≥ 0))) h1 (Ev.eq (Ev.val _) h2)
end
set_option maxRecDepth 100000 in
theorem of_cl (node : Int) (b : Nat) (W : World) (x : Shd) (c : List Value) (hK : k37.K W x c) (hb : W.cell? ⟨b, 0, none⟩ = some (.int .i64 node)) :
    Calls Try.prog 37 #[.agg c.toArray, .pointer (some ⟨b, 0, none⟩)] W fun e w' => e = .returned (.bool (x.f1.contains node)) ∧ Ext W w' := by
  obtain ⟨A2, c2, rfl, hc2, hR⟩ := k37_open hK
  obtain ⟨⟨xf, xt⟩, ns⟩ := x
  dsimp only at hc2 hR ⊢
  obtain ⟨k, hk⟩ := Go.Proofs.YtaedgbkeiankcaaW.PrintWords.Ev.rounds (containsI_ev ns node hR.2.1)
  have hcon := Lib.hid (fun w (hw : Ext W w) => slices_Contains_int_int.calls k A2 c2 ns node (ns.contains node) w (Kd.C_below hR hw.below) hc2 hk)
  clear hK hk hR
  generalize ns.contains node = r at hcon ⊢
  have hbl := World.block_lt_of_cell? W _ hb
  go_enter Try.func37, Try.ntmps37
  go_wp2_with (go_at_call 38; refine (hcon.out _ ((Ext.refl _).alloc _)).mono ?_; rintro e w' ⟨rfl, ⟨n, rfl⟩⟩)
  go_ret
  exact ⟨rfl, ((Ext.refl _).alloc _).drewN _⟩
/-- does a shard meet a set? -/
def meetP (set : List S35) (x : Shd) : Bool := (span_Meet.f [x.f0] set).getD false
theorem meetP_f (set : List S35) (x : Shd) (h : set.length + 1 < 4398046511104) : span_Meet.f [x.f0] set = some (meetP set x) := by
  unfold meetP
  have : ∃ b, span_Meet.f [x.f0] set = some b := by
    unfold span_Meet.f span_Cut.f
    rw [if_pos (by simp; omega)]
    exact ⟨_, rfl⟩
  obtain ⟨b, hb⟩ := this
  rw [hb]; rfl
set_option maxRecDepth 100000 in
theorem touch_cl (set : List S35) (A1 : Option Addr) (c1 : Nat) (b : Nat) (W : World) (x : Shd) (c : List Value) (hK : k37.K W x c) (hb : W.cell? ⟨b, 0, none⟩ = some (.slice A1 set.length c1)) (hS : Kd.C k35 W A1 set.length set) (hc1 : set.length ≤ c1) (hl : set.length + 1 < 4398046511104) :
    Calls Try.prog 43 #[.agg c.toArray, .pointer (some ⟨b, 0, none⟩)] W fun e w' => e = .returned (.bool (meetP set x)) ∧ Ext W w' := by
  obtain ⟨A2, c2, rfl, _, _⟩ := k37_open hK
  have hm := meetP_f set x hl
  obtain ⟨⟨xf, xt⟩, ns⟩ := x
  have hcon := Lib.hid (fun (A : Option Addr) (c : Nat) (w : World) (hw : Ext W w) (hr : Kd.C k35 w A 1 [(⟨xf, xt⟩ : S35)]) (hc : 1 ≤ c) => span_Meet.calls A c [(⟨xf, xt⟩ : S35)] A1 c1 set (meetP set ⟨⟨xf, xt⟩, ns⟩) w hr hc (Kd.C_below hS hw.below) hc1 hm)
  clear hK hm hS
  dsimp only
  generalize meetP set ⟨⟨xf, xt⟩, ns⟩ = r at hcon ⊢
  generalize set.length = sl at hb hcon hc1 hl
  have hbl := World.block_lt_of_cell? W _ hb
  go_enter Try.func43, Try.ntmps43
  go_wp2_with (go_at_call 44; refine (hcon.out _ _ _ (((Ext.refl _).alloc _).alloc _) (one_span ⟨xf, xt⟩ (by simp) (by simp)) (Nat.le_refl _)).mono ?_; rintro e w' ⟨rfl, hx⟩)
  go_ret
  exact ⟨rfl, Ext.trans (((Ext.refl _).alloc _).alloc _) hx⟩
def topo_Of.f (l0 : List Shd) (a1 : Int) : Option (List Int) := if l0.length < 4398046511104 then some (placesL (fun x => x.f1.contains a1) l0) else none
theorem topo_Of.calls (A0 : Option Addr) (c0 : Nat) (l0 : List Shd) (a1 : Int) (r : List Int) (w : World) (hr0 : Kd.C k37 w A0 l0.length l0) (hc0 : l0.length ≤ c0) (h : topo_Of.f l0 a1 = some r) :
    Calls Try.prog 15 #[.slice A0 l0.length c0, .int .i64 a1] w fun e w' => ∃ v0_ : Value, e = .returned (v0_) ∧ Kd.R (Kd.int .i64) 3 w' w.heap.size (fun _ => True) v0_ r ∧ Below w.heap.size w w' := by
  unfold topo_Of.f at h
  by_cases hl : l0.length < 4398046511104
  · rw [if_pos hl] at h
    obtain rfl := Option.some.inj h
    have eg : ∀ args w, (callFunc 37 args).run Try.prog w = .ok (.enter 37 args) w := enters_fn Try.func37 (by kernel_rfl) rfl
    have hcell : (w.alloc (.cells #[.int .i64 a1] 3)).cell? ⟨w.heap.size, 0, none⟩ = some (.int .i64 a1) := by simp
    have hcon := Lib.hid (places_walk 37 #[.pointer (some ⟨w.heap.size, 0, none⟩)] (fun x : Shd => x.f1.contains a1) eg A0 c0 l0 (w.alloc (.cells #[.int .i64 a1] 3)) (Kd.C_alloc hr0 _)
      (fun W x c hx _ hK => of_cl a1 w.heap.size W x c hK (Ext.cell hx (World.block_lt_of_cell? _ _ hcell) hcell)) hl)
    generalize placesL (fun x : Shd => x.f1.contains a1) l0 = q at hcon ⊢
    clear hr0 hc0 eg h hcell
    go_enter Try.func15, Try.ntmps15
    go_wp2_with (go_at_call 36; refine hcon.out.mono ?_; rintro e w' ⟨v2, rfl, hown, hx⟩)
    have HO := Lib.hid hown
    have HX := Lib.hid hx
    clear hown hx
    go_wp2
    go_ret
    exact ⟨_, rfl, Kd.R_lower (R_rawInt HO.out) (by simp), (Ext.trans ((Ext.refl w).alloc _) HX.out).below⟩
  · rw [if_neg hl] at h
    cases h
def topo_Touch.f (l0 : List Shd) (l1 : List S35) : Option (List Int) := if l0.length < 4398046511104 ∧ l1.length + 1 < 4398046511104 then some (placesL (meetP l1) l0) else none
theorem topo_Touch.calls (A0 : Option Addr) (c0 : Nat) (l0 : List Shd) (A1 : Option Addr) (c1 : Nat) (l1 : List S35) (r : List Int) (w : World) (hr0 : Kd.C k37 w A0 l0.length l0) (hc0 : l0.length ≤ c0) (hr1 : Kd.C k35 w A1 l1.length l1) (hc1 : l1.length ≤ c1) (h : topo_Touch.f l0 l1 = some r) :
    Calls Try.prog 25 #[.slice A0 l0.length c0, .slice A1 l1.length c1] w fun e w' => ∃ v0_ : Value, e = .returned (v0_) ∧ Kd.R (Kd.int .i64) 3 w' w.heap.size (fun _ => True) v0_ r ∧ Below w.heap.size w w' := by
  unfold topo_Touch.f at h
  by_cases hl : l0.length < 4398046511104 ∧ l1.length + 1 < 4398046511104
  · rw [if_pos hl] at h
    obtain rfl := Option.some.inj h
    have eg : ∀ args w, (callFunc 43 args).run Try.prog w = .ok (.enter 43 args) w := enters_fn Try.func43 (by kernel_rfl) rfl
    have hcell : (w.alloc (.cells #[.slice A1 l1.length c1] 30)).cell? ⟨w.heap.size, 0, none⟩ = some (.slice A1 l1.length c1) := by simp
    have hcon := Lib.hid (places_walk 43 #[.pointer (some ⟨w.heap.size, 0, none⟩)] (meetP l1) eg A0 c0 l0 (w.alloc (.cells #[.slice A1 l1.length c1] 30)) (Kd.C_alloc hr0 _)
      (fun W x c hx _ hK => touch_cl l1 A1 c1 w.heap.size W x c hK (Ext.cell hx (World.block_lt_of_cell? _ _ hcell) hcell) (Kd.C_below (Kd.C_alloc hr1 _) hx.below) hc1 hl.2) hl.1)
    generalize placesL (meetP l1) l0 = q at hcon ⊢
    generalize l1.length = sl at hcon
    clear hr0 hc0 hr1 hc1 eg h hcell hl
    go_enter Try.func25, Try.ntmps25
    go_wp2_with (go_at_call 36; refine hcon.out.mono ?_; rintro e w' ⟨v2, rfl, hown, hx⟩)
    have HO := Lib.hid hown
    have HX := Lib.hid hx
    clear hown hx
    go_wp2
    go_ret
    exact ⟨_, rfl, Kd.R_lower (R_rawInt HO.out) (by simp), (Ext.trans ((Ext.refl w).alloc _) HX.out).below⟩
  · rw [if_neg hl] at h
    cases h
end Go.Proofs.Ytaedgbkeiankcaa.P
namespace Go.Proofs.Ytaedgbkeiankcaa.P
open Go.RowKit
open Go.Proofs.YtaedgbkeiankcaaW.PrintWords (Kd Aside0 Ev)
set_option linter.unusedVariables false
set_option linter.unusedSimpArgs false
attribute [local go_sem high] eqA35
attribute [local go_sem] str_leq str_geq
/-- each greater than the one ahead of it -/
def incD : List Int → Bool
  | a :: b :: l => decide (a < b) && incD (b :: l)
  | _ => true
def nodesB (l : List Int) : Bool := if l.length = 0 ∨ 5 < l.length ∨ l.getD 0 0 < 1 ∨ 7 < l.getD (l.length - 1) 0 then false else incD l
section
open Go.Proofs.YtaedgbkeiankcaaW.PrintWords
theorem isNodes_l0 (l : List Int) (hl : l.length ≤ 1000) : ∀ (d i : Nat), 1 ≤ i → i ≤ l.length → l.length - i = d → Ev (fun k => topo_isNodes.l0 k l (i : Int)) (incD (l.drop (i - 1))) := by
  intro d
  induction d with
  | zero =>
    intro i hi0 hi hd
    have h1 : ¬ (i : Int) < (l.length : Int) := by omega
    have e : incD (l.drop (i - 1)) = true := by
      have hlen : (l.drop (i - 1)).length ≤ 1 := by rw [List.length_drop]; omega
      match l.drop (i - 1), hlen with
      | [], _ => rfl
      | [a], _ => rfl
    rw [e]
    exact Ev.step (fun k => by simp only [topo_isNodes.l0, if_neg h1] <;> rfl) (Ev.val _)
  | succ d ih =>
    intro i hi0 hi hd
    have h1 : (i : Int) < (l.length : Int) := by omega
    have h0 : (0 : Int) ≤ (i : Int) := by omega
    have hil : i < l.length := by omega
    have hw : wrap64 ((i : Int) + 1) = ((i + 1 : Nat) : Int) := by rw [wrap_in] <;> omega
    have hm : wrap64 ((i : Int) - 1) = ((i - 1 : Nat) : Int) := by rw [wrap_in] <;> omega
    have h2 : (0 : Int) ≤ ((i - 1 : Nat) : Int) := by omega
    have h3 : ((i - 1 : Nat) : Int) < (l.length : Int) := by omega
    have hr := rdI_at l i hil
    have hr2 := rdI_at l (i - 1) (by omega)
    have hn := ih (i + 1) (by omega) (by omega) (by omega)
    have e : l.drop (i - 1) = l[i - 1]'(by omega) :: l[i] :: l.drop (i + 1) := by
      rw [List.drop_eq_getElem_cons (by omega : i - 1 < l.length)]
      congr 1
      rw [show i - 1 + 1 = i from by omega, List.drop_eq_getElem_cons hil]
    have e2 : l.drop (i + 1 - 1) = l[i] :: l.drop (i + 1) := by rw [show i + 1 - 1 = i from by omega, List.drop_eq_getElem_cons hil]
    rw [e2] at hn
    rw [e]
    generalize l[i] = x at hr hn ⊢
    generalize l[i - 1]'(by omega) = y at hr2 ⊢
    unfold incD
    by_cases hq : x ≤ y
    · rw [decide_eq_false (by omega), Bool.false_and]
      exact Ev.step (fun k => by simp only [topo_isNodes.l0, if_pos h1, if_pos h0, hm, if_pos h2, if_pos h3, hr, hr2, if_pos hq] <;> rfl) (Ev.val _)
    · rw [decide_eq_true (by omega), Bool.true_and]
      exact Ev.step (fun k => by simp only [topo_isNodes.l0, if_pos h1, if_pos h0, hm, if_pos h2, if_pos h3, hr, hr2, if_neg hq, hw] <;> rfl) hn
theorem isNodes_ev (l : List Int) : Ev (fun k => topo_isNodes.f k l) (nodesB l) := by
  have ht : Ev (fun k => topo_isNodes.j0 k l true) false := Ev.step (fun k => by simp only [topo_isNodes.j0, if_true] <;> rfl) (Ev.val _)
  unfold nodesB topo_isNodes.f
  by_cases h0 : l.length = 0
  · rw [if_pos (.inl h0)]
    have : (l.length : Int) = 0 := by omega
    simp only [if_pos this]
    exact ht
  · have h0' : ¬ (l.length : Int) = 0 := by omega
    by_cases h5 : 5 < l.length
    · rw [if_pos (.inr (.inl h5))]
      have : (l.length : Int) > 5 := by omega
      simp only [if_neg h0', if_pos this]
      exact ht
    · have h5' : ¬ (l.length : Int) > 5 := by omega
      have hp : (0 : Int) < (l.length : Int) := by omega
      have hm : wrap64 ((l.length : Int) - 1) = ((l.length - 1 : Nat) : Int) := by rw [wrap_in] <;> omega
      have h2 : (0 : Int) ≤ ((l.length - 1 : Nat) : Int) := by omega
      have h3 : ((l.length - 1 : Nat) : Int) < (l.length : Int) := by omega
      have r0 : rd l 0 = l.getD 0 0 := rfl
      have r1 : rd l ((l.length - 1 : Nat) : Int) = l.getD (l.length - 1) 0 := rfl
      by_cases h1 : l.getD 0 0 < 1
      · rw [if_pos (.inr (.inr (.inl h1)))]
        simp only [if_neg h0', if_neg h5', if_pos hp, r0, if_pos h1]
        exact ht
      · by_cases h7 : 7 < l.getD (l.length - 1) 0
        · rw [if_pos (.inr (.inr (.inr h7)))]
          simp only [if_neg h0', if_neg h5', if_pos hp, r0, if_neg h1, hm, if_pos h2, if_pos h3, r1, gt_iff_lt, decide_eq_true h7]
          exact ht
        · rw [if_neg (by omega)]
          simp only [if_neg h0', if_neg h5', if_pos hp, r0, if_neg h1, hm, if_pos h2, if_pos h3, r1, gt_iff_lt, decide_eq_false h7]
          exact Ev.step (fun k => by simp only [topo_isNodes.j0, Bool.false_eq_true, if_false] <;> rfl) (isNodes_l0 l (by omega) (l.length - 1) 1 (Nat.le_refl _) (by omega) rfl)
end
set_option maxRecDepth 100000 in
theorem chk_cl (W : World) (x : Shd) (c : List Value) (hK : k37.K W x c) :
    Calls Try.prog 33 #[.agg c.toArray] W fun e w' => e = .returned (.bool (!(nodesB x.f1))) ∧ Ext W w' := by
  obtain ⟨A2, c2, rfl, hc2, hR⟩ := k37_open hK
  obtain ⟨⟨xf, xt⟩, ns⟩ := x
  dsimp only at hc2 hR ⊢
  obtain ⟨k, hk⟩ := Go.Proofs.YtaedgbkeiankcaaW.PrintWords.Ev.rounds (isNodes_ev ns)
  have hcon := Lib.hid (fun w (hw : Ext W w) => topo_isNodes.calls k A2 c2 ns (nodesB ns) w (Kd.C_below hR hw.below) hc2 hk)
  clear hK hk hR
  generalize nodesB ns = r at hcon ⊢
  go_enter Try.func33, Try.ntmps33
  go_wp2_with (go_at_call 34; refine (hcon.out _ ((Ext.refl _).alloc _)).mono ?_; rintro e w' ⟨rfl, ⟨n, rfl⟩⟩)
  go_ret
  exact ⟨rfl, ((Ext.refl _).alloc _).drewN _⟩
/-- where the k-th one has to begin -/
def beg (l : List Shd) (k : Nat) : ByteArray := if k = 0 then ⟨#[]⟩ else (l.getD (k - 1) z37).f0.f1
theorem beg_succ (l : List Shd) (k : Nat) (hk : k < l.length) : beg l (k + 1) = l[k].f0.f1 := by
  unfold beg
  rw [if_neg (by omega)]
  simp [List.getD_eq_getElem?_getD, hk]
def badS (fr : ByteArray) (x : Shd) : Bool := !(x.f0.f0.toList == fr.toList) || (!(Op.bytesLess fr.toList x.f0.f1.toList) || decide (16 < x.f0.f1.size))
def lastS (fr : ByteArray) (x : Shd) : Bool := x.f0.f0.toList == fr.toList && (x.f0.f1.toList == [])
def topoB (l : List Shd) : Bool := decide (l.length ≠ 0 ∧ l.length ≤ 8) && ((List.range (l.length - 1)).all (fun k => !(badS (beg l k) (l.getD k z37))) && (lastS (beg l (l.length - 1)) (l.getD (l.length - 1) z37) && l.all fun x => nodesB x.f1))
theorem topo_bad (l : List Shd) (h0 : l.length ≠ 0) (h8 : l.length ≤ 8) (k : Nat) (hk : k < l.length - 1) (h : badS (beg l k) (l.getD k z37) = true) : topoB l = false := by
  unfold topoB
  have : (List.range (l.length - 1)).all (fun k => !(badS (beg l k) (l.getD k z37))) = false := by
    rw [List.all_eq_false]
    exact ⟨k, List.mem_range.2 hk, by rw [h]; simp⟩
  rw [this, Bool.false_and, Bool.and_false]
theorem topo_last (l : List Shd) (h0 : l.length ≠ 0) (h8 : l.length ≤ 8) (h : ∀ j, j < l.length - 1 → badS (beg l j) (l.getD j z37) = false) : topoB l = (lastS (beg l (l.length - 1)) (l.getD (l.length - 1) z37) && l.all fun x => nodesB x.f1) := by
  unfold topoB
  have : (List.range (l.length - 1)).all (fun k => !(badS (beg l k) (l.getD k z37))) = true := by
    rw [List.all_eq_true]
    intro j hj
    rw [h j (List.mem_range.1 hj)]; rfl
  rw [this, decide_eq_true ⟨h0, h8⟩, Bool.true_and, Bool.true_and]
set_option maxHeartbeats 16000000 in
set_option maxRecDepth 100000 in
theorem check_walk (A0 : Option Addr) (c0 : Nat) (l : List Shd) (w : World) (hr0 : Kd.C k37 w A0 l.length l) (hc0 : l.length ≤ c0) :
    Calls Try.prog 12 #[.slice A0 l.length c0] w fun e w' => e = .returned (.int .i64 (if topoB l = true then 0 else 40)) ∧ Ext w w' := by
  have hm0 := hr0.2.1
  obtain ⟨r, hrr⟩ : ∃ r : Int, r = if topoB l = true then 0 else 40 := ⟨_, rfl⟩
  rw [← hrr]
  have HRr := Lib.hid hrr
  clear hrr
  by_cases hn : l.length ≠ 0 ∧ l.length ≤ 8
  · obtain ⟨hn0, hn8⟩ := hn
    have g0 : ((l.length : Int) == 0) = false := beq_eq_false_iff_ne.2 (by omega)
    have g8 : ¬ (l.length : Int) > 8 := by omega
    have hm1 : IntKind.i64.wrap ((l.length : Int) - 1) = ((l.length - 1 : Nat) : Int) := by rw [IntKind.wrap_i64]; omega
    have hm2 : ((l.length - 1 : Nat) : Int) < (l.length : Int) := by omega
    have hm3 : l.length - 1 ≤ c0 := by omega
    have HR := Lib.hid hr0
    clear hr0
    go_enter Try.func12, Try.ntmps12
    go_wp2
    go_loopg [3, 20] l.length (fun gg s3 s20 wr => ∃ k : Nat, k ≤ l.length - 1 ∧ l.length - k ≤ gg ∧ s3 = .string (beg l k) ∧ s20 = .int .i64 k ∧ Hid (∀ j, j < k → badS (beg l j) (l.getD j z37) = false) ∧ Hid (Ext w wr))
    case atStart => exact ⟨0, Nat.zero_le _, by omega, rfl, rfl, Lib.hid (fun j hj => absurd hj (Nat.not_lt_zero _)), Lib.hid (Ext.refl _)⟩
    case round =>
      obtain ⟨k, hk, hg, rfl, rfl, HG, HX⟩ := hrel
      by_cases hkn : k < l.length - 1
      · have hkz : (k : Int) < ((l.length - 1 : Nat) : Int) := by omega
        have hkl : k < l.length := by omega
        obtain ⟨ad, rfl, hrow⟩ := (Kd.C_below HR.out HX.out.below).2.2 (by omega)
        obtain ⟨y, hlen, hK, hcl0⟩ := hrow k l[k] (List.getElem?_eq_getElem hkl)
        obtain ⟨A2, c2, rfl, _, _⟩ := k37_open hK
        have hcl : ∀ i u, ([Value.string l[k].f0.f0, .string l[k].f0.f1, .slice A2 l[k].f1.length c2])[i]? = some u → wr.cell? (ad.add (k * 3 + i)) = some u := hcl0
        have f0 := hcl 0 _ rfl
        have f1 := hcl 1 _ rfl
        have f2 := hcl 2 _ rfl
        rw [Nat.add_zero] at f0
        rw [add_plus _ _ 1 (by omega)] at f1
        rw [add_plus _ _ 2 (by omega)] at f2
        have hgd : l.getD k z37 = l[k] := by simp [List.getD_eq_getElem?_getD, hkl]
        obtain ⟨fr, hfr⟩ : ∃ fr, fr = beg l k := ⟨_, rfl⟩
        rw [← hfr]
        obtain ⟨x, hx⟩ : ∃ x, x = l[k] := ⟨_, rfl⟩
        rw [← hx] at f0 f1 f2 hgd
        have HBS := Lib.hid (hx ▸ beg_succ l k hkl)
        have HBad := Lib.hid (fun (h : badS fr x = true) => (show r = 40 by rw [HRr.out, topo_bad l hn0 hn8 k hkn (by rw [← hfr, hgd]; exact h)]; rfl))
        have HOk := Lib.hid (fun (h : badS fr x = false) => (show badS (beg l k) (l.getD k z37) = false by rw [← hfr, hgd]; exact h))
        clear hfr hx hcl hcl0 hlen hrow hK hgd
        obtain ⟨⟨xf, xt⟩, ns⟩ := x
        dsimp only at f0 f1 f2 HBS
        cases b1 : (xf.toList == fr.toList) with
        | false =>
          have HB := Lib.hid (HBad.out (by unfold badS; rw [b1]; rfl))
          go_wp2
          go_ret
          exact ⟨by rw [HB.out]; rfl, HX.out.alloc _⟩
        | true =>
          cases b2 : Op.bytesLess fr.toList xt.toList with
          | false =>
            have HB := Lib.hid (HBad.out (by unfold badS; rw [b1, b2]; rfl))
            go_wp2
            go_ret
            exact ⟨by rw [HB.out]; rfl, HX.out.alloc _⟩
          | true =>
            by_cases b3 : (16 : Int) < xt.size
            · have HB := Lib.hid (HBad.out (by unfold badS; rw [b1, b2, decide_eq_true (show 16 < xt.size by omega)]; rfl))
              have b3d : decide ((16 : Int) < (xt.size : Int)) = true := decide_eq_true b3
              go_wp2
              go_ret
              exact ⟨by rw [HB.out]; rfl, HX.out.alloc _⟩
            · have HB := Lib.hid (HOk.out (by unfold badS; rw [b1, b2, decide_eq_false (show ¬ 16 < xt.size by omega)]; rfl))
              have b3d : decide ((16 : Int) < (xt.size : Int)) = false := decide_eq_false b3
              go_wp2
              go_roundg (l.length - (k + 1))
              case measure => omega
              case rel => exact ⟨k + 1, by omega, by omega, by rw [HBS.out], by go_num, Lib.hid (fun j hj => by
                by_cases e : j = k
                · subst e; exact HB.out
                · exact HG.out j (by omega)), Lib.hid (HX.out.alloc _)⟩
      · obtain rfl : k = l.length - 1 := by omega
        have hkz : ¬ (((l.length - 1 : Nat) : Int) < ((l.length - 1 : Nat) : Int)) := by omega
        have hkl : l.length - 1 < l.length := by omega
        obtain ⟨ad, rfl, hrow⟩ := (Kd.C_below HR.out HX.out.below).2.2 (by omega)
        obtain ⟨y, hlen, hK, hcl0⟩ := hrow (l.length - 1) l[l.length - 1] (List.getElem?_eq_getElem hkl)
        obtain ⟨A2, c2, rfl, _, _⟩ := k37_open hK
        have hcl : ∀ i u, ([Value.string l[l.length - 1].f0.f0, .string l[l.length - 1].f0.f1, .slice A2 l[l.length - 1].f1.length c2])[i]? = some u → wr.cell? (ad.add ((l.length - 1) * 3 + i)) = some u := hcl0
        have f0 := hcl 0 _ rfl
        have f1 := hcl 1 _ rfl
        rw [Nat.add_zero] at f0
        rw [add_plus _ _ 1 (by omega)] at f1
        have hgd : l.getD (l.length - 1) z37 = l[l.length - 1] := by simp [List.getD_eq_getElem?_getD, hkl]
        obtain ⟨x, hx⟩ : ∃ x, x = l[l.length - 1] := ⟨_, rfl⟩
        rw [← hx] at f0 f1 hgd
        have hall := topo_last l hn0 hn8 (fun j hj => HG.out j hj)
        rw [hgd] at hall
        have eg : ∀ args w, (callFunc 33 args).run Try.prog w = .ok (.enter 33 args) w := enters_fn Try.func33 (by kernel_rfl) rfl
        have hcon := Lib.hid (fun W (hW : Ext wr W) => containsK_sh 33 #[] (fun x : Shd => !(nodesB x.f1)) eg (some ad) c0 l W (Kd.C_below HR.out (HX.out.trans hW).below) (fun W2 x c hx2 _ hK2 => chk_cl W2 x c hK2))
        have hany : l.any (fun x : Shd => !(nodesB x.f1)) = !(l.all fun x => nodesB x.f1) := by rw [List.not_all_eq_any_not]
        rw [hany] at hcon
        generalize (l.all fun x => nodesB x.f1) = al at hall hcon
        generalize beg l (l.length - 1) = fr at *
        clear hx hcl hcl0 hlen hrow hK hgd hany eg
        obtain ⟨⟨xf, xt⟩, ns⟩ := x
        dsimp only at f0 f1
        have hls : lastS fr ⟨⟨xf, xt⟩, ns⟩ = (xf.toList == fr.toList && (xt.toList == [])) := rfl
        rw [hls] at hall
        have HALL := Lib.hid hall
        clear hall hls
        cases b1 : (xf.toList == fr.toList) with
        | false =>
          have hr40 : r = 40 := by rw [HRr.out, HALL.out, b1]; rfl
          have HB := Lib.hid hr40
          clear hr40
          go_wp2
          go_ret
          exact ⟨by rw [HB.out]; rfl, HX.out⟩
        | true =>
          cases b2 : (xt.toList == ([] : List UInt8)) with
          | false =>
            have hr40 : r = 40 := by rw [HRr.out, HALL.out, b1, b2]; rfl
            have HB := Lib.hid hr40
            clear hr40
            go_wp2
            go_ret
            exact ⟨by rw [HB.out]; rfl, HX.out⟩
          | true =>
            have hra : r = if al = true then 0 else 40 := by rw [HRr.out, HALL.out, b1, b2]; simp
            have HB := Lib.hid hra
            clear hra
            cases al with
            | true =>
              go_wp2_with (go_at_call 32; refine (hcon.out _ (by repeat (first | assumption | exact Ext.refl _ | (with_reducible refine Ext.alloc ?_ _) | (with_reducible refine Ext.drew ?_) | refine Ext.trans ?_ (by assumption)))).mono ?_; rintro e w' ⟨rfl, hx⟩)
              go_ret
              exact ⟨by rw [HB.out]; rfl, HX.out.trans hx⟩
            | false =>
              go_wp2_with (go_at_call 32; refine (hcon.out _ (by repeat (first | assumption | exact Ext.refl _ | (with_reducible refine Ext.alloc ?_ _) | (with_reducible refine Ext.drew ?_) | refine Ext.trans ?_ (by assumption)))).mono ?_; rintro e w' ⟨rfl, hx⟩)
              go_ret
              exact ⟨by rw [HB.out]; rfl, HX.out.trans hx⟩
  · have hT : topoB l = false := by unfold topoB; rw [decide_eq_false hn, Bool.false_and]
    have HT := Lib.hid hT
    clear hT
    by_cases hn0 : l.length = 0
    · have g0 : ((l.length : Int) == 0) = true := beq_iff_eq.2 (by omega)
      clear hr0 hn hn0 hm0
      go_enter Try.func12, Try.ntmps12
      go_wp2
      go_ret
      exact ⟨by rw [HRr.out, HT.out]; rfl, Ext.refl _⟩
    · have g0 : ((l.length : Int) == 0) = false := beq_eq_false_iff_ne.2 (by omega)
      have g8 : (l.length : Int) > 8 := by omega
      clear hr0 hn hn0 hm0
      go_enter Try.func12, Try.ntmps12
      go_wp2
      go_ret
      exact ⟨by rw [HRr.out, HT.out]; rfl, Ext.refl _⟩
def topo_Check.f (l0 : List Shd) : Option Int := some (if topoB l0 = true then 0 else 40)
theorem topo_Check.calls (A0 : Option Addr) (c0 : Nat) (l0 : List Shd) (r : Int) (w : World) (hr0 : Kd.C k37 w A0 l0.length l0) (hc0 : l0.length ≤ c0) (h : topo_Check.f l0 = some r) :
    Calls Try.prog 12 #[.slice A0 l0.length c0] w fun e w' => e = .returned (.int .i64 r) ∧ Below w.heap.size w w' := by
  obtain rfl := Option.some.inj h
  exact (check_walk A0 c0 l0 w hr0 hc0).mono fun e w' ⟨he, hx⟩ => ⟨he, hx.below⟩
end Go.Proofs.Ytaedgbkeiankcaa.P
namespace Go.Proofs.Ytaedgbkeiankcaa.P
open Go.RowKit
open Go.Proofs.YtaedgbkeiankcaaW.PrintWords (Kd Aside0 Ev)
set_option linter.unusedVariables false
def markA (a : List Bool) (n : Int) : List Bool := if 0 < n ∧ n < 8 then a.set n.toNat true else a
theorem markA_len (a : List Bool) (n : Int) : (markA a n).length = a.length := by unfold markA; split <;> simp
def markS (l : List Shd) (a : List Bool) (i : Int) : List Bool := if 0 ≤ i ∧ i < l.length then (l.getD i.toNat z37).f1.foldl markA a else a
theorem foldA_len (ns : List Int) : ∀ a : List Bool, (ns.foldl markA a).length = a.length := by
  induction ns with
  | nil => intro a; rfl
  | cons n ns ih => intro a; rw [List.foldl_cons, ih, markA_len]
theorem markS_len (l : List Shd) (a : List Bool) (i : Int) : (markS l a i).length = a.length := by
  unfold markS
  split
  · exact foldA_len _ _
  · rfl
theorem foldS_len (l : List Shd) (is : List Int) : ∀ a : List Bool, (is.foldl (markS l) a).length = a.length := by
  induction is with
  | nil => intro a; rfl
  | cons n ns ih => intro a; rw [List.foldl_cons, ih, markS_len]
theorem int_at {w : World} {A : Option Addr} {l : List Int} (h : Kd.C (Kd.int .i64) w A l.length l) (j : Nat) (hj : j < l.length) : ∃ ad, A = some ad ∧ w.cell? (ad.add j) = some (.int .i64 l[j]) := by
  obtain ⟨ad, rfl, hrow⟩ := h.2.2 (by omega)
  obtain ⟨y, _, hK, hc⟩ := hrow j l[j] (List.getElem?_eq_getElem hj)
  obtain rfl : y = [.int .i64 l[j]] := hK
  have := hc 0 _ rfl
  have e : w.cell? (ad.add (j * 1 + 0)) = some (.int .i64 l[j]) := this
  rw [Nat.mul_one, Nat.add_zero] at e
  exact ⟨ad, rfl, e⟩
theorem fold_take {α β : Type} (f : β → α → β) (l : List α) (k : Nat) (hk : k < l.length) (b : β) : (l.take (k + 1)).foldl f b = f ((l.take k).foldl f b) l[k] := by
  rw [List.take_succ_eq_append_getElem hk, List.foldl_append]
  rfl
abbrev bools (a : List Bool) : Array Value := (a.map Value.bool).toArray
set_option maxHeartbeats 16000000 in
set_option maxRecDepth 100000 in
theorem nodes_walk (A0 : Option Addr) (c0 : Nat) (l : List Shd) (A1 : Option Addr) (c1 : Nat) (is : List Int) (w : World) (hr0 : Kd.C k37 w A0 l.length l) (hr1 : Kd.C (Kd.int .i64) w A1 is.length is) :
    Calls Try.prog 18 #[.slice A0 l.length c0, .slice A1 is.length c1] w fun e w' => ∃ v, e = .returned v ∧ w'.ownsRow w.heap.size 3 1 v (placesN id false (is.foldl (markS l) (List.replicate 8 false)) 8).length (intsV (placesN id false (is.foldl (markS l) (List.replicate 8 false)) 8)) ∧ Ext w w' := by
  have HR0 := Lib.hid hr0
  have HR1 := Lib.hid hr1
  have hm0 := hr0.2.1
  have hm1 := hr1.2.1
  clear hr0 hr1
  go_enter Try.func18, Try.ntmps18
  go_wp2
  obtain ⟨i0, hi0, hz0, hz1, hz2⟩ := info_parts int_info
  have HI0 := Lib.hid hi0
  have HZ0 := Lib.hid hz0
  have HZ1 := Lib.hid hz1
  have HZ2 := Lib.hid hz2
  clear hi0 hz0 hz1 hz2
  go_loopg [14] is.length (fun gg s14 wr => ∃ (k : Nat) (a : List Bool), k ≤ is.length ∧ is.length - k ≤ gg ∧ s14 = .int .i64 k ∧ Hid (a = (is.take k).foldl (markS l) (List.replicate 8 false)) ∧ Hid (Ext w wr) ∧ Hid (Blk wr w.heap.size 61 (bools a)))
  case atStart => exact ⟨0, List.replicate 8 false, Nat.zero_le _, by omega, rfl, Lib.hid rfl, Lib.hid ((Ext.refl _).alloc _), Lib.hid (Blk.new _ _ _)⟩
  case round =>
    obtain ⟨k, a, hk, hg, rfl, HA, HX, HB⟩ := hrel
    by_cases hn : k < is.length
    · have hnz : (k : Int) < (is.length : Int) := by omega
      obtain ⟨ad, rfl, q0⟩ := int_at (Kd.C_below HR1.out HX.out.below) k hn
      have HS := Lib.hid (fold_take (markS l) is k hn (List.replicate 8 false))
      generalize is[k] = x at q0 HS
      by_cases hx0 : x < 0
      · have hmk : markS l a x = a := by unfold markS; rw [if_neg (by omega)]
        have HM := Lib.hid hmk
        clear hmk
        go_wp2
        go_roundg (is.length - (k + 1))
        case measure => omega
        case rel => exact ⟨k + 1, a, by omega, by omega, by go_num, Lib.hid (by rw [HS.out, ← HA.out, HM.out]), HX, HB⟩
      · by_cases hx1 : x ≥ (l.length : Int)
        · have hmk : markS l a x = a := by unfold markS; rw [if_neg (by omega)]
          have HM := Lib.hid hmk
          clear hmk
          go_wp2
          go_roundg (is.length - (k + 1))
          case measure => omega
          case rel => exact ⟨k + 1, a, by omega, by omega, by go_num, Lib.hid (by rw [HS.out, ← HA.out, HM.out]), HX, HB⟩
        · obtain ⟨m, rfl⟩ := Int.eq_ofNat_of_zero_le (show 0 ≤ x by omega)
          have hml : m < l.length := by omega
          have hmlz : (m : Int) < (l.length : Int) := by omega
          obtain ⟨ad0, rfl, hrow⟩ := HR0.out.2.2 (by omega)
          obtain ⟨y, hlen, hK, hcl0⟩ := hrow m l[m] (List.getElem?_eq_getElem hml)
          obtain ⟨A2, c2, rfl, hc2, hNs⟩ := k37_open hK
          have hcl : ∀ i u, ([Value.string l[m].f0.f0, .string l[m].f0.f1, .slice A2 l[m].f1.length c2])[i]? = some u → w.cell? (ad0.add (m * 3 + i)) = some u := hcl0
          have f2 := hcl 2 _ rfl
          rw [add_plus _ _ 2 (by omega)] at f2
          have f3 := (HX.out.below.cell (World.block_lt_of_cell? w _ f2)).trans f2
          have hmk : markS l a (m : Int) = l[m].f1.foldl markA a := by
            unfold markS
            rw [if_pos ⟨by omega, hmlz⟩]
            simp [List.getD_eq_getElem?_getD, hml]
          have HM := Lib.hid hmk
          have HN := Lib.hid hNs
          have hm2 := hNs.2.1
          clear hmk hcl hcl0 hlen hrow hK hNs f2
          generalize l[m].f1 = ns at f3 HM HN hc2 hm2
          go_wp2
          clear f3 q0
          go_loopg [32] ns.length (fun gg s32 wq => ∃ (j : Nat) (b : List Bool), j ≤ ns.length ∧ ns.length - j ≤ gg ∧ s32 = .int .i64 j ∧ b.length = 8 ∧ Hid (b = (ns.take j).foldl markA a) ∧ Hid (Ext w wq) ∧ Hid (Blk wq w.heap.size 61 (bools b)))
          case atStart => exact ⟨0, a, Nat.zero_le _, by omega, rfl, by rw [HA.out, foldS_len]; rfl, Lib.hid rfl, HX, HB⟩
          case round =>
            clear HX HB
            obtain ⟨j, b, hj, hgj, rfl, hb8, HBb, HX, HB⟩ := hrel
            by_cases hjn : j < ns.length
            · have hjz : (j : Int) < (ns.length : Int) := by omega
              obtain ⟨ad2, rfl, q0⟩ := int_at (Kd.C_below HN.out HX.out.below) j hjn
              have HSj := Lib.hid (fold_take markA ns j hjn a)
              generalize ns[j] = v at q0 HSj
              by_cases hv0 : v > 0
              · by_cases hv8 : v < 8
                · obtain ⟨q, rfl⟩ := Int.eq_ofNat_of_zero_le (show 0 ≤ v by omega)
                  have hmk : markA b (q : Int) = b.set q true := by unfold markA; rw [if_pos ⟨hv0, hv8⟩]; rfl
                  have HMk := Lib.hid hmk
                  have hq8 : q < b.length := by omega
                  have hcq : wr.cell? ⟨w.heap.size, q, none⟩ = some (.bool b[q]) := by rw [HB.out.cell]; simp [hq8]
                  have hfz := HB.out.frozen q
                  have hset : (bools b).setIfInBounds q (.bool true) = bools (b.set q true) := by simp [List.map_set]
                  have HB2 := Lib.hid (show Blk (wr.setCell ⟨w.heap.size, q, none⟩ (.bool true)) w.heap.size 61 (bools (b.set q true)) from hset ▸ HB.out.set_ q (.bool true))
                  clear hmk hset
                  go_wp2
                  go_roundg (ns.length - (j + 1))
                  case measure => omega
                  case rel => exact ⟨j + 1, b.set q true, by omega, by omega, by go_num, by rw [List.length_set]; exact hb8, Lib.hid (by rw [HSj.out, ← HBb.out, HMk.out]), Lib.hid (HX.out.setCell (Nat.le_refl _) _), HB2⟩
                · have hmk : markA b v = b := by unfold markA; rw [if_neg (by omega)]
                  have HMk := Lib.hid hmk
                  clear hmk
                  go_wp2
                  go_roundg (ns.length - (j + 1))
                  case measure => omega
                  case rel => exact ⟨j + 1, b, by omega, by omega, by go_num, hb8, Lib.hid (by rw [HSj.out, ← HBb.out, HMk.out]), HX, HB⟩
              · have hmk : markA b v = b := by unfold markA; rw [if_neg (by omega)]
                have HMk := Lib.hid hmk
                clear hmk
                go_wp2
                go_roundg (ns.length - (j + 1))
                case measure => omega
                case rel => exact ⟨j + 1, b, by omega, by omega, by go_num, hb8, Lib.hid (by rw [HSj.out, ← HBb.out, HMk.out]), HX, HB⟩
            · obtain rfl : j = ns.length := by omega
              have hjz : ¬ (ns.length : Int) < (ns.length : Int) := by omega
              rw [List.take_length] at HBb
              go_wp2
              go_roundg (is.length - (k + 1))
              case measure => omega
              case rel => exact ⟨k + 1, b, by omega, by omega, by go_num, Lib.hid (by rw [HS.out, ← HA.out, HM.out, HBb.out]), HX, HB⟩
    · obtain rfl : k = is.length := by omega
      have hnz : ¬ (is.length : Int) < (is.length : Int) := by omega
      rw [List.take_length] at HA
      have hal : a.length = 8 := by rw [HA.out, foldS_len]; rfl
      have hbk := HB.out
      obtain ⟨b0, b1, b2, b3, b4, b5, b6, b7, rfl⟩ : ∃ b0 b1 b2 b3 b4 b5 b6 b7, a = [b0, b1, b2, b3, b4, b5, b6, b7] := by
        match a, hal with
        | [b0, b1, b2, b3, b4, b5, b6, b7], _ => exact ⟨b0, b1, b2, b3, b4, b5, b6, b7, rfl⟩
      have e0 : wr.cell? ⟨w.heap.size, 0, none⟩ = some (.bool b0) := (hbk.cell 0).trans rfl
      have e1 : wr.cell? ⟨w.heap.size, 1, none⟩ = some (.bool b1) := (hbk.cell 1).trans rfl
      have e2 : wr.cell? ⟨w.heap.size, 2, none⟩ = some (.bool b2) := (hbk.cell 2).trans rfl
      have e3 : wr.cell? ⟨w.heap.size, 3, none⟩ = some (.bool b3) := (hbk.cell 3).trans rfl
      have e4 : wr.cell? ⟨w.heap.size, 4, none⟩ = some (.bool b4) := (hbk.cell 4).trans rfl
      have e5 : wr.cell? ⟨w.heap.size, 5, none⟩ = some (.bool b5) := (hbk.cell 5).trans rfl
      have e6 : wr.cell? ⟨w.heap.size, 6, none⟩ = some (.bool b6) := (hbk.cell 6).trans rfl
      have e7 : wr.cell? ⟨w.heap.size, 7, none⟩ = some (.bool b7) := (hbk.cell 7).trans rfl
      clear hal hbk
      go_wp2
      go_loopg [4, 47] 8 (fun gg s4 s47 wq => ∃ j : Nat, j ≤ 8 ∧ 8 - j ≤ gg ∧ s47 = .int .i64 j ∧ Hid (wq.ownsRow w.heap.size 3 1 s4 (placesN id false [b0, b1, b2, b3, b4, b5, b6, b7] j).length (intsV (placesN id false [b0, b1, b2, b3, b4, b5, b6, b7] j))) ∧ Hid (Ext w wq))
      case atStart => exact ⟨0, by omega, by omega, rfl, Lib.hid (World.ownsRow_nil _ _ _ _), HX⟩
      case round =>
        clear e0 e1 e2 e3 e4 e5 e6 e7 hg hk hn hnz HX
        obtain ⟨j, hj, hg, rfl, HO, HX⟩ := hrel
        have hle := placesN_len id false [b0, b1, b2, b3, b4, b5, b6, b7] j
        by_cases hj8 : j < 8
        · have : j = 0 ∨ j = 1 ∨ j = 2 ∨ j = 3 ∨ j = 4 ∨ j = 5 ∨ j = 6 ∨ j = 7 := by omega
          clear hj8
          rcases this with hk0 | hk1 | hk2 | hk3 | hk4 | hk5 | hk6 | hk7
          · subst hk0
            have hidx : ∀ W, (Instr.index 61 (.agg #[.bool b0, .bool b1, .bool b2, .bool b3, .bool b4, .bool b5, .bool b6, .bool b7]) (.int .i64 (0 : Int))).run Try.prog W = .ok (.bool b0) W := fun W => by kernel_rfl
            have HS := Lib.hid (placesN_succ id false [b0, b1, b2, b3, b4, b5, b6, b7] 0)
            generalize placesN id false [b0, b1, b2, b3, b4, b5, b6, b7] 0 = out at HO HS hle
            cases b0 with
            | true =>
              go_wp2_with (at_builtin; go_loud (refine wpList_append_any _ rfl (.tmp 52) (.tmp 54) _ rfl w.heap.size 3 i0 _ 1 8 Try.underlying32 HI0.out HZ0.out HZ1.out HZ2.out (by simp [Value.cells]) (by omega) _ _ _ rfl (own_ext HO.out ((Ext.refl _).alloc _)) _ _ 1 _ [.int .i64 (0 : Int)] rfl (new_reads [.int .i64 (0 : Int)] rfl rfl) (by simp [Value.oneCell']) (by simp only [maxLen]; omega) (by omega) (by simp; exact Nat.le_succ_of_le HX.out.size) ?_); intro v2 w2 hown2 hg2 hat2)
              have HO2 := Lib.hid hown2
              have HX2 := Lib.hid (Chs.to_ext (S := fun i => i ≥ w.heap.size) (Chs.grown (.of_ext (HX.out.alloc _)) hg2 (fun i hi => .inr (HO.out.lt i hi).1)) (fun i hi e => by omega))
              clear hown2 hg2 hat2
              go_wp2
              go_roundg (8 - (0 + 1))
              case measure => omega
              case rel =>
                refine ⟨0 + 1, by omega, by omega, by go_num, ?_, HX2⟩
                rw [HS.out]
                simp only [List.getD_cons_zero, List.getD_cons_succ, id_eq, if_true]
                rw [List.length_append, intsV, List.map_append]
                exact HO2
            | false =>
              go_wp2
              go_roundg (8 - (0 + 1))
              case measure => omega
              case rel =>
                refine ⟨0 + 1, by omega, by omega, by go_num, ?_, HX⟩
                rw [HS.out]
                simp only [List.getD_cons_zero, List.getD_cons_succ, id_eq, Bool.false_eq_true, if_false, List.append_nil]
                exact HO
          · subst hk1
            have hidx : ∀ W, (Instr.index 61 (.agg #[.bool b0, .bool b1, .bool b2, .bool b3, .bool b4, .bool b5, .bool b6, .bool b7]) (.int .i64 (1 : Int))).run Try.prog W = .ok (.bool b1) W := fun W => by kernel_rfl
            have HS := Lib.hid (placesN_succ id false [b0, b1, b2, b3, b4, b5, b6, b7] 1)
            generalize placesN id false [b0, b1, b2, b3, b4, b5, b6, b7] 1 = out at HO HS hle
            cases b1 with
            | true =>
              go_wp2_with (at_builtin; go_loud (refine wpList_append_any _ rfl (.tmp 52) (.tmp 54) _ rfl w.heap.size 3 i0 _ 1 8 Try.underlying32 HI0.out HZ0.out HZ1.out HZ2.out (by simp [Value.cells]) (by omega) _ _ _ rfl (own_ext HO.out ((Ext.refl _).alloc _)) _ _ 1 _ [.int .i64 (1 : Int)] rfl (new_reads [.int .i64 (1 : Int)] rfl rfl) (by simp [Value.oneCell']) (by simp only [maxLen]; omega) (by omega) (by simp; exact Nat.le_succ_of_le HX.out.size) ?_); intro v2 w2 hown2 hg2 hat2)
              have HO2 := Lib.hid hown2
              have HX2 := Lib.hid (Chs.to_ext (S := fun i => i ≥ w.heap.size) (Chs.grown (.of_ext (HX.out.alloc _)) hg2 (fun i hi => .inr (HO.out.lt i hi).1)) (fun i hi e => by omega))
              clear hown2 hg2 hat2
              go_wp2
              go_roundg (8 - (1 + 1))
              case measure => omega
              case rel =>
                refine ⟨1 + 1, by omega, by omega, by go_num, ?_, HX2⟩
                rw [HS.out]
                simp only [List.getD_cons_zero, List.getD_cons_succ, id_eq, if_true]
                rw [List.length_append, intsV, List.map_append]
                exact HO2
            | false =>
              go_wp2
              go_roundg (8 - (1 + 1))
              case measure => omega
              case rel =>
                refine ⟨1 + 1, by omega, by omega, by go_num, ?_, HX⟩
                rw [HS.out]
                simp only [List.getD_cons_zero, List.getD_cons_succ, id_eq, Bool.false_eq_true, if_false, List.append_nil]
                exact HO
          · subst hk2
            have hidx : ∀ W, (Instr.index 61 (.agg #[.bool b0, .bool b1, .bool b2, .bool b3, .bool b4, .bool b5, .bool b6, .bool b7]) (.int .i64 (2 : Int))).run Try.prog W = .ok (.bool b2) W := fun W => by kernel_rfl
            have HS := Lib.hid (placesN_succ id false [b0, b1, b2, b3, b4, b5, b6, b7] 2)
            generalize placesN id false [b0, b1, b2, b3, b4, b5, b6, b7] 2 = out at HO HS hle
            cases b2 with
            | true =>
              go_wp2_with (at_builtin; go_loud (refine wpList_append_any _ rfl (.tmp 52) (.tmp 54) _ rfl w.heap.size 3 i0 _ 1 8 Try.underlying32 HI0.out HZ0.out HZ1.out HZ2.out (by simp [Value.cells]) (by omega) _ _ _ rfl (own_ext HO.out ((Ext.refl _).alloc _)) _ _ 1 _ [.int .i64 (2 : Int)] rfl (new_reads [.int .i64 (2 : Int)] rfl rfl) (by simp [Value.oneCell']) (by simp only [maxLen]; omega) (by omega) (by simp; exact Nat.le_succ_of_le HX.out.size) ?_); intro v2 w2 hown2 hg2 hat2)
              have HO2 := Lib.hid hown2
              have HX2 := Lib.hid (Chs.to_ext (S := fun i => i ≥ w.heap.size) (Chs.grown (.of_ext (HX.out.alloc _)) hg2 (fun i hi => .inr (HO.out.lt i hi).1)) (fun i hi e => by omega))
              clear hown2 hg2 hat2
              go_wp2
              go_roundg (8 - (2 + 1))
              case measure => omega
              case rel =>
                refine ⟨2 + 1, by omega, by omega, by go_num, ?_, HX2⟩
                rw [HS.out]
                simp only [List.getD_cons_zero, List.getD_cons_succ, id_eq, if_true]
                rw [List.length_append, intsV, List.map_append]
                exact HO2
            | false =>
              go_wp2
              go_roundg (8 - (2 + 1))
              case measure => omega
              case rel =>
                refine ⟨2 + 1, by omega, by omega, by go_num, ?_, HX⟩
                rw [HS.out]
                simp only [List.getD_cons_zero, List.getD_cons_succ, id_eq, Bool.false_eq_true, if_false, List.append_nil]
                exact HO
          · subst hk3
            have hidx : ∀ W, (Instr.index 61 (.agg #[.bool b0, .bool b1, .bool b2, .bool b3, .bool b4, .bool b5, .bool b6, .bool b7]) (.int .i64 (3 : Int))).run Try.prog W = .ok (.bool b3) W := fun W => by kernel_rfl
            have HS := Lib.hid (placesN_succ id false [b0, b1, b2, b3, b4, b5, b6, b7] 3)
            generalize placesN id false [b0, b1, b2, b3, b4, b5, b6, b7] 3 = out at HO HS hle
            cases b3 with
            | true =>
              go_wp2_with (at_builtin; go_loud (refine wpList_append_any _ rfl (.tmp 52) (.tmp 54) _ rfl w.heap.size 3 i0 _ 1 8 Try.underlying32 HI0.out HZ0.out HZ1.out HZ2.out (by simp [Value.cells]) (by omega) _ _ _ rfl (own_ext HO.out ((Ext.refl _).alloc _)) _ _ 1 _ [.int .i64 (3 : Int)] rfl (new_reads [.int .i64 (3 : Int)] rfl rfl) (by simp [Value.oneCell']) (by simp only [maxLen]; omega) (by omega) (by simp; exact Nat.le_succ_of_le HX.out.size) ?_); intro v2 w2 hown2 hg2 hat2)
              have HO2 := Lib.hid hown2
              have HX2 := Lib.hid (Chs.to_ext (S := fun i => i ≥ w.heap.size) (Chs.grown (.of_ext (HX.out.alloc _)) hg2 (fun i hi => .inr (HO.out.lt i hi).1)) (fun i hi e => by omega))
              clear hown2 hg2 hat2
              go_wp2
              go_roundg (8 - (3 + 1))
              case measure => omega
              case rel =>
                refine ⟨3 + 1, by omega, by omega, by go_num, ?_, HX2⟩
                rw [HS.out]
                simp only [List.getD_cons_zero, List.getD_cons_succ, id_eq, if_true]
                rw [List.length_append, intsV, List.map_append]
                exact HO2
            | false =>
              go_wp2
              go_roundg (8 - (3 + 1))
              case measure => omega
              case rel =>
                refine ⟨3 + 1, by omega, by omega, by go_num, ?_, HX⟩
                rw [HS.out]
                simp only [List.getD_cons_zero, List.getD_cons_succ, id_eq, Bool.false_eq_true, if_false, List.append_nil]
                exact HO
          · subst hk4
            have hidx : ∀ W, (Instr.index 61 (.agg #[.bool b0, .bool b1, .bool b2, .bool b3, .bool b4, .bool b5, .bool b6, .bool b7]) (.int .i64 (4 : Int))).run Try.prog W = .ok (.bool b4) W := fun W => by kernel_rfl
            have HS := Lib.hid (placesN_succ id false [b0, b1, b2, b3, b4, b5, b6, b7] 4)
            generalize placesN id false [b0, b1, b2, b3, b4, b5, b6, b7] 4 = out at HO HS hle
            cases b4 with
            | true =>
              go_wp2_with (at_builtin; go_loud (refine wpList_append_any _ rfl (.tmp 52) (.tmp 54) _ rfl w.heap.size 3 i0 _ 1 8 Try.underlying32 HI0.out HZ0.out HZ1.out HZ2.out (by simp [Value.cells]) (by omega) _ _ _ rfl (own_ext HO.out ((Ext.refl _).alloc _)) _ _ 1 _ [.int .i64 (4 : Int)] rfl (new_reads [.int .i64 (4 : Int)] rfl rfl) (by simp [Value.oneCell']) (by simp only [maxLen]; omega) (by omega) (by simp; exact Nat.le_succ_of_le HX.out.size) ?_); intro v2 w2 hown2 hg2 hat2)
              have HO2 := Lib.hid hown2
              have HX2 := Lib.hid (Chs.to_ext (S := fun i => i ≥ w.heap.size) (Chs.grown (.of_ext (HX.out.alloc _)) hg2 (fun i hi => .inr (HO.out.lt i hi).1)) (fun i hi e => by omega))
              clear hown2 hg2 hat2
              go_wp2
              go_roundg (8 - (4 + 1))
              case measure => omega
              case rel =>
                refine ⟨4 + 1, by omega, by omega, by go_num, ?_, HX2⟩
                rw [HS.out]
                simp only [List.getD_cons_zero, List.getD_cons_succ, id_eq, if_true]
                rw [List.length_append, intsV, List.map_append]
                exact HO2
            | false =>
              go_wp2
              go_roundg (8 - (4 + 1))
              case measure => omega
              case rel =>
                refine ⟨4 + 1, by omega, by omega, by go_num, ?_, HX⟩
                rw [HS.out]
                simp only [List.getD_cons_zero, List.getD_cons_succ, id_eq, Bool.false_eq_true, if_false, List.append_nil]
                exact HO
          · subst hk5
            have hidx : ∀ W, (Instr.index 61 (.agg #[.bool b0, .bool b1, .bool b2, .bool b3, .bool b4, .bool b5, .bool b6, .bool b7]) (.int .i64 (5 : Int))).run Try.prog W = .ok (.bool b5) W := fun W => by kernel_rfl
            have HS := Lib.hid (placesN_succ id false [b0, b1, b2, b3, b4, b5, b6, b7] 5)
            generalize placesN id false [b0, b1, b2, b3, b4, b5, b6, b7] 5 = out at HO HS hle
            cases b5 with
            | true =>
              go_wp2_with (at_builtin; go_loud (refine wpList_append_any _ rfl (.tmp 52) (.tmp 54) _ rfl w.heap.size 3 i0 _ 1 8 Try.underlying32 HI0.out HZ0.out HZ1.out HZ2.out (by simp [Value.cells]) (by omega) _ _ _ rfl (own_ext HO.out ((Ext.refl _).alloc _)) _ _ 1 _ [.int .i64 (5 : Int)] rfl (new_reads [.int .i64 (5 : Int)] rfl rfl) (by simp [Value.oneCell']) (by simp only [maxLen]; omega) (by omega) (by simp; exact Nat.le_succ_of_le HX.out.size) ?_); intro v2 w2 hown2 hg2 hat2)
              have HO2 := Lib.hid hown2
              have HX2 := Lib.hid (Chs.to_ext (S := fun i => i ≥ w.heap.size) (Chs.grown (.of_ext (HX.out.alloc _)) hg2 (fun i hi => .inr (HO.out.lt i hi).1)) (fun i hi e => by omega))
              clear hown2 hg2 hat2
              go_wp2
              go_roundg (8 - (5 + 1))
              case measure => omega
              case rel =>
                refine ⟨5 + 1, by omega, by omega, by go_num, ?_, HX2⟩
                rw [HS.out]
                simp only [List.getD_cons_zero, List.getD_cons_succ, id_eq, if_true]
                rw [List.length_append, intsV, List.map_append]
                exact HO2
            | false =>
              go_wp2
              go_roundg (8 - (5 + 1))
              case measure => omega
              case rel =>
                refine ⟨5 + 1, by omega, by omega, by go_num, ?_, HX⟩
                rw [HS.out]
                simp only [List.getD_cons_zero, List.getD_cons_succ, id_eq, Bool.false_eq_true, if_false, List.append_nil]
                exact HO
          · subst hk6
            have hidx : ∀ W, (Instr.index 61 (.agg #[.bool b0, .bool b1, .bool b2, .bool b3, .bool b4, .bool b5, .bool b6, .bool b7]) (.int .i64 (6 : Int))).run Try.prog W = .ok (.bool b6) W := fun W => by kernel_rfl
            have HS := Lib.hid (placesN_succ id false [b0, b1, b2, b3, b4, b5, b6, b7] 6)
            generalize placesN id false [b0, b1, b2, b3, b4, b5, b6, b7] 6 = out at HO HS hle
            cases b6 with
            | true =>
              go_wp2_with (at_builtin; go_loud (refine wpList_append_any _ rfl (.tmp 52) (.tmp 54) _ rfl w.heap.size 3 i0 _ 1 8 Try.underlying32 HI0.out HZ0.out HZ1.out HZ2.out (by simp [Value.cells]) (by omega) _ _ _ rfl (own_ext HO.out ((Ext.refl _).alloc _)) _ _ 1 _ [.int .i64 (6 : Int)] rfl (new_reads [.int .i64 (6 : Int)] rfl rfl) (by simp [Value.oneCell']) (by simp only [maxLen]; omega) (by omega) (by simp; exact Nat.le_succ_of_le HX.out.size) ?_); intro v2 w2 hown2 hg2 hat2)
              have HO2 := Lib.hid hown2
              have HX2 := Lib.hid (Chs.to_ext (S := fun i => i ≥ w.heap.size) (Chs.grown (.of_ext (HX.out.alloc _)) hg2 (fun i hi => .inr (HO.out.lt i hi).1)) (fun i hi e => by omega))
              clear hown2 hg2 hat2
              go_wp2
              go_roundg (8 - (6 + 1))
              case measure => omega
              case rel =>
                refine ⟨6 + 1, by omega, by omega, by go_num, ?_, HX2⟩
                rw [HS.out]
                simp only [List.getD_cons_zero, List.getD_cons_succ, id_eq, if_true]
                rw [List.length_append, intsV, List.map_append]
                exact HO2
            | false =>
              go_wp2
              go_roundg (8 - (6 + 1))
              case measure => omega
              case rel =>
                refine ⟨6 + 1, by omega, by omega, by go_num, ?_, HX⟩
                rw [HS.out]
                simp only [List.getD_cons_zero, List.getD_cons_succ, id_eq, Bool.false_eq_true, if_false, List.append_nil]
                exact HO
          · subst hk7
            have hidx : ∀ W, (Instr.index 61 (.agg #[.bool b0, .bool b1, .bool b2, .bool b3, .bool b4, .bool b5, .bool b6, .bool b7]) (.int .i64 (7 : Int))).run Try.prog W = .ok (.bool b7) W := fun W => by kernel_rfl
            have HS := Lib.hid (placesN_succ id false [b0, b1, b2, b3, b4, b5, b6, b7] 7)
            generalize placesN id false [b0, b1, b2, b3, b4, b5, b6, b7] 7 = out at HO HS hle
            cases b7 with
            | true =>
              go_wp2_with (at_builtin; go_loud (refine wpList_append_any _ rfl (.tmp 52) (.tmp 54) _ rfl w.heap.size 3 i0 _ 1 8 Try.underlying32 HI0.out HZ0.out HZ1.out HZ2.out (by simp [Value.cells]) (by omega) _ _ _ rfl (own_ext HO.out ((Ext.refl _).alloc _)) _ _ 1 _ [.int .i64 (7 : Int)] rfl (new_reads [.int .i64 (7 : Int)] rfl rfl) (by simp [Value.oneCell']) (by simp only [maxLen]; omega) (by omega) (by simp; exact Nat.le_succ_of_le HX.out.size) ?_); intro v2 w2 hown2 hg2 hat2)
              have HO2 := Lib.hid hown2
              have HX2 := Lib.hid (Chs.to_ext (S := fun i => i ≥ w.heap.size) (Chs.grown (.of_ext (HX.out.alloc _)) hg2 (fun i hi => .inr (HO.out.lt i hi).1)) (fun i hi e => by omega))
              clear hown2 hg2 hat2
              go_wp2
              go_roundg (8 - (7 + 1))
              case measure => omega
              case rel =>
                refine ⟨7 + 1, by omega, by omega, by go_num, ?_, HX2⟩
                rw [HS.out]
                simp only [List.getD_cons_zero, List.getD_cons_succ, id_eq, if_true]
                rw [List.length_append, intsV, List.map_append]
                exact HO2
            | false =>
              go_wp2
              go_roundg (8 - (7 + 1))
              case measure => omega
              case rel =>
                refine ⟨7 + 1, by omega, by omega, by go_num, ?_, HX⟩
                rw [HS.out]
                simp only [List.getD_cons_zero, List.getD_cons_succ, id_eq, Bool.false_eq_true, if_false, List.append_nil]
                exact HO
        · obtain rfl : j = 8 := by omega
          go_wp2
          go_ret
          exact ⟨_, rfl, by rw [← HA.out]; exact HO.out, HX.out⟩
def nodesL (l : List Shd) (is : List Int) : List Int := placesN id false (is.foldl (markS l) (List.replicate 8 false)) 8
def topo_Nodes.f (l0 : List Shd) (l1 : List Int) : Option (List Int) := some (nodesL l0 l1)
theorem topo_Nodes.calls (A0 : Option Addr) (c0 : Nat) (l0 : List Shd) (A1 : Option Addr) (c1 : Nat) (l1 : List Int) (r : List Int) (w : World) (hr0 : Kd.C k37 w A0 l0.length l0) (hc0 : l0.length ≤ c0) (hr1 : Kd.C (Kd.int .i64) w A1 l1.length l1) (hc1 : l1.length ≤ c1) (h : topo_Nodes.f l0 l1 = some r) :
    Calls Try.prog 18 #[.slice A0 l0.length c0, .slice A1 l1.length c1] w fun e w' => ∃ v0_ : Value, e = .returned (v0_) ∧ Kd.R (Kd.int .i64) 3 w' w.heap.size (fun _ => True) v0_ r ∧ Below w.heap.size w w' := by
  obtain rfl := Option.some.inj h
  exact (nodes_walk A0 c0 l0 A1 c1 l1 w hr0 hr1).mono fun e w' ⟨v, he, ho, hx⟩ => ⟨v, he, R_rawInt ho, hx.below⟩
end Go.Proofs.Ytaedgbkeiankcaa.P
namespace Go.Proofs.Ytaedgbkeiankcaa.P
open Go.RowKit Go.Proofs.YtaedgbkeiankcaaW.PrintWords Go.Proofs.YtaedgbkeiankcaaW.PrintLast Go.Proofs.YtaedgbkeiankcaaW.PrintMore
attribute [local go_sem] str_leq str_geq max2_str max2_int min2_int max_two min_two max_three min_three max_four min_four
set_option linter.unusedVariables false
set_option linter.unusedSimpArgs false
def topo_Owned.l0 : Nat → List (S37) → List (S35) → List Int → Int → Int → Option ((List (S35)))
  | 0, _, _, _, _, _ => none
  | k + 1, x0, x5, x10, x11, x12 => if x12 < x11 then (if 0 ≤ x12 then (if x12 < (x10.length : Int) then (if 0 ≤ (rd x10 x12) then (if (rd x10 x12) < (x0.length : Int) then (if x5.length < 4398046511104 then (topo_Owned.l0 k x0 (x5 ++ [(⟨(rd_T37 x0 (rd x10 x12)).f0.f0, (rd_T37 x0 (rd x10 x12)).f0.f1⟩ : S35)]) x10 x11 (wrap64 (x12 + 1))) else (none)) else (none)) else (none)) else (none)) else (none)) else ((span_Union.f x5).bind fun t124 => (some t124))
def topo_Owned.f (k : Nat) (l0 : List (S37)) (a1 : Int) : Option ((List (S35))) := (topo_Of.f l0 a1).bind fun t116 => (topo_Owned.l0 k l0 ([] : List (S35)) t116 (t116.length : Int) 0)
theorem topo_Owned.mono_l : ∀ k, (∀ y0 y1 y2 y3 y4, LeO (topo_Owned.l0 k y0 y1 y2 y3 y4) (topo_Owned.l0 (k + 1) y0 y1 y2 y3 y4))
  | 0 => fun _ _ _ _ _ r h => by simp [topo_Owned.l0] at h
  | k + 1 => by
    have ih0 := topo_Owned.mono_l k
    · intro y0 y1 y2 y3 y4
      unfold topo_Owned.l0
      repeat' first
      | (with_reducible exact ih0 _ _ _ _ _)
      | (with_reducible exact LeO.refl _)
      | (with_reducible exact LeO.none _)
      | (with_reducible refine LeO.ite ?_ ?_)
      | (with_reducible refine LeO.bind ?_ (fun _ => ?_))
      | exact ih0 _ _ _ _ _
      | exact LeO.none _
      | refine LeO.ite ?_ ?_
      | refine LeO.bind ?_ (fun _ => ?_)
theorem topo_Owned.mono : ∀ a0 a1 k, LeO (topo_Owned.f k a0 a1) (topo_Owned.f (k + 1) a0 a1) := by
  intro a0 a1 k
  have ih0 := topo_Owned.mono_l k
  unfold topo_Owned.f
  repeat' first
      | (with_reducible exact ih0 _ _ _ _ _)
      | (with_reducible exact LeO.refl _)
      | (with_reducible exact LeO.none _)
      | (with_reducible refine LeO.ite ?_ ?_)
      | (with_reducible refine LeO.bind ?_ (fun _ => ?_))
      | exact ih0 _ _ _ _ _
      | exact LeO.none _
      | refine LeO.ite ?_ ?_
      | refine LeO.bind ?_ (fun _ => ?_)
set_option maxHeartbeats 8000000 in
set_option maxRecDepth 100000 in
theorem topo_Owned.calls (k : Nat) (A0 : Option Addr) (c0 : Nat) (l0 : List (S37)) (a1 : Int) (r : List (S35)) (w : World) (hr0 : Kd.C k37 w A0 l0.length l0) (hc0 : l0.length ≤ c0) (h : topo_Owned.f k l0 a1 = some r) :
    Calls Try.prog 14 #[.slice A0 l0.length c0, .int .i64 a1] w fun e w' => ∃ v0_ : Value, e = .returned (v0_) ∧ Kd.R k35 35 w' w.heap.size (fun _ => True) v0_ r ∧ Below w.heap.size w w' := by
  have hu35 := Try.underlying35
  have HR0 := Aside0.mk hr0
  have HC0 := Aside0.mk hc0
  clear hr0 hc0
  have HB := Aside0.mk (Below.refl w.heap.size w)
  have H : ((topo_Of.f l0 a1).bind fun t116 => (topo_Owned.l0 k l0 ([] : List (S35)) t116 (t116.length : Int) 0)) = some r := h
  clear h
  replace H := Option.bind_eq_some_iff.mp H
  obtain ⟨t116, A30, H⟩ := H
  replace H : (topo_Owned.l0 k l0 ([] : List (S35)) t116 (t116.length : Int) 0) = some r := H
  have A3 := Aside0.mk A30
  clear A30
  have H' := Aside0.mk H
  clear H
  go_enter Try.func14, Try.ntmps14
  go_wp2_with (first | ((with_reducible refine gate_callee (f := 15) rfl ?_); refine goesL_ (some 10) rfl rfl Try.func15 (by kernel_rfl) rfl #[.slice A0 l0.length c0, .int .i64 a1] rfl (by (try simp only [List.map_toArray, List.map_cons, List.map_nil]); first | done | rfl | (simp only [List.length_drop, List.length_take]; rfl)) ?_; (with_reducible refine (topo_Of.calls _ _ l0 a1 t116 _ ?side1 ?side2 A3.out).mono ?_); (case side1 => repeat (first | exact HR0.out | (with_reducible refine Kd.C_alloc ?_ _) | (with_reducible refine Kd.C_drewN ?_ _) | (with_reducible refine Kd.C_drew ?_))); (case side2 => exact HC0.out); rintro e w4 ⟨v117, rfl, ho0, hb⟩; refine ⟨_, rfl, ?_⟩; have n0_ := Aside0.mk (Kd.R_lower ho0 (below_size (by repeat (first | (with_reducible first | exact HB.out | apply below_alloc | apply pw_below_drewN | apply below_drew1) | exact HB.out)))); have n1_ := Aside0.mk (below_step (by repeat (first | (with_reducible first | exact HB.out | apply below_alloc | apply pw_below_drewN | apply below_drew1) | exact HB.out)) hb); clear HB; have HO118 := n0_; have HB := n1_; clear n0_ n1_; (try clear hb); (try clear hb2); (try clear hk); (try clear hi); (try clear ho0); obtain ⟨Ao5, co5, eo5⟩ := Kd.R_slice HO118.out; subst eo5))
  go_loopg [5, 12] k (fun kq v5 v12 w' => ∃ (x5_1 : List (S35)) (x12_1 : Int), v12 = .int .i64 x12_1 ∧ Aside0 (topo_Owned.l0 kq l0 x5_1 t116 (t116.length : Int) x12_1 = some r) ∧ Aside0 (kq ≤ k) ∧ Aside0 (Kd.R k35 35 w' w.heap.size (fun _ => True) v5 x5_1) ∧ Aside0 (Kd.R (Kd.int .i64) 3 w' w.heap.size (fun _ => True) (.slice Ao5 t116.length co5) t116) ∧ Aside0 (Below w.heap.size w w'))
  case atStart => exact ⟨(([] : List (S35))), (0), (by first | rfl | (simp; done) | (simp [*]; done)), H', ⟨Nat.le_refl _⟩, ⟨by first | exact Kd.R_nil _ _ _ _ _ | exact Kd.N_nil _ _ _ _ _ | exact Kd.V_nil _ _ _ _ _ | exact Kd.Q_nil _ _ _ _ _ | exact Kd.S_nil _ _ _ _ _⟩, ⟨by (with_reducible repeat (first | apply Kd.R_alloc | apply Kd.R_drewN | apply Kd.R_drew)); exact HO118.out⟩, ⟨by repeat (first | (with_reducible first | exact HB.out | apply below_alloc | apply pw_below_drewN | apply below_drew1) | exact HB.out)⟩⟩
  case round =>
    clear H'
    try clear c1
    try clear p2
    obtain ⟨x5_1, x12_1, rfl, HA, HK1, HO_5, HO_10, HB⟩ := hrel
    cases gk with
    | zero => exact absurd HA.out (by simp [topo_Owned.l0])
    | succ k1 =>
      have H := HA.out
      clear HA
      simp only [topo_Owned.l0] at H
      by_cases c6 : x12_1 < (t116.length : Int)
      · rw [if_pos c6] at H
        have c6b0 : decide (x12_1 < (t116.length : Int)) = true := decide_eq_true c6
        clear c6
        by_cases c7 : 0 ≤ x12_1
        · rw [if_pos c7] at H
          have c7b0 : decide (0 ≤ x12_1) = true := decide_eq_true c7
          clear c7
          by_cases c8 : x12_1 < (t116.length : Int)
          · rw [if_pos c8] at H
            have c8b0 : decide (x12_1 < (t116.length : Int)) = true := decide_eq_true c8
            clear c8
            by_cases c9 : 0 ≤ (rd t116 x12_1)
            · rw [if_pos c9] at H
              have c9b0 : decide (0 ≤ (rd t116 x12_1)) = true := decide_eq_true c9
              clear c9
              by_cases c10 : (rd t116 x12_1) < (l0.length : Int)
              · rw [if_pos c10] at H
                have c10b0 : decide ((rd t116 x12_1) < (l0.length : Int)) = true := decide_eq_true c10
                clear c10
                by_cases c11 : x5_1.length < 4398046511104
                · rw [if_pos c11] at H
                  have LMc11 := Aside0.mk c11
                  clear c11
                  obtain ⟨y121, hy121⟩ : ∃ y_ : List (S35), y_ = (x5_1 ++ [(⟨(rd_T37 l0 (rd t116 x12_1)).f0.f0, (rd_T37 l0 (rd t116 x12_1)).f0.f1⟩ : S35)]) := ⟨_, rfl⟩
                  replace H : (topo_Owned.l0 k1 l0 y121 t116 (t116.length : Int) (wrap64 (x12_1 + 1))) = some r := by first | (rw [hy121]; with_reducible exact H) | (have H2_ := (Option.bind_some _ _).symm.trans H; rw [hy121]; with_reducible exact H2_) | (have H2_ := (Option.bind_some _ _).symm.trans H; with_reducible exact H2_) | with_reducible exact H | (rw [hy121]; exact H) | exact H
                  have Ny121 := Aside0.mk hy121
                  clear hy121
                  have H' := Aside0.mk H
                  clear H
                  have p119 : 0 ≤ (x12_1 : Int) := of_decide_eq_true (by first | (with_reducible assumption) | assumption)
                  have q119 : x12_1 < (t116.length : Int) := of_decide_eq_true (by first | (with_reducible assumption) | assumption)
                  obtain ⟨ad119, e119, hx119_0⟩ := Kd.at_int (Kd.R_reads' HO_10.out).2.2 x12_1 p119 q119
                  cases e119
                  replace p119 := eq_true p119
                  replace q119 := eq_true q119
                  have p120 : 0 ≤ ((rd t116 x12_1) : Int) := of_decide_eq_true (by first | (with_reducible assumption) | assumption)
                  have q120 : (rd t116 x12_1) < (l0.length : Int) := of_decide_eq_true (by first | (with_reducible assumption) | assumption)
                  obtain ⟨ad120, A120_2, c120_2, e120, hx120_0, hx120_1, hx120_2, hl120_2, hi120_2⟩ := at_T37 HR0.out (rd t116 x12_1) p120 q120
                  cases e120
                  replace hx120_0 := (HB.out.cell (World.block_lt_of_cell? w _ hx120_0)).trans hx120_0
                  replace hx120_1 := (HB.out.cell (World.block_lt_of_cell? w _ hx120_1)).trans hx120_1
                  replace hx120_2 := (HB.out.cell (World.block_lt_of_cell? w _ hx120_2)).trans hx120_2
                  have HR120_2 := Aside0.mk hi120_2
                  have HC120_2 := Aside0.mk hl120_2
                  clear hi120_2 hl120_2
                  replace p120 := eq_true p120
                  replace q120 := eq_true q120
                  go_wp2_with (first | ((with_reducible refine gate_builtin (b := .append) (xs := #[.tmp 16, .tmp 22]) rfl ?_); at_builtin; refine Kd.R_append k35 (w0 := w) w.heap.size rfl (.tmp 16) (.tmp 22) 30 35 (.agg #[(.string ⟨#[]⟩), (.string ⟨#[]⟩)]) 32 rfl Try.underlying30 info35 rfl (by decide) (by omega) u5 x5_1 (⟨(rd_T37 l0 (rd t116 x12_1)).f0.f0, (rd_T37 l0 (rd t116 x12_1)).f0.f1⟩ : S35) [.string ((rd_T37 l0 (rd t116 x12_1)).f0.f0), .string ((rd_T37 l0 (rd t116 x12_1)).f0.f1)] (fun _ => True) (fun _ => False) rfl rfl ?aP (fun _ hk => hk.elim) ?aF ?aO ?aB ?aS ?aL ?_; (case aP => exact k35_mkM _ _ _ (⟨(rd_T37 l0 (rd t116 x12_1)).f0.f0, (rd_T37 l0 (rd t116 x12_1)).f0.f1⟩ : S35)); (case aB => exact (by repeat (first | (with_reducible first | exact HB.out | apply below_alloc | apply pw_below_drewN | apply below_drew1) | exact HB.out))); (case aF => exact (fun _ _ => trivial)); (case aO => exact (by (with_reducible repeat (first | apply Kd.R_alloc | apply Kd.R_drewN | apply Kd.R_drew)); exact HO_5.out)); (case aS => exact (below_size (by repeat (first | (with_reducible first | exact HB.out | apply below_alloc | apply pw_below_drewN | apply below_drew1) | exact HB.out)))); (case aL => have := LMc11.out; omega); intro v122 w12 ho hb hg hat; rw [← Ny121.out] at ho; have n0_ := Aside0.mk (Kd.R_over' (by (with_reducible repeat (first | apply Kd.R_alloc | apply Kd.R_drewN | apply Kd.R_drew)); exact HO_10.out) (Kd.R_typed (by (with_reducible repeat (first | apply Kd.R_alloc | apply Kd.R_drewN | apply Kd.R_drew)); exact HO_5.out)) (by decide) hg); have n1_ := Aside0.mk (hb); have n2_ := Aside0.mk (ho); clear HO_10; clear HB; clear HO_5; have HO_10 := n0_; have HB := n1_; have HO123 := n2_; clear n0_ n1_ n2_; clear ho hb hg hat))
                  go_roundg k1
                  case measure => have := HK1.out; omega
                  case rel => exact ⟨(y121), (wrap64 (x12_1 + 1)), (by first | rfl | (simp; done) | (simp [*]; done)), H', ⟨by have := HK1.out; omega⟩, ⟨by (with_reducible repeat (first | apply Kd.R_alloc | apply Kd.R_drewN | apply Kd.R_drew)); exact HO123.out⟩, ⟨by (with_reducible repeat (first | apply Kd.R_alloc | apply Kd.R_drewN | apply Kd.R_drew)); exact HO_10.out⟩, ⟨by repeat (first | (with_reducible first | exact HB.out | apply below_alloc | apply pw_below_drewN | apply below_drew1) | exact HB.out)⟩⟩
                · rw [if_neg c11] at H
                  exact absurd H (by simp)
              · rw [if_neg c10] at H
                exact absurd H (by simp)
            · rw [if_neg c9] at H
              exact absurd H (by simp)
          · rw [if_neg c8] at H
            exact absurd H (by simp)
        · rw [if_neg c7] at H
          exact absurd H (by simp)
      · rw [if_neg c6] at H
        have c6b0 : decide (x12_1 < (t116.length : Int)) = false := decide_eq_false c6
        clear c6
        replace H := Option.bind_eq_some_iff.mp H
        obtain ⟨t124, A130, H⟩ := H
        replace H : (some t124) = some r := H
        have A13 := Aside0.mk A130
        clear A130
        obtain rfl := Option.some.inj H
        obtain ⟨Ao14, co14, eo14⟩ := Kd.R_slice HO_5.out
        subst eo14
        go_wp2_with (first | ((with_reducible refine gate_callee (f := 35) rfl ?_); refine goesL_ (some 26) rfl rfl Try.func35 (by kernel_rfl) rfl #[.slice Ao14 x5_1.length co14] rfl (by (try simp only [List.map_toArray, List.map_cons, List.map_nil]); first | done | rfl | (simp only [List.length_drop, List.length_take]; rfl)) ?_; (with_reducible refine (span_Union.calls _ _ x5_1 t124 _ ?side1 ?side2 A13.out).mono ?_); (case side1 => repeat (first | exact (Kd.R_reads' HO_5.out).2.2 | (with_reducible refine Kd.C_alloc ?_ _) | (with_reducible refine Kd.C_drewN ?_ _) | (with_reducible refine Kd.C_drew ?_))); (case side2 => exact (Kd.R_reads' HO_5.out).2.1); rintro e w15 ⟨v125, rfl, ho0, hb⟩; refine ⟨_, rfl, ?_⟩; have n0_ := Aside0.mk (Kd.R_elder' (by (with_reducible repeat (first | apply Kd.R_alloc | apply Kd.R_drewN | apply Kd.R_drew)); exact HO_5.out) (Kd.R_base ho0) hb); have n1_ := Aside0.mk (Kd.R_below (by (with_reducible repeat (first | apply Kd.R_alloc | apply Kd.R_drewN | apply Kd.R_drew)); exact HO_10.out) hb); have n2_ := Aside0.mk (Kd.R_lower (Kd.R_new' ho0 (Kd.R_lt (by (with_reducible repeat (first | apply Kd.R_alloc | apply Kd.R_drewN | apply Kd.R_drew)); exact HO_5.out))) (below_size (by repeat (first | (with_reducible first | exact HB.out | apply below_alloc | apply pw_below_drewN | apply below_drew1) | exact HB.out)))); have n3_ := Aside0.mk (below_step (by repeat (first | (with_reducible first | exact HB.out | apply below_alloc | apply pw_below_drewN | apply below_drew1) | exact HB.out)) hb); clear HO_5; clear HO_10; clear HB; have HO_5 := n0_; have HO_10 := n1_; have HO126 := n2_; have HB := n3_; clear n0_ n1_ n2_ n3_; (try clear hb); (try clear hb2); (try clear hk); (try clear hi); (try clear ho0)))
        go_ret
        exact ⟨_, by first | rfl | (simp [errW_none, errW_some] <;> rfl) | (simp [*, errW_none, errW_some] <;> rfl), by (with_reducible repeat (first | apply Kd.R_alloc | apply Kd.R_drewN | apply Kd.R_drew)); exact Kd.R_mono HO126.out (fun _ hk => trivial), by repeat (first | (with_reducible first | exact HB.out | apply below_alloc | apply pw_below_drewN | apply below_drew1) | exact HB.out)⟩
end Go.Proofs.Ytaedgbkeiankcaa.P
namespace Go.Proofs.Ytaedgbkeiankcaa.P
open Go.RowKit Go.Proofs.YtaedgbkeiankcaaW.PrintWords Go.Proofs.YtaedgbkeiankcaaW.PrintLast Go.Proofs.YtaedgbkeiankcaaW.PrintMore
attribute [local go_sem] str_leq str_geq max2_str max2_int min2_int max_two min_two max_three min_three max_four min_four
set_option linter.unusedVariables false
set_option linter.unusedSimpArgs false
def topo_Keeps.f (k : Nat) (l0 : List (S37)) (a1 : Int) (l2 : List Int) : Option (Bool) := (topo_Nodes.f l0 l2).bind fun t129 => ((slices_Contains_int_int.f k t129 a1).bind fun t132 => (some t132))
theorem topo_Keeps.mono : ∀ a0 a1 a2 k, LeO (topo_Keeps.f k a0 a1 a2) (topo_Keeps.f (k + 1) a0 a1 a2) := by
  intro a0 a1 a2 k
  unfold topo_Keeps.f
  repeat' first
      | (with_reducible exact slices_Contains_int_int.mono _ _ _)
      | (with_reducible exact LeO.refl _)
      | (with_reducible exact LeO.none _)
      | (with_reducible refine LeO.ite ?_ ?_)
      | (with_reducible refine LeO.bind ?_ (fun _ => ?_))
      | exact slices_Contains_int_int.mono _ _ _
      | exact LeO.none _
      | refine LeO.ite ?_ ?_
      | refine LeO.bind ?_ (fun _ => ?_)
set_option maxHeartbeats 8000000 in
set_option maxRecDepth 100000 in
theorem topo_Keeps.calls (k : Nat) (A0 : Option Addr) (c0 : Nat) (l0 : List (S37)) (a1 : Int) (A2 : Option Addr) (c2 : Nat) (l2 : List Int) (r : Bool) (w : World) (hr0 : Kd.C k37 w A0 l0.length l0) (hc0 : l0.length ≤ c0) (hr2 : Kd.C (Kd.int .i64) w A2 l2.length l2) (hc2 : l2.length ≤ c2) (h : topo_Keeps.f k l0 a1 l2 = some r) :
    Calls Try.prog 19 #[.slice A0 l0.length c0, .int .i64 a1, .slice A2 l2.length c2] w fun e w' => e = .returned (.bool r) ∧ Below w.heap.size w w' := by
  have HR0 := Aside0.mk hr0
  have HC0 := Aside0.mk hc0
  clear hr0 hc0
  have HR2 := Aside0.mk hr2
  have HC2 := Aside0.mk hc2
  clear hr2 hc2
  have HB := Aside0.mk (Below.refl w.heap.size w)
  have H : ((topo_Nodes.f l0 l2).bind fun t129 => ((slices_Contains_int_int.f k t129 a1).bind fun t132 => (some t132))) = some r := h
  clear h
  replace H := Option.bind_eq_some_iff.mp H
  obtain ⟨t129, A40, H⟩ := H
  replace H : ((slices_Contains_int_int.f k t129 a1).bind fun t132 => (some t132)) = some r := H
  have A4 := Aside0.mk A40
  clear A40
  replace H := Option.bind_eq_some_iff.mp H
  obtain ⟨t132, A50, H⟩ := H
  replace H : (some t132) = some r := H
  have A5 := Aside0.mk A50
  clear A50
  obtain rfl := Option.some.inj H
  go_enter Try.func19, Try.ntmps19
  go_wp2_with (first | ((with_reducible refine gate_callee (f := 18) rfl ?_); refine goesL_ (some 9) rfl rfl Try.func18 (by kernel_rfl) rfl #[.slice A0 l0.length c0, .slice A2 l2.length c2] rfl (by (try simp only [List.map_toArray, List.map_cons, List.map_nil]); first | done | rfl | (simp only [List.length_drop, List.length_take]; rfl)) ?_; (with_reducible refine (topo_Nodes.calls _ _ l0 _ _ l2 t129 _ ?side1 ?side2 ?side3 ?side4 A4.out).mono ?_); (case side1 => repeat (first | exact HR0.out | (with_reducible refine Kd.C_alloc ?_ _) | (with_reducible refine Kd.C_drewN ?_ _) | (with_reducible refine Kd.C_drew ?_))); (case side2 => exact HC0.out); (case side3 => repeat (first | exact HR2.out | (with_reducible refine Kd.C_alloc ?_ _) | (with_reducible refine Kd.C_drewN ?_ _) | (with_reducible refine Kd.C_drew ?_))); (case side4 => exact HC2.out); rintro e w6 ⟨v130, rfl, ho0, hb⟩; refine ⟨_, rfl, ?_⟩; have n0_ := Aside0.mk (Kd.R_lower ho0 (below_size (by repeat (first | (with_reducible first | exact HB.out | apply below_alloc | apply pw_below_drewN | apply below_drew1) | exact HB.out)))); have n1_ := Aside0.mk (below_step (by repeat (first | (with_reducible first | exact HB.out | apply below_alloc | apply pw_below_drewN | apply below_drew1) | exact HB.out)) hb); clear HB; have HO131 := n0_; have HB := n1_; clear n0_ n1_; (try clear hb); (try clear hb2); (try clear hk); (try clear hi); (try clear ho0); obtain ⟨Ao7, co7, eo7⟩ := Kd.R_slice HO131.out; subst eo7) | ((with_reducible refine gate_callee (f := 38) rfl ?_); refine goesL_ (some 11) rfl rfl Try.func38 (by kernel_rfl) rfl #[.slice Ao7 t129.length co7, .int .i64 a1] rfl (by (try simp only [List.map_toArray, List.map_cons, List.map_nil]); first | done | rfl | (simp only [List.length_drop, List.length_take]; rfl)) ?_; (with_reducible refine (slices_Contains_int_int.calls k _ _ t129 a1 t132 _ ?side1 ?side2 A5.out).mono ?_); (case side1 => repeat (first | exact (Kd.R_reads' HO131.out).2.2 | (with_reducible refine Kd.C_alloc ?_ _) | (with_reducible refine Kd.C_drewN ?_ _) | (with_reducible refine Kd.C_drew ?_))); (case side2 => exact (Kd.R_reads' HO131.out).2.1); rintro e w' ⟨rfl, ⟨nd, rfl⟩⟩; refine ⟨_, rfl, ?_⟩))
  go_ret
  exact ⟨by first | rfl | (simp [errW_none, errW_some] <;> rfl) | (simp [*, errW_none, errW_some] <;> rfl), by repeat (first | (with_reducible first | exact HB.out | apply below_alloc | apply pw_below_drewN | apply below_drew1) | exact HB.out)⟩
end Go.Proofs.Ytaedgbkeiankcaa.P
