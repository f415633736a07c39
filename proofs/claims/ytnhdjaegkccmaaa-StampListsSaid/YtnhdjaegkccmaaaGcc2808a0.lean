/- Texts of the proofs of StampLists, merged (StMrg, StRs, Pxfmlaw01StampLists, PLists). -/
import Derived.Test.YtnhdjaegkccmaaaG3ae47002
import Derived.Test.YtnhdjaegkccmaaaWZeros
import Derived.Test.YtnhdjaegkccmaaaG612e19dd
import Derived.Test.YtnhdjaegkccmaaaG1023911b
import Derived.Test.YtnhdjaegkccmaaaGbfdcfc1a
import Derived.Test.YtnhdjaegkccmaaaGa13bd297
import Derived.Test.YtnhdjaegkccmaaaG1050571d
/- Contracts: slices.Grow of nil, slices.Concat at stamps; stamp.Merge in the print's form. -/
namespace Go.Proofs.Ytnhdjaegkccmaaa.P
open Go.RowKit
open Go.Proofs.YtnhdjaegkccmaaaW.PrintWords (Kd Aside0 run_append_zeros)
set_option linter.unusedVariables false

theorem wpList_app2 {P : Program} {ops : Array Oper} {rest : List Oper} {o : Oper} {a : Act} {w : World} {Q : Exit → Act → World → Prop} (hgd : o.guard = none) (s x : Operand) (t ti : TypeId)
    (ho : o.op = .call { callee := .builtin .append, args := #[s, x], argTypes := #[t, ti] }) (v xv v' : Value) (w' : World) (hs : a.eval s = v) (hx : a.eval x = xv)
    (hrun : (Builtin.append_ #[t, ti] o.type #[v, xv]).run P w = .ok v' w') (h : wpList P ops Q rest (a.put o.dst v') w') : wpList P ops Q (o :: rest) a w := by
  refine wpList_plain hgd fun _ hK => ?_
  unfold Oper.wp execOp
  simp only [ho, resolve, invoke, builtin, Sem.run_bind, Sem.run_pure, Result.andThen_ok, List.map_toArray, List.map_cons, List.map_nil, hs, hx, hrun]
  exact hK _ _ h
set_option maxRecDepth 100000 in
theorem growN_st (n : Nat) (w : World) (hn : n < 4398046511104) : Calls Try.prog 56 #[.slice none 0 0, .int .i64 n] w fun e w' => ∃ v, e = .returned v ∧ w'.ownsRow w.heap.size 23 2 v 0 [] ∧ Ext w w' := by
  rcases Nat.eq_zero_or_pos n with rfl | hp
  · go_enter Try.func56, Try.ntmps56
    go_wp2
    go_ret
    exact ⟨_, rfl, World.ownsRow_nil _ _ _ _, Ext.refl _⟩
  · have hz0 : ¬ (n : Int) < 0 := by omega
    have hz1 : (n : Int) > 0 := by omega
    obtain ⟨i0, hi0, hzz0, hzz1, hzz2⟩ := info_parts info_st
    have happ := run_append_zeros (P := Try.prog) w w.heap.size 31 3 31 23 i0 _ 2 16 Try.underlying31 Try.underlying3 hi0 hzz0 hzz1 hzz2 (by simp [Value.cells]) (by omega) (by omega) _ 0 [] (World.ownsRow_nil w w.heap.size 23 2) .i64 n (by
      intro u hu
      rw [zeroCells_list] at hu
      obtain ⟨y, hy, hu⟩ := List.mem_flatten.1 hu
      obtain rfl := List.eq_of_mem_replicate hy
      simp [Value.cells] at hu
      rcases hu with rfl | rfl <;> rfl) (by omega) (Nat.le_refl _)
    obtain ⟨v1, w1, hrun, hown, hg, hat⟩ := happ
    rw [zeroCells_list, List.nil_append, Nat.zero_add] at hown
    have hwz : Wide 2 (List.replicate n (Value.agg #[Value.int .i64 0, Value.int .i64 0]).cells.toList) := fun y hy => by
      obtain rfl := List.eq_of_mem_replicate hy
      refine ⟨by simp [Value.cells], fun u hu => ?_⟩
      simp [Value.cells] at hu
      rcases hu with rfl | rfl <;> rfl
    have hx : Ext w w1 := Chs.to_ext (S := fun _ => False) (Chs.grown (Chs.refl _ _) hg (fun i hi => by simp [Value.ownBlock] at hi)) (fun _ _ e => e)
    have hln : (List.replicate n (Value.agg #[Value.int .i64 0, Value.int .i64 0]).cells.toList).length = n := List.length_replicate
    have hown2 := hown
    conv at hown2 => arg 6; rw [← hln]
    rcases own_rowAt hown2 hwz with ⟨_, e0⟩ | ⟨g, cap, rest, hv, hb, hlt, hc, hm, hrow, hs⟩
    · have := congrArg List.length e0
      rw [hln] at this
      simp at this
      omega
    rw [hln] at hv hc
    subst hv
    have HRUN := Lib.hid hrun
    have HX := Lib.hid hx
    have HRow := Lib.hid (show w1.ownsRow w.heap.size 23 2 (.slice (some ⟨g, 0, none⟩) 0 cap) 0 [] from rowAt_own (xs := []) (rest := _) hrow (fun _ h => by cases h) hb (Nat.zero_le _) hm (by simpa using hs))
    clear hrun hown hown2 hg hat hx hwz hln hi0 hzz0 hzz1 hzz2 hrow hb hs hc
    go_enter Try.func56, Try.ntmps56
    go_wp2_with (at_builtin; go_loud (refine wpList_app2 rfl (.tmp 20) (.tmp 21) _ _ rfl _ _ _ _ rfl rfl HRUN.out ?_))
    go_ret
    exact ⟨_, rfl, HRow.out, HX.out⟩
theorem ownsRow_less {W : World} {b base n : Nat} {e : TypeId} {size : Nat} {v : Value} {xs : List Value} (h : W.ownsRow b e size v n xs) (hle : base ≤ b) : W.ownsRow base e size v n xs := by
  obtain ⟨h1, h2⟩ := h
  refine ⟨h1, ?_⟩
  rcases h2 with h2 | ⟨g, cap, cur, rfl, hg, r⟩
  · exact .inl h2
  · exact .inr ⟨g, cap, cur, rfl, Nat.le_trans hle hg, r⟩
theorem below_then_ {w W w2 : World} (h : Below w.heap.size w W) (k : Below W.heap.size W w2) : Below w.heap.size w w2 := h.trans (k.mono h.size)
theorem lists_at {w : World} {A : Option Addr} {ls : List (List Stp)} (h : Kd.C (Kd.slice 23 k23) w A ls.length ls) (j : Nat) (hj : j < ls.length) :
    ∃ ad A0 c0, A = some ad ∧ w.cell? (ad.add j) = some (.slice A0 ls[j].length c0) ∧ ls[j].length ≤ c0 ∧ Kd.C k23 w A0 ls[j].length ls[j] := by
  obtain ⟨ad, c, e, _, hK, hc⟩ := Kd.C_get h ([] : List Stp) (j : Int) (by omega) (by omega)
  have e2 : ls.getD (j : Int).toNat [] = ls[j] := by simp [List.getD_eq_getElem?_getD, hj]
  rw [e2] at hK
  obtain ⟨A0, c0, rfl, l0, g0⟩ := hK
  have hq := hc 0 _ rfl
  exact ⟨ad, A0, c0, e, by simpa [Kd.slice] using hq, l0, g0⟩
theorem flat_take_len (ls : List (List Stp)) (k : Nat) (hk : k < ls.length) : (ls.take (k + 1)).flatten = (ls.take k).flatten ++ ls[k] := by
  rw [List.take_succ_eq_append_getElem hk, List.flatten_append]
  simp
theorem flat_take_le (ls : List (List Stp)) (k : Nat) : (ls.take k).flatten.length ≤ ls.flatten.length := by
  conv => rhs; rw [← List.take_append_drop k ls, List.flatten_append, List.length_append]
  omega
set_option maxHeartbeats 4000000 in
set_option maxRecDepth 100000 in
theorem concatR_st (A : Option Addr) (c : Nat) (ls : List (List Stp)) (fl : List Stp) (hfl : ls.flatten = fl) (w : World) (hr : Kd.C (Kd.slice 23 k23) w A ls.length ls) (hl : fl.length < 4398046511104) :
    Calls Try.prog 50 #[.slice A ls.length c] w fun e w' => ∃ v, e = .returned v ∧ w'.ownsRow w.heap.size 23 2 v fl.length (fl.map encSt).flatten ∧ Ext w w' := by
  have hn63 := hr.2.1
  have HFL := Lib.hid hfl
  clear hfl
  have HR := Lib.hid hr
  clear hr
  go_enter Try.func50, Try.ntmps50
  go_wp2
  go_loopg [3, 11] ls.length (fun gg s3 s11 wr => ∃ k : Nat, k ≤ ls.length ∧ ls.length - k ≤ gg ∧ s3 = .int .i64 (ls.take k).flatten.length ∧ s11 = .int .i64 k ∧ Hid (Ext w wr))
  case atStart => exact ⟨0, Nat.zero_le _, by omega, rfl, rfl, Lib.hid (Ext.refl _)⟩
  case round =>
    obtain ⟨k, hk, hg, rfl, rfl, HX⟩ := hrel
    by_cases hlt : k < ls.length
    · have hltz : (k : Int) < (ls.length : Int) := by omega
      obtain ⟨ad, A0, c0, rfl, q0, _, _⟩ := lists_at HR.out k hlt
      have q1 := HX.out.below.cell (World.block_lt_of_cell? w _ q0) |>.trans q0
      have hs1 := flat_take_len ls k hlt
      have hs2 := flat_take_le ls (k + 1)
      rw [hs1, List.length_append, HFL.out] at hs2
      have HS := Lib.hid hs1
      clear q0 hs1
      generalize hA : (ls.take k).flatten = out at hs2 HS
      generalize ls[k] = x at q1 hs2 HS
      have hnn : ¬ ((out.length : Int) + (x.length : Int)) < 0 := by omega
      have hww : IntKind.i64.wrap ((out.length : Int) + (x.length : Int)) = (out.length : Int) + (x.length : Int) := by rw [IntKind.wrap_i64]; omega
      clear hA
      go_wp2
      go_roundg (ls.length - (k + 1))
      case measure => omega
      case rel => exact ⟨k + 1, by omega, by omega, by rw [HS.out, List.length_append]; go_num, by go_num, HX⟩
    · obtain rfl : k = ls.length := by omega
      have hltz : ¬ (ls.length : Int) < (ls.length : Int) := by omega
      rw [List.take_length, HFL.out]
      have hgrow := Lib.hid (growN_st fl.length wr hl)
      go_wp2_with fail
      refine hgrow.out.mono ?_
      rintro e w1 ⟨v1, rfl, hown1, hx1⟩
      have HO1 := Lib.hid hown1
      have hxx := HX.out.trans hx1
      have HX1 := Lib.hid hxx
      obtain ⟨B, hB⟩ : ∃ B, B = wr.heap.size := ⟨_, rfl⟩
      have hbase : B ≤ w1.heap.size := hB ▸ hx1.below.size
      have hlow : w.heap.size ≤ B := hB ▸ HX.out.below.size
      rw [← hB] at HO1
      clear hB
      obtain ⟨i0, hi0, hz0, hz1, hz2⟩ := info_parts info_st
      have HI0 := Lib.hid hi0
      have HZ0 := Lib.hid hz0
      have HZ1 := Lib.hid hz1
      have HZ2 := Lib.hid hz2
      clear hown1 hx1 hgrow hi0 hz0 hz1 hz2 hxx
      go_wp2
      go_loopg [6, 27] ls.length (fun gg s6 s27 wq => ∃ k : Nat, k ≤ ls.length ∧ ls.length - k ≤ gg ∧ s27 = .int .i64 k ∧ Hid (wq.ownsRow B 23 2 s6 (ls.take k).flatten.length ((ls.take k).flatten.map encSt).flatten) ∧ Hid (Ext w wq) ∧ Hid (B ≤ wq.heap.size))
      case atStart => exact ⟨0, Nat.zero_le _, by omega, rfl, HO1, HX1, Lib.hid hbase⟩
      case round =>
        clear HO1 HX1 hbase hltz hg hk
        obtain ⟨k, hk, hg, rfl, HO, HXq, HBs⟩ := hrel
        by_cases hlt : k < ls.length
        · have hltz : (k : Int) < (ls.length : Int) := by omega
          obtain ⟨ad, A0, c0, rfl, q0, hc0, hC⟩ := lists_at HR.out k hlt
          have q1 := HXq.out.below.cell (World.block_lt_of_cell? w _ q0) |>.trans q0
          have hs1 := flat_take_len ls k hlt
          have hs2 := flat_take_le ls (k + 1)
          rw [hs1, List.length_append, HFL.out] at hs2
          have HS := Lib.hid hs1
          have hrd := C_rawSt (Kd.C_below hC HXq.out.below)
          rw [List.length_map] at hrd
          have HRD := Lib.hid hrd
          have h1 : ∀ u ∈ (ls[k].map encSt).flatten, u.oneCell' = true := fun u hu => by obtain ⟨y, hy, hu⟩ := List.mem_flatten.1 hu; exact (wideSt _ y hy).2 u hu
          have H1 := Lib.hid h1
          clear q0 hs1 hC hrd h1
          generalize hA : (ls.take k).flatten = out at hs2 HS HO
          generalize ls[k] = x at q1 hs2 HS hc0 HRD H1
          clear hA
          go_wp2_with (at_builtin; go_loud (refine wpList_append_any _ rfl (.tmp 31) (.tmp 32) _ rfl B 23 i0 _ 2 16 Try.underlying31 HI0.out HZ0.out HZ1.out HZ2.out (by simp [Value.cells]) (by omega) _ _ _ rfl HO.out _ A0 x.length c0 _ rfl HRD.out H1.out (by simp only [maxLen]; omega) (by omega) HBs.out ?_); intro v2 w2 hown2 hg2 hat2)
          have HO2 := Lib.hid hown2
          have HX2 := Lib.hid (Chs.to_ext (S := fun i => i ≥ w.heap.size) (Chs.grown (.of_ext HXq.out) hg2 (fun i hi => .inr (by have := (HO.out.lt i hi).1; show i ≥ w.heap.size; omega))) (fun i hi e => by omega))
          have HB2 := Lib.hid (Nat.le_trans HBs.out hg2.size)
          clear hown2 hg2 hat2 HRD H1
          go_wp2
          go_roundg (ls.length - (k + 1))
          case measure => omega
          case rel =>
            refine ⟨k + 1, by omega, by omega, by go_num, ?_, HX2, HB2⟩
            rw [HS.out, List.length_append, List.map_append, List.flatten_append]
            exact HO2
        · obtain rfl : k = ls.length := by omega
          have hltz : ¬ (ls.length : Int) < (ls.length : Int) := by omega
          rw [List.take_length, HFL.out] at HO
          go_wp2
          go_ret
          exact ⟨_, rfl, ownsRow_less HO.out hlow, HXq.out⟩
/-- stamp.Merge -/
def stamp_Merge.f (l0 : List (List Stp)) : Option (List Stp) := if l0.flatten.length < 4398046511104 then some (sortL l0.flatten) else none
theorem stamp_Merge.calls (A0 : Option Addr) (c0 : Nat) (l0 : List (List Stp)) (r : List Stp) (w : World) (hr0 : Kd.C (Kd.slice 23 k23) w A0 l0.length l0) (hc0 : l0.length ≤ c0) (h : stamp_Merge.f l0 = some r) :
    Calls Try.prog 38 #[.slice A0 l0.length c0] w fun e w' => ∃ v0_ : Value, e = .returned (v0_) ∧ Kd.R k23 23 w' w.heap.size (fun _ => True) v0_ r ∧ Below w.heap.size w w' := by
  unfold stamp_Merge.f at h
  by_cases hl : l0.flatten.length < 4398046511104
  · rw [if_pos hl] at h
    obtain rfl := Option.some.inj h
    have hcon := Lib.hid (concatR_st A0 c0 l0 _ rfl w hr0 hl)
    clear h hr0
    generalize l0.flatten = fl at hcon hl ⊢
    go_enter Try.func38, Try.ntmps38
    go_wp2_with fail
    refine hcon.out.mono ?_
    rintro e w1 ⟨v1, rfl, hown1, hx1⟩
    have hR1 := R_rawSt hown1
    obtain ⟨A1, c1, rfl⟩ := Kd.R_slice hR1
    have hrd := Kd.R_reads' hR1
    have hs := Lib.hid (sortS_walk A1 c1 fl w1 hrd.2.2 hrd.2.1 hl)
    have HX1 := Lib.hid hx1
    clear hcon hown1 hR1 hrd hx1
    go_wp2_with fail
    refine hs.out.mono ?_
    rintro e w2 ⟨v2, rfl, hR2, hb2⟩
    have HR2 := Lib.hid hR2
    have HB2 := Lib.hid hb2
    clear hR2 hb2
    go_wp2
    go_ret
    exact ⟨v2, rfl, Kd.R_lower HR2.out HX1.out.below.size, below_then_ HX1.out.below HB2.out⟩
  · rw [if_neg hl] at h
    cases h
end Go.Proofs.Ytnhdjaegkccmaaa.P
/- Contracts: the reference's Add and Sort of stamps, in the print's form. -/
namespace Go.Proofs.Ytnhdjaegkccmaaa.P
open Go.RowKit
open Go.Proofs.YtnhdjaegkccmaaaW.PrintWords (Kd Aside0)
set_option linter.unusedVariables false
attribute [local go_sem high] eqASt

/-- the first that is not less -/
def fstL (l : List Stp) (s : Stp) : Nat := (l.takeWhile fun x => ltS x s).length
def addL (l : List Stp) (s : Stp) : List Stp := if fstL l s < l.length ∧ l.getD (fstL l s) default = s then l else l.take (fstL l s) ++ [s] ++ l.drop (fstL l s)
theorem fstL_le (l : List Stp) (s : Stp) : fstL l s ≤ l.length := by
  unfold fstL
  exact (List.takeWhile_prefix _).length_le
theorem fstL_lt (l : List Stp) (s : Stp) (j : Nat) (h : j < fstL l s) : ltS (l[j]'(by have := fstL_le l s; omega)) s = true := by
  have hp := List.takeWhile_prefix (l := l) (fun x => ltS x s)
  have hj : j < (l.takeWhile fun x => ltS x s).length := h
  have e := hp.getElem hj
  rw [← e]
  exact (List.all_eq_true.1 (List.all_takeWhile (l := l) (p := fun x => ltS x s))) _ (List.getElem_mem hj)
theorem fstL_at (l : List Stp) (s : Stp) (h : fstL l s < l.length) : ltS l[fstL l s] s = false := by
  unfold fstL at h ⊢
  induction l with
  | nil => simp at h
  | cons a l ih =>
    cases e : ltS a s with
    | true =>
      simp only [List.takeWhile_cons, e, if_true, List.length_cons, List.getElem_cons_succ] at h ⊢
      exact ih (by omega)
    | false => simp only [List.takeWhile_cons, e, Bool.false_eq_true, if_false, List.length_nil, List.getElem_cons_zero]
theorem fstL_eq (l : List Stp) (s : Stp) (k : Nat) (hk : k ≤ l.length) (h1 : ∀ j (h : j < l.length), j < k → ltS l[j] s = true) (h2 : ∀ h : k < l.length, ltS l[k] s = false) : fstL l s = k := by
  have h3 := fstL_le l s
  rcases Nat.lt_trichotomy (fstL l s) k with h | h | h
  · have := h1 (fstL l s) (by omega) h
    rw [fstL_at l s (by omega)] at this
    cases this
  · exact h
  · have := fstL_lt l s k h
    rw [h2 (by omega)] at this
    cases this
theorem addL_len (l : List Stp) (s : Stp) : (addL l s).length ≤ l.length + 1 := by
  unfold addL
  split
  · omega
  · have := fstL_le l s
    simp
    omega
theorem addL_mem (l : List Stp) (s x : Stp) : x ∈ addL l s ↔ x ∈ l ∨ x = s := by
  unfold addL
  split
  · rename_i h
    constructor
    · exact .inl
    · rintro (h1 | rfl)
      · exact h1
      · have e : l.getD (fstL l x) default = l[fstL l x]'h.1 := getD_at l _ h.1
        have := h.2
        rw [e] at this
        have hm := List.getElem_mem h.1
        rw [this] at hm
        exact hm
  · rw [List.mem_append, List.mem_append, List.mem_singleton]
    conv => rhs; rw [← List.take_append_drop (fstL l s) l, List.mem_append]
    constructor
    · rintro ((h | h) | h)
      · exact .inl (.inl h)
      · exact .inr h
      · exact .inl (.inr h)
    · rintro ((h | h) | h)
      · exact .inl (.inl h)
      · exact .inr h
      · exact .inl (.inr h)
theorem addL_ris {l : List Stp} (hl : RisS l) (s : Stp) : RisS (addL l s) := by
  unfold addL
  split
  · exact hl
  · rename_i hn
    have hle := fstL_le l s
    have hlt : ∀ x ∈ l.take (fstL l s), ltS x s = true := fun x hx => by
      obtain ⟨j, hj, rfl⟩ := List.getElem_of_mem hx
      rw [List.length_take] at hj
      rw [List.getElem_take]
      exact fstL_lt l s j (by omega)
    have hgt : ∀ x ∈ l.drop (fstL l s), ltS s x = true := fun x hx => by
      obtain ⟨j, hj, rfl⟩ := List.getElem_of_mem hx
      rw [List.length_drop] at hj
      rw [List.getElem_drop]
      have h0 : fstL l s < l.length := by omega
      have h1 := fstL_at l s h0
      have hne : ¬ l[fstL l s] = s := fun e => hn ⟨h0, by rw [getD_at l _ h0]; exact e⟩
      have h2 : ltS s l[fstL l s] = true := by
        cases e : ltS s l[fstL l s] with
        | true => rfl
        | false => exact absurd (ltS_eq h1 e) hne
      by_cases hj0 : j = 0
      · subst hj0; simpa using h2
      · exact ltS_trans h2 (ris_at hl (show fstL l s < fstL l s + j by omega) (by omega))
    refine List.pairwise_append.2 ⟨List.pairwise_append.2 ⟨ris_take hl _, List.pairwise_singleton .., fun x hx y hy => ?_⟩, hl.sublist (List.drop_sublist ..), fun x hx y hy => ?_⟩
    · obtain rfl := List.mem_singleton.1 hy
      exact hlt x hx
    · rcases List.mem_append.1 hx with h | h
      · exact ltS_trans (hlt x h) (hgt y hy)
      · obtain rfl := List.mem_singleton.1 h
        exact hgt y hy
def addAll (l : List Stp) : List Stp := l.foldl addL []
theorem addAll_take (l : List Stp) (k : Nat) (hk : k < l.length) : addAll (l.take (k + 1)) = addL (addAll (l.take k)) l[k] := by
  unfold addAll
  rw [List.take_succ_eq_append_getElem hk, List.foldl_append]
  rfl
theorem addAll_len (l : List Stp) : (addAll l).length ≤ l.length := by
  suffices h : ∀ (l out : List Stp), (l.foldl addL out).length ≤ out.length + l.length by
    have := h l []; simpa [addAll] using this
  intro l
  induction l with
  | nil => intro out; simp
  | cons a l ih =>
    intro out
    rw [List.foldl_cons]
    refine Nat.le_trans (ih _) ?_
    have := addL_len out a
    simp only [List.length_cons]
    omega
theorem addAll_sort (l : List Stp) : addAll l = sortL l := by
  have h : ∀ (l out : List Stp), RisS out → RisS (l.foldl addL out) ∧ ∀ x, x ∈ l.foldl addL out ↔ x ∈ out ∨ x ∈ l := by
    intro l
    induction l with
    | nil => intro out ho; exact ⟨ho, fun x => by simp⟩
    | cons a l ih =>
      intro out ho
      obtain ⟨h1, h2⟩ := ih (addL out a) (addL_ris ho a)
      refine ⟨h1, fun x => ?_⟩
      rw [List.foldl_cons, h2, addL_mem, List.mem_cons, or_assoc]
  obtain ⟨h1, h2⟩ := h l [] RisS.nil
  exact (sortL_of h1 fun x => by rw [h2]; simp).symm
/-! ### the walks -/
def cst (l : List Stp) : List Value := (l.map encSt).flatten
theorem cst_len (l : List Stp) : (cst l).length = l.length * 2 := by unfold cst; rw [(wideSt l).len, List.length_map]
theorem cst_one (l : List Stp) : ∀ u ∈ cst l, u.oneCell' = true := fun u hu => by obtain ⟨y, hy, hu⟩ := List.mem_flatten.1 hu; exact (wideSt _ y hy).2 u hu
theorem cst_append (a b : List Stp) : cst (a ++ b) = cst a ++ cst b := by unfold cst; rw [List.map_append, List.flatten_append]
theorem cst_take_eq (l : List Stp) (q : Nat) (hq : q ≤ l.length) : cst (l.take q) = (cst l).take (q * 2) := by
  unfold cst
  rw [(wideSt l).flat_take q (by rw [List.length_map]; exact hq), List.map_take]
theorem cst_drop_eq (l : List Stp) (q : Nat) (hq : q ≤ l.length) : cst (l.drop q) = (cst l).drop (q * 2) := by
  have h1 : cst l = cst (l.take q) ++ cst (l.drop q) := by rw [← cst_append, List.take_append_drop]
  have h2 : (cst (l.take q)).length = q * 2 := by rw [cst_len, List.length_take, Nat.min_eq_left hq]
  rw [h1, ← h2, List.drop_left]
theorem st_none {w : World} {base p : Nat} {t : TypeId} {k : Nat} (hp : w.heap.size = p) (hb : base ≤ w.heap.size) : (w.alloc (.cells #[] t)).ownsRow base t k (.slice (some ⟨p, 0, none⟩) 0 0) 0 (cst []) := by
  subst hp
  exact own_none w base hb t k
theorem st_cut (A : Option Addr) (n c q : Nat) (hq : q ≤ n) (W : World) : (Instr.slice 31 (.slice A n c) (some (.int .i64 (q : Int))) none none).run Try.prog W = .ok (.slice (if c = q then A else A.map (·.add (q * 2))) (n - q) (c - q)) W := by
  obtain ⟨i0, hi0, hz0, hz1, hz2⟩ := info_parts info_st
  have := Go.Proofs.YtnhdjaegkccmaaaW.PrintWords.cut_from (P := Try.prog) 31 23 .i64 Try.underlying31 hi0 2 hz1 A n c q (by omega) (by omega) W
  rw [this]
  simp
theorem st_upto (A : Option Addr) (n c q : Nat) (hq : q ≤ n) (hc : n ≤ c) (W : World) : (Instr.slice 31 (.slice A n c) none (some (.int .i64 (q : Int))) none).run Try.prog W = .ok (.slice A q c) W := by
  obtain ⟨i0, hi0, hz0, hz1, hz2⟩ := info_parts info_st
  have := Go.Proofs.YtnhdjaegkccmaaaW.PrintWords.cut_to (P := Try.prog) 31 23 .i64 Try.underlying31 hi0 A n c q (by omega) (by omega) hc W
  rw [this]
  simp
theorem st_grown {wr W W' : World} {row : Option Nat} (hE : Ext wr W) (hg : W.grownBy W' row) (hr : ∀ i, row = some i → wr.heap.size ≤ i) : Ext wr W' :=
  ⟨hg.os.trans hE.os, hg.tape.trans hE.tape, hg.output.trans hE.output, Nat.le_trans hE.size hg.size, fun i hi => (hg.block i (Nat.lt_of_lt_of_le hi hE.size) (fun e => by have := hr i e.symm; omega)).trans (hE.block i hi)⟩
theorem st_blk {W : World} {p : Nat} {t : TypeId} (s : Stp) (hp : W.heap.size = p) : Blk (W.alloc (.cells #[.int .i64 s.f0, .int .i64 s.f1] t)) p t #[.int .i64 s.f0, .int .i64 s.f1] := by
  subst hp
  exact Blk.new _ _ _
theorem st_reads {w : World} {g : Nat} {s : Stp} {t : TypeId} (h : Blk w g t #[.int .i64 s.f0, .int .i64 s.f1]) : Reads w (g + 1) 2 (some ⟨g, 0, none⟩) 1 (cst [s]) :=
  ⟨rfl, fun _ => ⟨_, rfl, Nat.lt_succ_self _, fun j v hv => by
    have : (⟨g, 0, none⟩ : Addr).add j = ⟨g, j, none⟩ := by unfold Addr.add; split <;> simp_all
    rw [this, h.cell, ← hv]
    simp [cst, encSt]⟩⟩
theorem st_at {W : World} {p : Nat} {t : TypeId} {cs : Array Value} (hp : W.heap.size = p) : (W.alloc (.cells cs t)).heap[p]? = some (.cells cs t (0, 0)) := by
  subst hp
  exact Blk.new _ _ _
theorem st_none2 {W : World} {base p : Nat} {t : TypeId} {k : Nat} (h : W.heap[p]? = some (.cells #[] t (0, 0))) (hb : base ≤ p) : W.ownsRow base t k (.slice (some ⟨p, 0, none⟩) 0 0) 0 (cst []) :=
  ⟨by simp [cst], .inr ⟨p, 0, #[], rfl, hb, h, Nat.le_refl _, by simp [maxLen], by simp, by simp [cst]⟩⟩
theorem st_readsB {w : World} {g : Nat} {s : Stp} {t : TypeId} (h : w.heap[g]? = some (.cells #[.int .i64 s.f0, .int .i64 s.f1] t (0, 0))) : Reads w (g + 1) 2 (some ⟨g, 0, none⟩) 1 (cst [s]) := st_reads (t := t) h
theorem st_keptB {W W2 w' : World} {v : Value} (h : ∀ g t cs, Blk W g t cs → v.ownBlock ≠ some g → Blk w' g t cs) {p : Nat} {t : TypeId} {s : Stp} (hb : W.heap[p]? = some (.cells #[.int .i64 s.f0, .int .i64 s.f1] t (0, 0))) (hn : v.ownBlock ≠ some p) (hx : Ext w' W2) : Reads W2 (p + 1) 2 (some ⟨p, 0, none⟩) 1 (cst [s]) :=
  st_reads ((h p t _ hb hn).ext hx)
theorem st_new {w : World} {t : TypeId} {p : Nat} (s : Stp) (hp : w.heap.size = p) : Reads (w.alloc (.cells #[.int .i64 s.f0, .int .i64 s.f1] t)) (p + 1) 2 (some ⟨p, 0, none⟩) 1 (cst [s]) := st_reads (st_blk s hp)
theorem st_kept {W w' : World} {v : Value} (h : ∀ g t cs, Blk W g t cs → v.ownBlock ≠ some g → Blk w' g t cs) {p : Nat} {t : TypeId} {s : Stp} (hb : Blk W p t #[.int .i64 s.f0, .int .i64 s.f1]) (hn : v.ownBlock ≠ some p) : Reads w' (p + 1) 2 (some ⟨p, 0, none⟩) 1 (cst [s]) :=
  st_reads (h _ _ _ hb hn)
theorem step_sts {ops : Array Oper} {o : Oper} {a : Act} {K : Act → World → Prop} {Q : Exit → Act → World → Prop} {E : Prop} (hgd : o.guard = none) (s x : Operand)
    (ho : o.op = .call { callee := .builtin .append, args := #[s, x], argTypes := #[31, 31] }) {wr W : World} (hE : Ext wr W)
    (v : Value) (n : Nat) (xs : List Stp) (hs : a.eval s = v) (hown : W.ownsRow wr.heap.size 23 2 v n (cst xs))
    (B : Nat) (A : Option Addr) (m c : Nat) (news : List Stp) (hx : a.eval x = .slice A m c) (hr : Reads W B 2 A m (cst news)) (h63 : n + m ≤ 4398046511104)
    (h : ∀ v' w', Ext wr w' → w'.ownsRow wr.heap.size 23 2 v' (n + m) (cst (xs ++ news)) → (∀ g t cs, Blk W g t cs → v.ownBlock ≠ some g → Blk w' g t cs) → K (a.put o.dst v') w') :
    if Region.wanted o (yielded ops a.tmps) = true then Oper.wp Try.prog o a W K Q else E := by
  obtain ⟨i0, hi0, hz0, hz1, hz2⟩ := info_parts info_st
  refine step_append_any W hgd s x 31 ho wr.heap.size 23 i0 _ 2 16 Try.underlying31 hi0 hz0 hz1 hz2 rfl (by omega) v n (cst xs) hs hown B A m c (cst news) hx hr (cst_one _) (by unfold maxLen; omega) (by omega) hE.size ?_
  intro v' w' h1 h2 h3
  refine h v' w' (st_grown hE h2 (fun i hi => (hown.lt i hi).1)) (by rw [cst_append]; exact h1) (fun g t cs hb hne => (h2.block g hb.lt (fun e => hne e.symm)).trans hb)
theorem cst_take {w : World} {B : Nat} {A : Option Addr} {l : List Stp} {q : Nat} (h : Reads w B 2 A l.length (cst l)) (hq : q ≤ l.length) : Reads w B 2 A q (cst (l.take q)) :=
  ⟨by rw [cst_len, List.length_take]; omega, fun hn => by
    obtain ⟨ad, e, hb, hc⟩ := h.2 (by omega)
    refine ⟨ad, e, hb, fun j u hu => hc j u ?_⟩
    rw [cst_take_eq l q hq, List.getElem?_take] at hu
    split at hu
    · exact hu
    · cases hu⟩
theorem cst_drop {w : World} {B : Nat} {A : Option Addr} {l : List Stp} {q c : Nat} (h : Reads w B 2 A l.length (cst l)) (hq : q ≤ l.length) (hc : l.length ≤ c) : Reads w B 2 (if c = q then A else A.map (·.add (q * 2))) (l.length - q) (cst (l.drop q)) := by
  have := h.cut (k := q) (cap := c) hq hc
  rw [cst_drop_eq l q hq]
  exact this
theorem Reads.ext_ {w w' : World} {size : Nat} {A : Option Addr} {n : Nat} {xs : List Value} (h : Reads w w.heap.size size A n xs) (hx : Ext w w') : Reads w' w.heap.size size A n xs :=
  ⟨h.1, fun hn => by
    obtain ⟨ad, e, hb, hc⟩ := h.2 hn
    exact ⟨ad, e, hb, fun j u hu => by rw [← hc j u hu]; exact hx.below.cell (by rw [block_of_add]; exact hb)⟩⟩
theorem st_ins {w : World} {base n q : Nat} {v : Value} {s : Stp} {l : List Stp} (h : w.ownsRow base 23 2 v n (cst ([] ++ l.take q ++ [s] ++ l.drop q))) : w.ownsRow base 23 2 v (l.take q ++ [s] ++ l.drop q).length (cst (l.take q ++ [s] ++ l.drop q)) := by
  rw [List.nil_append] at h
  have hl := h.1
  rw [cst_len] at hl
  have : n = (l.take q ++ [s] ++ l.drop q).length := by omega
  rw [← this]
  exact h
theorem st_ins' {w : World} {base n : Nat} {v : Value} {s : Stp} {l : List Stp} (h : w.ownsRow base 23 2 v n (cst ([] ++ l.take l.length ++ [s] ++ []))) : w.ownsRow base 23 2 v (l.take l.length ++ [s] ++ l.drop l.length).length (cst (l.take l.length ++ [s] ++ l.drop l.length)) :=
  st_ins (by rw [List.drop_length]; exact h)
theorem addL_new (l : List Stp) (s : Stp) (k : Nat) (hk : fstL l s = k) (hn : ¬ (k < l.length ∧ l.getD k default = s)) : addL l s = l.take k ++ [s] ++ l.drop k := by
  unfold addL
  rw [hk, if_neg hn]
theorem rlessQ (a b : Stp) : folkmootref01_Less.f a.f0 a.f1 b.f0 b.f1 = some (ltS a b) := by
  unfold folkmootref01_Less.f ltS
  by_cases h : a.f0 < b.f0
  · simp [h]
  · by_cases h2 : a.f0 = b.f0
    · simp [h2]
    · simp [h, h2]
set_option maxHeartbeats 16000000 in
set_option maxRecDepth 100000 in
theorem radd_walk (base : Nat) (A0 : Option Addr) (c0 : Nat) (l : List Stp) (s : Stp) (w : World) (h : w.ownsRow base 23 2 (.slice A0 l.length c0) l.length (cst l)) (hb : base ≤ w.heap.size) (hl : l.length < 2199023255552) (hcc : l.length ≤ c0) :
    Calls Try.prog 51 #[.slice A0 l.length c0, .agg #[.int .i64 s.f0, .int .i64 s.f1]] w fun e w' => ∃ v, e = .returned v ∧ w'.ownsRow base 23 2 v (addL l s).length (cst (addL l s)) ∧ Ext w w' := by
  have HO := Lib.hid h
  have HB := Lib.hid hb
  clear h hb
  go_enter Try.func51, Try.ntmps51
  go_wp2
  go_loopg [5] l.length (fun gg s5 wr => ∃ k : Nat, k ≤ l.length ∧ l.length - k ≤ gg ∧ s5 = .int .i64 k ∧ Hid (Ext w wr) ∧ Hid (∀ j (h : j < l.length), j < k → ltS l[j] s = true) ∧ Hid (wr.cell? ⟨w.heap.size, 0, none⟩ = some (.int .i64 s.f0)) ∧ Hid (wr.cell? ⟨w.heap.size, 1, none⟩ = some (.int .i64 s.f1)))
  case atStart => exact ⟨0, Nat.zero_le _, by omega, rfl, Lib.hid ((Ext.refl _).alloc _), Lib.hid (fun j h hj => absurd hj (Nat.not_lt_zero _)), Lib.hid (by simp), Lib.hid (by simp)⟩
  case round =>
    obtain ⟨k, hk, hg, rfl, HX, HL, HB0, HB1⟩ := hrel
    have q2 := HB0.out
    have q3 := HB1.out
    have HRl := Lib.hid (fun W (hW : Ext wr W) => (Reads.of_own (own_ext (own_ext HO.out HX.out) hW)).more (by exact Nat.le_refl _))
    by_cases hn : k < l.length
    · have hdn : decide ((k : Int) < (l.length : Int)) = true := by simpa using hn
      have hnz : (k : Int) < (l.length : Int) := by omega
      have hro := HRl.out wr (Ext.refl _)
      obtain ⟨ad, rfl, hbb, hcell⟩ := hro.2 (by omega)
      have hcl : ∀ i u, (encSt l[k])[i]? = some u → wr.cell? (ad.add (k * 2 + i)) = some u := fun i u hu => by
        have hi : i < 2 := (List.getElem?_eq_some_iff.1 hu).1
        exact hcell (k * 2 + i) u (by have := (wideSt l).at_ k (by simpa using hn) i hi []; rw [List.append_nil, List.getElem_map] at this; unfold cst; rw [this]; exact hu)
      have q0 := hcl 0 _ rfl
      have q1 := hcl 1 _ rfl
      rw [Nat.add_zero] at q0
      rw [add_plus _ _ 1 (by omega)] at q1
      have hx0 : l.getD k default = l[k] := getD_at l k hn
      obtain ⟨x, hx⟩ : ∃ x, x = l[k] := ⟨_, rfl⟩
      rw [← hx] at q0 q1 hx0
      have HXk := Lib.hid hx
      have HX0 := Lib.hid hx0
      have hcon := Lib.hid (fun W => folkmootref01_Less.calls x.f0 x.f1 s.f0 s.f1 (ltS x s) W (rlessQ x s))
      clear hx hx0 hcl hcell hro
      cases hq : ltS x s with
      | true =>
        rw [hq] at hcon
        have HQ := Lib.hid hq
        clear hq
        go_wp2
        refine wp_region_in wr (by kernel_rfl) (by kernel_rfl) (Ext.refl _) ?_
        repeat (refine wpQuiet_step (fun K hK => ?_); go_simp; first | (refine hK _ ?_; clear hK K) | (apply Exists.intro; refine ⟨fun w' hw' => ?_, hK _ ?_⟩; (first | (go_at_call 13; exact qcall hw' (hcon.out _)) |  (have f0 := Ext.cell hw' (World.block_lt_of_cell? wr _ q0) q0; have f1 := Ext.cell hw' (World.block_lt_of_cell? wr _ q1) q1; have f2 := Ext.cell hw' (World.block_lt_of_cell? wr _ q2) q2; have f3 := Ext.cell hw' (World.block_lt_of_cell? wr _ q3) q3; go_simp; rfl)); clear hK K))
        refine wpQuiet_nil ?_
        intro w' hw'
        have HC0 := Lib.hid (Ext.cell hw' (World.block_lt_of_cell? wr _ q2) q2)
        have HC1 := Lib.hid (Ext.cell hw' (World.block_lt_of_cell? wr _ q3) q3)
        have HX2 := Lib.hid (HX.out.trans hw')
        clear q0 q1 q2 q3 hw' hdn HRl
        go_wp2
        go_roundg (l.length - (k + 1))
        case measure => omega
        case rel => exact ⟨k + 1, by omega, by omega, by go_num, HX2, Lib.hid (fun j h hj => by
          by_cases e : j = k
          · subst e; rw [← HXk.out]; exact HQ.out
          · exact HL.out j h (by omega)), HC0, HC1⟩
      | false =>
        rw [hq] at hcon
        have HA := Lib.hid (fstL_eq l s k hk (fun j h hj => HL.out j h hj) (fun h => by rw [← HXk.out]; exact hq))
        clear hq
        go_wp2
        refine wp_region_in wr (by kernel_rfl) (by kernel_rfl) (Ext.refl _) ?_
        repeat (refine wpQuiet_step (fun K hK => ?_); go_simp; first | (refine hK _ ?_; clear hK K) | (apply Exists.intro; refine ⟨fun w' hw' => ?_, hK _ ?_⟩; (first | (go_at_call 13; exact qcall hw' (hcon.out _)) |  (have f0 := Ext.cell hw' (World.block_lt_of_cell? wr _ q0) q0; have f1 := Ext.cell hw' (World.block_lt_of_cell? wr _ q1) q1; have f2 := Ext.cell hw' (World.block_lt_of_cell? wr _ q2) q2; have f3 := Ext.cell hw' (World.block_lt_of_cell? wr _ q3) q3; go_simp; rfl)); clear hK K))
        refine wpQuiet_nil ?_
        intro w' hw'
        have HC0 := Lib.hid (Ext.cell hw' (World.block_lt_of_cell? wr _ q2) q2)
        have HC1 := Lib.hid (Ext.cell hw' (World.block_lt_of_cell? wr _ q3) q3)
        have HX2 := Lib.hid (HX.out.trans hw')
        have g0 := Ext.cell hw' (World.block_lt_of_cell? wr _ q0) q0
        have g1 := Ext.cell hw' (World.block_lt_of_cell? wr _ q1) q1
        have g2 := HC0.out
        have g3 := HC1.out
        clear q0 q1 q2 q3 hw' HRl
        cases hqe : (x.f0 == s.f0 && (x.f1 == s.f1)) with
        | true =>
          have HQ := Lib.hid hqe
          go_wp2
          go_quiet (fail)
          go_wp2
          go_ret
          have e : addL l s = l := by
            unfold addL
            rw [HA.out, if_pos ⟨hn, by rw [HX0.out]; have := HQ.out; rw [beq_stp] at this; exact of_decide_eq_true this⟩]
          rw [e]
          exact ⟨_, rfl, own_ext HO.out (HX2.out.drewN _), HX2.out.drewN _⟩
        | false =>
          have HA2 := Lib.hid (addL_new l s k HA.out (fun h => by have h2 := h.2; rw [HX0.out] at h2; have := hqe; rw [beq_stp, decide_eq_true h2] at this; cases this))
          clear HA
          have HA := HA2
          clear HA2
          go_wp2
          go_quiet (fail)
          go_wp2
          clear g0 g1 g2 g3 hqe hdn
          obtain ⟨wz, hwz⟩ : ∃ wz : World, wz = w'.drewN nq := ⟨_, rfl⟩
          have HXz := Lib.hid (show Ext w wz from hwz ▸ HX2.out.drewN _)
          have hc0 : wz.cell? ⟨w.heap.size, 0, none⟩ = some (.int .i64 s.f0) := hwz ▸ Ext.cell ((Ext.refl _).drewN _) (World.block_lt_of_cell? _ _ HC0.out) HC0.out
          have hc1 : wz.cell? ⟨w.heap.size, 1, none⟩ = some (.int .i64 s.f1) := hwz ▸ Ext.cell ((Ext.refl _).drewN _) (World.block_lt_of_cell? _ _ HC1.out) HC1.out
          rw [← hwz]
          clear hwz
          have HF := Lib.hid (fun (W : World) (hW : Ext wz W) => And.intro (Ext.cell hW (World.block_lt_of_cell? _ _ hc0) hc0) (Ext.cell hW (World.block_lt_of_cell? _ _ hc1) hc1))
          have HRl := Lib.hid (fun W (hW : Ext wz W) => (show Reads W wz.heap.size 2 (some ad) l.length (cst l) from Reads.ext_ (Reads.of_own (own_ext HO.out HXz.out)) hW))
          have cutA := fun W => st_upto (some ad) l.length c0 k (by omega) hcc W
          obtain ⟨AD, cutB, HRd⟩ : ∃ AD, (∀ W, (Instr.slice 31 (.slice (some ad) l.length c0) (some (.int .i64 (k : Int))) none none).run Try.prog W = .ok (.slice AD (l.length - k) (c0 - k)) W) ∧ Hid (∀ W, Ext wz W → Reads W wz.heap.size 2 AD (l.length - k) (cst (l.drop k))) :=
            ⟨_, fun W => st_cut (some ad) l.length c0 k (by omega) W, Lib.hid fun W hW => cst_drop (HRl.out W hW) (by omega) hcc⟩
          have HRt := Lib.hid (fun W (hW : Ext wz W) => cst_take (q := k) (HRl.out W hW) (by omega))
          have hq4 : (k : Int) ≤ (l.length : Int) := by omega
          have hq0 : (0 : Int) ≤ (k : Int) := by omega
          clear hc0 hc1
          have HE0 := Lib.hid (Ext.refl wz)
          go_region_held3 (fun W => W.cell? ⟨w.heap.size, 0, none⟩ = some (.int .i64 s.f0) ∧ W.cell? ⟨w.heap.size, 1, none⟩ = some (.int .i64 s.f1)) (exact HF.out _ (by repeat first | assumption | exact Lib.Hid.out (by assumption) | apply Ext.drew | apply Ext.drewN | apply Ext.alloc)) ((first
            | (have _h := ho5; clear _h; refine step_sts (by rfl) _ _ (by rfl) (wr := wz) (by repeat first | assumption | exact Lib.Hid.out (by assumption) | apply Ext.drew | apply Ext.drewN | apply Ext.alloc) v5 _ _ (by rfl) (by first | exact ho5 | exact own_ext ho5 (by repeat (first | exact Ext.refl _ | (with_reducible refine Ext.drew ?_) | (with_reducible refine Ext.drewN ?_ _) | (with_reducible refine Ext.alloc ?_ _)))) _ _ _ _ _ (by rfl) (HRd.out _ (by repeat first | assumption | exact Lib.Hid.out (by assumption) | apply Ext.drew | apply Ext.drewN | apply Ext.alloc)) (by omega) ?_; intro v6 w6 hE6 ho6 hk6)
            | (have _h := ho4; clear _h; refine step_sts (by rfl) _ _ (by rfl) (wr := wz) (by repeat first | assumption | exact Lib.Hid.out (by assumption) | apply Ext.drew | apply Ext.drewN | apply Ext.alloc) v4 _ _ (by rfl) (by first | exact ho4 | exact own_ext ho4 (by repeat (first | exact Ext.refl _ | (with_reducible refine Ext.drew ?_) | (with_reducible refine Ext.drewN ?_ _) | (with_reducible refine Ext.alloc ?_ _)))) _ _ 1 1 [s] (by rfl) (by first | exact st_readsB (by repeat (first | exact st_at (by first | rfl | (simp; done)) | (with_reducible refine Go.Proofs.YtnhdjaegkccmaaaW.PrintWords.blk_drewN ?_ _) | (with_reducible refine Go.Proofs.YtnhdjaegkccmaaaW.PrintWords.blk_drew ?_) | (with_reducible refine Go.Proofs.YtnhdjaegkccmaaaW.PrintWords.blk_alloc ?_ _))) | exact st_keptB hk4 (by repeat (first | exact st_at (by first | rfl | (simp; done)) | (with_reducible refine Go.Proofs.YtnhdjaegkccmaaaW.PrintWords.blk_drewN ?_ _) | (with_reducible refine Go.Proofs.YtnhdjaegkccmaaaW.PrintWords.blk_drew ?_) | (with_reducible refine Go.Proofs.YtnhdjaegkccmaaaW.PrintWords.blk_alloc ?_ _))) (by simp [Value.ownBlock]) (by repeat (first | exact Ext.refl _ | (with_reducible refine Ext.drew ?_) | (with_reducible refine Ext.drewN ?_ _) | (with_reducible refine Ext.alloc ?_ _)))) (by omega) ?_; intro v5 w5 hE5 ho5 hk5)
            | (refine step_sts (by rfl) _ _ (by rfl) (wr := wz) (by repeat first | assumption | exact Lib.Hid.out (by assumption) | apply Ext.drew | apply Ext.drewN | apply Ext.alloc) (.slice (some ⟨_, 0, none⟩) 0 0) 0 [] (by rfl) (st_none2 (by repeat (first | exact st_at (by first | rfl | (simp; done)) | (with_reducible refine Go.Proofs.YtnhdjaegkccmaaaW.PrintWords.blk_drewN ?_ _) | (with_reducible refine Go.Proofs.YtnhdjaegkccmaaaW.PrintWords.blk_drew ?_) | (with_reducible refine Go.Proofs.YtnhdjaegkccmaaaW.PrintWords.blk_alloc ?_ _))) (by first | exact Nat.le_refl _ | (simp; done))) _ _ _ _ _ (by rfl) (HRt.out _ (by repeat first | assumption | exact Lib.Hid.out (by assumption) | apply Ext.drew | apply Ext.drewN | apply Ext.alloc)) (by omega) ?_; intro v4 w4 hE4 ho4 hk4)))
          all_goals
            go_wp2
            go_ret
            refine ⟨_, rfl, ?_, HXz.out.trans hE6⟩
            rw [HA.out]
            exact st_ins (ownsRow_less ho6 (Nat.le_trans HB.out HXz.out.size))
    · have hdn : decide ((k : Int) < (l.length : Int)) = false := by simpa using hn
      obtain rfl : k = l.length := by omega
      have HA := Lib.hid (addL_new l s l.length (fstL_eq l s l.length (Nat.le_refl _) (fun j h hj => HL.out j h hj) (fun h => absurd h (Nat.lt_irrefl _))) (fun h => absurd h.1 (Nat.lt_irrefl _)))
      have HC0 := Lib.hid q2
      have HC1 := Lib.hid q3
      have HX2 := HX
      clear q2 q3 HRl
      go_wp2
      go_quiet (fail)
      revert nq
      intro n1
      go_wp2
      go_quiet (fail)
      go_wp2
      clear hdn
      obtain ⟨wz, hwz⟩ : ∃ wz : World, wz = (wr.drewN n1).drewN nq := ⟨_, rfl⟩
      have HXz := Lib.hid (show Ext w wz from hwz ▸ (HX2.out.drewN _).drewN _)
      have hc0 : wz.cell? ⟨w.heap.size, 0, none⟩ = some (.int .i64 s.f0) := hwz ▸ Ext.cell (((Ext.refl _).drewN _).drewN _) (World.block_lt_of_cell? _ _ HC0.out) HC0.out
      have hc1 : wz.cell? ⟨w.heap.size, 1, none⟩ = some (.int .i64 s.f1) := hwz ▸ Ext.cell (((Ext.refl _).drewN _).drewN _) (World.block_lt_of_cell? _ _ HC1.out) HC1.out
      rw [← hwz]
      clear hwz
      have HF := Lib.hid (fun (W : World) (hW : Ext wz W) => And.intro (Ext.cell hW (World.block_lt_of_cell? _ _ hc0) hc0) (Ext.cell hW (World.block_lt_of_cell? _ _ hc1) hc1))
      have HRl := Lib.hid (fun W (hW : Ext wz W) => (show Reads W wz.heap.size 2 A0 l.length (cst l) from Reads.ext_ (Reads.of_own (own_ext HO.out HXz.out)) hW))
      have cutA := fun W => st_upto A0 l.length c0 l.length (by omega) hcc W
      obtain ⟨AD, cutB, HRd⟩ : ∃ AD, (∀ W, (Instr.slice 31 (.slice A0 l.length c0) (some (.int .i64 (l.length : Int))) none none).run Try.prog W = .ok (.slice AD 0 (c0 - l.length)) W) ∧ Hid (∀ W : World, Reads W wz.heap.size 2 AD 0 (cst [])) :=
        ⟨_, fun W => by rw [st_cut A0 l.length c0 l.length (by omega) W, Nat.sub_self], Lib.hid fun W => ⟨rfl, fun h => absurd h (Nat.lt_irrefl _)⟩⟩
      have HRt := Lib.hid (fun W (hW : Ext wz W) => cst_take (q := l.length) (HRl.out W hW) (by omega))
      have hq4 : (l.length : Int) ≤ (l.length : Int) := by omega
      have hq0 : (0 : Int) ≤ (l.length : Int) := by omega
      clear hc0 hc1
      have HE0 := Lib.hid (Ext.refl wz)
      go_region_held3 (fun W => W.cell? ⟨w.heap.size, 0, none⟩ = some (.int .i64 s.f0) ∧ W.cell? ⟨w.heap.size, 1, none⟩ = some (.int .i64 s.f1)) (exact HF.out _ (by repeat first | assumption | exact Lib.Hid.out (by assumption) | apply Ext.drew | apply Ext.drewN | apply Ext.alloc)) ((first
        | (have _h := ho5; clear _h; refine step_sts (by rfl) _ _ (by rfl) (wr := wz) (by repeat first | assumption | exact Lib.Hid.out (by assumption) | apply Ext.drew | apply Ext.drewN | apply Ext.alloc) v5 _ _ (by rfl) (by first | exact ho5 | exact own_ext ho5 (by repeat (first | exact Ext.refl _ | (with_reducible refine Ext.drew ?_) | (with_reducible refine Ext.drewN ?_ _) | (with_reducible refine Ext.alloc ?_ _)))) _ _ _ _ _ (by rfl) (HRd.out _) (by omega) ?_; intro v6 w6 hE6 ho6 hk6)
        | (have _h := ho4; clear _h; refine step_sts (by rfl) _ _ (by rfl) (wr := wz) (by repeat first | assumption | exact Lib.Hid.out (by assumption) | apply Ext.drew | apply Ext.drewN | apply Ext.alloc) v4 _ _ (by rfl) (by first | exact ho4 | exact own_ext ho4 (by repeat (first | exact Ext.refl _ | (with_reducible refine Ext.drew ?_) | (with_reducible refine Ext.drewN ?_ _) | (with_reducible refine Ext.alloc ?_ _)))) _ _ 1 1 [s] (by rfl) (by first | exact st_readsB (by repeat (first | exact st_at (by first | rfl | (simp; done)) | (with_reducible refine Go.Proofs.YtnhdjaegkccmaaaW.PrintWords.blk_drewN ?_ _) | (with_reducible refine Go.Proofs.YtnhdjaegkccmaaaW.PrintWords.blk_drew ?_) | (with_reducible refine Go.Proofs.YtnhdjaegkccmaaaW.PrintWords.blk_alloc ?_ _))) | exact st_keptB hk4 (by repeat (first | exact st_at (by first | rfl | (simp; done)) | (with_reducible refine Go.Proofs.YtnhdjaegkccmaaaW.PrintWords.blk_drewN ?_ _) | (with_reducible refine Go.Proofs.YtnhdjaegkccmaaaW.PrintWords.blk_drew ?_) | (with_reducible refine Go.Proofs.YtnhdjaegkccmaaaW.PrintWords.blk_alloc ?_ _))) (by simp [Value.ownBlock]) (by repeat (first | exact Ext.refl _ | (with_reducible refine Ext.drew ?_) | (with_reducible refine Ext.drewN ?_ _) | (with_reducible refine Ext.alloc ?_ _)))) (by omega) ?_; intro v5 w5 hE5 ho5 hk5)
        | (refine step_sts (by rfl) _ _ (by rfl) (wr := wz) (by repeat first | assumption | exact Lib.Hid.out (by assumption) | apply Ext.drew | apply Ext.drewN | apply Ext.alloc) (.slice (some ⟨_, 0, none⟩) 0 0) 0 [] (by rfl) (st_none2 (by repeat (first | exact st_at (by first | rfl | (simp; done)) | (with_reducible refine Go.Proofs.YtnhdjaegkccmaaaW.PrintWords.blk_drewN ?_ _) | (with_reducible refine Go.Proofs.YtnhdjaegkccmaaaW.PrintWords.blk_drew ?_) | (with_reducible refine Go.Proofs.YtnhdjaegkccmaaaW.PrintWords.blk_alloc ?_ _))) (by first | exact Nat.le_refl _ | (simp; done))) _ _ _ _ _ (by rfl) (HRt.out _ (by repeat first | assumption | exact Lib.Hid.out (by assumption) | apply Ext.drew | apply Ext.drewN | apply Ext.alloc)) (by omega) ?_; intro v4 w4 hE4 ho4 hk4)))
      all_goals
        go_wp2
        go_ret
        refine ⟨_, rfl, ?_, HXz.out.trans hE6⟩
        rw [HA.out]
        exact st_ins' (ownsRow_less ho6 (Nat.le_trans HB.out HXz.out.size))
set_option maxHeartbeats 4000000 in
set_option maxRecDepth 100000 in
theorem rsort_walk (A0 : Option Addr) (c0 : Nat) (l : List Stp) (w : World) (hr0 : Kd.C k23 w A0 l.length l) (hc0 : l.length ≤ c0) (hl : l.length < 2199023255552) :
    Calls Try.prog 39 #[.slice A0 l.length c0] w fun e w' => ∃ v0_ : Value, e = .returned (v0_) ∧ Kd.R k23 23 w' w.heap.size (fun _ => True) v0_ (sortL l) ∧ Below w.heap.size w w' := by
  have hrd := C_rawSt hr0
  rw [List.length_map] at hrd
  have HR := Lib.hid hrd
  clear hr0 hrd
  go_enter Try.func39, Try.ntmps39
  go_wp2
  go_loopg [3, 4] l.length (fun gg s3 s4 wr => ∃ k : Nat, k ≤ l.length ∧ l.length - k ≤ gg ∧ s4 = .int .i64 k ∧ Hid (wr.ownsRow w.heap.size 23 2 s3 (addAll (l.take k)).length (cst (addAll (l.take k)))) ∧ Hid (Ext w wr))
  case atStart => exact ⟨0, Nat.zero_le _, by omega, rfl, Lib.hid (World.ownsRow_nil _ _ _ _), Lib.hid (Ext.refl _)⟩
  case round =>
    obtain ⟨k, hk, hg, rfl, HO, HX⟩ := hrel
    by_cases hn : k < l.length
    · have hnz : (k : Int) < (l.length : Int) := by omega
      obtain ⟨ad, rfl, hbb, hcell⟩ := HR.out.2 (by omega)
      have hcl : ∀ i u, (encSt l[k])[i]? = some u → wr.cell? (ad.add (k * 2 + i)) = some u := fun i u hu => by
        have hi : i < 2 := (List.getElem?_eq_some_iff.1 hu).1
        have h0 := hcell (k * 2 + i) u (by have := (wideSt l).at_ k (by simpa using hn) i hi []; rw [List.append_nil, List.getElem_map] at this; rw [this]; exact hu)
        rw [← h0]
        exact HX.out.below.cell (by rw [block_of_add]; exact hbb)
      have q0 := hcl 0 _ rfl
      have q1 := hcl 1 _ rfl
      rw [Nat.add_zero] at q0
      rw [add_plus _ _ 1 (by omega)] at q1
      have HS := Lib.hid (addAll_take l k hn)
      have hle := addAll_len (l.take k)
      rw [List.length_take] at hle
      generalize l[k] = x at q0 q1 HS
      generalize addAll (l.take k) = out at HO HS hle
      have hO := HO.out
      obtain ⟨A2, c2, rfl⟩ := own_slice hO
      have hc2 : out.length ≤ c2 := (Kd.R_reads' (R_rawSt hO)).2.1
      have hcon := Lib.hid (radd_walk w.heap.size A2 c2 out x wr hO HX.out.size (by omega) hc2)
      clear hcl hcell hO
      go_wp2_with (go_at_call 51; refine hcon.out.mono ?_; rintro e w' ⟨v2, rfl, hown, hx2⟩)
      have HO2 := Lib.hid hown
      have HX2 := Lib.hid (HX.out.trans hx2)
      clear hown hx2 hcon
      go_wp2
      go_roundg (l.length - (k + 1))
      case measure => omega
      case rel => exact ⟨k + 1, by omega, by omega, by go_num, by rw [HS.out]; exact HO2, HX2⟩
    · obtain rfl : k = l.length := by omega
      have hnz : ¬ (l.length : Int) < (l.length : Int) := by omega
      rw [List.take_length] at HO
      go_wp2
      go_ret
      rw [addAll_sort] at HO
      exact ⟨_, rfl, R_rawSt HO.out, HX.out⟩
def folkmootref01_Sort.f (l0 : List Stp) : Option (List Stp) := if l0.length < 2199023255552 then some (sortL l0) else none
theorem folkmootref01_Sort.calls (A0 : Option Addr) (c0 : Nat) (l0 : List Stp) (r : List Stp) (w : World) (hr0 : Kd.C k23 w A0 l0.length l0) (hc0 : l0.length ≤ c0) (h : folkmootref01_Sort.f l0 = some r) :
    Calls Try.prog 39 #[.slice A0 l0.length c0] w fun e w' => ∃ v0_ : Value, e = .returned (v0_) ∧ Kd.R k23 23 w' w.heap.size (fun _ => True) v0_ r ∧ Below w.heap.size w w' := by
  unfold folkmootref01_Sort.f at h
  by_cases hl : l0.length < 2199023255552
  · rw [if_pos hl] at h
    obtain rfl := Option.some.inj h
    exact rsort_walk A0 c0 l0 w hr0 hc0 hl
  · rw [if_neg hl] at h
    cases h
end Go.Proofs.Ytnhdjaegkccmaaa.P
-- printed by a program of this session (wip/hp.py over the kit's print)
namespace Go.Proofs.Ytnhdjaegkccmaaa.P
open Go.RowKit Go.Proofs.YtnhdjaegkccmaaaW.PrintWords Go.Proofs.YtnhdjaegkccmaaaW.PrintLast Go.Proofs.YtnhdjaegkccmaaaW.PrintMore
attribute [local go_sem] str_leq str_gtr str_geq max2_str max2_int min2_int max_two min_two max_three min_three max_four min_four   -- for this text's walks alone
set_option linter.unusedVariables false
set_option linter.unusedSimpArgs false

/-! ### folkmootlaw01_StampLists: function 12 -/
def folkmootlaw01_StampLists.j0 : Nat → List (S23) → List (S23) → Bool → Int → Int → Option (Bool)
  | 0, _, _, _, _, _ => none
  | k + 1, x0, x1, x17, x266000, x266001 => if x17 = true then ((folkmootlaw01_live.f).bind fun t266 => (some t266)) else ((folkmootref01_Sort.f x0).bind fun t267 => ((folkmootref01_Sort.f x1).bind fun t270 => ((folkmootlaw01_own.f t267).bind fun t273 => (if t273.length + t270.length < 8796093022208 then ((folkmootref01_Sort.f (t273 ++ t270)).bind fun t279 => ((folkmootlaw01_own.f x0).bind fun t282 => ((stamp_Sort.f t282).bind fun t285 => ((folkmootref01_Same.f k t285 t267).bind fun t288 => (if t288 = true then ((folkmootlaw01_own.f t267).bind fun t289 => ((folkmootlaw01_own.f t270).bind fun t292 => ((stamp_Merge.f (([t289, t292] : List (List (S23))))).bind fun t298 => ((folkmootref01_Same.f k t298 t279).bind fun t301 => (if t301 = true then ((folkmootlaw01_own.f t267).bind fun t302 => ((stamp_Has.f t302 x266000 x266001).bind fun t305 => ((folkmootref01_Has.f k t267 x266000 x266001).bind fun t306 => (if (t305 == t306) = true then ((folkmootlaw01_own.f t267).bind fun t307 => ((stamp_Below.f t307 x266000 x266001).bind fun t310 => ((folkmootref01_Below.f k t267 x266000 x266001).bind fun t313 => ((folkmootref01_Same.f k t310 t313).bind fun t316 => (if t316 = true then ((stamp_Merge.f ([] : List (List (S23)))).bind fun t317 => ((folkmootref01_Same.f k t317 ([] : List (S23))).bind fun t320 => (if t320 = true then ((folkmootlaw01_live.f).bind fun t321 => (some t321)) else (some false)))) else (some false)))))) else (some false))))) else (some false)))))) else (some false)))))) else (none)))))
def folkmootlaw01_StampLists.f (k : Nat) (l0 : List (S23)) (l1 : List (S23)) (a2_0 : Int) (a2_1 : Int) : Option (Bool) := if (l0.length : Int) > 60 then (folkmootlaw01_StampLists.j0 k l0 l1 true a2_0 a2_1) else (folkmootlaw01_StampLists.j0 k l0 l1 (decide ((l1.length : Int) > 60)) a2_0 a2_1)
theorem folkmootlaw01_StampLists.mono_l : ∀ k, (∀ y0 y1 y2 y3 y4, LeO (folkmootlaw01_StampLists.j0 k y0 y1 y2 y3 y4) (folkmootlaw01_StampLists.j0 (k + 1) y0 y1 y2 y3 y4))
  | 0 => fun _ _ _ _ _ r h => by simp [folkmootlaw01_StampLists.j0] at h
  | k + 1 => by
    have ih0 := folkmootlaw01_StampLists.mono_l k
    · intro y0 y1 y2 y3 y4
      unfold folkmootlaw01_StampLists.j0
      repeat' first
      | (with_reducible exact ih0 _ _ _ _ _)
      | (with_reducible exact folkmootref01_Below.mono _ _ _ _)
      | (with_reducible exact folkmootref01_Has.mono _ _ _ _)
      | (with_reducible exact folkmootref01_Same.mono _ _ _)
      | (with_reducible exact LeO.refl _)
      | (with_reducible exact LeO.none _)
      | (with_reducible refine LeO.ite ?_ ?_)
      | (with_reducible refine LeO.bind ?_ (fun _ => ?_))
      | exact ih0 _ _ _ _ _
      | exact folkmootref01_Below.mono _ _ _ _
      | exact folkmootref01_Has.mono _ _ _ _
      | exact folkmootref01_Same.mono _ _ _
      | exact LeO.none _
      | refine LeO.ite ?_ ?_
      | refine LeO.bind ?_ (fun _ => ?_)
theorem folkmootlaw01_StampLists.mono : ∀ a0 a1 a2 a3 k, LeO (folkmootlaw01_StampLists.f k a0 a1 a2 a3) (folkmootlaw01_StampLists.f (k + 1) a0 a1 a2 a3) := by
  intro a0 a1 a2 a3 k
  have ih0 := folkmootlaw01_StampLists.mono_l k
  unfold folkmootlaw01_StampLists.f
  repeat' first
      | (with_reducible exact ih0 _ _ _ _ _)
      | (with_reducible exact folkmootref01_Below.mono _ _ _ _)
      | (with_reducible exact folkmootref01_Has.mono _ _ _ _)
      | (with_reducible exact folkmootref01_Same.mono _ _ _)
      | (with_reducible exact LeO.refl _)
      | (with_reducible exact LeO.none _)
      | (with_reducible refine LeO.ite ?_ ?_)
      | (with_reducible refine LeO.bind ?_ (fun _ => ?_))
      | exact ih0 _ _ _ _ _
      | exact folkmootref01_Below.mono _ _ _ _
      | exact folkmootref01_Has.mono _ _ _ _
      | exact folkmootref01_Same.mono _ _ _
      | exact LeO.none _
      | refine LeO.ite ?_ ?_
      | refine LeO.bind ?_ (fun _ => ?_)
def folkmootlaw01_StampLists.T5 : Bool × List (List Nat × List Nat) := (true, [([], []), ([0], [0]), ([1, 1], [1]), ([], []), ([2, 3, 2], [2, 3]), ([4, 4], [4]), ([5], [5]), ([6, 5, 5], [5, 6]), ([5], [5]), ([8, 7, 5], [5, 8]), ([7, 9, 5], [5, 7, 9]), ([10, 9, 5], [5, 10]), ([5], [5]), ([11, 12, 11, 5], [5, 11, 12]), ([5, 13], [5, 13]), ([14, 13], [14]), ([15], [15]), ([16, 15, 15], [15, 16]), ([15], [15]), ([17, 18, 17, 15], [15, 17, 18]), ([15], [15]), ([15], [15]), ([20, 21, 19, 15], [15, 20, 21]), ([19, 22, 15], [15, 19, 22]), ([15, 23], [15, 23]), ([24, 22], [24]), ([25], [25]), ([26, 25, 25], [25, 26]), ([25], [25]), ([27, 28, 27, 25], [25, 27, 28]), ([25], [25]), ([25], [25]), ([30, 31, 29, 25], [25, 30, 31]), ([29, 32, 32, 25], [25, 29, 32]), ([25, 33], [25, 33]), ([34, 33], [34]), ([35, 35], [35]), ([36, 36, 35], [35, 36]), ([35, 37], [35, 37]), ([38, 37], [38]), ([39, 39], [39]), ([39, 40], [39, 40]), ([41, 40, 0, 1, 2, 3, 4, 5, 6, 7, 8, 9, 10, 11, 12, 13, 14, 15, 16, 17, 18, 19, 20, 21, 22, 23, 24, 25, 26, 27, 28, 29, 30, 31, 32, 33, 34, 35, 36, 37, 38, 39, 40, 41], [41])])
def folkmootlaw01_StampLists.B5 : List Nat := [0, 1, 3, 0, 15, 31, 63, 127, 63, 511, 1023, 2047, 63, 8191, 16383, 32767, 65535, 131071, 65535, 524287, 65535, 65535, 4194303, 8388607, 16777215, 33554431, 67108863, 134217727, 67108863, 536870911, 67108863, 67108863, 4294967295, 8589934591, 17179869183, 34359738367, 68719476735, 137438953471, 274877906943, 549755813887, 1099511627775, 2199023255551, 4398046511103]
theorem folkmootlaw01_StampLists.tab5 : rtab .any (opsOf Try.f12 5) = folkmootlaw01_StampLists.T5 := by kernel_rfl
theorem folkmootlaw01_StampLists.bits5 : waitsOk folkmootlaw01_StampLists.T5.2 folkmootlaw01_StampLists.B5 = true := by kernel_rfl
set_option maxHeartbeats 8000000 in
set_option maxRecDepth 100000 in
theorem folkmootlaw01_StampLists.calls (k : Nat) (A0 : Option Addr) (c0 : Nat) (l0 : List (S23)) (A1 : Option Addr) (c1 : Nat) (l1 : List (S23)) (a2_0 : Int) (a2_1 : Int) (r : Bool) (w : World) (hr0 : Kd.C k23 w A0 l0.length l0) (hc0 : l0.length ≤ c0) (hr1 : Kd.C k23 w A1 l1.length l1) (hc1 : l1.length ≤ c1) (h : folkmootlaw01_StampLists.f k l0 l1 a2_0 a2_1 = some r) (hrt_ : r = true := by rfl) :
    Calls Try.prog 12 #[.slice A0 l0.length c0, .slice A1 l1.length c1, .agg #[.int .i64 a2_0, .int .i64 a2_1]] w fun e w' => e = .returned (.bool r) ∧ Below w.heap.size w w' := by
  subst hrt_
  have hu23 := Try.underlying23
  have HR0 := Aside0.mk hr0
  have HC0 := Aside0.mk hc0
  clear hr0 hc0
  have HR1 := Aside0.mk hr1
  have HC1 := Aside0.mk hc1
  clear hr1 hc1
  have HB := Aside0.mk (Below.refl w.heap.size w)
  have H : (if (l0.length : Int) > 60 then (folkmootlaw01_StampLists.j0 k l0 l1 true a2_0 a2_1) else (folkmootlaw01_StampLists.j0 k l0 l1 (decide ((l1.length : Int) > 60)) a2_0 a2_1)) = some true := h
  clear h
  have HC4 := Aside0.mk H
  clear H
  go_enter Try.func12, Try.ntmps12
  go_upto_region 1 with (first | ((with_reducible refine gate_dst (N := 5) rfl ?_); (try (refine gate_guard (by rfl) ?_; dsimp only)); refine box_event ?hg (N := 5) ?hd (cs := #[.int .i64 a2_0, .int .i64 a2_1]) (t := 23) ?hr ?_; (case hd => rfl); (case hg => rfl); (case hr => first | (go_simp; done) | (go_simp; rfl)); intro gb265 hg w5 hbox hb; have BK265 := Aside0.mk (hbox); have GW265 := Aside0.mk ((by rw [hg]; exact (below_size (uB HB)) : w.heap.size ≤ gb265)); have GE265 := Aside0.mk ((by rw [hg]; exact (below_size (uB HB)) : w.heap.size ≤ gb265)); replace HB := sB HB hb; clear hb hbox hg))
  (try simp only [Act.put, List.setIfInBounds_toArray, List.set_cons_zero, List.set_cons_succ])
  go_cut [17] (fun v17 wc => ∃ (kq : Nat) (x17_3 : Bool), v17 = .bool x17_3 ∧ Aside0 (folkmootlaw01_StampLists.j0 kq l0 l1 x17_3 a2_0 a2_1 = some true) ∧ Aside0 (kq ≤ k) ∧ Aside0 (wc.heap[gb265]? = some (.cells #[.int .i64 a2_0, .int .i64 a2_1] 23 (0, 0))) ∧ Aside0 (Below w.heap.size w wc))
  case first =>
    have H := HC4.out
    clear HC4
    by_cases c6 : (l0.length : Int) > 60
    · rw [if_pos c6] at H
      have c6b0 : decide (60 < (l0.length : Int)) = true := decide_eq_true c6
      have c6b1 : decide (60 < l0.length) = true := decide_eq_true (by omega)
      clear c6
      (first | rw [c6b0] | (simp only [i64_w, i32_w]; rw [c6b0]) | skip)
      have H' := Aside0.mk H
      clear H
      go_wp2
      go_meet
      case rel => exact ⟨_, (true), (by first | rfl | (simp; done) | (simp [*]; done)), H', ⟨by first | omega | exact Nat.le_refl _⟩, ⟨by (with_reducible repeat (first | refine blk_drewN ?_ _ | refine blk_drew ?_ | refine blk_alloc ?_ _)); exact BK265.out⟩, ⟨by repeat (first | (with_reducible first | exact HB.out | apply below_alloc | apply pw_below_drewN | apply below_drew1 | refine below_set ?_ GE265.out) | exact HB.out)⟩⟩
    · rw [if_neg c6] at H
      have c6b0 : decide (60 < (l0.length : Int)) = false := decide_eq_false c6
      have c6b1 : decide (60 < l0.length) = false := decide_eq_false (by omega)
      clear c6
      (first | rw [c6b0] | (simp only [i64_w, i32_w]; rw [c6b0]) | skip)
      have H' := Aside0.mk H
      clear H
      go_wp2
      go_meet
      case rel => exact ⟨_, (decide ((l1.length : Int) > 60)), (by first | rfl | (simp; done) | (simp [*]; done)), H', ⟨by first | omega | exact Nat.le_refl _⟩, ⟨by (with_reducible repeat (first | refine blk_drewN ?_ _ | refine blk_drew ?_ | refine blk_alloc ?_ _)); exact BK265.out⟩, ⟨by repeat (first | (with_reducible first | exact HB.out | apply below_alloc | apply pw_below_drewN | apply below_drew1 | refine below_set ?_ GE265.out) | exact HB.out)⟩⟩
  case rest =>
    clear HC4
    try clear c1
    try clear p2
    try clear c6
    try clear c6b0
    try clear c6b1
    obtain ⟨kq, x17_3, rfl, HA, HJ3, BK265, HB⟩ := hcut
    cases kq with
    | zero => exact absurd HA.out (by simp [folkmootlaw01_StampLists.j0])
    | succ kj3 =>
      have H := HA.out
      clear HA
      simp only [folkmootlaw01_StampLists.j0] at H
      by_cases c7 : x17_3 = true
      · subst c7
        have H1 : ((folkmootlaw01_live.f).bind fun t266 => (some t266)) = some true := by rw [if_pos rfl] at H; exact H
        clear H
        have H := H1
        clear H1
        replace H := Option.bind_eq_some_iff.mp H
        obtain ⟨t266, A80, H⟩ := H
        replace H : (some t266) = some true := H
        have A8 := Aside0.mk A80
        clear A80
        have hrt_ := Aside0.mk (Option.some.inj H)
        clear H
        go_wp2_with (first | ((with_reducible refine gate_callee (f := 18) rfl ?_); refine goesL_ (some 18) rfl rfl Try.func18 (by kernel_rfl) rfl #[] rfl (by (try simp only [List.map_toArray, List.map_cons, List.map_nil]); first | done | rfl | (simp only [List.length_drop, List.length_take]; rfl)) ?_; (with_reducible refine (folkmootlaw01_live.calls  t266 _ A8.out).mono ?_); rintro e w9 ⟨rfl, hb⟩; refine ⟨_, rfl, ?_⟩; replace BK265 := Aside0.mk (blk_below (g := gb265) (o := .cells #[.int .i64 a2_0, .int .i64 a2_1] 23 (0, 0)) (by (with_reducible repeat (first | refine blk_drewN ?_ _ | refine blk_drew ?_ | refine blk_alloc ?_ _)); exact BK265.out) hb); replace HB := Aside0.mk (below_step (by repeat (first | (with_reducible first | exact HB.out | apply below_alloc | apply pw_below_drewN | apply below_drew1 | refine below_set ?_ GE265.out) | exact HB.out)) hb); (try clear hb); (try clear hb2); (try clear hk); (try clear hi)))
        go_ret
        exact ⟨by first | rfl | (exact congrArg (fun b_ => Ending.returned (Value.bool b_)) hrt_.out) | (simp [errW_none, errW_some] <;> rfl) | (simp [*, errW_none, errW_some] <;> rfl), by repeat (first | (with_reducible first | exact HB.out | apply below_alloc | apply pw_below_drewN | apply below_drew1 | refine below_set ?_ GE265.out) | exact HB.out)⟩
      · replace c7 := Bool.eq_false_iff.mpr c7
        subst c7
        have H1 : ((folkmootref01_Sort.f l0).bind fun t267 => ((folkmootref01_Sort.f l1).bind fun t270 => ((folkmootlaw01_own.f t267).bind fun t273 => (if t273.length + t270.length < 8796093022208 then ((folkmootref01_Sort.f (t273 ++ t270)).bind fun t279 => ((folkmootlaw01_own.f l0).bind fun t282 => ((stamp_Sort.f t282).bind fun t285 => ((folkmootref01_Same.f kj3 t285 t267).bind fun t288 => (if t288 = true then ((folkmootlaw01_own.f t267).bind fun t289 => ((folkmootlaw01_own.f t270).bind fun t292 => ((stamp_Merge.f (([t289, t292] : List (List (S23))))).bind fun t298 => ((folkmootref01_Same.f kj3 t298 t279).bind fun t301 => (if t301 = true then ((folkmootlaw01_own.f t267).bind fun t302 => ((stamp_Has.f t302 a2_0 a2_1).bind fun t305 => ((folkmootref01_Has.f kj3 t267 a2_0 a2_1).bind fun t306 => (if (t305 == t306) = true then ((folkmootlaw01_own.f t267).bind fun t307 => ((stamp_Below.f t307 a2_0 a2_1).bind fun t310 => ((folkmootref01_Below.f kj3 t267 a2_0 a2_1).bind fun t313 => ((folkmootref01_Same.f kj3 t310 t313).bind fun t316 => (if t316 = true then ((stamp_Merge.f ([] : List (List (S23)))).bind fun t317 => ((folkmootref01_Same.f kj3 t317 ([] : List (S23))).bind fun t320 => (if t320 = true then ((folkmootlaw01_live.f).bind fun t321 => (some t321)) else (some false)))) else (some false)))))) else (some false))))) else (some false)))))) else (some false)))))) else (none))))) = some true := by rw [if_neg (show ¬ (false = true) by decide)] at H; exact H
        clear H
        have H := H1
        clear H1
        replace H := Option.bind_eq_some_iff.mp H
        obtain ⟨t267, A100, H⟩ := H
        replace H : ((folkmootref01_Sort.f l1).bind fun t270 => ((folkmootlaw01_own.f t267).bind fun t273 => (if t273.length + t270.length < 8796093022208 then ((folkmootref01_Sort.f (t273 ++ t270)).bind fun t279 => ((folkmootlaw01_own.f l0).bind fun t282 => ((stamp_Sort.f t282).bind fun t285 => ((folkmootref01_Same.f kj3 t285 t267).bind fun t288 => (if t288 = true then ((folkmootlaw01_own.f t267).bind fun t289 => ((folkmootlaw01_own.f t270).bind fun t292 => ((stamp_Merge.f (([t289, t292] : List (List (S23))))).bind fun t298 => ((folkmootref01_Same.f kj3 t298 t279).bind fun t301 => (if t301 = true then ((folkmootlaw01_own.f t267).bind fun t302 => ((stamp_Has.f t302 a2_0 a2_1).bind fun t305 => ((folkmootref01_Has.f kj3 t267 a2_0 a2_1).bind fun t306 => (if (t305 == t306) = true then ((folkmootlaw01_own.f t267).bind fun t307 => ((stamp_Below.f t307 a2_0 a2_1).bind fun t310 => ((folkmootref01_Below.f kj3 t267 a2_0 a2_1).bind fun t313 => ((folkmootref01_Same.f kj3 t310 t313).bind fun t316 => (if t316 = true then ((stamp_Merge.f ([] : List (List (S23)))).bind fun t317 => ((folkmootref01_Same.f kj3 t317 ([] : List (S23))).bind fun t320 => (if t320 = true then ((folkmootlaw01_live.f).bind fun t321 => (some t321)) else (some false)))) else (some false)))))) else (some false))))) else (some false)))))) else (some false)))))) else (none)))) = some true := H
        have A10 := Aside0.mk A100
        clear A100
        replace H := Option.bind_eq_some_iff.mp H
        obtain ⟨t270, A110, H⟩ := H
        replace H : ((folkmootlaw01_own.f t267).bind fun t273 => (if t273.length + t270.length < 8796093022208 then ((folkmootref01_Sort.f (t273 ++ t270)).bind fun t279 => ((folkmootlaw01_own.f l0).bind fun t282 => ((stamp_Sort.f t282).bind fun t285 => ((folkmootref01_Same.f kj3 t285 t267).bind fun t288 => (if t288 = true then ((folkmootlaw01_own.f t267).bind fun t289 => ((folkmootlaw01_own.f t270).bind fun t292 => ((stamp_Merge.f (([t289, t292] : List (List (S23))))).bind fun t298 => ((folkmootref01_Same.f kj3 t298 t279).bind fun t301 => (if t301 = true then ((folkmootlaw01_own.f t267).bind fun t302 => ((stamp_Has.f t302 a2_0 a2_1).bind fun t305 => ((folkmootref01_Has.f kj3 t267 a2_0 a2_1).bind fun t306 => (if (t305 == t306) = true then ((folkmootlaw01_own.f t267).bind fun t307 => ((stamp_Below.f t307 a2_0 a2_1).bind fun t310 => ((folkmootref01_Below.f kj3 t267 a2_0 a2_1).bind fun t313 => ((folkmootref01_Same.f kj3 t310 t313).bind fun t316 => (if t316 = true then ((stamp_Merge.f ([] : List (List (S23)))).bind fun t317 => ((folkmootref01_Same.f kj3 t317 ([] : List (S23))).bind fun t320 => (if t320 = true then ((folkmootlaw01_live.f).bind fun t321 => (some t321)) else (some false)))) else (some false)))))) else (some false))))) else (some false)))))) else (some false)))))) else (none))) = some true := H
        have A11 := Aside0.mk A110
        clear A110
        replace H := Option.bind_eq_some_iff.mp H
        obtain ⟨t273, A120, H⟩ := H
        replace H : (if t273.length + t270.length < 8796093022208 then ((folkmootref01_Sort.f (t273 ++ t270)).bind fun t279 => ((folkmootlaw01_own.f l0).bind fun t282 => ((stamp_Sort.f t282).bind fun t285 => ((folkmootref01_Same.f kj3 t285 t267).bind fun t288 => (if t288 = true then ((folkmootlaw01_own.f t267).bind fun t289 => ((folkmootlaw01_own.f t270).bind fun t292 => ((stamp_Merge.f (([t289, t292] : List (List (S23))))).bind fun t298 => ((folkmootref01_Same.f kj3 t298 t279).bind fun t301 => (if t301 = true then ((folkmootlaw01_own.f t267).bind fun t302 => ((stamp_Has.f t302 a2_0 a2_1).bind fun t305 => ((folkmootref01_Has.f kj3 t267 a2_0 a2_1).bind fun t306 => (if (t305 == t306) = true then ((folkmootlaw01_own.f t267).bind fun t307 => ((stamp_Below.f t307 a2_0 a2_1).bind fun t310 => ((folkmootref01_Below.f kj3 t267 a2_0 a2_1).bind fun t313 => ((folkmootref01_Same.f kj3 t310 t313).bind fun t316 => (if t316 = true then ((stamp_Merge.f ([] : List (List (S23)))).bind fun t317 => ((folkmootref01_Same.f kj3 t317 ([] : List (S23))).bind fun t320 => (if t320 = true then ((folkmootlaw01_live.f).bind fun t321 => (some t321)) else (some false)))) else (some false)))))) else (some false))))) else (some false)))))) else (some false)))))) else (none)) = some true := H
        have A12 := Aside0.mk A120
        clear A120
        by_cases c13 : t273.length + t270.length < 8796093022208
        · rw [if_pos c13] at H
          have LMc13 := Aside0.mk c13
          clear c13
          obtain ⟨y276, hy276⟩ : ∃ y_ : List (S23), y_ = (t273 ++ t270) := ⟨_, rfl⟩
          replace H : ((folkmootref01_Sort.f y276).bind fun t279 => ((folkmootlaw01_own.f l0).bind fun t282 => ((stamp_Sort.f t282).bind fun t285 => ((folkmootref01_Same.f kj3 t285 t267).bind fun t288 => (if t288 = true then ((folkmootlaw01_own.f t267).bind fun t289 => ((folkmootlaw01_own.f t270).bind fun t292 => ((stamp_Merge.f (([t289, t292] : List (List (S23))))).bind fun t298 => ((folkmootref01_Same.f kj3 t298 t279).bind fun t301 => (if t301 = true then ((folkmootlaw01_own.f t267).bind fun t302 => ((stamp_Has.f t302 a2_0 a2_1).bind fun t305 => ((folkmootref01_Has.f kj3 t267 a2_0 a2_1).bind fun t306 => (if (t305 == t306) = true then ((folkmootlaw01_own.f t267).bind fun t307 => ((stamp_Below.f t307 a2_0 a2_1).bind fun t310 => ((folkmootref01_Below.f kj3 t267 a2_0 a2_1).bind fun t313 => ((folkmootref01_Same.f kj3 t310 t313).bind fun t316 => (if t316 = true then ((stamp_Merge.f ([] : List (List (S23)))).bind fun t317 => ((folkmootref01_Same.f kj3 t317 ([] : List (S23))).bind fun t320 => (if t320 = true then ((folkmootlaw01_live.f).bind fun t321 => (some t321)) else (some false)))) else (some false)))))) else (some false))))) else (some false)))))) else (some false)))))) = some true := by first | (rw [hy276]; with_reducible exact H) | (have H2_ := (Option.bind_some _ _).symm.trans H; rw [hy276]; with_reducible exact H2_) | (have H2_ := (Option.bind_some _ _).symm.trans H; with_reducible exact H2_) | with_reducible exact H | (rw [hy276]; exact H) | exact H
          have Ny276 := Aside0.mk hy276
          clear hy276
          replace H := Option.bind_eq_some_iff.mp H
          obtain ⟨t279, A140, H⟩ := H
          replace H : ((folkmootlaw01_own.f l0).bind fun t282 => ((stamp_Sort.f t282).bind fun t285 => ((folkmootref01_Same.f kj3 t285 t267).bind fun t288 => (if t288 = true then ((folkmootlaw01_own.f t267).bind fun t289 => ((folkmootlaw01_own.f t270).bind fun t292 => ((stamp_Merge.f (([t289, t292] : List (List (S23))))).bind fun t298 => ((folkmootref01_Same.f kj3 t298 t279).bind fun t301 => (if t301 = true then ((folkmootlaw01_own.f t267).bind fun t302 => ((stamp_Has.f t302 a2_0 a2_1).bind fun t305 => ((folkmootref01_Has.f kj3 t267 a2_0 a2_1).bind fun t306 => (if (t305 == t306) = true then ((folkmootlaw01_own.f t267).bind fun t307 => ((stamp_Below.f t307 a2_0 a2_1).bind fun t310 => ((folkmootref01_Below.f kj3 t267 a2_0 a2_1).bind fun t313 => ((folkmootref01_Same.f kj3 t310 t313).bind fun t316 => (if t316 = true then ((stamp_Merge.f ([] : List (List (S23)))).bind fun t317 => ((folkmootref01_Same.f kj3 t317 ([] : List (S23))).bind fun t320 => (if t320 = true then ((folkmootlaw01_live.f).bind fun t321 => (some t321)) else (some false)))) else (some false)))))) else (some false))))) else (some false)))))) else (some false))))) = some true := H
          have A14 := Aside0.mk A140
          clear A140
          replace H := Option.bind_eq_some_iff.mp H
          obtain ⟨t282, A150, H⟩ := H
          replace H : ((stamp_Sort.f t282).bind fun t285 => ((folkmootref01_Same.f kj3 t285 t267).bind fun t288 => (if t288 = true then ((folkmootlaw01_own.f t267).bind fun t289 => ((folkmootlaw01_own.f t270).bind fun t292 => ((stamp_Merge.f (([t289, t292] : List (List (S23))))).bind fun t298 => ((folkmootref01_Same.f kj3 t298 t279).bind fun t301 => (if t301 = true then ((folkmootlaw01_own.f t267).bind fun t302 => ((stamp_Has.f t302 a2_0 a2_1).bind fun t305 => ((folkmootref01_Has.f kj3 t267 a2_0 a2_1).bind fun t306 => (if (t305 == t306) = true then ((folkmootlaw01_own.f t267).bind fun t307 => ((stamp_Below.f t307 a2_0 a2_1).bind fun t310 => ((folkmootref01_Below.f kj3 t267 a2_0 a2_1).bind fun t313 => ((folkmootref01_Same.f kj3 t310 t313).bind fun t316 => (if t316 = true then ((stamp_Merge.f ([] : List (List (S23)))).bind fun t317 => ((folkmootref01_Same.f kj3 t317 ([] : List (S23))).bind fun t320 => (if t320 = true then ((folkmootlaw01_live.f).bind fun t321 => (some t321)) else (some false)))) else (some false)))))) else (some false))))) else (some false)))))) else (some false)))) = some true := H
          have A15 := Aside0.mk A150
          clear A150
          replace H := Option.bind_eq_some_iff.mp H
          obtain ⟨t285, A160, H⟩ := H
          replace H : ((folkmootref01_Same.f kj3 t285 t267).bind fun t288 => (if t288 = true then ((folkmootlaw01_own.f t267).bind fun t289 => ((folkmootlaw01_own.f t270).bind fun t292 => ((stamp_Merge.f (([t289, t292] : List (List (S23))))).bind fun t298 => ((folkmootref01_Same.f kj3 t298 t279).bind fun t301 => (if t301 = true then ((folkmootlaw01_own.f t267).bind fun t302 => ((stamp_Has.f t302 a2_0 a2_1).bind fun t305 => ((folkmootref01_Has.f kj3 t267 a2_0 a2_1).bind fun t306 => (if (t305 == t306) = true then ((folkmootlaw01_own.f t267).bind fun t307 => ((stamp_Below.f t307 a2_0 a2_1).bind fun t310 => ((folkmootref01_Below.f kj3 t267 a2_0 a2_1).bind fun t313 => ((folkmootref01_Same.f kj3 t310 t313).bind fun t316 => (if t316 = true then ((stamp_Merge.f ([] : List (List (S23)))).bind fun t317 => ((folkmootref01_Same.f kj3 t317 ([] : List (S23))).bind fun t320 => (if t320 = true then ((folkmootlaw01_live.f).bind fun t321 => (some t321)) else (some false)))) else (some false)))))) else (some false))))) else (some false)))))) else (some false))) = some true := H
          have A16 := Aside0.mk A160
          clear A160
          replace H := Option.bind_eq_some_iff.mp H
          obtain ⟨t288, A170, H⟩ := H
          replace H : (if t288 = true then ((folkmootlaw01_own.f t267).bind fun t289 => ((folkmootlaw01_own.f t270).bind fun t292 => ((stamp_Merge.f (([t289, t292] : List (List (S23))))).bind fun t298 => ((folkmootref01_Same.f kj3 t298 t279).bind fun t301 => (if t301 = true then ((folkmootlaw01_own.f t267).bind fun t302 => ((stamp_Has.f t302 a2_0 a2_1).bind fun t305 => ((folkmootref01_Has.f kj3 t267 a2_0 a2_1).bind fun t306 => (if (t305 == t306) = true then ((folkmootlaw01_own.f t267).bind fun t307 => ((stamp_Below.f t307 a2_0 a2_1).bind fun t310 => ((folkmootref01_Below.f kj3 t267 a2_0 a2_1).bind fun t313 => ((folkmootref01_Same.f kj3 t310 t313).bind fun t316 => (if t316 = true then ((stamp_Merge.f ([] : List (List (S23)))).bind fun t317 => ((folkmootref01_Same.f kj3 t317 ([] : List (S23))).bind fun t320 => (if t320 = true then ((folkmootlaw01_live.f).bind fun t321 => (some t321)) else (some false)))) else (some false)))))) else (some false))))) else (some false)))))) else (some false)) = some true := H
          have A17 := Aside0.mk A170
          clear A170
          by_cases c18 : t288 = true
          · subst c18
            have H1 : ((folkmootlaw01_own.f t267).bind fun t289 => ((folkmootlaw01_own.f t270).bind fun t292 => ((stamp_Merge.f (([t289, t292] : List (List (S23))))).bind fun t298 => ((folkmootref01_Same.f kj3 t298 t279).bind fun t301 => (if t301 = true then ((folkmootlaw01_own.f t267).bind fun t302 => ((stamp_Has.f t302 a2_0 a2_1).bind fun t305 => ((folkmootref01_Has.f kj3 t267 a2_0 a2_1).bind fun t306 => (if (t305 == t306) = true then ((folkmootlaw01_own.f t267).bind fun t307 => ((stamp_Below.f t307 a2_0 a2_1).bind fun t310 => ((folkmootref01_Below.f kj3 t267 a2_0 a2_1).bind fun t313 => ((folkmootref01_Same.f kj3 t310 t313).bind fun t316 => (if t316 = true then ((stamp_Merge.f ([] : List (List (S23)))).bind fun t317 => ((folkmootref01_Same.f kj3 t317 ([] : List (S23))).bind fun t320 => (if t320 = true then ((folkmootlaw01_live.f).bind fun t321 => (some t321)) else (some false)))) else (some false)))))) else (some false))))) else (some false)))))) = some true := by rw [if_pos rfl] at H; exact H
            clear H
            have H := H1
            clear H1
            replace H := Option.bind_eq_some_iff.mp H
            obtain ⟨t289, A190, H⟩ := H
            replace H : ((folkmootlaw01_own.f t270).bind fun t292 => ((stamp_Merge.f (([t289, t292] : List (List (S23))))).bind fun t298 => ((folkmootref01_Same.f kj3 t298 t279).bind fun t301 => (if t301 = true then ((folkmootlaw01_own.f t267).bind fun t302 => ((stamp_Has.f t302 a2_0 a2_1).bind fun t305 => ((folkmootref01_Has.f kj3 t267 a2_0 a2_1).bind fun t306 => (if (t305 == t306) = true then ((folkmootlaw01_own.f t267).bind fun t307 => ((stamp_Below.f t307 a2_0 a2_1).bind fun t310 => ((folkmootref01_Below.f kj3 t267 a2_0 a2_1).bind fun t313 => ((folkmootref01_Same.f kj3 t310 t313).bind fun t316 => (if t316 = true then ((stamp_Merge.f ([] : List (List (S23)))).bind fun t317 => ((folkmootref01_Same.f kj3 t317 ([] : List (S23))).bind fun t320 => (if t320 = true then ((folkmootlaw01_live.f).bind fun t321 => (some t321)) else (some false)))) else (some false)))))) else (some false))))) else (some false))))) = some true := H
            have A19 := Aside0.mk A190
            clear A190
            replace H := Option.bind_eq_some_iff.mp H
            obtain ⟨t292, A200, H⟩ := H
            replace H : ((stamp_Merge.f (([t289, t292] : List (List (S23))))).bind fun t298 => ((folkmootref01_Same.f kj3 t298 t279).bind fun t301 => (if t301 = true then ((folkmootlaw01_own.f t267).bind fun t302 => ((stamp_Has.f t302 a2_0 a2_1).bind fun t305 => ((folkmootref01_Has.f kj3 t267 a2_0 a2_1).bind fun t306 => (if (t305 == t306) = true then ((folkmootlaw01_own.f t267).bind fun t307 => ((stamp_Below.f t307 a2_0 a2_1).bind fun t310 => ((folkmootref01_Below.f kj3 t267 a2_0 a2_1).bind fun t313 => ((folkmootref01_Same.f kj3 t310 t313).bind fun t316 => (if t316 = true then ((stamp_Merge.f ([] : List (List (S23)))).bind fun t317 => ((folkmootref01_Same.f kj3 t317 ([] : List (S23))).bind fun t320 => (if t320 = true then ((folkmootlaw01_live.f).bind fun t321 => (some t321)) else (some false)))) else (some false)))))) else (some false))))) else (some false)))) = some true := H
            have A20 := Aside0.mk A200
            clear A200
            obtain ⟨y295, hy295⟩ : ∃ y_ : List (List (S23)), y_ = (([t289, t292] : List (List (S23)))) := ⟨_, rfl⟩
            replace H : ((stamp_Merge.f y295).bind fun t298 => ((folkmootref01_Same.f kj3 t298 t279).bind fun t301 => (if t301 = true then ((folkmootlaw01_own.f t267).bind fun t302 => ((stamp_Has.f t302 a2_0 a2_1).bind fun t305 => ((folkmootref01_Has.f kj3 t267 a2_0 a2_1).bind fun t306 => (if (t305 == t306) = true then ((folkmootlaw01_own.f t267).bind fun t307 => ((stamp_Below.f t307 a2_0 a2_1).bind fun t310 => ((folkmootref01_Below.f kj3 t267 a2_0 a2_1).bind fun t313 => ((folkmootref01_Same.f kj3 t310 t313).bind fun t316 => (if t316 = true then ((stamp_Merge.f ([] : List (List (S23)))).bind fun t317 => ((folkmootref01_Same.f kj3 t317 ([] : List (S23))).bind fun t320 => (if t320 = true then ((folkmootlaw01_live.f).bind fun t321 => (some t321)) else (some false)))) else (some false)))))) else (some false))))) else (some false)))) = some true := by first | (rw [hy295]; with_reducible exact H) | (have H2_ := (Option.bind_some _ _).symm.trans H; rw [hy295]; with_reducible exact H2_) | (have H2_ := (Option.bind_some _ _).symm.trans H; with_reducible exact H2_) | with_reducible exact H | (rw [hy295]; exact H) | exact H
            have Ny295 := Aside0.mk hy295
            clear hy295
            replace H := Option.bind_eq_some_iff.mp H
            obtain ⟨t298, A210, H⟩ := H
            replace H : ((folkmootref01_Same.f kj3 t298 t279).bind fun t301 => (if t301 = true then ((folkmootlaw01_own.f t267).bind fun t302 => ((stamp_Has.f t302 a2_0 a2_1).bind fun t305 => ((folkmootref01_Has.f kj3 t267 a2_0 a2_1).bind fun t306 => (if (t305 == t306) = true then ((folkmootlaw01_own.f t267).bind fun t307 => ((stamp_Below.f t307 a2_0 a2_1).bind fun t310 => ((folkmootref01_Below.f kj3 t267 a2_0 a2_1).bind fun t313 => ((folkmootref01_Same.f kj3 t310 t313).bind fun t316 => (if t316 = true then ((stamp_Merge.f ([] : List (List (S23)))).bind fun t317 => ((folkmootref01_Same.f kj3 t317 ([] : List (S23))).bind fun t320 => (if t320 = true then ((folkmootlaw01_live.f).bind fun t321 => (some t321)) else (some false)))) else (some false)))))) else (some false))))) else (some false))) = some true := H
            have A21 := Aside0.mk A210
            clear A210
            replace H := Option.bind_eq_some_iff.mp H
            obtain ⟨t301, A220, H⟩ := H
            replace H : (if t301 = true then ((folkmootlaw01_own.f t267).bind fun t302 => ((stamp_Has.f t302 a2_0 a2_1).bind fun t305 => ((folkmootref01_Has.f kj3 t267 a2_0 a2_1).bind fun t306 => (if (t305 == t306) = true then ((folkmootlaw01_own.f t267).bind fun t307 => ((stamp_Below.f t307 a2_0 a2_1).bind fun t310 => ((folkmootref01_Below.f kj3 t267 a2_0 a2_1).bind fun t313 => ((folkmootref01_Same.f kj3 t310 t313).bind fun t316 => (if t316 = true then ((stamp_Merge.f ([] : List (List (S23)))).bind fun t317 => ((folkmootref01_Same.f kj3 t317 ([] : List (S23))).bind fun t320 => (if t320 = true then ((folkmootlaw01_live.f).bind fun t321 => (some t321)) else (some false)))) else (some false)))))) else (some false))))) else (some false)) = some true := H
            have A22 := Aside0.mk A220
            clear A220
            by_cases c23 : t301 = true
            · subst c23
              have H1 : ((folkmootlaw01_own.f t267).bind fun t302 => ((stamp_Has.f t302 a2_0 a2_1).bind fun t305 => ((folkmootref01_Has.f kj3 t267 a2_0 a2_1).bind fun t306 => (if (t305 == t306) = true then ((folkmootlaw01_own.f t267).bind fun t307 => ((stamp_Below.f t307 a2_0 a2_1).bind fun t310 => ((folkmootref01_Below.f kj3 t267 a2_0 a2_1).bind fun t313 => ((folkmootref01_Same.f kj3 t310 t313).bind fun t316 => (if t316 = true then ((stamp_Merge.f ([] : List (List (S23)))).bind fun t317 => ((folkmootref01_Same.f kj3 t317 ([] : List (S23))).bind fun t320 => (if t320 = true then ((folkmootlaw01_live.f).bind fun t321 => (some t321)) else (some false)))) else (some false)))))) else (some false))))) = some true := by rw [if_pos rfl] at H; exact H
              clear H
              have H := H1
              clear H1
              replace H := Option.bind_eq_some_iff.mp H
              obtain ⟨t302, A240, H⟩ := H
              replace H : ((stamp_Has.f t302 a2_0 a2_1).bind fun t305 => ((folkmootref01_Has.f kj3 t267 a2_0 a2_1).bind fun t306 => (if (t305 == t306) = true then ((folkmootlaw01_own.f t267).bind fun t307 => ((stamp_Below.f t307 a2_0 a2_1).bind fun t310 => ((folkmootref01_Below.f kj3 t267 a2_0 a2_1).bind fun t313 => ((folkmootref01_Same.f kj3 t310 t313).bind fun t316 => (if t316 = true then ((stamp_Merge.f ([] : List (List (S23)))).bind fun t317 => ((folkmootref01_Same.f kj3 t317 ([] : List (S23))).bind fun t320 => (if t320 = true then ((folkmootlaw01_live.f).bind fun t321 => (some t321)) else (some false)))) else (some false)))))) else (some false)))) = some true := H
              have A24 := Aside0.mk A240
              clear A240
              replace H := Option.bind_eq_some_iff.mp H
              obtain ⟨t305, A250, H⟩ := H
              replace H : ((folkmootref01_Has.f kj3 t267 a2_0 a2_1).bind fun t306 => (if (t305 == t306) = true then ((folkmootlaw01_own.f t267).bind fun t307 => ((stamp_Below.f t307 a2_0 a2_1).bind fun t310 => ((folkmootref01_Below.f kj3 t267 a2_0 a2_1).bind fun t313 => ((folkmootref01_Same.f kj3 t310 t313).bind fun t316 => (if t316 = true then ((stamp_Merge.f ([] : List (List (S23)))).bind fun t317 => ((folkmootref01_Same.f kj3 t317 ([] : List (S23))).bind fun t320 => (if t320 = true then ((folkmootlaw01_live.f).bind fun t321 => (some t321)) else (some false)))) else (some false)))))) else (some false))) = some true := H
              have A25 := Aside0.mk A250
              clear A250
              replace H := Option.bind_eq_some_iff.mp H
              obtain ⟨t306, A260, H⟩ := H
              replace H : (if (t305 == t306) = true then ((folkmootlaw01_own.f t267).bind fun t307 => ((stamp_Below.f t307 a2_0 a2_1).bind fun t310 => ((folkmootref01_Below.f kj3 t267 a2_0 a2_1).bind fun t313 => ((folkmootref01_Same.f kj3 t310 t313).bind fun t316 => (if t316 = true then ((stamp_Merge.f ([] : List (List (S23)))).bind fun t317 => ((folkmootref01_Same.f kj3 t317 ([] : List (S23))).bind fun t320 => (if t320 = true then ((folkmootlaw01_live.f).bind fun t321 => (some t321)) else (some false)))) else (some false)))))) else (some false)) = some true := H
              have A26 := Aside0.mk A260
              clear A260
              by_cases c27 : (t305 == t306) = true
              · rw [if_pos c27] at H
                have c27b0 : (t305 == t306) = true := c27
                (try (have c27e : (t305 = t306) := by simpa using c27))
                (try (have c27b1 : decide (t305 = t306) = true := by simpa using c27))
                (try (have c27b2 : (t305 == t306) = true := by simpa using c27))
                clear c27
                replace H := Option.bind_eq_some_iff.mp H
                obtain ⟨t307, A280, H⟩ := H
                replace H : ((stamp_Below.f t307 a2_0 a2_1).bind fun t310 => ((folkmootref01_Below.f kj3 t267 a2_0 a2_1).bind fun t313 => ((folkmootref01_Same.f kj3 t310 t313).bind fun t316 => (if t316 = true then ((stamp_Merge.f ([] : List (List (S23)))).bind fun t317 => ((folkmootref01_Same.f kj3 t317 ([] : List (S23))).bind fun t320 => (if t320 = true then ((folkmootlaw01_live.f).bind fun t321 => (some t321)) else (some false)))) else (some false))))) = some true := H
                have A28 := Aside0.mk A280
                clear A280
                replace H := Option.bind_eq_some_iff.mp H
                obtain ⟨t310, A290, H⟩ := H
                replace H : ((folkmootref01_Below.f kj3 t267 a2_0 a2_1).bind fun t313 => ((folkmootref01_Same.f kj3 t310 t313).bind fun t316 => (if t316 = true then ((stamp_Merge.f ([] : List (List (S23)))).bind fun t317 => ((folkmootref01_Same.f kj3 t317 ([] : List (S23))).bind fun t320 => (if t320 = true then ((folkmootlaw01_live.f).bind fun t321 => (some t321)) else (some false)))) else (some false)))) = some true := H
                have A29 := Aside0.mk A290
                clear A290
                replace H := Option.bind_eq_some_iff.mp H
                obtain ⟨t313, A300, H⟩ := H
                replace H : ((folkmootref01_Same.f kj3 t310 t313).bind fun t316 => (if t316 = true then ((stamp_Merge.f ([] : List (List (S23)))).bind fun t317 => ((folkmootref01_Same.f kj3 t317 ([] : List (S23))).bind fun t320 => (if t320 = true then ((folkmootlaw01_live.f).bind fun t321 => (some t321)) else (some false)))) else (some false))) = some true := H
                have A30 := Aside0.mk A300
                clear A300
                replace H := Option.bind_eq_some_iff.mp H
                obtain ⟨t316, A310, H⟩ := H
                replace H : (if t316 = true then ((stamp_Merge.f ([] : List (List (S23)))).bind fun t317 => ((folkmootref01_Same.f kj3 t317 ([] : List (S23))).bind fun t320 => (if t320 = true then ((folkmootlaw01_live.f).bind fun t321 => (some t321)) else (some false)))) else (some false)) = some true := H
                have A31 := Aside0.mk A310
                clear A310
                by_cases c32 : t316 = true
                · subst c32
                  have H1 : ((stamp_Merge.f ([] : List (List (S23)))).bind fun t317 => ((folkmootref01_Same.f kj3 t317 ([] : List (S23))).bind fun t320 => (if t320 = true then ((folkmootlaw01_live.f).bind fun t321 => (some t321)) else (some false)))) = some true := by rw [if_pos rfl] at H; exact H
                  clear H
                  have H := H1
                  clear H1
                  replace H := Option.bind_eq_some_iff.mp H
                  obtain ⟨t317, A330, H⟩ := H
                  replace H : ((folkmootref01_Same.f kj3 t317 ([] : List (S23))).bind fun t320 => (if t320 = true then ((folkmootlaw01_live.f).bind fun t321 => (some t321)) else (some false))) = some true := H
                  have A33 := Aside0.mk A330
                  clear A330
                  replace H := Option.bind_eq_some_iff.mp H
                  obtain ⟨t320, A340, H⟩ := H
                  replace H : (if t320 = true then ((folkmootlaw01_live.f).bind fun t321 => (some t321)) else (some false)) = some true := H
                  have A34 := Aside0.mk A340
                  clear A340
                  by_cases c35 : t320 = true
                  · subst c35
                    have H1 : ((folkmootlaw01_live.f).bind fun t321 => (some t321)) = some true := by rw [if_pos rfl] at H; exact H
                    clear H
                    have H := H1
                    clear H1
                    replace H := Option.bind_eq_some_iff.mp H
                    obtain ⟨t321, A360, H⟩ := H
                    replace H : (some t321) = some true := H
                    have A36 := Aside0.mk A360
                    clear A360
                    have hrt_ := Aside0.mk (Option.some.inj H)
                    clear H
                    try go_wp2_with (first | ((with_reducible refine gate_callee (f := 39) rfl ?_); refine goesL_ (some 20) rfl rfl Try.func39 (by kernel_rfl) rfl #[.slice A0 l0.length c0] rfl (by (try simp only [List.map_toArray, List.map_cons, List.map_nil]); first | done | rfl | (simp only [List.length_drop, List.length_take]; rfl)) ?_; (with_reducible refine (folkmootref01_Sort.calls _ _ l0 t267 _ ?side1 ?side2 A10.out).mono ?_); (case side1 => exact uC (Kd.C_below HR0.out HB.out)); (case side2 => exact HC0.out); rintro e w37 ⟨v268, rfl, ho0, hb⟩; refine ⟨_, rfl, ?_⟩; have HO269 := Aside0.mk (Kd.R_lower (Kd.R_newB ho0 (g := gb265) (o := .cells #[.int .i64 a2_0, .int .i64 a2_1] 23 (0, 0)) (by (with_reducible repeat (first | refine blk_drewN ?_ _ | refine blk_drew ?_ | refine blk_alloc ?_ _)); exact BK265.out)) (below_size (by repeat (first | (with_reducible first | exact HB.out | apply below_alloc | apply pw_below_drewN | apply below_drew1 | refine below_set ?_ GE265.out) | exact HB.out)))); replace BK265 := Aside0.mk (blk_below (g := gb265) (o := .cells #[.int .i64 a2_0, .int .i64 a2_1] 23 (0, 0)) (by (with_reducible repeat (first | refine blk_drewN ?_ _ | refine blk_drew ?_ | refine blk_alloc ?_ _)); exact BK265.out) hb); replace HB := Aside0.mk (below_step (by repeat (first | (with_reducible first | exact HB.out | apply below_alloc | apply pw_below_drewN | apply below_drew1 | refine below_set ?_ GE265.out) | exact HB.out)) hb); (try clear hb); (try clear hb2); (try clear hk); (try clear hi); (try clear ho0)) | ((with_reducible refine gate_callee (f := 39) rfl ?_); refine goesL_ (some 22) rfl rfl Try.func39 (by kernel_rfl) rfl #[.slice A1 l1.length c1] rfl (by (try simp only [List.map_toArray, List.map_cons, List.map_nil]); first | done | rfl | (simp only [List.length_drop, List.length_take]; rfl)) ?_; (with_reducible refine (folkmootref01_Sort.calls _ _ l1 t270 _ ?side1 ?side2 A11.out).mono ?_); (case side1 => exact uC (Kd.C_below HR1.out HB.out)); (case side2 => exact HC1.out); rintro e w38 ⟨v271, rfl, ho0, hb⟩; refine ⟨_, rfl, ?_⟩; have HO272 := Aside0.mk (Kd.R_lower (Kd.R_newB (nR ho0 HO269) (g := gb265) (o := .cells #[.int .i64 a2_0, .int .i64 a2_1] 23 (0, 0)) (by (with_reducible repeat (first | refine blk_drewN ?_ _ | refine blk_drew ?_ | refine blk_alloc ?_ _)); exact BK265.out)) (below_size (by repeat (first | (with_reducible first | exact HB.out | apply below_alloc | apply pw_below_drewN | apply below_drew1 | refine below_set ?_ GE265.out) | exact HB.out)))); replace HO269 := eR HO269 ho0 hb; replace BK265 := Aside0.mk (blk_below (g := gb265) (o := .cells #[.int .i64 a2_0, .int .i64 a2_1] 23 (0, 0)) (by (with_reducible repeat (first | refine blk_drewN ?_ _ | refine blk_drew ?_ | refine blk_alloc ?_ _)); exact BK265.out) hb); replace HB := Aside0.mk (below_step (by repeat (first | (with_reducible first | exact HB.out | apply below_alloc | apply pw_below_drewN | apply below_drew1 | refine below_set ?_ GE265.out) | exact HB.out)) hb); (try clear hb); (try clear hb2); (try clear hk); (try clear hi); (try clear ho0); obtain ⟨Ao39, co39, eo39⟩ := Kd.R_slice HO269.out; subst eo39) | ((with_reducible refine gate_callee (f := 20) rfl ?_); refine goesL_ (some 24) rfl rfl Try.func20 (by kernel_rfl) rfl #[.slice Ao39 t267.length co39] rfl (by (try simp only [List.map_toArray, List.map_cons, List.map_nil]); first | done | rfl | (simp only [List.length_drop, List.length_take]; rfl)) ?_; (with_reducible refine (folkmootlaw01_own.calls _ _ t267 t273 _ ?side1 ?side2 A12.out).mono ?_); (case side1 => exact uC (Kd.R_reads' HO269.out).2.2); (case side2 => exact (Kd.R_reads' HO269.out).2.1); rintro e w40 ⟨v274, rfl, ho0, hb⟩; refine ⟨_, rfl, ?_⟩; have HO275 := Aside0.mk (Kd.R_lower (Kd.R_newB (nR (nR ho0 HO269) HO272) (g := gb265) (o := .cells #[.int .i64 a2_0, .int .i64 a2_1] 23 (0, 0)) (by (with_reducible repeat (first | refine blk_drewN ?_ _ | refine blk_drew ?_ | refine blk_alloc ?_ _)); exact BK265.out)) (below_size (by repeat (first | (with_reducible first | exact HB.out | apply below_alloc | apply pw_below_drewN | apply below_drew1 | refine below_set ?_ GE265.out) | exact HB.out)))); replace HO269 := eR HO269 ho0 hb; replace HO272 := eR HO272 ho0 hb; replace BK265 := Aside0.mk (blk_below (g := gb265) (o := .cells #[.int .i64 a2_0, .int .i64 a2_1] 23 (0, 0)) (by (with_reducible repeat (first | refine blk_drewN ?_ _ | refine blk_drew ?_ | refine blk_alloc ?_ _)); exact BK265.out) hb); replace HB := Aside0.mk (below_step (by repeat (first | (with_reducible first | exact HB.out | apply below_alloc | apply pw_below_drewN | apply below_drew1 | refine below_set ?_ GE265.out) | exact HB.out)) hb); (try clear hb); (try clear hb2); (try clear hk); (try clear hi); (try clear ho0); obtain ⟨Ao42, co42, eo42⟩ := Kd.R_slice HO272.out; subst eo42) | ((with_reducible refine gate_builtin (b := .append) (xs := #[.tmp 24, .tmp 25]) rfl ?_); (try (refine gate_guard (by rfl) ?_; dsimp only)); at_builtin; refine Kd.R_append_rows k23 (w0 := w) w.heap.size rfl (.tmp 24) (.tmp 25) 31 23 (.agg #[(.int .i64 0), (.int .i64 0)]) 16 rfl Try.underlying31 info23 rfl (by decide) (by omega) v274 t273 t270 _ _ _ (fun k_ => some k_ ≠ (.slice Ao39 t267.length co39 : Value).ownBlock ∧ some k_ ≠ (.slice Ao42 t270.length co42 : Value).ownBlock ∧ k_ ≠ gb265) (fun _ => False) rfl rfl ?aO ?aR (fun _ _ h => h) (fun _ h => h.elim) ?aF ?aB ?aS ?aL ?_; (case aR => exact uC (Kd.R_reads' HO272.out).2.2); (case aB => exact (by repeat (first | (with_reducible first | exact HB.out | apply below_alloc | apply pw_below_drewN | apply below_drew1 | refine below_set ?_ GE265.out) | exact HB.out))); (case aF => exact (fun k_ hk => ⟨Kd.fresh' (Kd.R_lt (uR HO269)) k_ hk, Kd.fresh' (Kd.R_lt (uR HO272)) k_ hk, Kd.freshB (g := gb265) (o := .cells #[.int .i64 a2_0, .int .i64 a2_1] 23 (0, 0)) (by (with_reducible repeat (first | refine blk_drewN ?_ _ | refine blk_drew ?_ | refine blk_alloc ?_ _)); exact BK265.out) k_ hk⟩)); (case aO => exact (by (with_reducible repeat (first | apply Kd.R_alloc | apply Kd.R_drewN | apply Kd.R_drew)); exact Kd.R_mono HO275.out (fun _ hk => ⟨hk.1.1.2, ⟨hk.1.2, hk.2⟩⟩))); (case aS => exact (below_size (by repeat (first | (with_reducible first | exact HB.out | apply below_alloc | apply pw_below_drewN | apply below_drew1 | refine below_set ?_ GE265.out) | exact HB.out)))); (case aL => have := LMc13.out; omega); intro v277 w41 ho hb hg hat; rw [← Ny276.out] at ho; have n0_ := Aside0.mk (blk_grown (g := gb265) (o := .cells #[.int .i64 a2_0, .int .i64 a2_1] 23 (0, 0)) (by (with_reducible repeat (first | refine blk_drewN ?_ _ | refine blk_drew ?_ | refine blk_alloc ?_ _)); exact BK265.out) hg (Kd.R_away HO275.out (fun _ hk => hk.2))); have n1_ := Aside0.mk (Kd.R_after (ok := (fun k_ => some k_ ≠ (.slice Ao42 t270.length co42 : Value).ownBlock ∧ k_ ≠ gb265)) (by (with_reducible repeat (first | apply Kd.R_alloc | apply Kd.R_drewN | apply Kd.R_drew)); exact Kd.R_mono HO269.out (fun _ hk => ⟨⟨hk.1.2, hk.1.1.2⟩, hk.2⟩)) hg hat); have n2_ := Aside0.mk (Kd.R_after (ok := (fun k_ => some k_ ≠ (.slice Ao39 t267.length co39 : Value).ownBlock ∧ k_ ≠ gb265)) (by (with_reducible repeat (first | apply Kd.R_alloc | apply Kd.R_drewN | apply Kd.R_drew)); exact Kd.R_mono HO272.out (fun _ hk => ⟨⟨hk.1.1.2, hk.1.2⟩, hk.2⟩)) hg hat); have n3_ := Aside0.mk (hb); have n4_ := Aside0.mk (ho); clear BK265; clear HO269; clear HO272; clear HB; clear HO275; have BK265 := n0_; have HO269 := n1_; have HO272 := n2_; have HB := n3_; have HO278 := n4_; clear n0_ n1_ n2_ n3_ n4_; clear ho hb hg hat; obtain ⟨Ao43, co43, eo43⟩ := Kd.R_slice HO278.out; subst eo43) | ((with_reducible refine gate_callee (f := 39) rfl ?_); refine goesL_ (some 27) rfl rfl Try.func39 (by kernel_rfl) rfl #[.slice Ao43 y276.length co43] rfl (by (try simp only [List.map_toArray, List.map_cons, List.map_nil]); first | done | rfl | (simp only [List.length_drop, List.length_take]; rfl)) ?_; (with_reducible refine (folkmootref01_Sort.calls _ _ y276 t279 _ ?side1 ?side2 A14.out).mono ?_); (case side1 => exact uC (Kd.R_reads' HO278.out).2.2); (case side2 => exact (Kd.R_reads' HO278.out).2.1); rintro e w44 ⟨v280, rfl, ho0, hb⟩; refine ⟨_, rfl, ?_⟩; have HO281 := Aside0.mk (Kd.R_lower (Kd.R_newB (nR (nR (nR ho0 HO269) HO272) HO278) (g := gb265) (o := .cells #[.int .i64 a2_0, .int .i64 a2_1] 23 (0, 0)) (by (with_reducible repeat (first | refine blk_drewN ?_ _ | refine blk_drew ?_ | refine blk_alloc ?_ _)); exact BK265.out)) (below_size (by repeat (first | (with_reducible first | exact HB.out | apply below_alloc | apply pw_below_drewN | apply below_drew1 | refine below_set ?_ GE265.out) | exact HB.out)))); replace HO269 := eR HO269 ho0 hb; replace HO272 := eR HO272 ho0 hb; replace HO278 := eR HO278 ho0 hb; replace BK265 := Aside0.mk (blk_below (g := gb265) (o := .cells #[.int .i64 a2_0, .int .i64 a2_1] 23 (0, 0)) (by (with_reducible repeat (first | refine blk_drewN ?_ _ | refine blk_drew ?_ | refine blk_alloc ?_ _)); exact BK265.out) hb); replace HB := Aside0.mk (below_step (by repeat (first | (with_reducible first | exact HB.out | apply below_alloc | apply pw_below_drewN | apply below_drew1 | refine below_set ?_ GE265.out) | exact HB.out)) hb); (try clear hb); (try clear hb2); (try clear hk); (try clear hi); (try clear ho0)))
                    replace HO269 := Aside0.mk (Kd.R_drew HO269.out)
                    replace HO272 := Aside0.mk (Kd.R_drew HO272.out)
                    replace HO278 := Aside0.mk (Kd.R_drew HO278.out)
                    replace HO281 := Aside0.mk (Kd.R_drew HO281.out)
                    replace BK265 := Aside0.mk (blk_drew BK265.out)
                    replace HB := Aside0.mk (below_drew1 HB.out)
                    refine start_ (n := 43) (S := fun w' => w'.cell? ⟨gb265, 0, none⟩ = some (.int .i64 a2_0) ∧ w'.cell? ⟨gb265, 1, none⟩ = some (.int .i64 a2_1)) (ds := []) #[false, false, false, false, false, false, false, false, false, false, false, false, false, false, false, false, false, false, false, false, false, false, false, false, false, false, false, false, false, false, false, false, false, false, false, false, false, false, false, false, false, false, false] (by kernel_rfl) rfl rfl ⟨(blk_cell BK265.out 0).trans rfl, (blk_cell BK265.out 1).trans rfl⟩ (fun hHeld => ?_); refine with_tabW folkmootlaw01_StampLists.tab5 folkmootlaw01_StampLists.bits5 (fun HT_ HW_ => ?_)
                    generalize w44.drew = w45 at HO269 HO272 HO278 HO281 BK265 HB hHeld ⊢
                    refine pure_ (i := 0) (N := some 28) (v := ?_) (a' := ?_) #[true, false, false, false, false, false, false, false, false, false, false, false, false, false, false, false, false, false, false, false, false, false, false, false, false, false, false, false, false, false, false, false, false, false, false, false, false, false, false, false, false, false, false] rfl rfl (any_of HT_.out (by kernel_rfl)) (fun _ _ _ h => h) (Or.inl ⟨by rfl, ?_⟩) ?_ ?_
                    rotate_left
                    · intro w'
                      go_simp
                      with_reducible rfl
                    rotate_left
                    · simp only [Act.put, List.setIfInBounds_toArray, List.set_cons_zero, List.set_cons_succ, i64_w, i32_w]
                      rfl
                    refine pure_ (i := 3) (N := some 31) (v := ?_) (a' := ?_) #[true, false, false, true, false, false, false, false, false, false, false, false, false, false, false, false, false, false, false, false, false, false, false, false, false, false, false, false, false, false, false, false, false, false, false, false, false, false, false, false, false, false, false] rfl rfl (any_of HT_.out (by kernel_rfl)) (fun _ _ _ h => h) (Or.inl ⟨by rfl, ?_⟩) ?_ ?_
                    rotate_left
                    · intro w'
                      go_simp
                      with_reducible rfl
                    rotate_left
                    · simp only [Act.put, List.setIfInBounds_toArray, List.set_cons_zero, List.set_cons_succ, i64_w, i32_w]
                      rfl
                    refine one_ (i := 1) (N := some 29) #[true, true, false, true, false, false, false, false, false, false, false, false, false, false, false, false, false, false, false, false, false, false, false, false, false, false, false, false, false, false, false, false, false, false, false, false, false, false, false, false, false, false, false] rfl rfl (one_of HT_.out (by kernel_rfl)) (by decide) (fun K hK => ?_)
                    refine goes_ Try.func20 (by kernel_rfl) rfl #[.slice A0 l0.length c0] (by rfl) rfl rfl (by (try simp only [List.map_toArray, List.map_cons, List.map_nil]); first | done | rfl | (simp only [List.length_drop, List.length_take]; rfl)) ?_
                    with_reducible refine (folkmootlaw01_own.calls _ _ l0 t282 _ ?side1 ?side2 A15.out).mono ?_
                    (case side1 => exact uC (Kd.C_below HR0.out HB.out))
                    (case side2 => exact HC0.out)
                    rintro e w46 ⟨v283, rfl, ho0, hb⟩
                    refine ⟨_, rfl, ?_⟩
                    have HO284 := Aside0.mk (Kd.R_lower (Kd.R_newB (Kd.R_new' (nR (nR (nR ho0 HO269) HO272) HO278) (Kd.R_lt (uR HO281))) (g := gb265) (o := .cells #[.int .i64 a2_0, .int .i64 a2_1] 23 (0, 0)) (by (with_reducible repeat (first | refine blk_drewN ?_ _ | refine blk_drew ?_ | refine blk_alloc ?_ _)); exact BK265.out)) (below_size (by repeat (first | (with_reducible first | exact HB.out | apply below_alloc | apply pw_below_drewN | apply below_drew1 | refine below_set ?_ GE265.out) | exact HB.out))))
                    replace HO269 := eR HO269 ho0 hb
                    replace HO272 := eR HO272 ho0 hb
                    replace HO278 := eR HO278 ho0 hb
                    replace HO281 := eR HO281 ho0 hb
                    replace BK265 := Aside0.mk (blk_below (g := gb265) (o := .cells #[.int .i64 a2_0, .int .i64 a2_1] 23 (0, 0)) (by (with_reducible repeat (first | refine blk_drewN ?_ _ | refine blk_drew ?_ | refine blk_alloc ?_ _)); exact BK265.out) hb)
                    replace HB := Aside0.mk (below_step (by repeat (first | (with_reducible first | exact HB.out | apply below_alloc | apply pw_below_drewN | apply below_drew1 | refine below_set ?_ GE265.out) | exact HB.out)) hb)
                    (try clear hb)
                    (try clear hb2)
                    (try clear hk)
                    (try clear hi)
                    (try clear ho0)
                    obtain ⟨Ao47, co47, eo47⟩ := Kd.R_slice HO284.out
                    (first | subst eo47 | (injection eo47 with f1_ f2_ f3_; have f4_ := f1_.symm; have f5_ := f3_.symm; clear f1_ f2_ f3_; subst f4_; subst f5_))
                    refine hK.out _ _ ⟨(blk_cell BK265.out 0).trans rfl, (blk_cell BK265.out 1).trans rfl⟩ (fun hHeld => ?_)
                    clear hK K
                    refine norm_ (a' := ?_) ?_ ?_
                    rotate_left
                    · show Act.put _ (some 29) _ = _
                      simp only [Act.put, List.setIfInBounds_toArray, List.set_cons_zero, List.set_cons_succ, i64_w, i32_w]
                      rfl
                    refine one_ (i := 2) (N := some 30) #[true, true, true, true, false, false, false, false, false, false, false, false, false, false, false, false, false, false, false, false, false, false, false, false, false, false, false, false, false, false, false, false, false, false, false, false, false, false, false, false, false, false, false] rfl rfl (one_of HT_.out (by kernel_rfl)) (by decide) (fun K hK => ?_)
                    refine goes_ Try.func33 (by kernel_rfl) rfl #[.slice Ao47 t282.length co47] (by rfl) rfl rfl (by (try simp only [List.map_toArray, List.map_cons, List.map_nil]); first | done | rfl | (simp only [List.length_drop, List.length_take]; rfl)) ?_
                    with_reducible refine (stamp_Sort.calls _ _ t282 t285 _ ?side1 ?side2 A16.out).mono ?_
                    (case side1 => exact uC (Kd.R_reads' HO284.out).2.2)
                    (case side2 => exact (Kd.R_reads' HO284.out).2.1)
                    rintro e w48 ⟨v286, rfl, ho0, hb⟩
                    refine ⟨_, rfl, ?_⟩
                    have HO287 := Aside0.mk (Kd.R_lower (Kd.R_newB (Kd.R_new' (Kd.R_new' (nR (nR (nR ho0 HO269) HO272) HO278) (Kd.R_lt (uR HO281))) (Kd.R_lt (uR HO284))) (g := gb265) (o := .cells #[.int .i64 a2_0, .int .i64 a2_1] 23 (0, 0)) (by (with_reducible repeat (first | refine blk_drewN ?_ _ | refine blk_drew ?_ | refine blk_alloc ?_ _)); exact BK265.out)) (below_size (by repeat (first | (with_reducible first | exact HB.out | apply below_alloc | apply pw_below_drewN | apply below_drew1 | refine below_set ?_ GE265.out) | exact HB.out))))
                    replace HO269 := eR HO269 ho0 hb
                    replace HO272 := eR HO272 ho0 hb
                    replace HO278 := eR HO278 ho0 hb
                    replace HO281 := eR HO281 ho0 hb
                    replace HO284 := eR HO284 ho0 hb
                    replace BK265 := Aside0.mk (blk_below (g := gb265) (o := .cells #[.int .i64 a2_0, .int .i64 a2_1] 23 (0, 0)) (by (with_reducible repeat (first | refine blk_drewN ?_ _ | refine blk_drew ?_ | refine blk_alloc ?_ _)); exact BK265.out) hb)
                    replace HB := Aside0.mk (below_step (by repeat (first | (with_reducible first | exact HB.out | apply below_alloc | apply pw_below_drewN | apply below_drew1 | refine below_set ?_ GE265.out) | exact HB.out)) hb)
                    (try clear hb)
                    (try clear hb2)
                    (try clear hk)
                    (try clear hi)
                    (try clear ho0)
                    obtain ⟨Ao49, co49, eo49⟩ := Kd.R_slice HO287.out
                    (first | subst eo49 | (injection eo49 with f1_ f2_ f3_; have f4_ := f1_.symm; have f5_ := f3_.symm; clear f1_ f2_ f3_; subst f4_; subst f5_))
                    refine hK.out _ _ ⟨(blk_cell BK265.out 0).trans rfl, (blk_cell BK265.out 1).trans rfl⟩ (fun hHeld => ?_)
                    clear hK K
                    refine norm_ (a' := ?_) ?_ ?_
                    rotate_left
                    · show Act.put _ (some 30) _ = _
                      simp only [Act.put, List.setIfInBounds_toArray, List.set_cons_zero, List.set_cons_succ, i64_w, i32_w]
                      rfl
                    refine one_ (i := 4) (N := some 32) #[true, true, true, true, true, false, false, false, false, false, false, false, false, false, false, false, false, false, false, false, false, false, false, false, false, false, false, false, false, false, false, false, false, false, false, false, false, false, false, false, false, false, false] rfl rfl (one_of HT_.out (by kernel_rfl)) (by decide) (fun K hK => ?_)
                    refine goes_ Try.func36 (by kernel_rfl) rfl #[.slice Ao49 t285.length co49, .slice Ao39 t267.length co39] (by rfl) rfl rfl (by (try simp only [List.map_toArray, List.map_cons, List.map_nil]); first | done | rfl | (simp only [List.length_drop, List.length_take]; rfl)) ?_
                    with_reducible refine (folkmootref01_Same.calls kj3 _ _ t285 _ _ t267 true _ ?side1 ?side2 ?side3 ?side4 A17.out).mono ?_
                    (case side1 => exact uC (Kd.R_reads' HO287.out).2.2)
                    (case side2 => exact (Kd.R_reads' HO287.out).2.1)
                    (case side3 => exact uC (Kd.R_reads' HO269.out).2.2)
                    (case side4 => exact (Kd.R_reads' HO269.out).2.1)
                    rintro e w' ⟨rfl, ⟨nd, rfl⟩⟩
                    refine ⟨_, rfl, ?_⟩
                    refine hK.out _ _ ⟨(blk_cell BK265.out 0).trans rfl, (blk_cell BK265.out 1).trans rfl⟩ (fun hHeld => ?_)
                    clear hK K
                    refine norm_ (a' := ?_) ?_ ?_
                    rotate_left
                    · show Act.put _ (some 32) _ = _
                      simp only [Act.put, List.setIfInBounds_toArray, List.set_cons_zero, List.set_cons_succ, i64_w, i32_w]
                      rfl
                    refine pure_ (i := 5) (N := some 33) (v := ?_) (a' := ?_) #[true, true, true, true, true, true, false, false, false, false, false, false, false, false, false, false, false, false, false, false, false, false, false, false, false, false, false, false, false, false, false, false, false, false, false, false, false, false, false, false, false, false, false] rfl rfl (any_of HT_.out (by kernel_rfl)) (fun _ _ _ h => h) (Or.inl ⟨by rfl, ?_⟩) ?_ ?_
                    rotate_left
                    · intro w'
                      go_simp
                      with_reducible rfl
                    rotate_left
                    · simp only [Act.put, List.setIfInBounds_toArray, List.set_cons_zero, List.set_cons_succ, i64_w, i32_w]
                      rfl
                    refine pure_ (i := 6) (N := some 34) (v := ?_) (a' := ?_) #[true, true, true, true, true, true, true, false, false, false, false, false, false, false, false, false, false, false, false, false, false, false, false, false, false, false, false, false, false, false, false, false, false, false, false, false, false, false, false, false, false, false, false] rfl rfl (any_of HT_.out (by kernel_rfl)) (fun _ _ _ h => h) (Or.inl ⟨by rfl, ?_⟩) ?_ ?_
                    rotate_left
                    · intro w'
                      go_simp
                      with_reducible rfl
                    rotate_left
                    · simp only [Act.put, List.setIfInBounds_toArray, List.set_cons_zero, List.set_cons_succ, i64_w, i32_w]
                      rfl
                    refine pure_ (i := 8) (N := some 36) (v := ?_) (a' := ?_) #[true, true, true, true, true, true, true, false, true, false, false, false, false, false, false, false, false, false, false, false, false, false, false, false, false, false, false, false, false, false, false, false, false, false, false, false, false, false, false, false, false, false, false] rfl rfl (any_of HT_.out (by kernel_rfl)) (fun _ _ _ h => h) (Or.inl ⟨by rfl, ?_⟩) ?_ ?_
                    rotate_left
                    · intro w'
                      go_simp
                      with_reducible rfl
                    rotate_left
                    · simp only [Act.put, List.setIfInBounds_toArray, List.set_cons_zero, List.set_cons_succ, i64_w, i32_w]
                      rfl
                    refine pure_ (i := 12) (N := some 40) (v := ?_) (a' := ?_) #[true, true, true, true, true, true, true, false, true, false, false, false, true, false, false, false, false, false, false, false, false, false, false, false, false, false, false, false, false, false, false, false, false, false, false, false, false, false, false, false, false, false, false] rfl rfl (any_of HT_.out (by kernel_rfl)) (fun _ _ _ h => h) (Or.inl ⟨by rfl, ?_⟩) ?_ ?_
                    rotate_left
                    · intro w'
                      go_simp
                      with_reducible rfl
                    rotate_left
                    · simp only [Act.put, List.setIfInBounds_toArray, List.set_cons_zero, List.set_cons_succ, i64_w, i32_w]
                      rfl
                    refine one_ (i := 7) (N := some 35) #[true, true, true, true, true, true, true, true, true, false, false, false, true, false, false, false, false, false, false, false, false, false, false, false, false, false, false, false, false, false, false, false, false, false, false, false, false, false, false, false, false, false, false] rfl rfl (one_of HT_.out (by kernel_rfl)) (by decide) (fun K hK => ?_)
                    refine goes_ Try.func20 (by kernel_rfl) rfl #[.slice Ao39 t267.length co39] (by rfl) rfl rfl (by (try simp only [List.map_toArray, List.map_cons, List.map_nil]); first | done | rfl | (simp only [List.length_drop, List.length_take]; rfl)) ?_
                    with_reducible refine (folkmootlaw01_own.calls _ _ t267 t289 _ ?side1 ?side2 A19.out).mono ?_
                    (case side1 => exact uC (Kd.R_reads' HO269.out).2.2)
                    (case side2 => exact (Kd.R_reads' HO269.out).2.1)
                    rintro e w50 ⟨v290, rfl, ho0, hb⟩
                    refine ⟨_, rfl, ?_⟩
                    have HO291 := Aside0.mk (Kd.R_lower (Kd.R_newB (Kd.R_new' (Kd.R_new' (Kd.R_new' (nR (nR (nR ho0 HO269) HO272) HO278) (Kd.R_lt (uR HO281))) (Kd.R_lt (uR HO284))) (Kd.R_lt (uR HO287))) (g := gb265) (o := .cells #[.int .i64 a2_0, .int .i64 a2_1] 23 (0, 0)) (by (with_reducible repeat (first | refine blk_drewN ?_ _ | refine blk_drew ?_ | refine blk_alloc ?_ _)); exact BK265.out)) (below_size (by repeat (first | (with_reducible first | exact HB.out | apply below_alloc | apply pw_below_drewN | apply below_drew1 | refine below_set ?_ GE265.out) | exact HB.out))))
                    replace HO269 := eR HO269 ho0 hb
                    replace HO272 := eR HO272 ho0 hb
                    replace HO278 := eR HO278 ho0 hb
                    replace HO281 := eR HO281 ho0 hb
                    replace HO284 := eR HO284 ho0 hb
                    replace HO287 := eR HO287 ho0 hb
                    replace BK265 := Aside0.mk (blk_below (g := gb265) (o := .cells #[.int .i64 a2_0, .int .i64 a2_1] 23 (0, 0)) (by (with_reducible repeat (first | refine blk_drewN ?_ _ | refine blk_drew ?_ | refine blk_alloc ?_ _)); exact BK265.out) hb)
                    replace HB := Aside0.mk (below_step (by repeat (first | (with_reducible first | exact HB.out | apply below_alloc | apply pw_below_drewN | apply below_drew1 | refine below_set ?_ GE265.out) | exact HB.out)) hb)
                    (try clear hb)
                    (try clear hb2)
                    (try clear hk)
                    (try clear hi)
                    (try clear ho0)
                    refine hK.out _ _ ⟨(blk_cell BK265.out 0).trans rfl, (blk_cell BK265.out 1).trans rfl⟩ (fun hHeld => ?_)
                    clear hK K
                    refine norm_ (a' := ?_) ?_ ?_
                    rotate_left
                    · show Act.put _ (some 35) _ = _
                      simp only [Act.put, List.setIfInBounds_toArray, List.set_cons_zero, List.set_cons_succ, i64_w, i32_w]
                      rfl
                    refine one_ (i := 9) (N := some 37) #[true, true, true, true, true, true, true, true, true, true, false, false, true, false, false, false, false, false, false, false, false, false, false, false, false, false, false, false, false, false, false, false, false, false, false, false, false, false, false, false, false, false, false] rfl rfl (one_of HT_.out (by kernel_rfl)) (by decide) (fun K hK => ?_)
                    refine goes_ Try.func20 (by kernel_rfl) rfl #[.slice Ao42 t270.length co42] (by rfl) rfl rfl (by (try simp only [List.map_toArray, List.map_cons, List.map_nil]); first | done | rfl | (simp only [List.length_drop, List.length_take]; rfl)) ?_
                    with_reducible refine (folkmootlaw01_own.calls _ _ t270 t292 _ ?side1 ?side2 A20.out).mono ?_
                    (case side1 => exact uC (Kd.R_reads' HO272.out).2.2)
                    (case side2 => exact (Kd.R_reads' HO272.out).2.1)
                    rintro e w51 ⟨v293, rfl, ho0, hb⟩
                    refine ⟨_, rfl, ?_⟩
                    have HO294 := Aside0.mk (Kd.R_lower (Kd.R_newB (Kd.R_new' (Kd.R_new' (Kd.R_new' (Kd.R_new' (nR (nR (nR ho0 HO269) HO272) HO278) (Kd.R_lt (uR HO281))) (Kd.R_lt (uR HO284))) (Kd.R_lt (uR HO287))) (Kd.R_lt (uR HO291))) (g := gb265) (o := .cells #[.int .i64 a2_0, .int .i64 a2_1] 23 (0, 0)) (by (with_reducible repeat (first | refine blk_drewN ?_ _ | refine blk_drew ?_ | refine blk_alloc ?_ _)); exact BK265.out)) (below_size (by repeat (first | (with_reducible first | exact HB.out | apply below_alloc | apply pw_below_drewN | apply below_drew1 | refine below_set ?_ GE265.out) | exact HB.out))))
                    replace HO269 := eR HO269 ho0 hb
                    replace HO272 := eR HO272 ho0 hb
                    replace HO278 := eR HO278 ho0 hb
                    replace HO281 := eR HO281 ho0 hb
                    replace HO284 := eR HO284 ho0 hb
                    replace HO287 := eR HO287 ho0 hb
                    replace HO291 := eR HO291 ho0 hb
                    replace BK265 := Aside0.mk (blk_below (g := gb265) (o := .cells #[.int .i64 a2_0, .int .i64 a2_1] 23 (0, 0)) (by (with_reducible repeat (first | refine blk_drewN ?_ _ | refine blk_drew ?_ | refine blk_alloc ?_ _)); exact BK265.out) hb)
                    replace HB := Aside0.mk (below_step (by repeat (first | (with_reducible first | exact HB.out | apply below_alloc | apply pw_below_drewN | apply below_drew1 | refine below_set ?_ GE265.out) | exact HB.out)) hb)
                    (try clear hb)
                    (try clear hb2)
                    (try clear hk)
                    (try clear hi)
                    (try clear ho0)
                    obtain ⟨Ao52, co52, eo52⟩ := Kd.R_slice HO291.out
                    (first | subst eo52 | (injection eo52 with f1_ f2_ f3_; have f4_ := f1_.symm; have f5_ := f3_.symm; clear f1_ f2_ f3_; subst f4_; subst f5_))
                    obtain ⟨Ao53, co53, eo53⟩ := Kd.R_slice HO294.out
                    (first | subst eo53 | (injection eo53 with f1_ f2_ f3_; have f4_ := f1_.symm; have f5_ := f3_.symm; clear f1_ f2_ f3_; subst f4_; subst f5_))
                    refine hK.out _ _ ⟨(blk_cell BK265.out 0).trans rfl, (blk_cell BK265.out 1).trans rfl⟩ (fun hHeld => ?_)
                    clear hK K
                    refine norm_ (a' := ?_) ?_ ?_
                    rotate_left
                    · show Act.put _ (some 37) _ = _
                      simp only [Act.put, List.setIfInBounds_toArray, List.set_cons_zero, List.set_cons_succ, i64_w, i32_w]
                      rfl
                    refine one_ (i := 10) (N := some 38) #[true, true, true, true, true, true, true, true, true, true, true, false, true, false, false, false, false, false, false, false, false, false, false, false, false, false, false, false, false, false, false, false, false, false, false, false, false, false, false, false, false, false, false] rfl rfl (one_of HT_.out (by kernel_rfl)) (by decide) (fun K hK => ?_)
                    refine Kd.N_lit_step (Kd.slice 23 k23) _ 31 ?hg (N' := 38) ?hd (xs := ([t289, t292] : List (List (S23)))) (inner := [.slice Ao52 t289.length co52, .slice Ao53 t292.length co53]) (ok := (fun k_ => some k_ ≠ (.slice Ao39 t267.length co39 : Value).ownBlock ∧ some k_ ≠ (.slice Ao42 t270.length co42 : Value).ownBlock ∧ some k_ ≠ (.slice Ao43 y276.length co43 : Value).ownBlock ∧ some k_ ≠ (v280 : Value).ownBlock ∧ some k_ ≠ (.slice Ao47 t282.length co47 : Value).ownBlock ∧ some k_ ≠ (.slice Ao49 t285.length co49 : Value).ownBlock ∧ k_ ≠ gb265)) (okp := (fun k_ => some k_ ≠ (.slice Ao39 t267.length co39 : Value).ownBlock ∧ some k_ ≠ (.slice Ao42 t270.length co42 : Value).ownBlock ∧ some k_ ≠ (.slice Ao43 y276.length co43 : Value).ownBlock ∧ some k_ ≠ (v280 : Value).ownBlock ∧ some k_ ≠ (.slice Ao47 t282.length co47 : Value).ownBlock ∧ some k_ ≠ (.slice Ao49 t285.length co49 : Value).ownBlock ∧ k_ ≠ gb265)) ?hr ?hp (fun _ hk => hk) ((show ∀ k_, w51.heap.size ≤ k_ → (fun k_ => some k_ ≠ (.slice Ao39 t267.length co39 : Value).ownBlock ∧ some k_ ≠ (.slice Ao42 t270.length co42 : Value).ownBlock ∧ some k_ ≠ (.slice Ao43 y276.length co43 : Value).ownBlock ∧ some k_ ≠ (v280 : Value).ownBlock ∧ some k_ ≠ (.slice Ao47 t282.length co47 : Value).ownBlock ∧ some k_ ≠ (.slice Ao49 t285.length co49 : Value).ownBlock ∧ k_ ≠ gb265) k_ from fun k_ hk => ⟨Kd.fresh' (Kd.R_lt (uR HO269)) k_ hk, Kd.fresh' (Kd.R_lt (uR HO272)) k_ hk, Kd.fresh' (Kd.R_lt (uR HO278)) k_ hk, Kd.fresh' (Kd.R_lt (uR HO281)) k_ hk, Kd.fresh' (Kd.R_lt (uR HO284)) k_ hk, Kd.fresh' (Kd.R_lt (uR HO287)) k_ hk, Kd.freshB (g := gb265) (o := .cells #[.int .i64 a2_0, .int .i64 a2_1] 23 (0, 0)) (by (with_reducible repeat (first | refine blk_drewN ?_ _ | refine blk_drew ?_ | refine blk_alloc ?_ _)); exact BK265.out) k_ hk⟩) _ (Nat.le_refl _)) (Below.refl _ _) (Nat.le_refl _) (by simp) ?_; (case hd => rfl); (case hg => rfl); (case hr => first | (go_simp; done) | (go_simp; rfl)); (case hp => exact (Reps.one (show Kd.FK (Kd.slice 23 k23) _ _ t289 [.slice Ao52 t289.length co52] from (Kd.FK_slice_mk (Kd.R_reads' (Kd.R_mono (ok' := (fun k_ => some k_ ≠ (.slice Ao39 t267.length co39 : Value).ownBlock ∧ some k_ ≠ (.slice Ao42 t270.length co42 : Value).ownBlock ∧ some k_ ≠ (.slice Ao43 y276.length co43 : Value).ownBlock ∧ some k_ ≠ (v280 : Value).ownBlock ∧ some k_ ≠ (.slice Ao47 t282.length co47 : Value).ownBlock ∧ some k_ ≠ (.slice Ao49 t285.length co49 : Value).ownBlock ∧ k_ ≠ gb265)) (HO291.out) (fun k_ hk => ⟨hk.1.1.1.1.1.1.1.2, ⟨hk.1.1.1.1.1.1.2, ⟨hk.1.1.1.1.1.2, ⟨hk.1.1.1.1.2, ⟨hk.1.1.1.2, ⟨hk.1.1.2, hk.1.2⟩⟩⟩⟩⟩⟩))).2.1 (Kd.R_F (Kd.R_mono (ok' := (fun k_ => some k_ ≠ (.slice Ao39 t267.length co39 : Value).ownBlock ∧ some k_ ≠ (.slice Ao42 t270.length co42 : Value).ownBlock ∧ some k_ ≠ (.slice Ao43 y276.length co43 : Value).ownBlock ∧ some k_ ≠ (v280 : Value).ownBlock ∧ some k_ ≠ (.slice Ao47 t282.length co47 : Value).ownBlock ∧ some k_ ≠ (.slice Ao49 t285.length co49 : Value).ownBlock ∧ k_ ≠ gb265)) (HO291.out) (fun k_ hk => ⟨hk.1.1.1.1.1.1.1.2, ⟨hk.1.1.1.1.1.1.2, ⟨hk.1.1.1.1.1.2, ⟨hk.1.1.1.1.2, ⟨hk.1.1.1.2, ⟨hk.1.1.2, hk.1.2⟩⟩⟩⟩⟩⟩))))) (Reps.one (show Kd.FK (Kd.slice 23 k23) _ _ t292 [.slice Ao53 t292.length co53] from (Kd.FK_slice_mk (Kd.R_reads' (Kd.R_mono (ok' := (fun k_ => some k_ ≠ (.slice Ao39 t267.length co39 : Value).ownBlock ∧ some k_ ≠ (.slice Ao42 t270.length co42 : Value).ownBlock ∧ some k_ ≠ (.slice Ao43 y276.length co43 : Value).ownBlock ∧ some k_ ≠ (v280 : Value).ownBlock ∧ some k_ ≠ (.slice Ao47 t282.length co47 : Value).ownBlock ∧ some k_ ≠ (.slice Ao49 t285.length co49 : Value).ownBlock ∧ k_ ≠ gb265)) (HO294.out) (fun k_ hk => ⟨hk.1.1.1.1.1.1.1.2, ⟨hk.1.1.1.1.1.1.2, ⟨hk.1.1.1.1.1.2, ⟨hk.1.1.1.1.2, ⟨hk.1.1.1.2, ⟨hk.1.1.2, hk.2⟩⟩⟩⟩⟩⟩))).2.1 (Kd.R_F (Kd.R_mono (ok' := (fun k_ => some k_ ≠ (.slice Ao39 t267.length co39 : Value).ownBlock ∧ some k_ ≠ (.slice Ao42 t270.length co42 : Value).ownBlock ∧ some k_ ≠ (.slice Ao43 y276.length co43 : Value).ownBlock ∧ some k_ ≠ (v280 : Value).ownBlock ∧ some k_ ≠ (.slice Ao47 t282.length co47 : Value).ownBlock ∧ some k_ ≠ (.slice Ao49 t285.length co49 : Value).ownBlock ∧ k_ ≠ gb265)) (HO294.out) (fun k_ hk => ⟨hk.1.1.1.1.1.1.1.2, ⟨hk.1.1.1.1.1.1.2, ⟨hk.1.1.1.1.1.2, ⟨hk.1.1.1.1.2, ⟨hk.1.1.1.2, ⟨hk.1.1.2, hk.2⟩⟩⟩⟩⟩⟩))))) (Reps.none _ _))))
                    intro v296 w54 ho55 hb hg_ hnew_
                    clear hg_ hnew_
                    (first | rw [← Ny295.out] at ho55 | (simp only [Int.reduceToNat] at ho55; rw [← Ny295.out] at ho55))
                    have n0_ := bR HO269 hb
                    have n1_ := bR HO272 hb
                    have n2_ := bR HO278 hb
                    have n3_ := bR HO281 hb
                    have n4_ := bR HO284 hb
                    have n5_ := bR HO287 hb
                    have n6_ := Aside0.mk (Kd.N_lower ho55 (below_size (by repeat (first | (with_reducible first | exact HB.out | apply below_alloc | apply pw_below_drewN | apply below_drew1 | refine below_set ?_ GE265.out) | exact HB.out))))
                    have n7_ := Aside0.mk (blk_below (g := gb265) (o := .cells #[.int .i64 a2_0, .int .i64 a2_1] 23 (0, 0)) (by (with_reducible repeat (first | refine blk_drewN ?_ _ | refine blk_drew ?_ | refine blk_alloc ?_ _)); exact BK265.out) hb)
                    have n8_ := Aside0.mk (below_step (by repeat (first | (with_reducible first | exact HB.out | apply below_alloc | apply pw_below_drewN | apply below_drew1 | refine below_set ?_ GE265.out) | exact HB.out)) hb)
                    clear HO269
                    clear HO272
                    clear HO278
                    clear HO281
                    clear HO284
                    clear HO287
                    clear BK265
                    clear HB
                    clear HO291
                    clear HO294
                    have HO269 := n0_
                    have HO272 := n1_
                    have HO278 := n2_
                    have HO281 := n3_
                    have HO284 := n4_
                    have HO287 := n5_
                    have HO297 := n6_
                    have BK265 := n7_
                    have HB := n8_
                    clear n0_ n1_ n2_ n3_ n4_ n5_ n6_ n7_ n8_
                    clear hb ho55
                    obtain ⟨Ao56, co56, eo56⟩ := Kd.N_slice HO297.out
                    (first | subst eo56 | (injection eo56 with f1_ f2_ f3_; have f4_ := f1_.symm; have f5_ := f3_.symm; clear f1_ f2_ f3_; subst f4_; subst f5_))
                    refine hK.out _ _ ⟨(blk_cell BK265.out 0).trans rfl, (blk_cell BK265.out 1).trans rfl⟩ (fun hHeld => ?_)
                    clear hK K
                    refine norm_ (a' := ?_) ?_ ?_
                    rotate_left
                    · show Act.put _ (some 38) _ = _
                      simp only [Act.put, List.setIfInBounds_toArray, List.set_cons_zero, List.set_cons_succ, i64_w, i32_w]
                      rfl
                    refine one_ (i := 11) (N := some 39) #[true, true, true, true, true, true, true, true, true, true, true, true, true, false, false, false, false, false, false, false, false, false, false, false, false, false, false, false, false, false, false, false, false, false, false, false, false, false, false, false, false, false, false] rfl rfl (one_of HT_.out (by kernel_rfl)) (by decide) (fun K hK => ?_)
                    refine goes_ Try.func38 (by kernel_rfl) rfl #[.slice Ao56 y295.length co56] (by rfl) rfl rfl (by (try simp only [List.map_toArray, List.map_cons, List.map_nil]); first | done | rfl | (simp only [List.length_drop, List.length_take]; rfl)) ?_
                    with_reducible refine (stamp_Merge.calls _ _ y295 t298 _ ?side1 ?side2 A21.out).mono ?_
                    (case side1 => exact uC (Kd.N_reads' HO297.out).2.2)
                    (case side2 => exact (Kd.N_reads' HO297.out).2.1)
                    rintro e w57 ⟨v299, rfl, ho0, hb⟩
                    refine ⟨_, rfl, ?_⟩
                    replace HO297 := Aside0.mk (Kd.N_elder' (by (with_reducible repeat (first | apply Kd.N_alloc | apply Kd.N_drewN | apply Kd.N_drew)); exact HO297.out) (Kd.R_base ho0) hb)
                    have HO300 := Aside0.mk (Kd.R_lower (Kd.R_newB (Kd.R_new' (Kd.R_new' (Kd.R_new' (nR (nR (nR ho0 HO269) HO272) HO278) (Kd.R_lt (uR HO281))) (Kd.R_lt (uR HO284))) (Kd.R_lt (uR HO287))) (g := gb265) (o := .cells #[.int .i64 a2_0, .int .i64 a2_1] 23 (0, 0)) (by (with_reducible repeat (first | refine blk_drewN ?_ _ | refine blk_drew ?_ | refine blk_alloc ?_ _)); exact BK265.out)) (below_size (by repeat (first | (with_reducible first | exact HB.out | apply below_alloc | apply pw_below_drewN | apply below_drew1 | refine below_set ?_ GE265.out) | exact HB.out))))
                    replace HO269 := eR HO269 ho0 hb
                    replace HO272 := eR HO272 ho0 hb
                    replace HO278 := eR HO278 ho0 hb
                    replace HO281 := eR HO281 ho0 hb
                    replace HO284 := eR HO284 ho0 hb
                    replace HO287 := eR HO287 ho0 hb
                    replace BK265 := Aside0.mk (blk_below (g := gb265) (o := .cells #[.int .i64 a2_0, .int .i64 a2_1] 23 (0, 0)) (by (with_reducible repeat (first | refine blk_drewN ?_ _ | refine blk_drew ?_ | refine blk_alloc ?_ _)); exact BK265.out) hb)
                    replace HB := Aside0.mk (below_step (by repeat (first | (with_reducible first | exact HB.out | apply below_alloc | apply pw_below_drewN | apply below_drew1 | refine below_set ?_ GE265.out) | exact HB.out)) hb)
                    (try clear hb)
                    (try clear hb2)
                    (try clear hk)
                    (try clear hi)
                    (try clear ho0)
                    obtain ⟨Ao58, co58, eo58⟩ := Kd.R_slice HO300.out
                    (first | subst eo58 | (injection eo58 with f1_ f2_ f3_; have f4_ := f1_.symm; have f5_ := f3_.symm; clear f1_ f2_ f3_; subst f4_; subst f5_))
                    obtain ⟨Ao59, co59, eo59⟩ := Kd.R_slice HO281.out
                    (first | subst eo59 | (injection eo59 with f1_ f2_ f3_; have f4_ := f1_.symm; have f5_ := f3_.symm; clear f1_ f2_ f3_; subst f4_; subst f5_))
                    refine hK.out _ _ ⟨(blk_cell BK265.out 0).trans rfl, (blk_cell BK265.out 1).trans rfl⟩ (fun hHeld => ?_)
                    clear hK K
                    refine norm_ (a' := ?_) ?_ ?_
                    rotate_left
                    · show Act.put _ (some 39) _ = _
                      simp only [Act.put, List.setIfInBounds_toArray, List.set_cons_zero, List.set_cons_succ, i64_w, i32_w]
                      rfl
                    refine one_ (i := 13) (N := some 41) #[true, true, true, true, true, true, true, true, true, true, true, true, true, true, false, false, false, false, false, false, false, false, false, false, false, false, false, false, false, false, false, false, false, false, false, false, false, false, false, false, false, false, false] rfl rfl (one_of HT_.out (by kernel_rfl)) (by decide) (fun K hK => ?_)
                    refine goes_ Try.func36 (by kernel_rfl) rfl #[.slice Ao58 t298.length co58, .slice Ao59 t279.length co59] (by rfl) rfl rfl (by (try simp only [List.map_toArray, List.map_cons, List.map_nil]); first | done | rfl | (simp only [List.length_drop, List.length_take]; rfl)) ?_
                    with_reducible refine (folkmootref01_Same.calls kj3 _ _ t298 _ _ t279 true _ ?side1 ?side2 ?side3 ?side4 A22.out).mono ?_
                    (case side1 => exact uC (Kd.R_reads' HO300.out).2.2)
                    (case side2 => exact (Kd.R_reads' HO300.out).2.1)
                    (case side3 => exact uC (Kd.R_reads' HO281.out).2.2)
                    (case side4 => exact (Kd.R_reads' HO281.out).2.1)
                    rintro e w' ⟨rfl, ⟨nd, rfl⟩⟩
                    refine ⟨_, rfl, ?_⟩
                    refine hK.out _ _ ⟨(blk_cell BK265.out 0).trans rfl, (blk_cell BK265.out 1).trans rfl⟩ (fun hHeld => ?_)
                    clear hK K
                    refine norm_ (a' := ?_) ?_ ?_
                    rotate_left
                    · show Act.put _ (some 41) _ = _
                      simp only [Act.put, List.setIfInBounds_toArray, List.set_cons_zero, List.set_cons_succ, i64_w, i32_w]
                      rfl
                    refine pure_ (i := 14) (N := some 42) (v := ?_) (a' := ?_) #[true, true, true, true, true, true, true, true, true, true, true, true, true, true, true, false, false, false, false, false, false, false, false, false, false, false, false, false, false, false, false, false, false, false, false, false, false, false, false, false, false, false, false] rfl rfl (any_of HT_.out (by kernel_rfl)) (fun _ _ _ h => h) (Or.inl ⟨by rfl, ?_⟩) ?_ ?_
                    rotate_left
                    · intro w'
                      go_simp
                      with_reducible rfl
                    rotate_left
                    · simp only [Act.put, List.setIfInBounds_toArray, List.set_cons_zero, List.set_cons_succ, i64_w, i32_w]
                      rfl
                    refine pure_ (i := 15) (N := some 43) (v := ?_) (a' := ?_) #[true, true, true, true, true, true, true, true, true, true, true, true, true, true, true, true, false, false, false, false, false, false, false, false, false, false, false, false, false, false, false, false, false, false, false, false, false, false, false, false, false, false, false] rfl rfl (any_of HT_.out (by kernel_rfl)) (fun _ _ _ h => h) (Or.inl ⟨by rfl, ?_⟩) ?_ ?_
                    rotate_left
                    · intro w'
                      go_simp
                      with_reducible rfl
                    rotate_left
                    · simp only [Act.put, List.setIfInBounds_toArray, List.set_cons_zero, List.set_cons_succ, i64_w, i32_w]
                      rfl
                    refine pure_ (i := 16) (N := some 44) (v := ?_) (a' := ?_) #[true, true, true, true, true, true, true, true, true, true, true, true, true, true, true, true, true, false, false, false, false, false, false, false, false, false, false, false, false, false, false, false, false, false, false, false, false, false, false, false, false, false, false] rfl rfl (any_of HT_.out (by kernel_rfl)) (fun _ _ _ h => h) (Or.inl ⟨by rfl, ?_⟩) ?_ ?_
                    rotate_left
                    · intro w'
                      go_simp
                      with_reducible rfl
                    rotate_left
                    · simp only [Act.put, List.setIfInBounds_toArray, List.set_cons_zero, List.set_cons_succ, i64_w, i32_w]
                      rfl
                    refine pure_ (i := 20) (N := some 48) (v := ?_) (a' := ?_) #[true, true, true, true, true, true, true, true, true, true, true, true, true, true, true, true, true, false, false, false, true, false, false, false, false, false, false, false, false, false, false, false, false, false, false, false, false, false, false, false, false, false, false] rfl rfl (any_of HT_.out (by kernel_rfl)) (fun _ _ _ h => h) (Or.inl ⟨by rfl, ?_⟩) ?_ ?_
                    rotate_left
                    · intro w'
                      go_simp
                      with_reducible rfl
                    rotate_left
                    · simp only [Act.put, List.setIfInBounds_toArray, List.set_cons_zero, List.set_cons_succ, i64_w, i32_w]
                      rfl
                    refine take_ (i := 18) (N := some 46) (v := ?_) (a' := ?_) #[true, true, true, true, true, true, true, true, true, true, true, true, true, true, true, true, true, false, true, false, true, false, false, false, false, false, false, false, false, false, false, false, false, false, false, false, false, false, false, false, false, false, false] rfl rfl (take_ofW HT_.out HW_.out (by kernel_rfl)) (fun _ _ _ h => h) (Or.inl ⟨by rfl, ?_⟩) hHeld ?_ ?_
                    rotate_left
                    · rintro w' ⟨s0, s1⟩
                      go_simp
                      with_reducible rfl
                    rotate_left
                    · simp only [Act.put, List.setIfInBounds_toArray, List.set_cons_zero, List.set_cons_succ, i64_w, i32_w]
                      rfl
                    refine take_ (i := 21) (N := some 49) (v := ?_) (a' := ?_) #[true, true, true, true, true, true, true, true, true, true, true, true, true, true, true, true, true, false, true, false, true, true, false, false, false, false, false, false, false, false, false, false, false, false, false, false, false, false, false, false, false, false, false] rfl rfl (take_ofW HT_.out HW_.out (by kernel_rfl)) (fun _ _ _ h => h) (Or.inl ⟨by rfl, ?_⟩) hHeld ?_ ?_
                    rotate_left
                    · rintro w' ⟨s0, s1⟩
                      go_simp
                      with_reducible rfl
                    rotate_left
                    · simp only [Act.put, List.setIfInBounds_toArray, List.set_cons_zero, List.set_cons_succ, i64_w, i32_w]
                      rfl
                    refine one_ (i := 17) (N := some 45) #[true, true, true, true, true, true, true, true, true, true, true, true, true, true, true, true, true, true, true, false, true, true, false, false, false, false, false, false, false, false, false, false, false, false, false, false, false, false, false, false, false, false, false] rfl rfl (one_of HT_.out (by kernel_rfl)) (by decide) (fun K hK => ?_)
                    refine goes_ Try.func20 (by kernel_rfl) rfl #[.slice Ao39 t267.length co39] (by rfl) rfl rfl (by (try simp only [List.map_toArray, List.map_cons, List.map_nil]); first | done | rfl | (simp only [List.length_drop, List.length_take]; rfl)) ?_
                    with_reducible refine (folkmootlaw01_own.calls _ _ t267 t302 _ ?side1 ?side2 A24.out).mono ?_
                    (case side1 => exact uC (Kd.R_reads' HO269.out).2.2)
                    (case side2 => exact (Kd.R_reads' HO269.out).2.1)
                    rintro e w60 ⟨v303, rfl, ho0, hb⟩
                    refine ⟨_, rfl, ?_⟩
                    replace HO297 := Aside0.mk (Kd.N_elder' (by (with_reducible repeat (first | apply Kd.N_alloc | apply Kd.N_drewN | apply Kd.N_drew)); exact HO297.out) (Kd.R_base ho0) hb)
                    have HO304 := Aside0.mk (Kd.R_lower (Kd.R_newB (Kd.R_new' (Kd.R_new' (Kd.R_new' (Kd.R_new' (nR (nR (nR ho0 HO269) HO272) HO278) (Kd.R_lt (uR HO281))) (Kd.R_lt (uR HO284))) (Kd.R_lt (uR HO287))) (Kd.R_lt (uR HO300))) (g := gb265) (o := .cells #[.int .i64 a2_0, .int .i64 a2_1] 23 (0, 0)) (by (with_reducible repeat (first | refine blk_drewN ?_ _ | refine blk_drew ?_ | refine blk_alloc ?_ _)); exact BK265.out)) (below_size (by repeat (first | (with_reducible first | exact HB.out | apply below_alloc | apply pw_below_drewN | apply below_drew1 | refine below_set ?_ GE265.out) | exact HB.out))))
                    replace HO269 := eR HO269 ho0 hb
                    replace HO272 := eR HO272 ho0 hb
                    replace HO278 := eR HO278 ho0 hb
                    replace HO281 := eR HO281 ho0 hb
                    replace HO284 := eR HO284 ho0 hb
                    replace HO287 := eR HO287 ho0 hb
                    replace HO300 := eR HO300 ho0 hb
                    replace BK265 := Aside0.mk (blk_below (g := gb265) (o := .cells #[.int .i64 a2_0, .int .i64 a2_1] 23 (0, 0)) (by (with_reducible repeat (first | refine blk_drewN ?_ _ | refine blk_drew ?_ | refine blk_alloc ?_ _)); exact BK265.out) hb)
                    replace HB := Aside0.mk (below_step (by repeat (first | (with_reducible first | exact HB.out | apply below_alloc | apply pw_below_drewN | apply below_drew1 | refine below_set ?_ GE265.out) | exact HB.out)) hb)
                    (try clear hb)
                    (try clear hb2)
                    (try clear hk)
                    (try clear hi)
                    (try clear ho0)
                    obtain ⟨Ao61, co61, eo61⟩ := Kd.R_slice HO304.out
                    (first | subst eo61 | (injection eo61 with f1_ f2_ f3_; have f4_ := f1_.symm; have f5_ := f3_.symm; clear f1_ f2_ f3_; subst f4_; subst f5_))
                    refine hK.out _ _ ⟨(blk_cell BK265.out 0).trans rfl, (blk_cell BK265.out 1).trans rfl⟩ (fun hHeld => ?_)
                    clear hK K
                    refine norm_ (a' := ?_) ?_ ?_
                    rotate_left
                    · show Act.put _ (some 45) _ = _
                      simp only [Act.put, List.setIfInBounds_toArray, List.set_cons_zero, List.set_cons_succ, i64_w, i32_w]
                      rfl
                    refine one_ (i := 19) (N := some 47) #[true, true, true, true, true, true, true, true, true, true, true, true, true, true, true, true, true, true, true, true, true, true, false, false, false, false, false, false, false, false, false, false, false, false, false, false, false, false, false, false, false, false, false] rfl rfl (one_of HT_.out (by kernel_rfl)) (by decide) (fun K hK => ?_)
                    refine goes_ Try.func34 (by kernel_rfl) rfl #[.slice Ao61 t302.length co61, .agg #[.int .i64 a2_0, .int .i64 a2_1]] (by rfl) rfl rfl (by (try simp only [List.map_toArray, List.map_cons, List.map_nil]); first | done | rfl | (simp only [List.length_drop, List.length_take]; rfl)) ?_
                    with_reducible refine (stamp_Has.calls _ _ t302 a2_0 a2_1 t305 _ ?side1 ?side2 A25.out).mono ?_
                    (case side1 => exact uC (Kd.R_reads' HO304.out).2.2)
                    (case side2 => exact (Kd.R_reads' HO304.out).2.1)
                    rintro e w62 ⟨rfl, hb⟩
                    refine ⟨_, rfl, ?_⟩
                    replace HO269 := bR HO269 hb
                    replace HO272 := bR HO272 hb
                    replace HO278 := bR HO278 hb
                    replace HO281 := bR HO281 hb
                    replace HO284 := bR HO284 hb
                    replace HO287 := bR HO287 hb
                    replace HO297 := Aside0.mk (Kd.N_below (by (with_reducible repeat (first | apply Kd.N_alloc | apply Kd.N_drewN | apply Kd.N_drew)); exact HO297.out) hb)
                    replace HO300 := bR HO300 hb
                    replace HO304 := bR HO304 hb
                    replace BK265 := Aside0.mk (blk_below (g := gb265) (o := .cells #[.int .i64 a2_0, .int .i64 a2_1] 23 (0, 0)) (by (with_reducible repeat (first | refine blk_drewN ?_ _ | refine blk_drew ?_ | refine blk_alloc ?_ _)); exact BK265.out) hb)
                    replace HB := Aside0.mk (below_step (by repeat (first | (with_reducible first | exact HB.out | apply below_alloc | apply pw_below_drewN | apply below_drew1 | refine below_set ?_ GE265.out) | exact HB.out)) hb)
                    (try clear hb)
                    (try clear hb2)
                    (try clear hk)
                    (try clear hi)
                    refine hK.out _ _ ⟨(blk_cell BK265.out 0).trans rfl, (blk_cell BK265.out 1).trans rfl⟩ (fun hHeld => ?_)
                    clear hK K
                    refine norm_ (a' := ?_) ?_ ?_
                    rotate_left
                    · show Act.put _ (some 47) _ = _
                      simp only [Act.put, List.setIfInBounds_toArray, List.set_cons_zero, List.set_cons_succ, i64_w, i32_w]
                      rfl
                    refine one_ (i := 22) (N := some 50) #[true, true, true, true, true, true, true, true, true, true, true, true, true, true, true, true, true, true, true, true, true, true, true, false, false, false, false, false, false, false, false, false, false, false, false, false, false, false, false, false, false, false, false] rfl rfl (one_of HT_.out (by kernel_rfl)) (by decide) (fun K hK => ?_)
                    refine goes_ Try.func24 (by kernel_rfl) rfl #[.slice Ao39 t267.length co39, .agg #[.int .i64 a2_0, .int .i64 a2_1]] (by rfl) rfl rfl (by (try simp only [List.map_toArray, List.map_cons, List.map_nil]); first | done | rfl | (simp only [List.length_drop, List.length_take]; rfl)) ?_
                    with_reducible refine (folkmootref01_Has.calls kj3 _ _ t267 a2_0 a2_1 t306 _ ?side1 ?side2 A26.out).mono ?_
                    (case side1 => exact uC (Kd.R_reads' HO269.out).2.2)
                    (case side2 => exact (Kd.R_reads' HO269.out).2.1)
                    rintro e w63 ⟨rfl, hb⟩
                    refine ⟨_, rfl, ?_⟩
                    replace HO269 := bR HO269 hb
                    replace HO272 := bR HO272 hb
                    replace HO278 := bR HO278 hb
                    replace HO281 := bR HO281 hb
                    replace HO284 := bR HO284 hb
                    replace HO287 := bR HO287 hb
                    replace HO297 := Aside0.mk (Kd.N_below (by (with_reducible repeat (first | apply Kd.N_alloc | apply Kd.N_drewN | apply Kd.N_drew)); exact HO297.out) hb)
                    replace HO300 := bR HO300 hb
                    replace HO304 := bR HO304 hb
                    replace BK265 := Aside0.mk (blk_below (g := gb265) (o := .cells #[.int .i64 a2_0, .int .i64 a2_1] 23 (0, 0)) (by (with_reducible repeat (first | refine blk_drewN ?_ _ | refine blk_drew ?_ | refine blk_alloc ?_ _)); exact BK265.out) hb)
                    replace HB := Aside0.mk (below_step (by repeat (first | (with_reducible first | exact HB.out | apply below_alloc | apply pw_below_drewN | apply below_drew1 | refine below_set ?_ GE265.out) | exact HB.out)) hb)
                    (try clear hb)
                    (try clear hb2)
                    (try clear hk)
                    (try clear hi)
                    refine hK.out _ _ ⟨(blk_cell BK265.out 0).trans rfl, (blk_cell BK265.out 1).trans rfl⟩ (fun hHeld => ?_)
                    clear hK K
                    refine norm_ (a' := ?_) ?_ ?_
                    rotate_left
                    · show Act.put _ (some 50) _ = _
                      simp only [Act.put, List.setIfInBounds_toArray, List.set_cons_zero, List.set_cons_succ, i64_w, i32_w]
                      rfl
                    refine pure_ (i := 23) (N := some 51) (v := ?_) (a' := ?_) #[true, true, true, true, true, true, true, true, true, true, true, true, true, true, true, true, true, true, true, true, true, true, true, true, false, false, false, false, false, false, false, false, false, false, false, false, false, false, false, false, false, false, false] rfl rfl (any_of HT_.out (by kernel_rfl)) (fun _ _ _ h => h) (Or.inl ⟨by rfl, ?_⟩) ?_ ?_
                    rotate_left
                    · intro w'
                      go_simp
                      with_reducible rfl
                    rotate_left
                    · simp only [Act.put, List.setIfInBounds_toArray, List.set_cons_zero, List.set_cons_succ, i64_w, i32_w]
                      rfl
                    refine pure_ (i := 24) (N := some 52) (v := ?_) (a' := ?_) #[true, true, true, true, true, true, true, true, true, true, true, true, true, true, true, true, true, true, true, true, true, true, true, true, true, false, false, false, false, false, false, false, false, false, false, false, false, false, false, false, false, false, false] rfl rfl (any_of HT_.out (by kernel_rfl)) (fun _ _ _ h => h) (Or.inl ⟨by rfl, ?_⟩) ?_ ?_
                    rotate_left
                    · intro w'
                      go_simp
                      with_reducible rfl
                    rotate_left
                    · simp only [Act.put, List.setIfInBounds_toArray, List.set_cons_zero, List.set_cons_succ, i64_w, i32_w]
                      rfl
                    refine pure_ (i := 25) (N := some 53) (v := ?_) (a' := ?_) #[true, true, true, true, true, true, true, true, true, true, true, true, true, true, true, true, true, true, true, true, true, true, true, true, true, true, false, false, false, false, false, false, false, false, false, false, false, false, false, false, false, false, false] rfl rfl (any_of HT_.out (by kernel_rfl)) (fun _ _ _ h => h) (Or.inl ⟨by rfl, ?_⟩) ?_ ?_
                    rotate_left
                    · intro w'
                      go_simp
                      with_reducible rfl
                    rotate_left
                    · simp only [Act.put, List.setIfInBounds_toArray, List.set_cons_zero, List.set_cons_succ, i64_w, i32_w]
                      rfl
                    refine pure_ (i := 26) (N := some 54) (v := ?_) (a' := ?_) #[true, true, true, true, true, true, true, true, true, true, true, true, true, true, true, true, true, true, true, true, true, true, true, true, true, true, true, false, false, false, false, false, false, false, false, false, false, false, false, false, false, false, false] rfl rfl (any_of HT_.out (by kernel_rfl)) (fun _ _ _ h => h) (Or.inl ⟨by rfl, ?_⟩) ?_ ?_
                    rotate_left
                    · intro w'
                      go_simp
                      with_reducible rfl
                    rotate_left
                    · simp only [Act.put, List.setIfInBounds_toArray, List.set_cons_zero, List.set_cons_succ, i64_w, i32_w]
                      rfl
                    refine pure_ (i := 30) (N := some 58) (v := ?_) (a' := ?_) #[true, true, true, true, true, true, true, true, true, true, true, true, true, true, true, true, true, true, true, true, true, true, true, true, true, true, true, false, false, false, true, false, false, false, false, false, false, false, false, false, false, false, false] rfl rfl (any_of HT_.out (by kernel_rfl)) (fun _ _ _ h => h) (Or.inl ⟨by rfl, ?_⟩) ?_ ?_
                    rotate_left
                    · intro w'
                      go_simp
                      with_reducible rfl
                    rotate_left
                    · simp only [Act.put, List.setIfInBounds_toArray, List.set_cons_zero, List.set_cons_succ, i64_w, i32_w]
                      rfl
                    refine take_ (i := 28) (N := some 56) (v := ?_) (a' := ?_) #[true, true, true, true, true, true, true, true, true, true, true, true, true, true, true, true, true, true, true, true, true, true, true, true, true, true, true, false, true, false, true, false, false, false, false, false, false, false, false, false, false, false, false] rfl rfl (take_ofW HT_.out HW_.out (by kernel_rfl)) (fun _ _ _ h => h) (Or.inl ⟨by rfl, ?_⟩) hHeld ?_ ?_
                    rotate_left
                    · rintro w' ⟨s0, s1⟩
                      go_simp
                      with_reducible rfl
                    rotate_left
                    · simp only [Act.put, List.setIfInBounds_toArray, List.set_cons_zero, List.set_cons_succ, i64_w, i32_w]
                      rfl
                    refine take_ (i := 31) (N := some 59) (v := ?_) (a' := ?_) #[true, true, true, true, true, true, true, true, true, true, true, true, true, true, true, true, true, true, true, true, true, true, true, true, true, true, true, false, true, false, true, true, false, false, false, false, false, false, false, false, false, false, false] rfl rfl (take_ofW HT_.out HW_.out (by kernel_rfl)) (fun _ _ _ h => h) (Or.inl ⟨by rfl, ?_⟩) hHeld ?_ ?_
                    rotate_left
                    · rintro w' ⟨s0, s1⟩
                      go_simp
                      with_reducible rfl
                    rotate_left
                    · simp only [Act.put, List.setIfInBounds_toArray, List.set_cons_zero, List.set_cons_succ, i64_w, i32_w]
                      rfl
                    refine one_ (i := 27) (N := some 55) #[true, true, true, true, true, true, true, true, true, true, true, true, true, true, true, true, true, true, true, true, true, true, true, true, true, true, true, true, true, false, true, true, false, false, false, false, false, false, false, false, false, false, false] rfl rfl (one_of HT_.out (by kernel_rfl)) (by decide) (fun K hK => ?_)
                    refine goes_ Try.func20 (by kernel_rfl) rfl #[.slice Ao39 t267.length co39] (by rfl) rfl rfl (by (try simp only [List.map_toArray, List.map_cons, List.map_nil]); first | done | rfl | (simp only [List.length_drop, List.length_take]; rfl)) ?_
                    with_reducible refine (folkmootlaw01_own.calls _ _ t267 t307 _ ?side1 ?side2 A28.out).mono ?_
                    (case side1 => exact uC (Kd.R_reads' HO269.out).2.2)
                    (case side2 => exact (Kd.R_reads' HO269.out).2.1)
                    rintro e w64 ⟨v308, rfl, ho0, hb⟩
                    refine ⟨_, rfl, ?_⟩
                    replace HO297 := Aside0.mk (Kd.N_elder' (by (with_reducible repeat (first | apply Kd.N_alloc | apply Kd.N_drewN | apply Kd.N_drew)); exact HO297.out) (Kd.R_base ho0) hb)
                    have HO309 := Aside0.mk (Kd.R_lower (Kd.R_newB (Kd.R_new' (Kd.R_new' (Kd.R_new' (Kd.R_new' (Kd.R_new' (nR (nR (nR ho0 HO269) HO272) HO278) (Kd.R_lt (uR HO281))) (Kd.R_lt (uR HO284))) (Kd.R_lt (uR HO287))) (Kd.R_lt (uR HO300))) (Kd.R_lt (uR HO304))) (g := gb265) (o := .cells #[.int .i64 a2_0, .int .i64 a2_1] 23 (0, 0)) (by (with_reducible repeat (first | refine blk_drewN ?_ _ | refine blk_drew ?_ | refine blk_alloc ?_ _)); exact BK265.out)) (below_size (by repeat (first | (with_reducible first | exact HB.out | apply below_alloc | apply pw_below_drewN | apply below_drew1 | refine below_set ?_ GE265.out) | exact HB.out))))
                    replace HO269 := eR HO269 ho0 hb
                    replace HO272 := eR HO272 ho0 hb
                    replace HO278 := eR HO278 ho0 hb
                    replace HO281 := eR HO281 ho0 hb
                    replace HO284 := eR HO284 ho0 hb
                    replace HO287 := eR HO287 ho0 hb
                    replace HO300 := eR HO300 ho0 hb
                    replace HO304 := eR HO304 ho0 hb
                    replace BK265 := Aside0.mk (blk_below (g := gb265) (o := .cells #[.int .i64 a2_0, .int .i64 a2_1] 23 (0, 0)) (by (with_reducible repeat (first | refine blk_drewN ?_ _ | refine blk_drew ?_ | refine blk_alloc ?_ _)); exact BK265.out) hb)
                    replace HB := Aside0.mk (below_step (by repeat (first | (with_reducible first | exact HB.out | apply below_alloc | apply pw_below_drewN | apply below_drew1 | refine below_set ?_ GE265.out) | exact HB.out)) hb)
                    (try clear hb)
                    (try clear hb2)
                    (try clear hk)
                    (try clear hi)
                    (try clear ho0)
                    obtain ⟨Ao65, co65, eo65⟩ := Kd.R_slice HO309.out
                    (first | subst eo65 | (injection eo65 with f1_ f2_ f3_; have f4_ := f1_.symm; have f5_ := f3_.symm; clear f1_ f2_ f3_; subst f4_; subst f5_))
                    refine hK.out _ _ ⟨(blk_cell BK265.out 0).trans rfl, (blk_cell BK265.out 1).trans rfl⟩ (fun hHeld => ?_)
                    clear hK K
                    refine norm_ (a' := ?_) ?_ ?_
                    rotate_left
                    · show Act.put _ (some 55) _ = _
                      simp only [Act.put, List.setIfInBounds_toArray, List.set_cons_zero, List.set_cons_succ, i64_w, i32_w]
                      rfl
                    refine one_ (i := 29) (N := some 57) #[true, true, true, true, true, true, true, true, true, true, true, true, true, true, true, true, true, true, true, true, true, true, true, true, true, true, true, true, true, true, true, true, false, false, false, false, false, false, false, false, false, false, false] rfl rfl (one_of HT_.out (by kernel_rfl)) (by decide) (fun K hK => ?_)
                    refine goes_ Try.func37 (by kernel_rfl) rfl #[.slice Ao65 t307.length co65, .agg #[.int .i64 a2_0, .int .i64 a2_1]] (by rfl) rfl rfl (by (try simp only [List.map_toArray, List.map_cons, List.map_nil]); first | done | rfl | (simp only [List.length_drop, List.length_take]; rfl)) ?_
                    with_reducible refine (stamp_Below.calls _ _ t307 a2_0 a2_1 t310 _ ?side1 ?side2 A29.out).mono ?_
                    (case side1 => exact uC (Kd.R_reads' HO309.out).2.2)
                    (case side2 => exact (Kd.R_reads' HO309.out).2.1)
                    rintro e w66 ⟨v311, rfl, ho0, hb⟩
                    refine ⟨_, rfl, ?_⟩
                    replace HO297 := Aside0.mk (Kd.N_elder' (by (with_reducible repeat (first | apply Kd.N_alloc | apply Kd.N_drewN | apply Kd.N_drew)); exact HO297.out) (Kd.R_base ho0) hb)
                    have HO312 := Aside0.mk (Kd.R_lower (Kd.R_newB (Kd.R_new' (Kd.R_new' (Kd.R_new' (Kd.R_new' (Kd.R_new' (Kd.R_new' (nR (nR (nR ho0 HO269) HO272) HO278) (Kd.R_lt (uR HO281))) (Kd.R_lt (uR HO284))) (Kd.R_lt (uR HO287))) (Kd.R_lt (uR HO300))) (Kd.R_lt (uR HO304))) (Kd.R_lt (uR HO309))) (g := gb265) (o := .cells #[.int .i64 a2_0, .int .i64 a2_1] 23 (0, 0)) (by (with_reducible repeat (first | refine blk_drewN ?_ _ | refine blk_drew ?_ | refine blk_alloc ?_ _)); exact BK265.out)) (below_size (by repeat (first | (with_reducible first | exact HB.out | apply below_alloc | apply pw_below_drewN | apply below_drew1 | refine below_set ?_ GE265.out) | exact HB.out))))
                    replace HO269 := eR HO269 ho0 hb
                    replace HO272 := eR HO272 ho0 hb
                    replace HO278 := eR HO278 ho0 hb
                    replace HO281 := eR HO281 ho0 hb
                    replace HO284 := eR HO284 ho0 hb
                    replace HO287 := eR HO287 ho0 hb
                    replace HO300 := eR HO300 ho0 hb
                    replace HO304 := eR HO304 ho0 hb
                    replace HO309 := eR HO309 ho0 hb
                    replace BK265 := Aside0.mk (blk_below (g := gb265) (o := .cells #[.int .i64 a2_0, .int .i64 a2_1] 23 (0, 0)) (by (with_reducible repeat (first | refine blk_drewN ?_ _ | refine blk_drew ?_ | refine blk_alloc ?_ _)); exact BK265.out) hb)
                    replace HB := Aside0.mk (below_step (by repeat (first | (with_reducible first | exact HB.out | apply below_alloc | apply pw_below_drewN | apply below_drew1 | refine below_set ?_ GE265.out) | exact HB.out)) hb)
                    (try clear hb)
                    (try clear hb2)
                    (try clear hk)
                    (try clear hi)
                    (try clear ho0)
                    refine hK.out _ _ ⟨(blk_cell BK265.out 0).trans rfl, (blk_cell BK265.out 1).trans rfl⟩ (fun hHeld => ?_)
                    clear hK K
                    refine norm_ (a' := ?_) ?_ ?_
                    rotate_left
                    · show Act.put _ (some 57) _ = _
                      simp only [Act.put, List.setIfInBounds_toArray, List.set_cons_zero, List.set_cons_succ, i64_w, i32_w]
                      rfl
                    refine one_ (i := 32) (N := some 60) #[true, true, true, true, true, true, true, true, true, true, true, true, true, true, true, true, true, true, true, true, true, true, true, true, true, true, true, true, true, true, true, true, true, false, false, false, false, false, false, false, false, false, false] rfl rfl (one_of HT_.out (by kernel_rfl)) (by decide) (fun K hK => ?_)
                    refine goes_ Try.func40 (by kernel_rfl) rfl #[.slice Ao39 t267.length co39, .agg #[.int .i64 a2_0, .int .i64 a2_1]] (by rfl) rfl rfl (by (try simp only [List.map_toArray, List.map_cons, List.map_nil]); first | done | rfl | (simp only [List.length_drop, List.length_take]; rfl)) ?_
                    with_reducible refine (folkmootref01_Below.calls kj3 _ _ t267 a2_0 a2_1 t313 _ ?side1 ?side2 A30.out).mono ?_
                    (case side1 => exact uC (Kd.R_reads' HO269.out).2.2)
                    (case side2 => exact (Kd.R_reads' HO269.out).2.1)
                    rintro e w67 ⟨v314, rfl, ho0, hb⟩
                    refine ⟨_, rfl, ?_⟩
                    replace HO297 := Aside0.mk (Kd.N_elder' (by (with_reducible repeat (first | apply Kd.N_alloc | apply Kd.N_drewN | apply Kd.N_drew)); exact HO297.out) (Kd.R_base ho0) hb)
                    have HO315 := Aside0.mk (Kd.R_lower (Kd.R_newB (Kd.R_new' (Kd.R_new' (Kd.R_new' (Kd.R_new' (Kd.R_new' (Kd.R_new' (Kd.R_new' (nR (nR (nR ho0 HO269) HO272) HO278) (Kd.R_lt (uR HO281))) (Kd.R_lt (uR HO284))) (Kd.R_lt (uR HO287))) (Kd.R_lt (uR HO300))) (Kd.R_lt (uR HO304))) (Kd.R_lt (uR HO309))) (Kd.R_lt (uR HO312))) (g := gb265) (o := .cells #[.int .i64 a2_0, .int .i64 a2_1] 23 (0, 0)) (by (with_reducible repeat (first | refine blk_drewN ?_ _ | refine blk_drew ?_ | refine blk_alloc ?_ _)); exact BK265.out)) (below_size (by repeat (first | (with_reducible first | exact HB.out | apply below_alloc | apply pw_below_drewN | apply below_drew1 | refine below_set ?_ GE265.out) | exact HB.out))))
                    replace HO269 := eR HO269 ho0 hb
                    replace HO272 := eR HO272 ho0 hb
                    replace HO278 := eR HO278 ho0 hb
                    replace HO281 := eR HO281 ho0 hb
                    replace HO284 := eR HO284 ho0 hb
                    replace HO287 := eR HO287 ho0 hb
                    replace HO300 := eR HO300 ho0 hb
                    replace HO304 := eR HO304 ho0 hb
                    replace HO309 := eR HO309 ho0 hb
                    replace HO312 := eR HO312 ho0 hb
                    replace BK265 := Aside0.mk (blk_below (g := gb265) (o := .cells #[.int .i64 a2_0, .int .i64 a2_1] 23 (0, 0)) (by (with_reducible repeat (first | refine blk_drewN ?_ _ | refine blk_drew ?_ | refine blk_alloc ?_ _)); exact BK265.out) hb)
                    replace HB := Aside0.mk (below_step (by repeat (first | (with_reducible first | exact HB.out | apply below_alloc | apply pw_below_drewN | apply below_drew1 | refine below_set ?_ GE265.out) | exact HB.out)) hb)
                    (try clear hb)
                    (try clear hb2)
                    (try clear hk)
                    (try clear hi)
                    (try clear ho0)
                    obtain ⟨Ao68, co68, eo68⟩ := Kd.R_slice HO312.out
                    (first | subst eo68 | (injection eo68 with f1_ f2_ f3_; have f4_ := f1_.symm; have f5_ := f3_.symm; clear f1_ f2_ f3_; subst f4_; subst f5_))
                    obtain ⟨Ao69, co69, eo69⟩ := Kd.R_slice HO315.out
                    (first | subst eo69 | (injection eo69 with f1_ f2_ f3_; have f4_ := f1_.symm; have f5_ := f3_.symm; clear f1_ f2_ f3_; subst f4_; subst f5_))
                    refine hK.out _ _ ⟨(blk_cell BK265.out 0).trans rfl, (blk_cell BK265.out 1).trans rfl⟩ (fun hHeld => ?_)
                    clear hK K
                    refine norm_ (a' := ?_) ?_ ?_
                    rotate_left
                    · show Act.put _ (some 60) _ = _
                      simp only [Act.put, List.setIfInBounds_toArray, List.set_cons_zero, List.set_cons_succ, i64_w, i32_w]
                      rfl
                    refine one_ (i := 33) (N := some 61) #[true, true, true, true, true, true, true, true, true, true, true, true, true, true, true, true, true, true, true, true, true, true, true, true, true, true, true, true, true, true, true, true, true, true, false, false, false, false, false, false, false, false, false] rfl rfl (one_of HT_.out (by kernel_rfl)) (by decide) (fun K hK => ?_)
                    refine goes_ Try.func36 (by kernel_rfl) rfl #[.slice Ao68 t310.length co68, .slice Ao69 t313.length co69] (by rfl) rfl rfl (by (try simp only [List.map_toArray, List.map_cons, List.map_nil]); first | done | rfl | (simp only [List.length_drop, List.length_take]; rfl)) ?_
                    with_reducible refine (folkmootref01_Same.calls kj3 _ _ t310 _ _ t313 true _ ?side1 ?side2 ?side3 ?side4 A31.out).mono ?_
                    (case side1 => exact uC (Kd.R_reads' HO312.out).2.2)
                    (case side2 => exact (Kd.R_reads' HO312.out).2.1)
                    (case side3 => exact uC (Kd.R_reads' HO315.out).2.2)
                    (case side4 => exact (Kd.R_reads' HO315.out).2.1)
                    rintro e w' ⟨rfl, ⟨nd, rfl⟩⟩
                    refine ⟨_, rfl, ?_⟩
                    refine hK.out _ _ ⟨(blk_cell BK265.out 0).trans rfl, (blk_cell BK265.out 1).trans rfl⟩ (fun hHeld => ?_)
                    clear hK K
                    refine norm_ (a' := ?_) ?_ ?_
                    rotate_left
                    · show Act.put _ (some 61) _ = _
                      simp only [Act.put, List.setIfInBounds_toArray, List.set_cons_zero, List.set_cons_succ, i64_w, i32_w]
                      rfl
                    refine pure_ (i := 34) (N := some 62) (v := ?_) (a' := ?_) #[true, true, true, true, true, true, true, true, true, true, true, true, true, true, true, true, true, true, true, true, true, true, true, true, true, true, true, true, true, true, true, true, true, true, true, false, false, false, false, false, false, false, false] rfl rfl (any_of HT_.out (by kernel_rfl)) (fun _ _ _ h => h) (Or.inl ⟨by rfl, ?_⟩) ?_ ?_
                    rotate_left
                    · intro w'
                      go_simp
                      with_reducible rfl
                    rotate_left
                    · simp only [Act.put, List.setIfInBounds_toArray, List.set_cons_zero, List.set_cons_succ, i64_w, i32_w]
                      rfl
                    refine pure_ (i := 35) (N := some 63) (v := ?_) (a' := ?_) #[true, true, true, true, true, true, true, true, true, true, true, true, true, true, true, true, true, true, true, true, true, true, true, true, true, true, true, true, true, true, true, true, true, true, true, true, false, false, false, false, false, false, false] rfl rfl (any_of HT_.out (by kernel_rfl)) (fun _ _ _ h => h) (Or.inl ⟨by rfl, ?_⟩) ?_ ?_
                    rotate_left
                    · intro w'
                      go_simp
                      with_reducible rfl
                    rotate_left
                    · simp only [Act.put, List.setIfInBounds_toArray, List.set_cons_zero, List.set_cons_succ, i64_w, i32_w]
                      rfl
                    refine one_ (i := 36) (N := some 64) #[true, true, true, true, true, true, true, true, true, true, true, true, true, true, true, true, true, true, true, true, true, true, true, true, true, true, true, true, true, true, true, true, true, true, true, true, true, false, false, false, false, false, false] rfl rfl (one_of HT_.out (by kernel_rfl)) (by decide) (fun K hK => ?_)
                    refine goes_ Try.func38 (by kernel_rfl) rfl #[.slice none 0 0] (by rfl) rfl rfl (by (try simp only [List.map_toArray, List.map_cons, List.map_nil]); first | done | rfl | (simp only [List.length_drop, List.length_take]; rfl)) ?_
                    refine (stamp_Merge.calls _ _ ([] : List (List (S23))) t317 _ ?side1 ?side2 A33.out).mono ?_
                    (case side1 => exact Kd.C_nil _ _)
                    (case side2 => exact Nat.le_refl _)
                    rintro e w70 ⟨v318, rfl, ho0, hb⟩
                    refine ⟨_, rfl, ?_⟩
                    replace HO297 := Aside0.mk (Kd.N_elder' (by (with_reducible repeat (first | apply Kd.N_alloc | apply Kd.N_drewN | apply Kd.N_drew)); exact HO297.out) (Kd.R_base ho0) hb)
                    have HO319 := Aside0.mk (Kd.R_lower (Kd.R_newB (Kd.R_new' (Kd.R_new' (Kd.R_new' (Kd.R_new' (Kd.R_new' (Kd.R_new' (Kd.R_new' (Kd.R_new' (nR (nR (nR ho0 HO269) HO272) HO278) (Kd.R_lt (uR HO281))) (Kd.R_lt (uR HO284))) (Kd.R_lt (uR HO287))) (Kd.R_lt (uR HO300))) (Kd.R_lt (uR HO304))) (Kd.R_lt (uR HO309))) (Kd.R_lt (uR HO312))) (Kd.R_lt (uR HO315))) (g := gb265) (o := .cells #[.int .i64 a2_0, .int .i64 a2_1] 23 (0, 0)) (by (with_reducible repeat (first | refine blk_drewN ?_ _ | refine blk_drew ?_ | refine blk_alloc ?_ _)); exact BK265.out)) (below_size (by repeat (first | (with_reducible first | exact HB.out | apply below_alloc | apply pw_below_drewN | apply below_drew1 | refine below_set ?_ GE265.out) | exact HB.out))))
                    replace HO269 := eR HO269 ho0 hb
                    replace HO272 := eR HO272 ho0 hb
                    replace HO278 := eR HO278 ho0 hb
                    replace HO281 := eR HO281 ho0 hb
                    replace HO284 := eR HO284 ho0 hb
                    replace HO287 := eR HO287 ho0 hb
                    replace HO300 := eR HO300 ho0 hb
                    replace HO304 := eR HO304 ho0 hb
                    replace HO309 := eR HO309 ho0 hb
                    replace HO312 := eR HO312 ho0 hb
                    replace HO315 := eR HO315 ho0 hb
                    replace BK265 := Aside0.mk (blk_below (g := gb265) (o := .cells #[.int .i64 a2_0, .int .i64 a2_1] 23 (0, 0)) (by (with_reducible repeat (first | refine blk_drewN ?_ _ | refine blk_drew ?_ | refine blk_alloc ?_ _)); exact BK265.out) hb)
                    replace HB := Aside0.mk (below_step (by repeat (first | (with_reducible first | exact HB.out | apply below_alloc | apply pw_below_drewN | apply below_drew1 | refine below_set ?_ GE265.out) | exact HB.out)) hb)
                    (try clear hb)
                    (try clear hb2)
                    (try clear hk)
                    (try clear hi)
                    (try clear ho0)
                    obtain ⟨Ao71, co71, eo71⟩ := Kd.R_slice HO319.out
                    (first | subst eo71 | (injection eo71 with f1_ f2_ f3_; have f4_ := f1_.symm; have f5_ := f3_.symm; clear f1_ f2_ f3_; subst f4_; subst f5_))
                    refine hK.out _ _ ⟨(blk_cell BK265.out 0).trans rfl, (blk_cell BK265.out 1).trans rfl⟩ (fun hHeld => ?_)
                    clear hK K
                    refine norm_ (a' := ?_) ?_ ?_
                    rotate_left
                    · show Act.put _ (some 64) _ = _
                      simp only [Act.put, List.setIfInBounds_toArray, List.set_cons_zero, List.set_cons_succ, i64_w, i32_w]
                      rfl
                    refine one_ (i := 37) (N := some 65) #[true, true, true, true, true, true, true, true, true, true, true, true, true, true, true, true, true, true, true, true, true, true, true, true, true, true, true, true, true, true, true, true, true, true, true, true, true, true, false, false, false, false, false] rfl rfl (one_of HT_.out (by kernel_rfl)) (by decide) (fun K hK => ?_)
                    refine goes_ Try.func36 (by kernel_rfl) rfl #[.slice Ao71 t317.length co71, .slice none 0 0] (by rfl) rfl rfl (by (try simp only [List.map_toArray, List.map_cons, List.map_nil]); first | done | rfl | (simp only [List.length_drop, List.length_take]; rfl)) ?_
                    refine (folkmootref01_Same.calls kj3 _ _ t317 _ _ ([] : List (S23)) true _ ?side1 ?side2 ?side3 ?side4 A34.out).mono ?_
                    (case side1 => exact uC (Kd.R_reads' HO319.out).2.2)
                    (case side2 => exact (Kd.R_reads' HO319.out).2.1)
                    (case side3 => exact Kd.C_nil _ _)
                    (case side4 => exact Nat.le_refl _)
                    rintro e w' ⟨rfl, ⟨nd, rfl⟩⟩
                    refine ⟨_, rfl, ?_⟩
                    refine hK.out _ _ ⟨(blk_cell BK265.out 0).trans rfl, (blk_cell BK265.out 1).trans rfl⟩ (fun hHeld => ?_)
                    clear hK K
                    refine norm_ (a' := ?_) ?_ ?_
                    rotate_left
                    · show Act.put _ (some 65) _ = _
                      simp only [Act.put, List.setIfInBounds_toArray, List.set_cons_zero, List.set_cons_succ, i64_w, i32_w]
                      rfl
                    refine pure_ (i := 38) (N := some 66) (v := ?_) (a' := ?_) #[true, true, true, true, true, true, true, true, true, true, true, true, true, true, true, true, true, true, true, true, true, true, true, true, true, true, true, true, true, true, true, true, true, true, true, true, true, true, true, false, false, false, false] rfl rfl (any_of HT_.out (by kernel_rfl)) (fun _ _ _ h => h) (Or.inl ⟨by rfl, ?_⟩) ?_ ?_
                    rotate_left
                    · intro w'
                      go_simp
                      with_reducible rfl
                    rotate_left
                    · simp only [Act.put, List.setIfInBounds_toArray, List.set_cons_zero, List.set_cons_succ, i64_w, i32_w]
                      rfl
                    refine pure_ (i := 39) (N := some 67) (v := ?_) (a' := ?_) #[true, true, true, true, true, true, true, true, true, true, true, true, true, true, true, true, true, true, true, true, true, true, true, true, true, true, true, true, true, true, true, true, true, true, true, true, true, true, true, true, false, false, false] rfl rfl (any_of HT_.out (by kernel_rfl)) (fun _ _ _ h => h) (Or.inl ⟨by rfl, ?_⟩) ?_ ?_
                    rotate_left
                    · intro w'
                      go_simp
                      with_reducible rfl
                    rotate_left
                    · simp only [Act.put, List.setIfInBounds_toArray, List.set_cons_zero, List.set_cons_succ, i64_w, i32_w]
                      rfl
                    refine one_ (i := 40) (N := some 68) #[true, true, true, true, true, true, true, true, true, true, true, true, true, true, true, true, true, true, true, true, true, true, true, true, true, true, true, true, true, true, true, true, true, true, true, true, true, true, true, true, true, false, false] rfl rfl (one_of HT_.out (by kernel_rfl)) (by decide) (fun K hK => ?_)
                    refine goes_ Try.func18 (by kernel_rfl) rfl #[] (by rfl) rfl rfl (by (try simp only [List.map_toArray, List.map_cons, List.map_nil]); first | done | rfl | (simp only [List.length_drop, List.length_take]; rfl)) ?_
                    with_reducible refine (folkmootlaw01_live.calls  t321 _ A36.out).mono ?_
                    rintro e w72 ⟨rfl, hb⟩
                    refine ⟨_, rfl, ?_⟩
                    replace HO269 := bR HO269 hb
                    replace HO272 := bR HO272 hb
                    replace HO278 := bR HO278 hb
                    replace HO281 := bR HO281 hb
                    replace HO284 := bR HO284 hb
                    replace HO287 := bR HO287 hb
                    replace HO297 := Aside0.mk (Kd.N_below (by (with_reducible repeat (first | apply Kd.N_alloc | apply Kd.N_drewN | apply Kd.N_drew)); exact HO297.out) hb)
                    replace HO300 := bR HO300 hb
                    replace HO304 := bR HO304 hb
                    replace HO309 := bR HO309 hb
                    replace HO312 := bR HO312 hb
                    replace HO315 := bR HO315 hb
                    replace HO319 := bR HO319 hb
                    replace BK265 := Aside0.mk (blk_below (g := gb265) (o := .cells #[.int .i64 a2_0, .int .i64 a2_1] 23 (0, 0)) (by (with_reducible repeat (first | refine blk_drewN ?_ _ | refine blk_drew ?_ | refine blk_alloc ?_ _)); exact BK265.out) hb)
                    replace HB := Aside0.mk (below_step (by repeat (first | (with_reducible first | exact HB.out | apply below_alloc | apply pw_below_drewN | apply below_drew1 | refine below_set ?_ GE265.out) | exact HB.out)) hb)
                    (try clear hb)
                    (try clear hb2)
                    (try clear hk)
                    (try clear hi)
                    refine hK.out _ _ ⟨(blk_cell BK265.out 0).trans rfl, (blk_cell BK265.out 1).trans rfl⟩ (fun hHeld => ?_)
                    clear hK K
                    refine norm_ (a' := ?_) ?_ ?_
                    rotate_left
                    · show Act.put _ (some 68) _ = _
                      simp only [Act.put, List.setIfInBounds_toArray, List.set_cons_zero, List.set_cons_succ, i64_w, i32_w]
                      rfl
                    refine pure_ (i := 41) (N := some 69) (v := ?_) (a' := ?_) #[true, true, true, true, true, true, true, true, true, true, true, true, true, true, true, true, true, true, true, true, true, true, true, true, true, true, true, true, true, true, true, true, true, true, true, true, true, true, true, true, true, true, false] rfl rfl (any_of HT_.out (by kernel_rfl)) (fun _ _ _ h => h) (Or.inl ⟨by rfl, ?_⟩) ?_ ?_
                    rotate_left
                    · intro w'
                      go_simp
                      with_reducible rfl
                    rotate_left
                    · simp only [Act.put, List.setIfInBounds_toArray, List.set_cons_zero, List.set_cons_succ, i64_w, i32_w]
                      rfl
                    refine pure_ (i := 42) (N := some 6) (v := ?_) (a' := ?_) #[true, true, true, true, true, true, true, true, true, true, true, true, true, true, true, true, true, true, true, true, true, true, true, true, true, true, true, true, true, true, true, true, true, true, true, true, true, true, true, true, true, true, true] rfl rfl (any_of HT_.out (by kernel_rfl)) (fun _ _ _ h => h) (Or.inl ⟨by rfl, ?_⟩) ?_ ?_
                    rotate_left
                    · intro w'
                      go_simp
                      with_reducible rfl
                    rotate_left
                    · simp only [Act.put, List.setIfInBounds_toArray, List.set_cons_zero, List.set_cons_succ, i64_w, i32_w]
                      rfl
                    refine done_ (done_of HT_.out (by kernel_rfl)) ?_
                    try go_wp2
                    go_ret
                    exact ⟨by first | rfl | (exact congrArg (fun b_ => Ending.returned (Value.bool b_)) hrt_.out) | (simp [errW_none, errW_some] <;> rfl) | (simp [*, errW_none, errW_some] <;> rfl), by repeat (first | (with_reducible first | exact HB.out | apply below_alloc | apply pw_below_drewN | apply below_drew1 | refine below_set ?_ GE265.out) | exact HB.out)⟩
                  · replace c35 := Bool.eq_false_iff.mpr c35
                    subst c35
                    have H1 : (some false) = some true := by rw [if_neg (show ¬ (false = true) by decide)] at H; exact H
                    exact absurd H1 (by simp)
                · replace c32 := Bool.eq_false_iff.mpr c32
                  subst c32
                  have H1 : (some false) = some true := by rw [if_neg (show ¬ (false = true) by decide)] at H; exact H
                  exact absurd H1 (by simp)
              · rw [if_neg c27] at H
                have c27b0 : (t305 == t306) = false := by simpa using c27
                (try (have c27e : ¬ (t305 = t306) := by simpa using c27))
                (try (have c27b1 : decide (t305 = t306) = false := by simpa using c27))
                (try (have c27b2 : (t305 == t306) = false := by simpa using c27))
                (try (have c27b3 : ¬ (t305 = t306) := by simpa using c27))
                clear c27
                exact absurd H (by simp)
            · replace c23 := Bool.eq_false_iff.mpr c23
              subst c23
              have H1 : (some false) = some true := by rw [if_neg (show ¬ (false = true) by decide)] at H; exact H
              exact absurd H1 (by simp)
          · replace c18 := Bool.eq_false_iff.mpr c18
            subst c18
            have H1 : (some false) = some true := by rw [if_neg (show ¬ (false = true) by decide)] at H; exact H
            exact absurd H1 (by simp)
        · rw [if_neg c13] at H
          exact absurd H (by simp)

end Go.Proofs.Ytnhdjaegkccmaaa.P
/- Plain: the printed law StampLists comes to true. -/
namespace Go.Proofs.Ytnhdjaegkccmaaa.P
open Go.RowKit Go.Proofs.YtnhdjaegkccmaaaW.PrintWords
set_option linter.unusedVariables false
set_option linter.unusedSimpArgs false

theorem sown_f (l : List Stp) (h : l.length < 8796093022208) : folkmootlaw01_own.f l = some l := by
  unfold folkmootlaw01_own.f
  simp [h]
theorem smerge_f (l : List (List Stp)) (h : l.flatten.length < 4398046511104) : stamp_Merge.f l = some (sortL l.flatten) := by unfold stamp_Merge.f; rw [if_pos h]
theorem rsort_f (l : List Stp) (h : l.length < 2199023255552) : folkmootref01_Sort.f l = some (sortL l) := by unfold folkmootref01_Sort.f; rw [if_pos h]
theorem rhas_l0 (l : List Stp) (s : Stp) (hl : l.length ≤ 9223372036854775806) : ∀ (d i : Nat), i ≤ l.length → l.length - i = d → Ev (fun k => folkmootref01_Has.l0 k l (i : Int) s.f0 s.f1) ((l.drop i).any fun x => decide (x = s)) := by
  intro d
  induction d with
  | zero =>
    intro i hi hd
    have h1 : ¬ (i : Int) < (l.length : Int) := by omega
    rw [List.drop_of_length_le (by omega)]
    exact Ev.step (fun k => by simp only [folkmootref01_Has.l0, if_neg h1] <;> rfl) (Ev.val _)
  | succ d ih =>
    intro i hi hd
    have h1 : (i : Int) < (l.length : Int) := by omega
    have h0 : (0 : Int) ≤ (i : Int) := by omega
    have hil : i < l.length := by omega
    have hw : wrap64 ((i : Int) + 1) = ((i + 1 : Nat) : Int) := by rw [wrap_in] <;> omega
    have hr := rdS_at l i hil
    have hb := beq_stp l[i] s
    rw [List.drop_eq_getElem_cons hil, List.any_cons]
    have hn := ih (i + 1) (by omega) (by omega)
    generalize l[i] = x at hr hb
    cases hq : decide (x = s) with
    | true =>
      rw [hq] at hb
      exact Ev.step (fun k => by simp only [folkmootref01_Has.l0, if_pos h1, if_pos h0, hr, hb, if_true] <;> rfl) (Ev.val _)
    | false =>
      rw [hq] at hb
      rw [Bool.false_or]
      exact Ev.step (fun k => by simp only [folkmootref01_Has.l0, if_pos h1, if_pos h0, hr, hb, Bool.false_eq_true, if_false, hw] <;> rfl) hn
theorem rhas_ev (l : List Stp) (s : Stp) (hl : l.length ≤ 9223372036854775806) : Ev (fun k => folkmootref01_Has.f k l s.f0 s.f1) (l.any fun x => decide (x = s)) := rhas_l0 l s hl l.length 0 (Nat.zero_le _) (Nat.sub_zero _)
theorem rbelow_l0 (l : List Stp) (s : Stp) (hl : l.length ≤ 1000) : ∀ (d i : Nat), i ≤ l.length → l.length - i = d → Ev (fun k => folkmootref01_Below.l0 k l ((l.take i).filter fun x => ltS x s) (i : Int) s.f0 s.f1) (l.filter fun x => ltS x s) := by
  intro d
  induction d with
  | zero =>
    intro i hi hd
    have h1 : ¬ (i : Int) < (l.length : Int) := by omega
    rw [List.take_of_length_le (by omega)]
    exact Ev.step (fun k => by simp only [folkmootref01_Below.l0, if_neg h1] <;> rfl) (Ev.val _)
  | succ d ih =>
    intro i hi hd
    have h1 : (i : Int) < (l.length : Int) := by omega
    have h0 : (0 : Int) ≤ (i : Int) := by omega
    have hil : i < l.length := by omega
    have hw : wrap64 ((i : Int) + 1) = ((i + 1 : Nat) : Int) := by rw [wrap_in] <;> omega
    have hr := rdS_at l i hil
    have hlt := rless_f l[i] s
    have hn := ih (i + 1) (by omega) (by omega)
    rw [List.take_succ_eq_append_getElem hil, List.filter_append] at hn
    have hlen : ((l.take i).filter fun x => ltS x s).length < 8796093022208 := by
      have := List.length_filter_le (fun x => ltS x s) (l.take i)
      rw [List.length_take] at this
      omega
    generalize ((l.take i).filter fun x => ltS x s) = out at hn hlen ⊢
    generalize l[i] = x at hr hlt hn
    cases hq : ltS x s with
    | true =>
      rw [hq] at hlt
      rw [List.filter_cons, hq, if_pos rfl, List.filter_nil] at hn
      exact Ev.step (fun k => by simp only [folkmootref01_Below.l0, if_pos h1, if_pos h0, hr, hlt, Option.bind_some, if_true, if_pos hlen, hw] <;> rfl) hn
    | false =>
      rw [hq] at hlt
      rw [List.filter_cons, hq, if_neg (by simp), List.filter_nil, List.append_nil] at hn
      exact Ev.step (fun k => by simp only [folkmootref01_Below.l0, if_pos h1, if_pos h0, hr, hlt, Option.bind_some, Bool.false_eq_true, if_false, hw] <;> rfl) hn
theorem rbelow_ev (l : List Stp) (s : Stp) (hl : l.length ≤ 1000) : Ev (fun k => folkmootref01_Below.f k l s.f0 s.f1) (l.filter fun x => ltS x s) := rbelow_l0 l s hl l.length 0 (Nat.zero_le _) (Nat.sub_zero _)
theorem lists_j0 (l m : List Stp) (s : Stp) (c : Bool) (h : c = false → l.length ≤ 60 ∧ m.length ≤ 60) : Ev (fun k => folkmootlaw01_StampLists.j0 k l m c s.f0 s.f1) true := by
  cases c with
  | true => exact Ev.step (fun k => by simp only [folkmootlaw01_StampLists.j0, if_true, slive_f, Option.bind_some] <;> rfl) (Ev.val _)
  | false =>
    obtain ⟨h1, h2⟩ := h rfl
    have hA := sortL_ris l
    have hAl := sortL_len l
    have hBl := sortL_len m
    have e1 := rsort_f l (by omega)
    have e2 := rsort_f m (by omega)
    have e0 := ssort_f l (by omega)
    have o0 := sown_f l (by omega)
    generalize sortL l = A at *
    generalize sortL m = B at *
    have oA := sown_f A (by omega)
    have oB := sown_f B (by omega)
    have hlt : A.length + B.length < 8796093022208 := by omega
    have e3 := rsort_f (A ++ B) (by rw [List.length_append]; omega)
    have hfl : ([A, B] : List (List Stp)).flatten = A ++ B := by simp
    have e4 := smerge_f [A, B] (by rw [hfl, List.length_append]; omega)
    rw [hfl] at e4
    have hCl := sortL_len (A ++ B)
    rw [List.length_append] at hCl
    generalize sortL (A ++ B) = C at e3 e4 hCl
    have e5 := shas_f A s (by omega)
    rw [hasL_any hA] at e5
    have e6 := sbelow_f A s (by omega)
    rw [belL_filter hA] at e6
    have hDl := List.length_filter_le (fun x => ltS x s) A
    have hbl := rbelow_ev A s (by omega)
    have e7 : stamp_Merge.f ([] : List (List Stp)) = some [] := by rw [smerge_f [] (by simp)]; exact congrArg some (sortL_self RisS.nil)
    refine Ev.step (fun k => by simp only [folkmootlaw01_StampLists.j0, Bool.false_eq_true, if_false, e1, e2, Option.bind_some, oA, if_pos hlt, e3, o0, e0] <;> rfl) (Ev.bind (rsame_ev A (by omega)) ?_)
    simp only [if_true, oA, oB, Option.bind_some, e4]
    refine Ev.bind (rsame_ev C (by omega)) ?_
    simp only [if_true, oA, Option.bind_some, e5]
    refine Ev.bind (rhas_ev A s (by omega)) ?_
    simp only [beq_self_eq_true, if_true, oA, Option.bind_some, e6]
    refine Ev.bind hbl (Ev.bind (rsame_ev _ (by omega)) ?_)
    simp only [if_true, e7, Option.bind_some]
    refine Ev.bind (rsame_ev ([] : List Stp) (by simp)) ?_
    simp only [if_true, slive_f, Option.bind_some]
    exact Ev.val _
theorem stampLists_pure (l m : List Stp) (a0 a1 : Int) (hl : l.length ≤ 140737488351232) (hm : m.length ≤ 140737488351232) : ∃ k, folkmootlaw01_StampLists.f k l m a0 a1 = some true := by
  refine Ev.rounds (g := fun k => folkmootlaw01_StampLists.f k l m a0 a1) ?_
  unfold folkmootlaw01_StampLists.f
  by_cases h : (l.length : Int) > 60
  · simp only [if_pos h]
    exact lists_j0 l m ⟨a0, a1⟩ true (fun h => by cases h)
  · simp only [if_neg h]
    exact lists_j0 l m ⟨a0, a1⟩ _ (fun h2 => ⟨by omega, by have := of_decide_eq_false h2; omega⟩)
end Go.Proofs.Ytnhdjaegkccmaaa.P
