/- Texts of the proofs of SpanAway, SpanEach, SpanOrder, SpanPoints, SpanSets, merged (SpU, SpC, SpV, PxspanMeet, SpM, Pxfmref03set, Pxfmref03Cut, Pxfmref03Less, Pxfmref03Union, Pxfmref03Set). -/
import Derived.Test.YtjimijpkhmpilaaGa0d5d060
import Derived.Test.YtjimijpkhmpilaaG9978a584
import Derived.Test.YtjimijpkhmpilaaG366f82ba
import Derived.Test.YtjimijpkhmpilaaG45a2995a
import Derived.Shelf.SlSortCmp.NoneTotal
import Derived.Lib.Bytealg
import Derived.Lib.Strings
import Derived.StillTailTactics
import Derived.BigQuiet
import Derived.Test.YtjimijpkhmpilaaG2a678e12
import Derived.Deep.RegionHeld3
import Derived.Deep.LoopGhost
/- Contracts: strings.Compare; span.Union: those that are not empty, sorted, made one where they touch. -/
namespace Go.Proofs.Ytjimijpkhmpilaa.P
open Go.RowKit
open Go.Proofs.YtjimijpkhmpilaaW.PrintWords (Kd Aside0)
open Go.Proofs.YtjimijpkhmpilaaW.PrintMore (max_two)
attribute [local go_sem] str_leq str_gtr str_geq max2_str max_two
set_option linter.unusedVariables false

theorem strCmp_any (a b : ByteArray) (w : World) : Calls Try.prog 36 #[.string a, .string b] w fun e w' => e = .returned (.int .i64 (Lib.compareBytes a.data.toList b.data.toList)) ∧ w = w' := by
  have h0 : ∀ w, Calls Try.prog 47 #[.string a, .string b] w fun e w' => e = .returned (.int .i64 (Lib.compareBytes a.data.toList b.data.toList)) ∧ w = w' := fun w => by
    go_enter Try.func47, Try.ntmps47
    go_wp2
    rw [run_callFunc_extern Try.func58 (by kernel_rfl) (by kernel_rfl) (by kernel_rfl) (e := Extern.BytealgCompare.compare) (by kernel_rfl), Lib.run_compareString]
    simp only [Result.andThen]
    rw [Oper.upon_value]
    go_wp2
    go_ret
    exact ⟨rfl, rfl⟩
  go_enter Try.func36, Try.ntmps36
  go_wp2_with (go_at_call 47; refine (h0 _).mono ?_; rintro e w' ⟨rfl, rfl⟩)
  go_ret
  exact ⟨rfl, rfl⟩

/-! ### spans as cells -/
def encSp (x : S34) : List Value := [.string x.f0, .string x.f1]
instance inhSp : Inhabited S34 := ⟨z34⟩
theorem encSp_len (x : S34) : (encSp x).length = 2 := rfl
theorem encSp_one (x : S34) : ∀ v ∈ encSp x, v.oneCell' = true := by
  intro v hv
  simp [encSp] at hv
  rcases hv with rfl | rfl <;> rfl
theorem encSp_inj {x y : S34} (h : encSp x = encSp y) : x = y := by
  cases x; cases y
  simp [encSp] at h
  obtain ⟨rfl, rfl⟩ := h
  rfl
theorem wideSp (l : List S34) : Wide 2 (l.map encSp) := wide_map encSp_len encSp_one l
theorem C_rawSp {w : World} {A : Option Addr} {l : List S34} (h : Kd.C k34 w A l.length l) : Reads w w.heap.size 2 A (l.map encSp).length (l.map encSp).flatten := by
  refine ⟨(wideSp l).len, fun hn => ?_⟩
  rw [List.length_map] at hn
  obtain ⟨ad, hA, hc⟩ := h.2.2 hn
  have hcell : ∀ j (hj : j < l.length) i u, (encSp l[j])[i]? = some u → w.cell? (ad.add (j * 2 + i)) = some u := by
    intro j hj i u hu
    obtain ⟨c, _, hK, hcc⟩ := hc j _ (List.getElem?_eq_getElem hj)
    obtain rfl := k34_open hK
    exact hcc i u hu
  refine ⟨ad, hA, ?_, fun j u hu => ?_⟩
  · have h0 := hcell 0 hn 0 _ rfl
    have := World.block_lt_of_cell? w _ h0
    rwa [block_of_add] at this
  · have hlt := (List.getElem?_eq_some_iff.1 hu).1
    rw [(wideSp l).len, List.length_map] at hlt
    have hj : j / 2 < l.length := by omega
    have e0 : j / 2 * 2 + j % 2 = j := by omega
    have := (wideSp l).at_ (j / 2) (by simpa using hj) (j % 2) (by omega) []
    rw [List.append_nil, e0, hu, List.getElem_map] at this
    have h1 := hcell (j / 2) hj (j % 2) u this.symm
    rwa [e0] at h1
theorem R_rawSp {w : World} {base : Nat} {v : Value} {l : List S34} (h : w.ownsRow base 34 2 v l.length (l.map encSp).flatten) : Kd.R k34 34 w base (fun _ => True) v l := by
  refine ⟨fun _ _ => trivial, (l.map encSp).flatten, h, ?_, fun j x hx => ?_⟩
  · rw [(wideSp l).len, List.length_map]; rfl
  · obtain ⟨hj, rfl⟩ := List.getElem?_eq_some_iff.1 hx
    have : (((l.map encSp).flatten.drop (j * 2)).take 2) = [.string l[j].f0, .string l[j].f1] := by
      apply List.ext_getElem?
      intro i
      rw [List.getElem?_take]
      by_cases hi : i < 2
      · rw [if_pos hi, List.getElem?_drop]
        have := (wideSp l).at_ j (by simpa using hj) i hi []
        rw [List.append_nil, List.getElem_map] at this
        rw [this]
        rfl
      · rw [if_neg hi]
        match i, hi with
        | i + 2, _ => rfl
    show Kd.M _ w base _ _ (((l.map encSp).flatten.drop (j * 2)).take 2)
    rw [this]
    exact k34_mkM _ _ _ _
/-! ### what it computes -/
def fullSp (s : S34) : Bool := s.f1.toList.isEmpty || Op.bytesLess s.f0.toList s.f1.toList
theorem empty_val (a b : ByteArray) : span_empty.f a b = some (!(fullSp ⟨a, b⟩)) := by
  unfold span_empty.f fullSp
  by_cases h : b.toList = []
  · rw [if_pos h]; simp [h]
  · rw [if_neg h]
    cases e : b.toList with
    | nil => exact absurd e h
    | cons x y => simp
def mostV (a b : ByteArray) : ByteArray := if a.toList = [] ∨ b.toList = [] then ⟨#[]⟩ else mxs a b
/-- does one begin where the last one has not ended? -/
def joins (last s : S34) : Bool := last.f1.toList.isEmpty || !(Op.bytesLess last.f1.toList s.f0.toList)
def mergeStep (out : List S34) (s : S34) : List S34 :=
  match out.getLast? with
  | some last => if joins last s = true then out.dropLast ++ [⟨last.f0, mostV last.f1 s.f1⟩] else out ++ [s]
  | none => [s]
def mergeAll (l : List S34) : List S34 := l.foldl mergeStep []
def ltFrom (a b : S34) : Bool := Op.bytesLess a.f0.toList b.f0.toList

/-! ### the closures -/
def cmpSp (x y : S34) : Int := Lib.compareBytes x.f0.data.toList y.f0.data.toList
theorem toList_data (a : ByteArray) : a.data.toList = a.toList := (Lib.toList_data a).symm
theorem ltOf_cmpSp (x y : S34) : ltOf cmpSp x y = ltFrom x y := by
  unfold ltOf cmpSp ltFrom
  rw [compareBytes_lt, toList_data, toList_data]
theorem swoSp : Sort.SWO (ltOf cmpSp) where
  irrefl x := by rw [ltOf_cmpSp]; exact bytesLess_irrefl _
  trans x y z h1 h2 := by rw [ltOf_cmpSp] at *; exact bytesLess_trans _ _ _ h1 h2
  ntrans x y z h1 h2 := by rw [ltOf_cmpSp] at *; exact bytesLess_ntrans h1 h2
theorem cmp_cl (x y : S34) (W : World) : Calls Try.prog 35 #[.agg #[.string x.f0, .string x.f1], .agg #[.string y.f0, .string y.f1]] W fun e w' => e = .returned (.int .i64 (cmpSp x y)) ∧ ∃ q os', w' = Sort.grow (W.drewN q) os' := by
  have hcon := Lib.hid (fun W' => strCmp_any x.f0 y.f0 W')
  unfold cmpSp
  generalize Lib.compareBytes x.f0.data.toList y.f0.data.toList = r at hcon ⊢
  go_enter Try.func35, Try.ntmps35
  go_wp2_with (go_at_call 36; refine (hcon.out _).mono ?_; rintro e w' ⟨rfl, rfl⟩)
  go_ret
  exact ⟨rfl, 0, _, by rw [Sort.alloc_eq_grow, Sort.alloc_eq_grow, Sort.grow_grow]; rfl⟩
theorem empty_fn (l : List S34) (blk : Nat) (w : World) (p : List Value → Bool) (hp : ∀ x ∈ l, p (encSp x) = !(fullSp x)) : FnS Try.prog 33 #[] p (l.map encSp) blk w := by
  intro W y hW hy
  obtain ⟨x, hx, rfl⟩ := List.mem_map.1 hy
  rw [hp x hx]
  exact (span_empty.calls x.f0 x.f1 _ W (empty_val x.f0 x.f1)).mono fun e w' ⟨he, hb⟩ => ⟨he, hb⟩
/-- span.empty, as it answers of cells -/
def emptyP (c : List Value) : Bool := match c with
  | [.string a, .string b] => !(fullSp ⟨a, b⟩)
  | _ => false
theorem kept_empty (l : List S34) : keptR emptyP (l.map encSp) = (l.filter fullSp).map encSp := by
  unfold keptR
  rw [List.filter_map]
  congr 1
  apply List.filter_congr
  intro x _
  simp [emptyP, encSp]
theorem enters_emp : ∀ args w, (callFunc 33 args).run Try.prog w = .ok (.enter 33 args) w := enters_fn Try.func33 (by kernel_rfl) rfl
theorem enters_cmp : ∀ args w, (callFunc 35 args).run Try.prog w = .ok (.enter 35 args) w := enters_fn Try.func35 (by kernel_rfl) rfl
theorem most_any (a b : ByteArray) (w : World) : Calls Try.prog 37 #[.string a, .string b] w fun e w' => e = .returned (.string (mostV a b)) ∧ w = w' := by
  unfold mostV
  by_cases h1 : a.toList = []
  · have b1 : (a.toList == ([] : List UInt8)) = true := beq_iff_eq.2 h1
    rw [if_pos (.inl h1)]
    clear h1
    go_enter Try.func37, Try.ntmps37
    go_wp2
    go_ret
    exact ⟨rfl, rfl⟩
  · have b1 : (a.toList == ([] : List UInt8)) = false := beq_eq_false_iff_ne.2 h1
    by_cases h2 : b.toList = []
    · have b2 : (b.toList == ([] : List UInt8)) = true := beq_iff_eq.2 h2
      rw [if_pos (.inr h2)]
      clear h1 h2
      go_enter Try.func37, Try.ntmps37
      go_wp2
      go_ret
      exact ⟨rfl, rfl⟩
    · have b2 : (b.toList == ([] : List UInt8)) = false := beq_eq_false_iff_ne.2 h2
      rw [if_neg (by rintro (h | h); exact h1 h; exact h2 h)]
      clear h1 h2
      go_enter Try.func37, Try.ntmps37
      go_wp2
      go_ret
      exact ⟨rfl, rfl⟩

/-! ### the sort, and all ahead of it -/
theorem sortSp_any (blk cap : Nat) (l : List S34) (rest : List Value) (w : World) (h : RowAt w blk 34 (l.map encSp) rest) (hsz : l.length < 4611686018427387904) :
    Calls Try.prog 34 #[.slice (some ⟨blk, 0, none⟩) l.length cap, .func (.func 35) #[] #[]] w fun e w' => e = .returned (.tuple #[]) ∧ ∃ l', l'.Perm l ∧ Rises ltFrom l' ∧ Chs (fun i => i = blk) w w' ∧ RowAt w' blk 34 (l'.map encSp) rest := by
  have hH := row_holds encSp_len encSp_one h
  have hcmp : CmpLays Try.prog 35 #[] encSp 2 cmpSp blk 0 l.toArray.size w := fun _ _ _ _ x y => cmp_cl x y _
  have hcon := AnyQ.slices_SortFunc laySortSp 2 Try.isAgg34 Try.sizeOf34 encSp encSp_len encSp_one cmpSp swoSp 35 #[] blk 0 cap l.toArray w enters_cmp hcmp hH h.lt (by simpa using hsz)
  refine Calls.mono (show Calls Try.prog 34 #[.slice (some ⟨blk, 0, none⟩) l.length cap, .func (.func 35) #[] #[]] w _ from hcon) ?_
  rintro e w' ⟨rfl, d', n, os, hp, hs, rfl⟩
  obtain ⟨hp1, hp2⟩ := perm_of _ _ hp
  have hs' := rises_of _ d' (by rw [hp2]; exact hs)
  refine ⟨rfl, d'.toList, by simpa using hp1, ?_, sort_chs _ _ _, sort_row encSp_len encSp_one h d' (by simpa using hp2) n os⟩
  unfold Rises at hs' ⊢
  exact hs'.imp fun {a b} hab => by rw [← ltOf_cmpSp]; exact hab
theorem sortO_sp (base : Nat) (v : Value) (l : List S34) (w : World) (h : w.ownsRow base 34 2 v l.length (l.map encSp).flatten) (hsz : l.length < 4611686018427387904) :
    Calls Try.prog 34 #[v, .func (.func 35) #[] #[]] w fun e w' => e = .returned (.tuple #[]) ∧ ∃ l', l'.Perm l ∧ Rises ltFrom l' ∧ ChsV v w w' ∧ w'.ownsRow base 34 2 v l'.length (l'.map encSp).flatten := by
  have hl : (l.map encSp).length = l.length := List.length_map _
  rw [← hl] at h
  rcases own_rowAt h (wideSp l) with ⟨rfl, e0⟩ | ⟨blk, cap, rest, rfl, hb, hlt, hc, hm, hrow, hs⟩
  · obtain rfl : l = [] := by simpa using e0
    refine Calls.mono (show Calls Try.prog 34 _ w _ from AnyF.slices_SortFunc_none laySortSp none 0 (.func (.func 35) #[] #[]) w) ?_
    rintro e w' ⟨rfl, rfl⟩
    exact ⟨rfl, [], List.Perm.refl _, List.Pairwise.nil, Chs.refl _ _, World.ownsRow_nil _ _ _ _⟩
  · rw [hl]
    refine (sortSp_any blk cap l rest w hrow hsz).mono ?_
    rintro e w' ⟨rfl, l', hp, hr, hx, hrow'⟩
    refine ⟨rfl, l', hp, hr, hx.mono (fun i _ e => by subst e; rfl), ?_⟩
    have hll := hp.length_eq
    have := rowAt_own hrow' (wideSp l') hb (by rw [List.length_map, hll]; simpa using hc) hm (by rw [(wideSp l').len, List.length_map, hll]; rw [(wideSp l).len, List.length_map] at hs; exact hs)
    rw [List.length_map] at this
    rw [hll] at this ⊢
    exact this

/-! ### span.Union -/
theorem new_reads {w : World} {t : TypeId} {k p : Nat} (cs : List Value) (hk : cs.length = k) (hp : w.heap.size = p) : Reads (w.alloc (.cells cs.toArray t)) (p + 1) k (some ⟨p, 0, none⟩) 1 cs := by
  subst hp
  exact ⟨by rw [hk, Nat.one_mul], fun _ => ⟨_, rfl, Nat.lt_succ_self _, fun j v hv => by
    have hb := Blk.new w t cs.toArray
    have : (⟨w.heap.size, 0, none⟩ : Addr).add j = ⟨w.heap.size, j, none⟩ := by unfold Addr.add; split <;> simp_all
    rw [this, hb.cell, List.getElem?_toArray, hv]⟩⟩
theorem mergeAll_take (l : List S34) (k : Nat) (hk : k < l.length) : mergeAll (l.take (k + 1)) = mergeStep (mergeAll (l.take k)) l[k] := by
  unfold mergeAll
  rw [List.take_succ_eq_append_getElem hk, List.foldl_append, List.foldl_cons, List.foldl_nil]
theorem mergeStep_len (out : List S34) (s : S34) : (mergeStep out s).length ≤ out.length + 1 := by
  unfold mergeStep
  cases h : out.getLast? with
  | none => simp
  | some a =>
    have : out ≠ [] := by rintro rfl; simp at h
    have := List.length_pos_iff.2 this
    dsimp only
    split
    · simp only [List.length_append, List.length_dropLast, List.length_cons, List.length_nil]; omega
    · simp
theorem mergeAll_len (l : List S34) (k : Nat) : (mergeAll (l.take k)).length ≤ k := by
  induction k with
  | zero => simp [mergeAll]
  | succ k ih =>
    by_cases h : k < l.length
    · rw [mergeAll_take l k h]
      have := mergeStep_len (mergeAll (l.take k)) l[k]
      omega
    · rw [List.take_of_length_le (by omega)] at ih ⊢
      omega
theorem set_last (out : List S34) (lf lt m : ByteArray) (h : out.getLast? = some (S34.mk lf lt)) : ((out.map encSp).flatten).set ((out.length - 1) * 2 + 1) (.string m) = ((out.dropLast ++ [S34.mk lf m]).map encSp).flatten := by
  obtain ⟨D, rfl⟩ := List.getLast?_eq_some_iff.1 h
  have hw := (wideSp D).len
  rw [List.length_map] at hw
  have hd : (D ++ [S34.mk lf lt]).length - 1 = D.length := by simp
  rw [hd, ← hw, List.dropLast_concat, List.map_append, List.map_append, List.flatten_append, List.flatten_append, List.set_append_right _ _ (by omega)]
  simp [encSp]
theorem flip_w {P : Program} {f : FuncId} {args : Array Value} {w : World} {v : Value} (h : Calls P f args w fun e w' => e = .returned v ∧ w = w') : Calls P f args w fun e w' => e = .returned v ∧ w' = w := h.mono fun _ _ ⟨he, hw⟩ => ⟨he, hw.symm⟩
def UnionPost (l0 : List S34) (w : World) (e : Ending) (w' : World) : Prop := ∃ v0 l', e = .returned v0 ∧ l'.Perm (l0.filter fullSp) ∧ Rises ltFrom l' ∧ Kd.R k34 34 w' w.heap.size (fun _ => True) v0 (mergeAll l') ∧ Ext w w'
set_option maxHeartbeats 8000000 in
set_option maxRecDepth 100000 in
theorem union_walk (A0 : Option Addr) (c0 : Nat) (l0 : List S34) (w : World) (hr0 : Kd.C k34 w A0 l0.length l0) (hc0 : l0.length ≤ c0) (hl : l0.length < 4398046511104) :
    Calls Try.prog 14 #[.slice A0 l0.length c0] w (UnionPost l0 w) := by
  have hclone := cloneR_sp A0 c0 w.heap.size (l0.map encSp) w (C_rawSp hr0) (Nat.le_refl _) (wideSp _) (by rw [List.length_map]; omega)
  rw [List.length_map] at hclone
  have HCl := Lib.hid hclone
  clear hclone hr0
  have hzv : ∀ w, (zeroValue 34).run Try.prog w = .ok (.agg [Value.string ⟨#[]⟩, Value.string ⟨#[]⟩].toArray) w := fun w => by kernel_rfl
  have HZ := Lib.hid hzv
  clear hzv
  go_enter Try.func14, Try.ntmps14
  go_wp2_with fail
  refine HCl.out.mono ?_
  rintro e w1 ⟨v1, rfl, hown1, hx1⟩
  clear HCl
  have hdel := Lib.hid (deleteO_sp 33 #[] emptyP enters_emp w.heap.size v1 (l0.map encSp) w1 [Value.string ⟨#[]⟩, Value.string ⟨#[]⟩] HZ.out rfl (by simp [Value.oneCell']) (by rw [List.length_map]; exact hown1) (wideSp _) (fun blk _ => empty_fn l0 blk w1 emptyP (fun x _ => rfl)))
  have hb1 := Lib.hid (own_lt hown1)
  have hbb1 : ∀ i, v1.ownBlock = some i → w.heap.size ≤ i := fun i hi => (hown1.lt i hi).1
  have HBB1 := Lib.hid hbb1
  clear hown1 hbb1
  go_wp2_with fail
  refine hdel.out.mono ?_
  rintro e w2 ⟨v2, rfl, hown2, hx2, hat⟩
  rw [kept_empty, List.length_map] at hown2
  have HX2 := Lib.hid (hx1.chs hx2 (fun i hi e => by have := HBB1.out i e; omega))
  have hlen2 : (l0.filter fullSp).length ≤ l0.length := List.length_filter_le _ _
  have hsort := Lib.hid (sortO_sp w.heap.size v2 (l0.filter fullSp) w2 hown2 (by omega))
  have HBB2 := Lib.hid (fun i (hi : v2.ownBlock = some i) => (hown2.lt i hi).1)
  clear hdel hown2 hx2 hat hx1 hb1 HBB1 HZ
  go_wp2_with fail
  refine hsort.out.mono ?_
  rintro e w3 ⟨rfl, l', hperm, hrise, hx3, hown3⟩
  have HX3 := Lib.hid (HX2.out.chs hx3 (fun i hi e => by have := HBB2.out i e; omega))
  have hlen' : l'.length ≤ l0.length := by rw [hperm.length_eq]; exact hlen2
  have HP := Lib.hid hperm
  have HRi := Lib.hid hrise
  obtain ⟨A', c', rfl⟩ := own_slice hown3
  have HR3 := Lib.hid (Reads.of_own hown3)
  obtain ⟨i0, hi0, hz0, hz1, hz2⟩ := info_parts info_sp
  have HI0 := Lib.hid hi0
  have HZ0 := Lib.hid hz0
  have HZ1 := Lib.hid hz1
  have HZ2 := Lib.hid hz2
  clear hsort HX2 HBB2 hx3 hown3 hperm hrise hi0 hz0 hz1 hz2 hlen2
  go_wp2
  go_loopw [2, 13] (fun o i wr => ∃ k : Nat, k ≤ l'.length ∧ i = .int .i64 k ∧ Hid (wr.ownsRow w3.heap.size 34 2 o (mergeAll (l'.take k)).length ((mergeAll (l'.take k)).map encSp).flatten) ∧ Hid (Ext w3 wr)) (fun _ i _ => l'.length - (intOf i).toNat)
  case atStart => exact ⟨0, by omega, rfl, Lib.hid (World.ownsRow_nil _ _ _ _), Lib.hid (Ext.refl _)⟩
  case round =>
    obtain ⟨k, hk, rfl, HO, HX⟩ := hrel
    by_cases hlt : k < l'.length
    · have hltz : (k : Int) < (l'.length : Int) := by omega
      obtain ⟨ad, rfl, had, hcell⟩ := HR3.out.2 (by omega)
      have hml := mergeAll_len l' k
      have HT := Lib.hid (mergeAll_take l' k hlt)
      have hcl : ∀ i u, (encSp l'[k])[i]? = some u → wr.cell? (ad.add (k * 2 + i)) = some u := fun i u hu => by
        have hi : i < 2 := (List.getElem?_eq_some_iff.1 hu).1
        have h0 := hcell (k * 2 + i) u (by have := (wideSp l').at_ k (by simpa using hlt) i hi []; rw [List.append_nil, List.getElem_map] at this; rw [this]; exact hu)
        rw [← h0]
        exact HX.out.below.cell (by rw [block_of_add]; exact had)
      have f0 := hcl 0 _ rfl
      have f1 := hcl 1 _ rfl
      rw [Nat.add_zero] at f0
      rw [add_plus _ _ 1 (by omega)] at f1
      generalize hx : l'[k] = x at *
      generalize mergeAll (l'.take k) = out at *
      obtain ⟨xf, xt⟩ := x
      clear hx hcl hcell
      dsimp only at f0 f1
      have hbl := HX.out.below.size
      cases hg : out.getLast? with
      | none =>
        obtain rfl : out = [] := by simpa using hg
        have HO' := HO.out
        obtain ⟨A2, c2, rfl⟩ := own_slice HO'
        clear hg HO'
        go_wp2
        go_quiet (fail)
        go_wp2_with (at_builtin; go_loud (refine wpList_append_any _ rfl (.tmp 52) (.tmp 54) _ rfl w3.heap.size 34 i0 _ 2 32 Try.underlying22 HI0.out HZ0.out HZ1.out HZ2.out (by simp [Value.cells]) (by omega) _ 0 [] rfl (own_ext HO.out ((((Ext.refl wr).alloc _).drewN _).alloc _)) _ _ 1 _ [.string xf, .string xt] rfl (new_reads [.string xf, .string xt] rfl (by simp)) (by simp [Value.oneCell']) (by simp only [maxLen]; omega) (by omega) (by simp; omega) ?_); intro v4 w4 hown4 hg4 hat4)
        have HO4 := Lib.hid hown4
        have HX4 := Lib.hid (Chs.to_ext (S := fun _ => False) (Chs.grown (.of_ext (((HX.out.alloc _).drewN _).alloc _)) hg4 (fun i hi => .inr (HO.out.lt i hi).1)) (fun _ _ e => e))
        clear hown4 hg4 hat4
        go_roundw
        case rel =>
          refine ⟨k + 1, by omega, by go_num, ?_, HX4⟩
          rw [HT.out]
          exact Lib.hid (by simpa [mergeStep, encSp] using HO4.out)
        case measure => simp [intOf]; omega
      | some last =>
        have hpos : 0 < out.length := by
          cases out with
          | nil => simp at hg
          | cons a b => simp
        obtain ⟨g, c2, rfl, hgb, hgl, _⟩ := own_some HO.out hpos
        obtain ⟨lf, lt⟩ := last
        have hlast : out[out.length - 1]'(by omega) = ⟨lf, lt⟩ := by
          rw [List.getLast?_eq_getElem?, List.getElem?_eq_getElem (by omega)] at hg
          exact Option.some.inj hg
        have HG := Lib.hid hg
        have hn1 : IntKind.i64.wrap ((out.length : Int) - 1) = ((out.length - 1 : Nat) : Int) := by rw [IntKind.wrap_i64]; omega
        have hge : decide ((0 : Int) ≤ ((out.length - 1 : Nat) : Int)) = true := by simp
        have hin : ((out.length - 1 : Nat) : Int) < (out.length : Int) := by omega
        have hread := Reads.of_own HO.out
        rw [show out.length = (out.map encSp).length by simp] at hread
        have hcO : ∀ i u, (encSp ⟨lf, lt⟩)[i]? = some u → wr.cell? ⟨g, (out.length - 1) * 2 + i, none⟩ = some u := fun i u hu => by
          have hi : i < 2 := (List.getElem?_eq_some_iff.1 hu).1
          obtain ⟨ad2, e2, _, hc2⟩ := hread.2 (by simpa using hpos)
          injection e2 with e2
          subst e2
          have h0 := hc2 ((out.length - 1) * 2 + i) u (by
            have := (wideSp out).at_ (out.length - 1) (by simp; omega) i hi []
            rw [List.append_nil, List.getElem_map, hlast] at this
            rw [this]; exact hu)
          have e3 : (⟨g, 0, none⟩ : Addr).add ((out.length - 1) * 2 + i) = ⟨g, (out.length - 1) * 2 + i, none⟩ := by unfold Addr.add; split <;> simp_all
          rwa [e3] at h0
        have hc0 : wr.cell? ⟨g, (out.length - 1) * 2, none⟩ = some (.string lf) := hcO 0 _ rfl
        have hc1 : wr.cell? ⟨g, (out.length - 1) * 2 + 1, none⟩ = some (.string lt) := hcO 1 _ rfl
        have hz1 : wr.frozen? ⟨g, (out.length - 1) * 2 + 1, none⟩ = false := own_frozen HO.out _
        clear hg hread hlast hcO
        cases hj : joins ⟨lf, lt⟩ ⟨xf, xt⟩ with
        | true =>
          have hstep : mergeStep out ⟨xf, xt⟩ = out.dropLast ++ [⟨lf, mostV lt xt⟩] := by unfold mergeStep; rw [HG.out]; dsimp only; rw [if_pos hj]
          have HS := Lib.hid hstep
          have HSL := Lib.hid (set_last out lf lt (mostV lt xt) HG.out)
          clear hstep
          have hnb : g ≠ wr.heap.size := by omega
          have hgw : w3.heap.size ≤ g := hgb
          by_cases h1 : lt.toList = []
          all_goals
            first
              | have b1 : (lt.toList == ([] : List UInt8)) = true := beq_iff_eq.2 h1
              | (have b1 : (lt.toList == ([] : List UInt8)) = false := beq_eq_false_iff_ne.2 h1
                 have b2 : Op.bytesLess lt.toList xf.toList = false := by
                   unfold joins at hj
                   dsimp only at hj
                   cases e : lt.toList with
                   | nil => exact absurd e h1
                   | cons a b => rw [e] at hj; simpa using hj)
            clear hj h1
            go_wp2
            go_quiet (fail)
            go_wp2
            refine wp_region_still_tail 12 (by kernel_rfl) (by kernel_rfl) ?_
            simp only [List.take_succ_cons, List.take_zero, List.drop_succ_cons, List.drop_zero, World.drew_eq]
            repeat still_step
            still_call (flip_w (most_any _ _ _))
            repeat still_step
            try refine wpStill_nil ?_
            go_wp2
            go_roundw
            case rel =>
              refine ⟨k + 1, by omega, by go_num, ?_, Lib.hid (Chs.to_ext (S := fun _ => False) (Chs.setCell (Chs.of_ext ?_) (p := ⟨g, (out.length - 1) * 2 + 1, none⟩) (.inr hgw) _) (fun _ _ e => e))⟩
              · rw [HT.out, HS.out]
                have hlen : (out.dropLast ++ [S34.mk lf (mostV lt xt)]).length = out.length := by rw [List.length_append, List.length_dropLast]; simp; omega
                rw [hlen, ← HSL.out]
                refine Lib.hid (own_set (own_ext HO.out ?_) _ (by omega) _)
                exact (by repeat (first | exact Ext.refl _ | (with_reducible refine Ext.alloc ?_ _) | (with_reducible refine Ext.drewN ?_ _) | (with_reducible refine Ext.drew ?_)))
              · exact (by repeat (first | exact HX.out | (with_reducible refine Ext.alloc ?_ _) | (with_reducible refine Ext.drewN ?_ _) | (with_reducible refine Ext.drew ?_)))
            case measure => simp [intOf]; omega
        | false =>
          have hstep : mergeStep out ⟨xf, xt⟩ = out ++ [⟨xf, xt⟩] := by unfold mergeStep; rw [HG.out]; dsimp only; rw [if_neg (by rw [hj]; decide)]
          unfold joins at hj
          dsimp only at hj
          simp only [Bool.or_eq_false_iff, Bool.not_eq_false'] at hj
          obtain ⟨hj1, hj2⟩ := hj
          have b1 : (lt.toList == ([] : List UInt8)) = false := by cases e : lt.toList with
            | nil => rw [e] at hj1; cases hj1
            | cons a b => rfl
          clear hj1
          have HS := Lib.hid hstep
          clear hstep
          have hnb : g ≠ wr.heap.size := by omega
          go_wp2
          go_quiet (fail)
          go_wp2_with (at_builtin; go_loud (refine wpList_append_any _ rfl (.tmp 52) (.tmp 54) _ rfl w3.heap.size 34 i0 _ 2 32 Try.underlying22 HI0.out HZ0.out HZ1.out HZ2.out (by simp [Value.cells]) (by omega) _ out.length (out.map encSp).flatten rfl (own_ext HO.out ((((Ext.refl wr).alloc _).drewN _).alloc _)) _ _ 1 _ [.string xf, .string xt] rfl (new_reads [.string xf, .string xt] rfl (by simp)) (by simp [Value.oneCell']) (by simp only [maxLen]; omega) (by omega) (by simp; omega) ?_); intro v4 w4 hown4 hg4 hat4)
          have HO4 := Lib.hid hown4
          have HX4 := Lib.hid (Chs.to_ext (S := fun _ => False) (Chs.grown (.of_ext (((HX.out.alloc _).drewN _).alloc _)) hg4 (fun i hi => .inr (HO.out.lt i hi).1)) (fun _ _ e => e))
          clear hown4 hg4 hat4
          go_roundw
          case rel =>
            refine ⟨k + 1, by omega, by go_num, ?_, HX4⟩
            rw [HT.out, HS.out]
            exact Lib.hid (by simpa [encSp] using HO4.out)
          case measure => simp [intOf]; omega
    · obtain rfl : k = l'.length := by omega
      rw [List.take_length] at HO
      have hltz : ¬ (l'.length : Int) < (l'.length : Int) := by omega
      go_wp2
      go_ret
      exact ⟨_, l', rfl, HP.out, HRi.out, Kd.R_lower (R_rawSp HO.out) HX3.out.size, HX3.out.trans HX.out⟩
end Go.Proofs.Ytjimijpkhmpilaa.P
/- Contracts: span.Cut. -/
namespace Go.Proofs.Ytjimijpkhmpilaa.P
open Go.RowKit
open Go.Proofs.YtjimijpkhmpilaaW.PrintWords (Kd Aside0 cut_from)
open Go.Proofs.YtjimijpkhmpilaaW.PrintMore (max_two)
attribute [local go_sem] str_leq str_gtr str_geq max2_str max_two
set_option linter.unusedVariables false

def leastV (a b : ByteArray) : ByteArray := if a.toList = [] then b else if b.toList = [] then a else if Op.bytesLess b.toList a.toList = true then b else a
theorem least_any (a b : ByteArray) (w : World) : Calls Try.prog 38 #[.string a, .string b] w fun e w' => e = .returned (.string (leastV a b)) ∧ w = w' := by
  unfold leastV
  by_cases h1 : a.toList = []
  · have b1 : (a.toList == ([] : List UInt8)) = true := beq_iff_eq.2 h1
    rw [if_pos h1]
    clear h1
    go_enter Try.func38, Try.ntmps38
    go_wp2
    go_ret
    exact ⟨rfl, rfl⟩
  · have b1 : (a.toList == ([] : List UInt8)) = false := beq_eq_false_iff_ne.2 h1
    rw [if_neg h1]
    clear h1
    by_cases h2 : b.toList = []
    · have b2 : (b.toList == ([] : List UInt8)) = true := beq_iff_eq.2 h2
      have b3 : (b.toList != ([] : List UInt8)) = false := by rw [h2]; rfl
      rw [if_pos h2]
      clear h2
      go_enter Try.func38, Try.ntmps38
      go_wp2
      go_ret
      exact ⟨rfl, rfl⟩
    · have b2 : (b.toList == ([] : List UInt8)) = false := beq_eq_false_iff_ne.2 h2
      have b3 : (b.toList != ([] : List UInt8)) = true := bne_iff_ne.2 h2
      rw [if_neg h2]
      clear h2
      by_cases h3 : Op.bytesLess b.toList a.toList = true
      · rw [if_pos h3]
        go_enter Try.func38, Try.ntmps38
        go_wp2
        go_ret
        exact ⟨rfl, rfl⟩
      · rw [if_neg h3]
        have h3' : Op.bytesLess b.toList a.toList = false := by simpa using h3
        clear h3
        go_enter Try.func38, Try.ntmps38
        go_wp2
        go_ret
        exact ⟨rfl, rfl⟩
def bothV (s t : S34) : S34 := ⟨mxs s.f0 t.f0, leastV s.f1 t.f1⟩
def cutN : Nat → List S34 → List S34 → List S34
  | n + 1, s :: a, t :: b => (if fullSp (bothV s t) = true then [bothV s t] else []) ++ (if (bothV s t).f1.toList = s.f1.toList then cutN n a (t :: b) else cutN n (s :: a) b)
  | _, _, _ => []
theorem cutN_nil (n : Nat) (b : List S34) : cutN n [] b = [] := by cases n <;> rfl
theorem cutN_nil2 (n : Nat) (a : List S34) : cutN n a [] = [] := by cases n <;> cases a <;> rfl
def CutPost (r : List S34) (w : World) (e : Ending) (w' : World) : Prop := ∃ v0, e = .returned v0 ∧ Kd.R k34 34 w' w.heap.size (fun _ => True) v0 r ∧ Ext w w'
theorem head_cells {w wr : World} {A : Option Addr} {s : S34} {a : List S34} (h : Kd.C k34 w A (s :: a).length (s :: a)) (hx : Ext w wr) :
    ∃ b o, A = some ⟨b, o, none⟩ ∧ b < w.heap.size ∧ wr.cell? ⟨b, o, none⟩ = some (.string s.f0) ∧ wr.cell? ⟨b, o + 1, none⟩ = some (.string s.f1) := by
  have hr := C_rawSp h
  obtain ⟨⟨b, o, spot⟩, hA, hb, hc⟩ := hr.2 (by simp)
  have h0 := hc 0 (.string s.f0) rfl
  have h1 := hc 1 (.string s.f1) rfl
  have e0 : (⟨b, o, spot⟩ : Addr).add 0 = ⟨b, o, spot⟩ := by simp [Addr.add]
  rw [e0] at h0
  have hs : spot = none := by simpa using World.cell?_spot h0
  subst hs
  have e1 : (⟨b, o, none⟩ : Addr).add 1 = ⟨b, o + 1, none⟩ := by simp [Addr.add]
  rw [e1] at h1
  exact ⟨b, o, hA, hb, (hx.below.cell (p := ⟨b, o, none⟩) hb).trans h0, (hx.below.cell (p := ⟨b, o + 1, none⟩) hb).trans h1⟩
theorem tail_C {w : World} {A : Option Addr} {c : Nat} {s : S34} {a : List S34} (h : Kd.C k34 w A (s :: a).length (s :: a)) (hc : (s :: a).length ≤ c) :
    ∃ A', Kd.C k34 w A' a.length a ∧ ∀ W : World, (Instr.slice 22 (.slice A (s :: a).length c) (some (.int .i64 1)) none none).run Try.prog W = .ok (.slice A' a.length (c - 1)) W := by
  obtain ⟨i0, hi0, hz0, hz1, hz2⟩ := info_parts info_sp
  have h2 := Kd.C_drop (m := 1) h (by simp) hc
  refine ⟨_, by simpa using h2, fun W => ?_⟩
  have := cut_from (P := Try.prog) 22 34 .i64 Try.underlying22 hi0 2 hz1 A (s :: a).length c 1 (by omega) (by simp; omega) W
  rw [this]
  simp
  rfl
set_option maxHeartbeats 8000000 in
set_option maxRecDepth 100000 in
theorem cut_walk (A0 : Option Addr) (c0 : Nat) (l0 : List S34) (A1 : Option Addr) (c1 : Nat) (l1 : List S34) (w : World) (hr0 : Kd.C k34 w A0 l0.length l0) (hc0 : l0.length ≤ c0) (hr1 : Kd.C k34 w A1 l1.length l1) (hc1 : l1.length ≤ c1) (hl : l0.length + l1.length < 4398046511104) :
    Calls Try.prog 16 #[.slice A0 l0.length c0, .slice A1 l1.length c1] w (CutPost (cutN (l0.length + l1.length) l0 l1) w) := by
  have HR0 := Lib.hid hr0
  have HR1 := Lib.hid hr1
  obtain ⟨R, hR⟩ : ∃ R, R = cutN (l0.length + l1.length) l0 l1 := ⟨_, rfl⟩
  rw [← hR]
  have HRR := Lib.hid hR
  clear hr0 hr1 hR
  obtain ⟨i0, hi0, hz0, hz1, hz2⟩ := info_parts info_sp
  have HI0 := Lib.hid hi0
  have HZ0 := Lib.hid hz0
  have HZ1 := Lib.hid hz1
  have HZ2 := Lib.hid hz2
  clear hi0 hz0 hz1 hz2
  go_enter Try.func16, Try.ntmps16
  go_wp2
  go_loopg [0, 1, 4] (l0.length + l1.length) (fun gg v0 v1 v4 wr => ∃ (A : Option Addr) (c : Nat) (a : List S34) (B : Option Addr) (d : Nat) (b out : List S34), v0 = .slice A a.length c ∧ v1 = .slice B b.length d ∧ a.length ≤ c ∧ b.length ≤ d ∧ a.length + b.length ≤ gg ∧ out.length + a.length + b.length ≤ l0.length + l1.length ∧
    Hid (Kd.C k34 w A a.length a) ∧ Hid (Kd.C k34 w B b.length b) ∧ Hid (wr.ownsRow w.heap.size 34 2 v4 out.length (out.map encSp).flatten) ∧ Hid (Ext w wr) ∧ Hid (R = out ++ cutN (a.length + b.length) a b))
  case atStart => exact ⟨A0, c0, l0, A1, c1, l1, [], rfl, rfl, hc0, hc1, Nat.le_refl _, by simp, HR0, HR1, Lib.hid (World.ownsRow_nil _ _ _ _), Lib.hid (Ext.refl _), Lib.hid HRR.out⟩
  case round =>
    obtain ⟨A, c, a, B, d, b, out, rfl, rfl, hac, hbd, hgg, hout, HA, HB, HO, HX, HE⟩ := hrel
    clear HR0 HR1 HRR
    cases a with
    | nil =>
      rw [cutN_nil, List.append_nil] at HE
      have hn0 : ¬ ((([] : List S34).length : Int) > 0) := by simp
      go_wp2
      go_ret
      refine ⟨_, rfl, ?_, HX.out⟩
      rw [HE.out]
      exact R_rawSp HO.out
    | cons s a =>
      have hn1 : (0 : Int) < ((a.length + 1 : Nat) : Int) := by omega
      have hn1' : (0 : Nat) < a.length + 1 := by omega
      cases b with
      | nil =>
        rw [cutN_nil2, List.append_nil] at HE
        go_wp2
        go_ret
        refine ⟨_, rfl, ?_, HX.out⟩
        rw [HE.out]
        exact R_rawSp HO.out
      | cons t b =>
        have hn2 : (0 : Int) < ((b.length + 1 : Nat) : Int) := by omega
        have hn2' : (0 : Nat) < b.length + 1 := by omega
        obtain ⟨b1, o1, rfl, hb1, e0, e1⟩ := head_cells HA.out HX.out
        obtain ⟨b2, o2, rfl, hb2, e2, e3⟩ := head_cells HB.out HX.out
        obtain ⟨A', HA', hsA⟩ := tail_C HA.out hac
        obtain ⟨B', HB', hsB⟩ := tail_C HB.out hbd
        have HA2 := Lib.hid HA'
        have HB2 := Lib.hid HB'
        clear HA' HB'
        obtain ⟨sf, st⟩ := s
        obtain ⟨tf, tt⟩ := t
        dsimp only at e0 e1 e2 e3
        have hsz := HX.out.size
        simp only [List.length_cons]
        go_upto_region 2 with (fail)
        go_cut [5] (fun v5 wc => v5 = .pointer (some ⟨wr.heap.size, 0, none⟩) ∧ Hid (wc = (wr.alloc (.cells #[.string (mxs sf tf), .string (leastV st tt)] 34)).drew))
        case first =>
          go_region_held3 (fun w' => w'.cell? ⟨b1, o1, none⟩ = some (.string sf) ∧ w'.cell? ⟨b1, o1 + 1, none⟩ = some (.string st) ∧ w'.cell? ⟨b2, o2, none⟩ = some (.string tf) ∧ w'.cell? ⟨b2, o2 + 1, none⟩ = some (.string tt)) (go_keep) ((go_at_call 38; refine (least_any _ _ _).mono ?_; rintro e w' ⟨rfl, rfl⟩))
          all_goals (go_wp2; go_meet; case rel => exact ⟨rfl, Lib.hid rfl⟩)
        case rest =>
          obtain ⟨rfl, HW⟩ := hcut
          have HXc : Hid (Ext wr wc) := Lib.hid (by rw [HW.out]; exact ((Ext.refl wr).alloc _).drew)
          have hk0 : wc.cell? ⟨wr.heap.size, 0, none⟩ = some (.string (mxs sf tf)) := by rw [HW.out]; simp
          have hk1 : wc.cell? ⟨wr.heap.size, 1, none⟩ = some (.string (leastV st tt)) := by rw [HW.out]; simp
          have hkl : wr.heap.size < wc.heap.size := by rw [HW.out]; simp
          have q1 := HXc.out.below.cell (p := ⟨b1, o1 + 1, none⟩) (by show b1 < _; omega) |>.trans e1
          have q3 := HXc.out.below.cell (p := ⟨b2, o2 + 1, none⟩) (by show b2 < _; omega) |>.trans e3
          clear HW e0 e1 e2 e3
          have hcut2 : cutN (a.length + 1 + (b.length + 1)) (⟨sf, st⟩ :: a) (⟨tf, tt⟩ :: b) = (if fullSp ⟨mxs sf tf, leastV st tt⟩ = true then [⟨mxs sf tf, leastV st tt⟩] else []) ++ (if (leastV st tt).toList = st.toList then cutN (a.length + 1 + b.length) a (⟨tf, tt⟩ :: b) else cutN (a.length + 1 + b.length) (⟨sf, st⟩ :: a) b) := rfl
          have hE := HE.out
          simp only [List.length_cons] at hE hac hbd hgg hout hsA hsB
          rw [hcut2] at hE
          have HE2 := Lib.hid hE
          clear HE hcut2 hE
          have hemp := Lib.hid (span_empty.calls (mxs sf tf) (leastV st tt) _ wc (empty_val _ _))
          generalize mxs sf tf = m0 at *
          generalize leastV st tt = m1 at *
          have hcs := HX.out.size
          by_cases hst : m1.toList = st.toList
          all_goals
            cases hf : fullSp ⟨m0, m1⟩ with
            | true =>
              rw [hf] at hemp
              have HE3 := HE2.out
              first
                | (rw [if_pos hst, if_pos hf] at HE3)
                | (rw [if_neg hst, if_pos hf] at HE3)
              have HE4 := Lib.hid HE3
              clear HE3 HE2 hf
              first
                | (have bst : (m1.toList == st.toList) = true := beq_iff_eq.2 hst)
                | (have bst : (m1.toList == st.toList) = false := beq_eq_false_iff_ne.2 hst)
              clear hst
              go_upto_region 5 with (first
                | (go_at_call 33; refine hemp.out.mono ?_; rintro e w5 ⟨rfl, hb5⟩; have hx5 : Hid (Ext wc w5) := Lib.hid hb5; have hs5 := hb5.size; have k0 := hb5.cell (p := ⟨wr.heap.size, 0, none⟩) hkl |>.trans hk0; have k1 := hb5.cell (p := ⟨wr.heap.size, 1, none⟩) hkl |>.trans hk1; clear hb5)
                | (at_builtin; go_loud ((refine wpList_append_any _ rfl (.tmp 36) (.tmp 38) _ rfl w.heap.size 34 i0 _ 2 32 Try.underlying22 HI0.out HZ0.out HZ1.out HZ2.out (by simp [Value.cells]) (by omega) _ out.length (out.map encSp).flatten rfl (own_ext HO.out ((HXc.out.trans hx5.out).alloc _)) _ _ 1 _ [.string m0, .string m1] rfl (new_reads [.string m0, .string m1] rfl (by simp)) (by simp [Value.oneCell']) (by simp only [maxLen]; omega) (by omega) (by simp; omega) ?_); intro v6 w6 hown6 hg6 hat6; have HC6 : Hid (Chs (fun i => u4.ownBlock = some i) wr w6) := Lib.hid (Chs.grown (.of_ext ((HXc.out.trans hx5.out).alloc _)) hg6 (fun i hi => .inl hi)); have HC7 := Lib.hid (Chs.grown (S := fun i => u4.ownBlock = some i) (.of_ext ((Ext.refl w5).alloc _)) hg6 (fun i hi => .inl hi)); have HO6 := Lib.hid hown6; clear hown6 hg6 hat6)))
              have hlt := HO.out.lt
              have k2 : w6.cell? ⟨wr.heap.size, 1, none⟩ = some (.string m1) := HC7.out.cell (p := ⟨wr.heap.size, 1, none⟩) (by show wr.heap.size < _; omega) (fun e => by have := (hlt wr.heap.size e).2; omega) k1
              have q2 : w6.cell? ⟨b1, o1 + 1, none⟩ = some (.string st) := HC7.out.cell (p := ⟨b1, o1 + 1, none⟩) (by show b1 < _; omega) (fun e => by have := (hlt b1 e).1; omega) (hx5.out.below.cell (p := ⟨b1, o1 + 1, none⟩) (by show b1 < _; omega) |>.trans q1)
              have HX6 := Lib.hid (HX.out.chs HC6.out (fun i hi e => by have := (hlt _ e).1; omega))
              have HO6' : Hid (w6.ownsRow w.heap.size 34 2 v6 (out ++ [S34.mk m0 m1]).length ((out ++ [S34.mk m0 m1]).map encSp).flatten) := Lib.hid (by simpa [encSp] using HO6.out)
              clear k0 k1 hlt HC6 HC7 HO6 hx5 q1 q3 hk0 hk1
              go_quiet (fail)
              go_wp2
              first
                | (go_roundg (a.length + (b.length + 1))
                   case measure => omega
                   case rel => exact ⟨A', c - 1, a, some ⟨b2, o2, none⟩, d, S34.mk tf tt :: b, out ++ [S34.mk m0 m1], rfl, rfl, by omega, by simp; omega, Nat.le_refl _, by simp; omega, HA2, HB, (Lib.hid (own_ext HO6'.out ((Ext.refl _).drewN _))), (Lib.hid (HX6.out.drewN _)), Lib.hid (by rw [HE4.out, show a.length + 1 + b.length = a.length + (b.length + 1) by omega]; simp)⟩)
                | (go_roundg (a.length + 1 + b.length)
                   case measure => omega
                   case rel => exact ⟨some ⟨b1, o1, none⟩, c, S34.mk sf st :: a, B', d - 1, b, out ++ [S34.mk m0 m1], rfl, rfl, by simp; omega, by omega, Nat.le_refl _, by simp; omega, HA, HB2, (Lib.hid (own_ext HO6'.out ((Ext.refl _).drewN _))), (Lib.hid (HX6.out.drewN _)), Lib.hid (by rw [HE4.out]; simp)⟩)
            | false =>
              rw [hf] at hemp
              have HE3 := HE2.out
              first
                | (rw [if_pos hst, if_neg (by rw [hf]; decide)] at HE3)
                | (rw [if_neg hst, if_neg (by rw [hf]; decide)] at HE3)
              have HE4 := Lib.hid HE3
              clear HE3 HE2 hf
              first
                | (have bst : (m1.toList == st.toList) = true := beq_iff_eq.2 hst)
                | (have bst : (m1.toList == st.toList) = false := beq_eq_false_iff_ne.2 hst)
              clear hst
              go_upto_region 5 with (go_at_call 33; refine hemp.out.mono ?_; rintro e w5 ⟨rfl, hb5⟩; have hx5 : Hid (Ext wc w5) := Lib.hid hb5; have hs5 := hb5.size; have k1 := hb5.cell (p := ⟨wr.heap.size, 1, none⟩) hkl |>.trans hk1; clear hb5)
              have q2 : w5.cell? ⟨b1, o1 + 1, none⟩ = some (.string st) := hx5.out.below.cell (p := ⟨b1, o1 + 1, none⟩) (by show b1 < _; omega) |>.trans q1
              have HX6 := Lib.hid ((HX.out.trans HXc.out).trans hx5.out)
              have HO6' := Lib.hid (own_ext HO.out (HXc.out.trans hx5.out))
              clear hx5 q1 q3 hk0 hk1
              go_quiet (fail)
              go_wp2
              first
                | (go_roundg (a.length + (b.length + 1))
                   case measure => omega
                   case rel => exact ⟨A', c - 1, a, some ⟨b2, o2, none⟩, d, S34.mk tf tt :: b, out, rfl, rfl, by omega, by simp; omega, Nat.le_refl _, by simp; omega, HA2, HB, (Lib.hid (own_ext HO6'.out ((Ext.refl _).drewN _))), (Lib.hid (HX6.out.drewN _)), Lib.hid (by rw [HE4.out, show a.length + 1 + b.length = a.length + (b.length + 1) by omega]; simp)⟩)
                | (go_roundg (a.length + 1 + b.length)
                   case measure => omega
                   case rel => exact ⟨some ⟨b1, o1, none⟩, c, S34.mk sf st :: a, B', d - 1, b, out, rfl, rfl, by simp; omega, by omega, Nat.le_refl _, by simp; omega, HA, HB2, (Lib.hid (own_ext HO6'.out ((Ext.refl _).drewN _))), (Lib.hid (HX6.out.drewN _)), Lib.hid (by rw [HE4.out]; simp)⟩)
end Go.Proofs.Ytjimijpkhmpilaa.P
/- Contracts of span.Union and span.Cut in the print's form; the sets that they make are one list for one set. -/
namespace Go.Proofs.Ytjimijpkhmpilaa.P
open Go.RowKit
open Go.Proofs.YtjimijpkhmpilaaW.PrintWords (Kd)
set_option linter.unusedVariables false

def tx (b : ByteArray) : Txt := ⟨b.toList⟩
theorem tx_inj {a b : ByteArray} (h : tx a = tx b) : a = b := by
  have h1 : a.toList = b.toList := congrArg Txt.l h
  rw [← toList_data, ← toList_data] at h1
  cases a; cases b
  simp at h1
  rw [h1]
def toSp (x : S34) : Sp := ⟨tx x.f0, tx x.f1⟩
theorem toSp_inj {x y : S34} (h : toSp x = toSp y) : x = y := by
  cases x; cases y
  simp only [toSp, Sp.mk.injEq] at h
  rw [tx_inj h.1, tx_inj h.2]
theorem map_inj {α β : Type} {f : α → β} (hf : ∀ {x y}, f x = f y → x = y) : ∀ {a b : List α}, a.map f = b.map f → a = b
  | [], [], _ => rfl
  | [], _ :: _, h => by simp at h
  | _ :: _, [], h => by simp at h
  | x :: a, y :: b, h => by
    simp only [List.map_cons, List.cons.injEq] at h
    rw [hf h.1, map_inj hf h.2]
theorem tx_nil (b : ByteArray) : tx b = .nil ↔ b.toList = [] := ⟨fun h => congrArg Txt.l h, fun h => by unfold tx Txt.nil; rw [h]⟩
theorem fullSp_iff (x : S34) : fullSp x = true ↔ Sp.full (toSp x) := by
  unfold fullSp Sp.full
  simp only [toSp, tx_nil, Bool.or_eq_true, List.isEmpty_iff]
  rfl
theorem tx_most (a b : ByteArray) : tx (mostV a b) = Sp.most (tx a) (tx b) := by
  unfold mostV Sp.most
  by_cases h : a.toList = [] ∨ b.toList = []
  · have h' : tx a = .nil ∨ tx b = .nil := by rwa [tx_nil, tx_nil]
    rw [if_pos h, if_pos h']
    exact (tx_nil _).2 (by rw [← toList_data])
  · have h' : ¬ (tx a = .nil ∨ tx b = .nil) := by rwa [tx_nil, tx_nil]
    rw [if_neg h, if_neg h']
    unfold mxs
    by_cases h2 : Op.bytesLess a.toList b.toList = true
    · have h3 : tx a < tx b := h2
      rw [if_pos h2, if_pos h3]
    · have h3 : ¬ tx a < tx b := h2
      rw [if_neg h2, if_neg h3]
theorem rises_le {l : List S34} (h : Rises ltFrom l) (k : Nat) (hk : k < l.length) : ∀ x ∈ l.take k, (toSp x).f ≤ (toSp l[k]).f := by
  intro x hx
  obtain ⟨j, hj, rfl⟩ := List.getElem_of_mem hx
  rw [List.length_take] at hj
  rw [List.getElem_take]
  exact (List.pairwise_iff_getElem.1 h) j k (by omega) hk (by omega)
theorem merge_of (l : List S34) (hr : Rises ltFrom l) (hf : ∀ x ∈ l, fullSp x = true) : ∀ k, k ≤ l.length → Sp.Of ((l.take k).map toSp) ((mergeAll (l.take k)).map toSp) := by
  intro k
  induction k with
  | zero => intro _; exact Sp.Of.nil
  | succ k ih =>
    intro hk
    have ih := ih (by omega)
    have hlt : k < l.length := by omega
    have hfull := (fullSp_iff _).1 (hf l[k] (List.getElem_mem hlt))
    have hle : ∀ x ∈ (l.take k).map toSp, x.f ≤ (toSp l[k]).f := by
      intro x hx
      obtain ⟨y, hy, rfl⟩ := List.mem_map.1 hx
      exact rises_le hr k hlt y hy
    rw [mergeAll_take l k hlt, List.take_succ_eq_append_getElem hlt, List.map_append, List.map_cons, List.map_nil]
    unfold mergeStep
    cases hg : (mergeAll (l.take k)).getLast? with
    | none =>
      have e : mergeAll (l.take k) = [] := by simpa using hg
      rw [e] at ih
      exact ih.snoc hfull (fun d hd => by cases hd)
    | some last =>
      obtain ⟨D, hD⟩ := List.getLast?_eq_some_iff.1 hg
      rw [hD] at ih ⊢
      rw [List.map_append, List.map_cons, List.map_nil] at ih
      dsimp only
      by_cases hj : joins last l[k] = true
      · rw [if_pos hj, List.dropLast_concat, List.map_append, List.map_cons, List.map_nil]
        refine ih.join hfull hle ?_ rfl (tx_most _ _)
        unfold joins at hj
        simp only [Bool.or_eq_true, List.isEmpty_iff, Bool.not_eq_true'] at hj
        rcases hj with hj | hj
        · exact .inl ((tx_nil _).2 hj)
        · exact .inr hj
      · rw [if_neg hj, List.map_append, List.map_append, List.map_cons, List.map_nil, List.map_cons, List.map_nil]
        unfold joins at hj
        simp only [Bool.or_eq_true, List.isEmpty_iff, Bool.not_eq_true', not_or] at hj
        have h1 : (toSp last).t ≠ .nil := fun h => hj.1 ((tx_nil _).1 h)
        have h2 : (toSp last).t < (toSp l[k]).f := by
          have := hj.2
          show Op.bytesLess last.f1.toList l[k].f0.toList = true
          simpa using this
        exact ih.snoc hfull (Sp.gap_all ih.can h1 h2)
/-- what span.Union answers -/
def unionL (l : List S34) : List S34 := mergeAll ((l.filter fullSp).mergeSort fun a b => !ltFrom b a)
theorem perm_mem {a b : List S34} (h : a.Perm b) (k : Txt) : Sp.mem (a.map toSp) k ↔ Sp.mem (b.map toSp) k := by
  unfold Sp.mem
  simp only [List.mem_map]
  constructor
  · rintro ⟨s, ⟨x, hx, rfl⟩, hi⟩
    exact ⟨_, ⟨x, h.mem_iff.1 hx, rfl⟩, hi⟩
  · rintro ⟨s, ⟨x, hx, rfl⟩, hi⟩
    exact ⟨_, ⟨x, h.mem_iff.2 hx, rfl⟩, hi⟩
theorem sorted_rises (l : List S34) : Rises ltFrom (l.mergeSort fun a b => !ltFrom b a) := by
  have h := List.pairwise_mergeSort (le := fun a b : S34 => !ltFrom b a) (fun a b c h1 h2 => by
    simp only [Bool.not_eq_true'] at *
    exact bytesLess_ntrans h2 h1) (fun a b => by
    unfold ltFrom
    rcases bytesLess_tri a.f0.toList b.f0.toList with h | h | h
    · simp [bytesLess_asymm h]
    · rw [h]; simp [bytesLess_irrefl]
    · simp [bytesLess_asymm h]) l
  exact h.imp fun h => by simpa using h
/-- of whatever order among those that begin alike -/
theorem union_one (l l' : List S34) (hp : l'.Perm (l.filter fullSp)) (hr : Rises ltFrom l') : mergeAll l' = unionL l ∧ Sp.Of ((l.filter fullSp).map toSp) ((unionL l).map toSp) := by
  have hf : ∀ x ∈ l', fullSp x = true := fun x hx => (List.mem_filter.1 (hp.mem_iff.1 hx)).2
  have hp2 : ((l.filter fullSp).mergeSort fun a b => !ltFrom b a).Perm (l.filter fullSp) := List.mergeSort_perm _ _
  have hf2 : ∀ x ∈ (l.filter fullSp).mergeSort (fun a b => !ltFrom b a), fullSp x = true := fun x hx => (List.mem_filter.1 (hp2.mem_iff.1 hx)).2
  have h1 := merge_of l' hr hf l'.length (Nat.le_refl _)
  have h2 := merge_of _ (sorted_rises (l.filter fullSp)) hf2 _ (Nat.le_refl _)
  rw [List.take_length] at h1 h2
  have e : (mergeAll l').map toSp = (unionL l).map toSp := Sp.can_unique _ _ h1.can h2.can fun k => by
    rw [h1.mem, show Sp.mem ((unionL l).map toSp) k ↔ _ from h2.mem k, perm_mem hp, perm_mem hp2]
  refine ⟨map_inj toSp_inj e, h2.can, fun k => by rw [show Sp.mem ((unionL l).map toSp) k ↔ _ from h2.mem k, perm_mem hp2], fun s hs => ?_, fun s hs => ?_, ?_⟩
  · obtain ⟨x, hx, e⟩ := h2.begins s hs
    obtain ⟨y, hy, rfl⟩ := List.mem_map.1 hx
    exact ⟨_, List.mem_map.2 ⟨y, hp2.mem_iff.1 hy, rfl⟩, e⟩
  · obtain ⟨x, hx, e⟩ := h2.ends s hs
    obtain ⟨y, hy, rfl⟩ := List.mem_map.1 hx
    exact ⟨_, List.mem_map.2 ⟨y, hp2.mem_iff.1 hy, rfl⟩, e⟩
  · have := h2.len
    rw [List.length_map, List.length_map] at this ⊢
    rw [hp2.length_eq] at this
    exact this
def span_Union.f (l0 : List S34) : Option (List S34) := if l0.length < 4398046511104 then some (unionL l0) else none
theorem span_Union.calls (A0 : Option Addr) (c0 : Nat) (l0 : List S34) (r : List S34) (w : World) (hr0 : Kd.C k34 w A0 l0.length l0) (hc0 : l0.length ≤ c0) (h : span_Union.f l0 = some r) :
    Calls Try.prog 14 #[.slice A0 l0.length c0] w fun e w' => ∃ v0_ : Value, e = .returned (v0_) ∧ Kd.R k34 34 w' w.heap.size (fun _ => True) v0_ r ∧ Below w.heap.size w w' := by
  unfold span_Union.f at h
  by_cases hl : l0.length < 4398046511104
  · rw [if_pos hl] at h
    obtain rfl := Option.some.inj h
    refine (union_walk A0 c0 l0 w hr0 hc0 hl).mono ?_
    rintro e w' ⟨v0, l', rfl, hp, hr, hR, hx⟩
    rw [(union_one l0 l' hp hr).1] at hR
    exact ⟨v0, rfl, hR, hx⟩
  · rw [if_neg hl] at h
    cases h
def span_Cut.f (l0 l1 : List S34) : Option (List S34) := if l0.length + l1.length < 4398046511104 then some (cutN (l0.length + l1.length) l0 l1) else none
theorem span_Cut.calls (A0 : Option Addr) (c0 : Nat) (l0 : List S34) (A1 : Option Addr) (c1 : Nat) (l1 : List S34) (r : List S34) (w : World) (hr0 : Kd.C k34 w A0 l0.length l0) (hc0 : l0.length ≤ c0) (hr1 : Kd.C k34 w A1 l1.length l1) (hc1 : l1.length ≤ c1) (h : span_Cut.f l0 l1 = some r) :
    Calls Try.prog 16 #[.slice A0 l0.length c0, .slice A1 l1.length c1] w fun e w' => ∃ v0_ : Value, e = .returned (v0_) ∧ Kd.R k34 34 w' w.heap.size (fun _ => True) v0_ r ∧ Below w.heap.size w w' := by
  unfold span_Cut.f at h
  by_cases hl : l0.length + l1.length < 4398046511104
  · rw [if_pos hl] at h
    obtain rfl := Option.some.inj h
    exact (cut_walk A0 c0 l0 A1 c1 l1 w hr0 hc0 hr1 hc1 hl).mono fun e w' ⟨v0, he, hR, hx⟩ => ⟨v0, he, hR, hx⟩
  · rw [if_neg hl] at h
    cases h
end Go.Proofs.Ytjimijpkhmpilaa.P
-- printed by a program of this session (wip/hp.py over the kit's print)
namespace Go.Proofs.Ytjimijpkhmpilaa.P
open Go.RowKit Go.Proofs.YtjimijpkhmpilaaW.PrintWords Go.Proofs.YtjimijpkhmpilaaW.PrintLast Go.Proofs.YtjimijpkhmpilaaW.PrintMore
attribute [local go_sem] str_leq str_gtr str_geq max2_str max2_int min2_int max_two min_two max_three min_three max_four min_four   -- for this text's walks alone
set_option linter.unusedVariables false
set_option linter.unusedSimpArgs false

/-! ### span_Meet: function 22 -/
def span_Meet.f (l0 : List (S34)) (l1 : List (S34)) : Option (Bool) := (span_Cut.f l0 l1).bind fun t122 => (some (decide ((t122.length : Int) > 0)))
set_option maxHeartbeats 8000000 in
set_option maxRecDepth 100000 in
theorem span_Meet.calls (A0 : Option Addr) (c0 : Nat) (l0 : List (S34)) (A1 : Option Addr) (c1 : Nat) (l1 : List (S34)) (r : Bool) (w : World) (hr0 : Kd.C k34 w A0 l0.length l0) (hc0 : l0.length ≤ c0) (hr1 : Kd.C k34 w A1 l1.length l1) (hc1 : l1.length ≤ c1) (h : span_Meet.f l0 l1 = some r) :
    Calls Try.prog 22 #[.slice A0 l0.length c0, .slice A1 l1.length c1] w fun e w' => e = .returned (.bool r) ∧ Below w.heap.size w w' := by
  have HR0 := Aside0.mk hr0
  have HC0 := Aside0.mk hc0
  clear hr0 hc0
  have HR1 := Aside0.mk hr1
  have HC1 := Aside0.mk hc1
  clear hr1 hc1
  have HB := Aside0.mk (Below.refl w.heap.size w)
  have H : ((span_Cut.f l0 l1).bind fun t122 => (some (decide ((t122.length : Int) > 0)))) = some r := h
  clear h
  replace H := Option.bind_eq_some_iff.mp H
  obtain ⟨t122, A30, H⟩ := H
  replace H : (some (decide ((t122.length : Int) > 0))) = some r := H
  have A3 := Aside0.mk A30
  clear A30
  obtain rfl := Option.some.inj H
  go_enter Try.func22, Try.ntmps22
  go_wp2_with (first | ((with_reducible refine gate_callee (f := 16) rfl ?_); refine goesL_ (some 7) rfl rfl Try.func16 (by kernel_rfl) rfl #[.slice A0 l0.length c0, .slice A1 l1.length c1] rfl (by (try simp only [List.map_toArray, List.map_cons, List.map_nil]); first | done | rfl | (simp only [List.length_drop, List.length_take]; rfl)) ?_; (with_reducible refine (span_Cut.calls _ _ l0 _ _ l1 t122 _ ?side1 ?side2 ?side3 ?side4 A3.out).mono ?_); (case side1 => repeat (first | exact HR0.out | (with_reducible refine Kd.C_alloc ?_ _) | (with_reducible refine Kd.C_drewN ?_ _) | (with_reducible refine Kd.C_drew ?_))); (case side2 => exact HC0.out); (case side3 => repeat (first | exact HR1.out | (with_reducible refine Kd.C_alloc ?_ _) | (with_reducible refine Kd.C_drewN ?_ _) | (with_reducible refine Kd.C_drew ?_))); (case side4 => exact HC1.out); rintro e w4 ⟨v123, rfl, ho0, hb⟩; refine ⟨_, rfl, ?_⟩; have n0_ := Aside0.mk (Kd.R_lower ho0 (below_size (by repeat (first | (with_reducible first | exact HB.out | apply below_alloc | apply pw_below_drewN | apply below_drew1) | exact HB.out)))); have n1_ := Aside0.mk (below_step (by repeat (first | (with_reducible first | exact HB.out | apply below_alloc | apply pw_below_drewN | apply below_drew1) | exact HB.out)) hb); clear HB; have HO124 := n0_; have HB := n1_; clear n0_ n1_; (try clear hb); (try clear hb2); (try clear hk); (try clear hi); (try clear ho0); obtain ⟨Ao5, co5, eo5⟩ := Kd.R_slice HO124.out; subst eo5))
  go_ret
  exact ⟨by first | rfl | (simp [errW_none, errW_some] <;> rfl) | (simp [*, errW_none, errW_some] <;> rfl), by repeat (first | (with_reducible first | exact HB.out | apply below_alloc | apply pw_below_drewN | apply below_drew1) | exact HB.out)⟩

end Go.Proofs.Ytjimijpkhmpilaa.P
/- Contracts: the reference's marks. -/
namespace Go.Proofs.Ytjimijpkhmpilaa.P
open Go.RowKit
open Go.Proofs.YtjimijpkhmpilaaW.PrintWords (Kd)
set_option linter.unusedVariables false

def strs (l : List ByteArray) : List Value := l.map Value.string
theorem strs_one (l : List ByteArray) : ∀ u ∈ strs l, u.oneCell' = true := by
  intro u hu
  obtain ⟨_, _, rfl⟩ := List.mem_map.1 hu
  rfl
theorem strs_len (l : List ByteArray) : (strs l).length = l.length := List.length_map _
/-- a text laid at its place, once -/
def insM (t : ByteArray) : List ByteArray → List ByteArray
  | [] => [t]
  | x :: l => if Op.bytesLess x.toList t.toList = true then x :: insM t l else if x.toList = t.toList then x :: l else t :: x :: l
/-- how many lie ahead of it -/
def placeM (t : ByteArray) : List ByteArray → Nat
  | [] => 0
  | x :: l => if Op.bytesLess x.toList t.toList = true then placeM t l + 1 else 0
theorem place_le (t : ByteArray) (l : List ByteArray) : placeM t l ≤ l.length := by
  induction l with
  | nil => exact Nat.le_refl _
  | cons x l ih => unfold placeM; split <;> simp <;> omega
theorem place_at (t : ByteArray) (l : List ByteArray) (k : Nat) (hk : k < l.length) (h : k ≤ placeM t l) : (Op.bytesLess l[k].toList t.toList = true ↔ k < placeM t l) := by
  induction l generalizing k with
  | nil => simp at hk
  | cons x l ih =>
    unfold placeM at h ⊢
    by_cases c : Op.bytesLess x.toList t.toList = true
    · rw [if_pos c] at h ⊢
      cases k with
      | zero => simp [c]
      | succ k => simpa using ih k (by simpa using hk) (by omega)
    · rw [if_neg c] at h ⊢
      obtain rfl : k = 0 := by omega
      simp [c]
theorem insM_there (t : ByteArray) (l : List ByteArray) (h : placeM t l < l.length) (he : (l[placeM t l]'h).toList = t.toList) : insM t l = l := by
  induction l with
  | nil => simp at h
  | cons x l ih =>
    by_cases c : Op.bytesLess x.toList t.toList = true
    · have e : placeM t (x :: l) = placeM t l + 1 := by rw [placeM, if_pos c]
      have hl : placeM t l < l.length := by rw [e] at h; simpa using h
      have he' : (l[placeM t l]'hl).toList = t.toList := by
        have : (x :: l)[placeM t (x :: l)]'h = l[placeM t l]'hl := by simp only [e, List.getElem_cons_succ]
        rw [← this]; exact he
      unfold insM
      rw [if_pos c, ih hl he']
    · have e : placeM t (x :: l) = 0 := by rw [placeM, if_neg c]
      have he' : x.toList = t.toList := by
        have : (x :: l)[placeM t (x :: l)]'h = x := by simp only [e, List.getElem_cons_zero]
        rw [← this]; exact he
      unfold insM
      rw [if_neg c, if_pos he']
theorem insM_new (t : ByteArray) (l : List ByteArray) (h : placeM t l = l.length ∨ ∃ hl : placeM t l < l.length, (l[placeM t l]'hl).toList ≠ t.toList) : insM t l = l.take (placeM t l) ++ [t] ++ l.drop (placeM t l) := by
  induction l with
  | nil => rfl
  | cons x l ih =>
    by_cases c : Op.bytesLess x.toList t.toList = true
    · have e : placeM t (x :: l) = placeM t l + 1 := by rw [placeM, if_pos c]
      unfold insM
      rw [if_pos c, e, ih (by
        rcases h with h | ⟨hl, h⟩
        · rw [e] at h; exact .inl (by simpa using h)
        · right
          have hl' : placeM t l < l.length := by rw [e] at hl; simpa using hl
          refine ⟨hl', ?_⟩
          have : (x :: l)[placeM t (x :: l)]'hl = l[placeM t l]'hl' := by simp only [e, List.getElem_cons_succ]
          rw [← this]; exact h)]
      simp
    · have e : placeM t (x :: l) = 0 := by rw [placeM, if_neg c]
      unfold insM
      rw [if_neg c, e]
      rcases h with h | ⟨hl, h⟩
      · rw [e] at h; simp at h
      · have : (x :: l)[placeM t (x :: l)]'hl = x := by simp only [e, List.getElem_cons_zero]
        rw [this] at h
        rw [if_neg h]
        rfl
theorem insM_len (t : ByteArray) (l : List ByteArray) : (insM t l).length ≤ l.length + 1 := by
  induction l with
  | nil => simp [insM]
  | cons x l ih => unfold insM; split <;> (try split) <;> simp <;> omega
/-- the texts of one span, after j of the two -/
def midM (out : List ByteArray) (x : S34) : Nat → List ByteArray
  | 0 => out
  | 1 => insM x.f0 out
  | _ => if x.f1.toList = [] then insM x.f0 out else insM x.f1 (insM x.f0 out)
def marksL (l : List S34) : List ByteArray := l.foldl (fun out x => midM out x 2) []
theorem marksL_take (l : List S34) (k : Nat) (hk : k < l.length) : marksL (l.take (k + 1)) = midM (marksL (l.take k)) l[k] 2 := by
  unfold marksL
  rw [List.take_succ_eq_append_getElem hk, List.foldl_append, List.foldl_cons, List.foldl_nil]
theorem midM_len (out : List ByteArray) (x : S34) (j : Nat) : (midM out x j).length ≤ out.length + 2 := by
  have h1 := insM_len x.f0 out
  have h2 := insM_len x.f1 (insM x.f0 out)
  match j with
  | 0 => simp [midM]
  | 1 => simp only [midM]; omega
  | j + 2 => simp only [midM]; split <;> omega
theorem marksL_len (l : List S34) (k : Nat) : (marksL (l.take k)).length ≤ 2 * k := by
  induction k with
  | zero => simp [marksL]
  | succ k ih =>
    by_cases h : k < l.length
    · rw [marksL_take l k h]
      have := midM_len (marksL (l.take k)) l[k] 2
      omega
    · rw [List.take_of_length_le (by omega)] at ih ⊢
      omega
theorem strs_at (l : List ByteArray) (k : Nat) (hk : k < l.length) : (strs l)[k]? = some (.string l[k]) := by simp [strs, hk]
theorem str_info : (Try.prog.info? 9).map (fun i => (i.zero, i.size, i.bytes)) = some (some (.string ⟨#[]⟩), 1, 16) := by kernel_rfl
theorem R_rawStr {w : World} {base : Nat} {v : Value} {l : List ByteArray} (h : w.ownsRow base 9 1 v l.length (strs l)) : Kd.R Kd.string 9 w base (fun _ => True) v l :=
  Kd.R_of_own h (fun _ _ => trivial)

theorem own_none' {w : World} {base p : Nat} {t : TypeId} {k : Nat} (hp : w.heap.size = p) (hb : base ≤ w.heap.size) : (w.alloc (.cells #[] t)).ownsRow base t k (.slice (some ⟨p, 0, none⟩) 0 0) 0 [] := by
  subst hp
  exact own_none w base hb t k
theorem str_cut (A : Option Addr) (n c q : Nat) (hq : q ≤ n) (W : World) : (Instr.slice 31 (.slice A n c) (some (.int .i64 (q : Int))) none none).run Try.prog W = .ok (.slice (if c = q then A else A.map (·.add (q * 1))) (n - q) (c - q)) W := by
  obtain ⟨i0, hi0, hz0, hz1, hz2⟩ := info_parts str_info
  have := Go.Proofs.YtjimijpkhmpilaaW.PrintWords.cut_from (P := Try.prog) 31 9 .i64 Try.underlying31 hi0 1 hz1 A n c q (by omega) (by omega) W
  rw [this]
  simp
theorem grown_ext {wr W W' : World} {row : Option Nat} (hE : Ext wr W) (hg : W.grownBy W' row) (hr : ∀ i, row = some i → wr.heap.size ≤ i) : Ext wr W' :=
  ⟨hg.os.trans hE.os, hg.tape.trans hE.tape, hg.output.trans hE.output, Nat.le_trans hE.size hg.size, fun i hi => (hg.block i (Nat.lt_of_lt_of_le hi hE.size) (fun e => by have := hr i e.symm; omega)).trans (hE.block i hi)⟩
theorem own_cap {w : World} {base : Nat} {e : TypeId} {size n : Nat} {v : Value} {xs : List Value} (h : w.ownsRow base e size v n xs) : ∃ A c, v = .slice A n c ∧ n ≤ c := by
  obtain ⟨_, ⟨rfl, rfl⟩ | ⟨g, cap, cur, rfl, _, _, h, _⟩⟩ := h
  · exact ⟨_, _, rfl, Nat.le_refl _⟩
  · exact ⟨_, _, rfl, h⟩
theorem str_upto (A : Option Addr) (n c q : Nat) (hq : q ≤ n) (hc : n ≤ c) (W : World) : (Instr.slice 31 (.slice A n c) none (some (.int .i64 (q : Int))) none).run Try.prog W = .ok (.slice A q c) W := by
  obtain ⟨i0, hi0, hz0, hz1, hz2⟩ := info_parts str_info
  have := Go.Proofs.YtjimijpkhmpilaaW.PrintWords.cut_to (P := Try.prog) 31 9 .i64 Try.underlying31 hi0 A n c q (by omega) (by omega) hc W
  rw [this]
  simp
theorem blk_new' {W : World} {p : Nat} {t : TypeId} {cs : Array Value} (hp : W.heap.size = p) : Blk (W.alloc (.cells cs t)) p t cs := by
  subst hp
  exact Blk.new _ _ _
theorem blk_reads {w : World} {g : Nat} {cs : List Value} {t : TypeId} (h : Blk w g t cs.toArray) : Reads w (g + 1) 1 (some ⟨g, 0, none⟩) cs.length cs :=
  ⟨by simp, fun _ => ⟨_, rfl, Nat.lt_succ_self _, fun j v hv => by
    have : (⟨g, 0, none⟩ : Addr).add j = ⟨g, j, none⟩ := by unfold Addr.add; split <;> simp_all
    rw [this, h.cell, List.getElem?_toArray, hv]⟩⟩
theorem reads_kept {W w' : World} {v : Value} (h : ∀ g t cs, Blk W g t cs → v.ownBlock ≠ some g → Blk w' g t cs) {p : Nat} {t : TypeId} {x : ByteArray} (hb : Blk W p t #[.string x]) (hn : v.ownBlock ≠ some p) : Reads w' (p + 1) 1 (some ⟨p, 0, none⟩) 1 (strs [x]) :=
  blk_reads (cs := [.string x]) (h _ _ _ hb hn)
theorem step_strs {ops : Array Oper} {o : Oper} {a : Act} {K : Act → World → Prop} {Q : Exit → Act → World → Prop} {E : Prop} (hgd : o.guard = none) (s x : Operand)
    (ho : o.op = .call { callee := .builtin .append, args := #[s, x], argTypes := #[31, 31] }) {wr W : World} (hE : Ext wr W)
    (v : Value) (n : Nat) (xs : List ByteArray) (hs : a.eval s = v) (hown : W.ownsRow wr.heap.size 9 1 v n (strs xs))
    (B : Nat) (A : Option Addr) (m c : Nat) (news : List ByteArray) (hx : a.eval x = .slice A m c) (hr : Reads W B 1 A m (strs news)) (h63 : n + m ≤ 4398046511104)
    (h : ∀ v' w', Ext wr w' → w'.ownsRow wr.heap.size 9 1 v' (n + m) (strs (xs ++ news)) → (∀ g t cs, Blk W g t cs → v.ownBlock ≠ some g → Blk w' g t cs) → K (a.put o.dst v') w') :
    if Region.wanted o (yielded ops a.tmps) = true then Oper.wp Try.prog o a W K Q else E := by
  obtain ⟨i0, hi0, hz0, hz1, hz2⟩ := info_parts str_info
  refine step_append_any W hgd s x 31 ho wr.heap.size 9 i0 _ 1 16 Try.underlying31 hi0 hz0 hz1 hz2 rfl (by omega) v n (strs xs) hs hown B A m c (strs news) hx hr (strs_one _) (by unfold maxLen; omega) (by omega) hE.size ?_
  intro v' w' h1 h2 h3
  refine h v' w' (grown_ext hE h2 (fun i hi => (hown.lt i hi).1)) (by rw [strs, List.map_append]; exact h1) (fun g t cs hb hne => (h2.block g hb.lt (fun e => hne e.symm)).trans hb)
theorem reads_take {w : World} {B : Nat} {A : Option Addr} {l : List ByteArray} {q : Nat} (h : Reads w B 1 A l.length (strs l)) (hq : q ≤ l.length) : Reads w B 1 A q (strs (l.take q)) :=
  ⟨by rw [strs_len, List.length_take]; omega, fun hn => by
    obtain ⟨ad, e, hb, hc⟩ := h.2 (by omega)
    refine ⟨ad, e, hb, fun j u hu => hc j u ?_⟩
    rw [strs, List.map_take, List.getElem?_take] at hu
    split at hu
    · exact hu
    · cases hu⟩
theorem reads_drop {w : World} {B : Nat} {A : Option Addr} {l : List ByteArray} {q c : Nat} (h : Reads w B 1 A l.length (strs l)) (hq : q ≤ l.length) (hc : l.length ≤ c) : Reads w B 1 (if c = q then A else A.map (·.add (q * 1))) (l.length - q) (strs (l.drop q)) := by
  have := h.cut (k := q) (cap := c) hq hc
  simp only [Nat.mul_one, strs, List.map_drop] at this ⊢
  exact this
theorem midM_step (out : List ByteArray) (xf xt : ByteArray) (m : Nat) (hm : m < 2) (h : ¬ (m = 1 ∧ xt.toList = [])) : midM out ⟨xf, xt⟩ (m + 1) = insM (if m = 0 then xf else xt) (midM out ⟨xf, xt⟩ m) := by
  match m, hm with
  | 0, _ => rfl
  | 1, _ => simp only [midM]; rw [if_neg (fun e => h ⟨rfl, e⟩)]; rfl
def MarksPost (r : List ByteArray) (w : World) (e : Ending) (w' : World) : Prop := ∃ v0, e = .returned v0 ∧ Kd.R Kd.string 9 w' w.heap.size (fun _ => True) v0 r ∧ Ext w w'
abbrev OwnT (w : World) (base : Nat) (v : Value) (l : List ByteArray) : Prop := w.ownsRow base 9 1 v l.length (strs l)
theorem own_mono {w : World} {base base' : Nat} {e : TypeId} {size : Nat} {v : Value} {n : Nat} {xs : List Value} (h : w.ownsRow base e size v n xs) (hb : base' ≤ base) : w.ownsRow base' e size v n xs := by
  obtain ⟨h0, h1 | ⟨g, cap, cur, h2, h3, h4⟩⟩ := h
  · exact ⟨h0, .inl h1⟩
  · exact ⟨h0, .inr ⟨g, cap, cur, h2, Nat.le_trans hb h3, h4⟩⟩
theorem own_ins {w : World} {base n q : Nat} {v : Value} {t : ByteArray} {cur : List ByteArray} (h : w.ownsRow base 9 1 v n (strs ([] ++ cur.take q ++ [t] ++ cur.drop q))) : OwnT w base v (cur.take q ++ [t] ++ cur.drop q) := by
  have hl := h.1
  rw [strs_len, Nat.mul_one] at hl
  subst hl
  exact h
theorem own_ins' {w : World} {base n : Nat} {v : Value} {t : ByteArray} {cur : List ByteArray} (h : w.ownsRow base 9 1 v n (strs ([] ++ cur.take cur.length ++ [t] ++ []))) : OwnT w base v (cur.take cur.length ++ [t] ++ cur.drop cur.length) :=
  own_ins (by rw [List.drop_length]; exact h)
set_option maxHeartbeats 16000000 in
set_option maxRecDepth 100000 in
theorem marks_walk (A0 : Option Addr) (c0 : Nat) (l : List S34) (w : World) (hr0 : Kd.C k34 w A0 l.length l) (hc0 : l.length ≤ c0) (hl : l.length < 1099511627776) :
    Calls Try.prog 43 #[.slice A0 l.length c0] w (MarksPost (marksL l) w) := by
  have HR0 := Lib.hid (C_rawSp hr0)
  clear hr0
  obtain ⟨i0, hi0, hz0, hz1, hz2⟩ := info_parts str_info
  have HI0 := Lib.hid hi0
  have HZ0 := Lib.hid hz0
  have HZ1 := Lib.hid hz1
  have HZ2 := Lib.hid hz2
  clear hi0 hz0 hz1 hz2
  go_enter Try.func43, Try.ntmps43
  go_wp2
  go_loopw [3, 4] (fun o i wr => ∃ k : Nat, k ≤ l.length ∧ i = .int .i64 k ∧ Hid (OwnT wr w.heap.size o (marksL (l.take k))) ∧ Hid (Ext w wr)) (fun _ i _ => l.length - (intOf i).toNat)
  case atStart => exact ⟨0, by omega, rfl, Lib.hid (World.ownsRow_nil _ _ _ _), Lib.hid (Ext.refl _)⟩
  case round =>
    obtain ⟨k, hk, rfl, HO, HX⟩ := hrel
    by_cases hlt : k < l.length
    · have hltz : (k : Int) < (l.length : Int) := by omega
      have hml := marksL_len l k
      have HT := Lib.hid (marksL_take l k hlt)
      obtain ⟨ad, rfl, had, hcell⟩ := HR0.out.2 (by rw [List.length_map]; omega)
      have hcl : ∀ i u, (encSp l[k])[i]? = some u → wr.cell? (ad.add (k * 2 + i)) = some u := fun i u hu => by
        have hi : i < 2 := (List.getElem?_eq_some_iff.1 hu).1
        have h0 := hcell (k * 2 + i) u (by have := (wideSp l).at_ k (by simpa using hlt) i hi []; rw [List.append_nil, List.getElem_map] at this; rw [this]; exact hu)
        rw [← h0]
        exact HX.out.below.cell (by rw [block_of_add]; exact had)
      have f0 := hcl 0 _ rfl
      have f1 := hcl 1 _ rfl
      rw [Nat.add_zero] at f0
      rw [add_plus _ _ 1 (by omega)] at f1
      generalize hx : l[k] = x at *
      generalize marksL (l.take k) = out at *
      obtain ⟨xf, xt⟩ := x
      clear hx hcl hcell
      dsimp only at f0 f1
      have hbl := HX.out.below.size
      go_wp2
      refine wp_region_still_tail 10 (by kernel_rfl) (by kernel_rfl) ?_
      simp only [List.take_succ_cons, List.take_zero, List.drop_succ_cons, List.drop_zero, World.drew_eq]
      repeat still_step
      try refine wpStill_nil ?_
      go_wp2
      have HB0 : Hid (Blk ((wr.alloc (.cells #[.string xf, .string xt] 9)).drew) wr.heap.size 9 #[.string xf, .string xt]) := Lib.hid (Blk.new _ _ _)
      have HX0 := Lib.hid ((HX.out.alloc (.cells #[.string xf, .string xt] 9)).drew)
      have HO0 := Lib.hid (own_ext HO.out (((Ext.refl wr).alloc (.cells #[.string xf, .string xt] 9)).drew))
      have HN0 := Lib.hid (fun i (hi : u3.ownBlock = some i) => (show i ≠ wr.heap.size from by have := (HO.out.lt i hi).2; omega))
      generalize hgb : wr.heap.size = gb at *
      generalize hW0 : (wr.alloc (.cells #[.string xf, .string xt] 9)).drew = W0 at *
      have hcl : out.length < 4398046511104 - 4 := by omega
      clear hW0 hgb
      go_loopw [3, 6] (fun o j w2 => ∃ m : Nat, m ≤ 2 ∧ j = .int .i64 m ∧ Hid (OwnT w2 w.heap.size o (midM out ⟨xf, xt⟩ m)) ∧ Hid (Ext w w2) ∧ Hid (Blk w2 gb 9 #[.string xf, .string xt]) ∧ Hid (∀ i, o.ownBlock = some i → i ≠ gb)) (fun _ j _ => 2 - (intOf j).toNat)
      case atStart => exact ⟨0, by omega, rfl, HO0, HX0, HB0, HN0⟩
      case round =>
        obtain ⟨m, hm, rfl, HO2, HX2, HB2, HN2⟩ := hrel
        clear HO0 HX0 HB0 HN0
        rename World => wz
        by_cases hm2 : m < 2
        · have hm2z : (m : Int) < 2 := by omega
          have hcl2 := midM_len out ⟨xf, xt⟩ m
          have c1 : wz.cell? ⟨gb, 1, none⟩ = some (.string xt) := HB2.out.cell 1
          have hgl := HB2.out.lt
          by_cases hc : m = 1 ∧ xt.toList = []
          · have b1 : ((m : Int) == 1) = true := by rw [hc.1]; rfl
            have b2 : (xt.toList == ([] : List UInt8)) = true := by rw [hc.2]; rfl
            have hstep : midM out ⟨xf, xt⟩ (m + 1) = midM out ⟨xf, xt⟩ m := by rw [hc.1]; simp only [midM]; rw [if_pos hc.2]
            have HS := Lib.hid hstep
            clear hc hstep
            go_wp2
            go_roundw
            case rel => exact ⟨m + 1, by omega, by go_num, by rw [HS.out]; exact HO2, HX2, HB2, HN2⟩
            case measure => simp [intOf]; omega
          · have HS := Lib.hid (midM_step out xf xt m hm2 hc)
            have hcm : wz.cell? ⟨gb, m, none⟩ = some (.string (if m = 0 then xf else xt)) := by
              match m, hm2 with
              | 0, _ => exact HB2.out.cell 0
              | 1, _ => exact HB2.out.cell 1
            have hbt : (((m : Int) == 1) = true ∧ (xt.toList == ([] : List UInt8)) = false) ∨ ((m : Int) == 1) = false := by
              by_cases e : m = 1
              · left
                refine ⟨by rw [e]; rfl, beq_eq_false_iff_ne.2 (fun h => hc ⟨e, h⟩)⟩
              · right
                exact beq_eq_false_iff_ne.2 (by omega)
            generalize (if m = 0 then xf else xt) = t at *
            generalize hcur : midM out ⟨xf, xt⟩ m = cur at *
            have HC := Lib.hid hcur
            clear hcur hc
            obtain ⟨A3, c3, rfl, hcc⟩ := own_cap HO2.out
            have hple := place_le t cur
            have HPA := Lib.hid (place_at t cur)
            have HF : Hid (∀ W, Ext wz W → OwnT W w.heap.size (.slice A3 cur.length c3) cur ∧ Ext w W ∧ Blk W gb 9 #[.string xf, .string xt] ∧ W.cell? ⟨gb, m, none⟩ = some (.string t)) :=
              Lib.hid fun W hW => ⟨own_ext HO2.out hW, HX2.out.trans hW, HB2.out.chs (S := fun _ => False) (.of_ext hW) (fun e => e), hW.below.cell (p := ⟨gb, m, none⟩) hgl |>.trans hcm⟩
            have HC3 : Hid (∀ (q : Nat) (hq : q < cur.length) (W : World), Ext wz W → ∃ g, A3 = some ⟨g, 0, none⟩ ∧ g ≠ gb ∧ W.cell? ⟨g, q, none⟩ = some (.string cur[q])) := Lib.hid fun q hq W hW => by
              obtain ⟨g, c4, e, _, _, _⟩ := own_some HO2.out (by omega)
              injection e with e _ _
              refine ⟨g, e, HN2.out g (by rw [e]; rfl), ?_⟩
              subst e
              obtain ⟨ad3, e3, _, hc3⟩ := (Reads.of_own (own_ext HO2.out hW)).2 (by omega)
              injection e3 with e3
              subst e3
              have := hc3 q _ (strs_at cur q hq)
              have e4 : (⟨g, 0, none⟩ : Addr).add q = ⟨g, q, none⟩ := by unfold Addr.add; split <;> simp_all
              rwa [e4] at this
            have HR3 : Hid (∀ W, Ext wz W → Reads W wz.heap.size 1 A3 cur.length (strs cur)) := Lib.hid fun W hW => (Reads.of_own HO2.out).below hW.below
            clear hcm
            have hcl3 : cur.length < 4398046511104 - 1 := by omega
            clear hcl2
            rcases hbt with ⟨b1, b2⟩ | b1
            all_goals
              go_wp2
              go_loopw [7] (fun kk w3 => ∃ q : Nat, q ≤ placeM t cur ∧ kk = .int .i64 q ∧ Hid (Ext wz w3)) (fun kk _ => cur.length + 1 - (intOf kk).toNat)
              case atStart => exact ⟨0, by omega, rfl, Lib.hid (Ext.refl _)⟩
              case round =>
                obtain ⟨q, hq, rfl, HE⟩ := hrel
                obtain ⟨_, _, hB4, hct⟩ := HF.out _ HE.out
                have hn0 : (0 : Int) ≤ (m : Int) := by omega
                have hn2 : (m : Int) < 2 := by omega
                by_cases hql : q < cur.length
                · have hqlz : (q : Int) < (cur.length : Int) := by omega
                  have hdq : decide ((q : Int) < (cur.length : Int)) = true := decide_eq_true hqlz
                  have heq : ((q : Int) == (cur.length : Int)) = false := beq_eq_false_iff_ne.2 (by omega)
                  obtain ⟨g, rfl, hgne, hcq⟩ := HC3.out q hql _ HE.out
                  have HPq := Lib.hid (HPA.out q hql hq)
                  by_cases hls : Op.bytesLess cur[q].toList t.toList = true
                  · have hq1 : q < placeM t cur := HPq.out.1 hls
                    generalize cur[q] = y at *
                    go_wp2
                    go_quiet (fail)
                    go_wp2
                    go_roundw
                    case rel => exact ⟨q + 1, by omega, by go_num, Lib.hid (HE.out.drewN _)⟩
                    case measure => simp [intOf]; omega
                  · have hq1 : ¬ q < placeM t cur := fun h => hls (HPq.out.2 h)
                    obtain rfl : q = placeM t cur := by omega
                    generalize hp : placeM t cur = q at *
                    have hlf : Op.bytesLess cur[q].toList t.toList = false := by simpa using hls
                    by_cases he : cur[q].toList = t.toList
                    · have heb : (cur[q].toList == t.toList) = true := beq_iff_eq.2 he
                      have HI := Lib.hid (insM_there t cur (by rw [hp]; exact hql) (by simp only [hp]; exact he))
                      generalize cur[q] = y at *
                      clear he hls
                      go_wp2
                      go_quiet (fail)
                      go_wp2
                      go_quiet (fail)
                      go_wp2
                      go_roundw
                      case rel => exact ⟨m + 1, by omega, by go_num, by rw [HS.out, HI.out]; exact own_ext HO2.out (HE.out.drewN _), HX2.out.trans (HE.out.drewN _) |> Lib.hid, HB2.out.ext (HE.out.drewN _) |> Lib.hid, HN2⟩
                      case measure => simp [intOf]; omega
                    · have heb : (cur[q].toList == t.toList) = false := beq_eq_false_iff_ne.2 he
                      have HI := Lib.hid (insM_new t cur (.inr ⟨by rw [hp]; exact hql, by simp only [hp]; exact he⟩))
                      generalize cur[q] = y at *
                      clear he hls
                      go_wp2
                      go_quiet (fail)
                      go_wp2
                      go_quiet (fail)
                      go_wp2
                      have cutA := fun W => str_upto (some ⟨g, 0, none⟩) cur.length c3 q (by omega) hcc W
                      obtain ⟨AD, cutB, HRd⟩ : ∃ AD, (∀ W, (Instr.slice 31 (.slice (some ⟨g, 0, none⟩) cur.length c3) (some (.int .i64 (q : Int))) none none).run Try.prog W = .ok (.slice AD (cur.length - q) (c3 - q)) W) ∧ Hid (∀ W, Ext wz W → Reads W wz.heap.size 1 AD (cur.length - q) (strs (cur.drop q))) :=
                        ⟨_, fun W => str_cut _ cur.length c3 q (by omega) W, Lib.hid fun W hW => reads_drop (HR3.out W hW) (by omega) hcc⟩
                      have HRt := Lib.hid (fun W (hW : Ext wz W) => reads_take (q := q) (HR3.out W hW) (by omega))
                      have hq4 : (q : Int) ≤ (cur.length : Int) := by omega
                      have hq0 : (0 : Int) ≤ (q : Int) := by omega
                      go_region_held3 (fun W => W.cell? ⟨gb, m, none⟩ = some (.string t)) (exact (HF.out _ (by repeat first | assumption | exact Lib.Hid.out (by assumption) | apply Ext.drew | apply Ext.drewN | apply Ext.alloc)).2.2.2) ((first
                        | (have _h := ho5; clear _h; refine step_strs (by rfl) _ _ (by rfl) (wr := wz) (by repeat first | assumption | exact Lib.Hid.out (by assumption) | apply Ext.drew | apply Ext.drewN | apply Ext.alloc) v5 _ _ (by rfl) ho5 _ _ _ _ _ (by rfl) (HRd.out _ (by repeat first | assumption | exact Lib.Hid.out (by assumption) | apply Ext.drew | apply Ext.drewN | apply Ext.alloc)) (by omega) ?_; intro v6 w6 hE6 ho6 hk6)
                        | (have _h := ho4; clear _h; refine step_strs (by rfl) _ _ (by rfl) (wr := wz) (by repeat first | assumption | exact Lib.Hid.out (by assumption) | apply Ext.drew | apply Ext.drewN | apply Ext.alloc) v4 _ _ (by rfl) (by first | exact ho4 | exact own_ext ho4 ((Ext.refl _).alloc _)) _ _ 1 1 [t] (by rfl) (by first | exact new_reads [.string t] rfl (by first | rfl | simp) | exact reads_kept hk4 (blk_new' (by first | rfl | simp)) (by simp [Value.ownBlock]) | exact reads_kept hk4 (Blk.ext (blk_new' (by first | rfl | simp)) ((Ext.refl _).alloc _)) (by simp [Value.ownBlock])) (by omega) ?_; intro v5 w5 hE5 ho5 hk5)
                        | (refine step_strs (by rfl) _ _ (by rfl) (wr := wz) (by repeat first | assumption | exact Lib.Hid.out (by assumption) | apply Ext.drew | apply Ext.drewN | apply Ext.alloc) (.slice (some ⟨_, 0, none⟩) 0 0) 0 [] (by rfl) (by first | exact own_none' (by first | rfl | simp) (Ext.size (by repeat first | assumption | exact Lib.Hid.out (by assumption) | apply Ext.drew | apply Ext.drewN | apply Ext.alloc)) | exact own_ext (own_none' (by first | rfl | simp) (Ext.size (by repeat first | assumption | exact Lib.Hid.out (by assumption) | apply Ext.drew | apply Ext.drewN | apply Ext.alloc))) ((Ext.refl _).alloc _)) _ _ _ _ _ (by rfl) (HRt.out _ (by repeat first | assumption | exact Lib.Hid.out (by assumption) | apply Ext.drew | apply Ext.drewN | apply Ext.alloc)) (by omega) ?_; intro v4 w4 hE4 ho4 hk4)))
                      all_goals
                        go_wp2
                        go_roundw
                        case rel =>
                          refine ⟨m + 1, by omega, by go_num, ?_, Lib.hid (HX2.out.trans hE6), Lib.hid (HB2.out.ext hE6), Lib.hid fun i hi => by have := (ho6.lt i hi).1; omega⟩
                          rw [HS.out]
                          rw [HI.out, hp]
                          exact Lib.hid (own_ins (own_mono ho6 HX2.out.size))
                        case measure => simp [intOf]; omega
                · obtain rfl : q = cur.length := by omega
                  have hqlz : ¬ (cur.length : Int) < (cur.length : Int) := by omega
                  have hp : placeM t cur = cur.length := by omega
                  have HI := Lib.hid (insM_new t cur (.inl hp))
                  have hpp := Lib.hid hp
                  clear hql hp
                  go_wp2
                  go_quiet (fail)
                  go_wp2
                  go_quiet (fail)
                  go_wp2
                  have cutA := fun W => str_upto A3 cur.length c3 cur.length (by omega) hcc W
                  obtain ⟨AD, cutB, HRd⟩ : ∃ AD, (∀ W, (Instr.slice 31 (.slice A3 cur.length c3) (some (.int .i64 (cur.length : Int))) none none).run Try.prog W = .ok (.slice AD 0 (c3 - cur.length)) W) ∧ Hid (∀ W : World, Reads W wz.heap.size 1 AD 0 (strs [])) :=
                    ⟨_, fun W => by rw [str_cut A3 cur.length c3 cur.length (by omega) W, Nat.sub_self], Lib.hid fun W => Reads.none_⟩
                  have HRt := Lib.hid (fun W (hW : Ext wz W) => reads_take (q := cur.length) (HR3.out W hW) (by omega))
                  have hq4 : (cur.length : Int) ≤ (cur.length : Int) := by omega
                  have hq0 : (0 : Int) ≤ (cur.length : Int) := by omega
                  go_region_held3 (fun W => W.cell? ⟨gb, m, none⟩ = some (.string t)) (exact (HF.out _ (by repeat first | assumption | exact Lib.Hid.out (by assumption) | apply Ext.drew | apply Ext.drewN | apply Ext.alloc)).2.2.2) ((first
                    | (have _h := ho5; clear _h; refine step_strs (by rfl) _ _ (by rfl) (wr := wz) (by repeat first | assumption | exact Lib.Hid.out (by assumption) | apply Ext.drew | apply Ext.drewN | apply Ext.alloc) v5 _ _ (by rfl) ho5 _ _ _ _ _ (by rfl) (HRd.out _) (by omega) ?_; intro v6 w6 hE6 ho6 hk6)
                    | (have _h := ho4; clear _h; refine step_strs (by rfl) _ _ (by rfl) (wr := wz) (by repeat first | assumption | exact Lib.Hid.out (by assumption) | apply Ext.drew | apply Ext.drewN | apply Ext.alloc) v4 _ _ (by rfl) (by first | exact ho4 | exact own_ext ho4 ((Ext.refl _).alloc _)) _ _ 1 1 [t] (by rfl) (by first | exact new_reads [.string t] rfl (by first | rfl | simp) | exact reads_kept hk4 (blk_new' (by first | rfl | simp)) (by simp [Value.ownBlock]) | exact reads_kept hk4 (Blk.ext (blk_new' (by first | rfl | simp)) ((Ext.refl _).alloc _)) (by simp [Value.ownBlock])) (by omega) ?_; intro v5 w5 hE5 ho5 hk5)
                    | (refine step_strs (by rfl) _ _ (by rfl) (wr := wz) (by repeat first | assumption | exact Lib.Hid.out (by assumption) | apply Ext.drew | apply Ext.drewN | apply Ext.alloc) (.slice (some ⟨_, 0, none⟩) 0 0) 0 [] (by rfl) (by first | exact own_none' (by first | rfl | simp) (Ext.size (by repeat first | assumption | exact Lib.Hid.out (by assumption) | apply Ext.drew | apply Ext.drewN | apply Ext.alloc)) | exact own_ext (own_none' (by first | rfl | simp) (Ext.size (by repeat first | assumption | exact Lib.Hid.out (by assumption) | apply Ext.drew | apply Ext.drewN | apply Ext.alloc))) ((Ext.refl _).alloc _)) _ _ _ _ _ (by rfl) (HRt.out _ (by repeat first | assumption | exact Lib.Hid.out (by assumption) | apply Ext.drew | apply Ext.drewN | apply Ext.alloc)) (by omega) ?_; intro v4 w4 hE4 ho4 hk4)))
                  all_goals
                    go_wp2
                    go_roundw
                    case rel =>
                      refine ⟨m + 1, by omega, by go_num, ?_, Lib.hid (HX2.out.trans hE6), Lib.hid (HB2.out.ext hE6), Lib.hid fun i hi => by have := (ho6.lt i hi).1; omega⟩
                      rw [HS.out]
                      rw [HI.out, hpp.out]
                      exact Lib.hid (own_ins' (own_mono ho6 HX2.out.size))
                    case measure => simp [intOf]; omega
        · obtain rfl : m = 2 := by omega
          go_wp2
          go_roundw
          case rel => exact ⟨k + 1, by omega, by go_num, by rw [HT.out]; exact HO2, HX2⟩
          case measure => simp [intOf]; omega
    · obtain rfl : k = l.length := by omega
      rw [List.take_length] at HO
      have hltz : ¬ (l.length : Int) < (l.length : Int) := by omega
      go_wp2
      go_ret
      exact ⟨_, rfl, R_rawStr HO.out, HX.out⟩
def folkmootref03_marks.f (l0 : List S34) : Option (List ByteArray) := if l0.length < 1099511627776 then some (marksL l0) else none
theorem folkmootref03_marks.calls (A0 : Option Addr) (c0 : Nat) (l0 : List S34) (r : List ByteArray) (w : World) (hr0 : Kd.C k34 w A0 l0.length l0) (hc0 : l0.length ≤ c0) (h : folkmootref03_marks.f l0 = some r) :
    Calls Try.prog 43 #[.slice A0 l0.length c0] w fun e w' => ∃ v0_ : Value, e = .returned (v0_) ∧ Kd.R Kd.string 9 w' w.heap.size (fun _ => True) v0_ r ∧ Below w.heap.size w w' := by
  unfold folkmootref03_marks.f at h
  by_cases hl : l0.length < 1099511627776
  · rw [if_pos hl] at h
    obtain rfl := Option.some.inj h
    exact (marks_walk A0 c0 l0 w hr0 hc0 hl).mono fun e w' ⟨v0, he, hR, hx⟩ => ⟨v0, he, hR, hx⟩
  · rw [if_neg hl] at h
    cases h
end Go.Proofs.Ytjimijpkhmpilaa.P
-- printed by a program of this session (wip/hp.py over the kit's print)
namespace Go.Proofs.Ytjimijpkhmpilaa.P
open Go.RowKit Go.Proofs.YtjimijpkhmpilaaW.PrintWords Go.Proofs.YtjimijpkhmpilaaW.PrintLast Go.Proofs.YtjimijpkhmpilaaW.PrintMore
attribute [local go_sem] str_leq str_gtr str_geq max2_str max2_int min2_int max_two min_two max_three min_three max_four min_four   -- for this text's walks alone
set_option linter.unusedVariables false
set_option linter.unusedSimpArgs false

/-! ### folkmootref03_set: function 30 -/
mutual
def folkmootref03_set.l0 : Nat → List (S34) → List (S34) → Int → List ByteArray → List (S34) → Bool → Int → Option ((List (S34)))
  | 0, _, _, _, _, _, _, _ => none
  | k + 1, x0, x1, x2, x7, x8, x9, x10 => if x10 < (x7.length : Int) then (if 0 ≤ x10 then ((folkmootref03_Has.f k x0 (rdOf ByteArray.empty x7 x10)).bind fun t169 => ((folkmootref03_Has.f k x1 (rdOf ByteArray.empty x7 x10)).bind fun t171 => (if t169 = true then (folkmootref03_set.j1 k x0 x1 x2 x7 x8 x9 x10 t169 t171 true) else (folkmootref03_set.j1 k x0 x1 x2 x7 x8 x9 x10 t169 t171 t171)))) else (none)) else (some x8)
def folkmootref03_set.j1 : Nat → List (S34) → List (S34) → Int → List ByteArray → List (S34) → Bool → Int → Bool → Bool → Bool → Option ((List (S34)))
  | 0, _, _, _, _, _, _, _, _, _, _ => none
  | k + 1, x0, x1, x2, x7, x8, x9, x10, x11, x12, x13 => if x2 = 1 then (if x11 = true then (folkmootref03_set.j2 k x0 x1 x2 x7 x8 x9 x10 x11 x12 x12) else (folkmootref03_set.j2 k x0 x1 x2 x7 x8 x9 x10 x11 x12 false)) else (folkmootref03_set.j2 k x0 x1 x2 x7 x8 x9 x10 x11 x12 x13)
def folkmootref03_set.j2 : Nat → List (S34) → List (S34) → Int → List ByteArray → List (S34) → Bool → Int → Bool → Bool → Bool → Option ((List (S34)))
  | 0, _, _, _, _, _, _, _, _, _, _ => none
  | k + 1, x0, x1, x2, x7, x8, x9, x10, x11, x12, x13 => if x2 = 2 then (if x11 = true then (folkmootref03_set.j3 k x0 x1 x2 x7 x8 x9 x10 (!x12)) else (folkmootref03_set.j3 k x0 x1 x2 x7 x8 x9 x10 false)) else (folkmootref03_set.j3 k x0 x1 x2 x7 x8 x9 x10 x13)
def folkmootref03_set.j3 : Nat → List (S34) → List (S34) → Int → List ByteArray → List (S34) → Bool → Int → Bool → Option ((List (S34)))
  | 0, _, _, _, _, _, _, _, _ => none
  | k + 1, x0, x1, x2, x7, x8, x9, x10, x13 => if x13 = true then (folkmootref03_set.j4 k x0 x1 x2 x7 x8 x9 x10 x13 (!x9)) else (folkmootref03_set.j4 k x0 x1 x2 x7 x8 x9 x10 x13 false)
def folkmootref03_set.j4 : Nat → List (S34) → List (S34) → Int → List ByteArray → List (S34) → Bool → Int → Bool → Bool → Option ((List (S34)))
  | 0, _, _, _, _, _, _, _, _, _ => none
  | k + 1, x0, x1, x2, x7, x8, x9, x10, x13, x59 => if x59 = true then (if 0 ≤ x10 then (if x10 < (x7.length : Int) then (if x8.length < 4398046511104 then ((some (x8 ++ [(⟨rdOf ByteArray.empty x7 x10, (⟨#[]⟩ : ByteArray)⟩ : S34)] : List (S34))).bind fun y173 => (if x13 = true then (folkmootref03_set.l0 k x0 x1 x2 x7 y173 x13 (wrap64 (x10 + 1))) else (if x9 = true then (if 0 ≤ (wrap64 ((y173.length : Int) - 1)) then (if (wrap64 ((y173.length : Int) - 1)) < (y173.length : Int) then (folkmootref03_set.l0 k x0 x1 x2 x7 (y173.set ((wrap64 ((y173.length : Int) - 1)) : Int).toNat (⟨(rd_T34 y173 (wrap64 ((y173.length : Int) - 1))).f0, rdOf ByteArray.empty x7 x10⟩ : S34)) x13 (wrap64 (x10 + 1))) else (none)) else (none)) else (folkmootref03_set.l0 k x0 x1 x2 x7 y173 x13 (wrap64 (x10 + 1)))))) else (none)) else (none)) else (none)) else (if x13 = true then (folkmootref03_set.l0 k x0 x1 x2 x7 x8 x13 (wrap64 (x10 + 1))) else (if x9 = true then (if 0 ≤ x10 then (if x10 < (x7.length : Int) then (if 0 ≤ (wrap64 ((x8.length : Int) - 1)) then (if (wrap64 ((x8.length : Int) - 1)) < (x8.length : Int) then (folkmootref03_set.l0 k x0 x1 x2 x7 (x8.set ((wrap64 ((x8.length : Int) - 1)) : Int).toNat (⟨(rd_T34 x8 (wrap64 ((x8.length : Int) - 1))).f0, rdOf ByteArray.empty x7 x10⟩ : S34)) x13 (wrap64 (x10 + 1))) else (none)) else (none)) else (none)) else (none)) else (folkmootref03_set.l0 k x0 x1 x2 x7 x8 x13 (wrap64 (x10 + 1)))))
end
def folkmootref03_set.f (k : Nat) (l0 : List (S34)) (l1 : List (S34)) (a2 : Int) : Option ((List (S34))) := (some (([] : List (S34)) : List (S34))).bind fun y156 => (if y156.length + l0.length < 4398046511104 then ((some (y156 ++ l0 : List (S34))).bind fun y159 => (if y159.length + l1.length < 4398046511104 then ((folkmootref03_marks.f (y159 ++ l1)).bind fun t165 => (folkmootref03_set.l0 k l0 l1 a2 t165 ([] : List (S34)) false 0)) else (none))) else (none))
theorem folkmootref03_set.mono_l : ∀ k, (∀ y0 y1 y2 y3 y4 y5 y6, LeO (folkmootref03_set.l0 k y0 y1 y2 y3 y4 y5 y6) (folkmootref03_set.l0 (k + 1) y0 y1 y2 y3 y4 y5 y6)) ∧ (∀ y0 y1 y2 y3 y4 y5 y6 y7 y8 y9, LeO (folkmootref03_set.j1 k y0 y1 y2 y3 y4 y5 y6 y7 y8 y9) (folkmootref03_set.j1 (k + 1) y0 y1 y2 y3 y4 y5 y6 y7 y8 y9)) ∧ (∀ y0 y1 y2 y3 y4 y5 y6 y7 y8 y9, LeO (folkmootref03_set.j2 k y0 y1 y2 y3 y4 y5 y6 y7 y8 y9) (folkmootref03_set.j2 (k + 1) y0 y1 y2 y3 y4 y5 y6 y7 y8 y9)) ∧ (∀ y0 y1 y2 y3 y4 y5 y6 y7, LeO (folkmootref03_set.j3 k y0 y1 y2 y3 y4 y5 y6 y7) (folkmootref03_set.j3 (k + 1) y0 y1 y2 y3 y4 y5 y6 y7)) ∧ (∀ y0 y1 y2 y3 y4 y5 y6 y7 y8, LeO (folkmootref03_set.j4 k y0 y1 y2 y3 y4 y5 y6 y7 y8) (folkmootref03_set.j4 (k + 1) y0 y1 y2 y3 y4 y5 y6 y7 y8))
  | 0 => ⟨fun _ _ _ _ _ _ _ r h => by simp [folkmootref03_set.l0] at h, fun _ _ _ _ _ _ _ _ _ _ r h => by simp [folkmootref03_set.j1] at h, fun _ _ _ _ _ _ _ _ _ _ r h => by simp [folkmootref03_set.j2] at h, fun _ _ _ _ _ _ _ _ r h => by simp [folkmootref03_set.j3] at h, fun _ _ _ _ _ _ _ _ _ r h => by simp [folkmootref03_set.j4] at h⟩
  | k + 1 => by
    obtain ⟨ih0, ih1, ih2, ih3, ih4⟩ := folkmootref03_set.mono_l k
    refine ⟨?_, ?_, ?_, ?_, ?_⟩
    · intro y0 y1 y2 y3 y4 y5 y6
      unfold folkmootref03_set.l0
      repeat' first
      | (with_reducible exact ih0 _ _ _ _ _ _ _)
      | (with_reducible exact ih1 _ _ _ _ _ _ _ _ _ _)
      | (with_reducible exact ih2 _ _ _ _ _ _ _ _ _ _)
      | (with_reducible exact ih3 _ _ _ _ _ _ _ _)
      | (with_reducible exact ih4 _ _ _ _ _ _ _ _ _)
      | (with_reducible exact folkmootref03_Has.mono _ _ _)
      | (with_reducible exact LeO.refl _)
      | (with_reducible exact LeO.none _)
      | (with_reducible refine LeO.ite ?_ ?_)
      | (with_reducible refine LeO.bind ?_ (fun _ => ?_))
      | exact ih0 _ _ _ _ _ _ _
      | exact ih1 _ _ _ _ _ _ _ _ _ _
      | exact ih2 _ _ _ _ _ _ _ _ _ _
      | exact ih3 _ _ _ _ _ _ _ _
      | exact ih4 _ _ _ _ _ _ _ _ _
      | exact folkmootref03_Has.mono _ _ _
      | exact LeO.none _
      | refine LeO.ite ?_ ?_
      | refine LeO.bind ?_ (fun _ => ?_)
    · intro y0 y1 y2 y3 y4 y5 y6 y7 y8 y9
      unfold folkmootref03_set.j1
      repeat' first
      | (with_reducible exact ih0 _ _ _ _ _ _ _)
      | (with_reducible exact ih1 _ _ _ _ _ _ _ _ _ _)
      | (with_reducible exact ih2 _ _ _ _ _ _ _ _ _ _)
      | (with_reducible exact ih3 _ _ _ _ _ _ _ _)
      | (with_reducible exact ih4 _ _ _ _ _ _ _ _ _)
      | (with_reducible exact folkmootref03_Has.mono _ _ _)
      | (with_reducible exact LeO.refl _)
      | (with_reducible exact LeO.none _)
      | (with_reducible refine LeO.ite ?_ ?_)
      | (with_reducible refine LeO.bind ?_ (fun _ => ?_))
      | exact ih0 _ _ _ _ _ _ _
      | exact ih1 _ _ _ _ _ _ _ _ _ _
      | exact ih2 _ _ _ _ _ _ _ _ _ _
      | exact ih3 _ _ _ _ _ _ _ _
      | exact ih4 _ _ _ _ _ _ _ _ _
      | exact folkmootref03_Has.mono _ _ _
      | exact LeO.none _
      | refine LeO.ite ?_ ?_
      | refine LeO.bind ?_ (fun _ => ?_)
    · intro y0 y1 y2 y3 y4 y5 y6 y7 y8 y9
      unfold folkmootref03_set.j2
      repeat' first
      | (with_reducible exact ih0 _ _ _ _ _ _ _)
      | (with_reducible exact ih1 _ _ _ _ _ _ _ _ _ _)
      | (with_reducible exact ih2 _ _ _ _ _ _ _ _ _ _)
      | (with_reducible exact ih3 _ _ _ _ _ _ _ _)
      | (with_reducible exact ih4 _ _ _ _ _ _ _ _ _)
      | (with_reducible exact folkmootref03_Has.mono _ _ _)
      | (with_reducible exact LeO.refl _)
      | (with_reducible exact LeO.none _)
      | (with_reducible refine LeO.ite ?_ ?_)
      | (with_reducible refine LeO.bind ?_ (fun _ => ?_))
      | exact ih0 _ _ _ _ _ _ _
      | exact ih1 _ _ _ _ _ _ _ _ _ _
      | exact ih2 _ _ _ _ _ _ _ _ _ _
      | exact ih3 _ _ _ _ _ _ _ _
      | exact ih4 _ _ _ _ _ _ _ _ _
      | exact folkmootref03_Has.mono _ _ _
      | exact LeO.none _
      | refine LeO.ite ?_ ?_
      | refine LeO.bind ?_ (fun _ => ?_)
    · intro y0 y1 y2 y3 y4 y5 y6 y7
      unfold folkmootref03_set.j3
      repeat' first
      | (with_reducible exact ih0 _ _ _ _ _ _ _)
      | (with_reducible exact ih1 _ _ _ _ _ _ _ _ _ _)
      | (with_reducible exact ih2 _ _ _ _ _ _ _ _ _ _)
      | (with_reducible exact ih3 _ _ _ _ _ _ _ _)
      | (with_reducible exact ih4 _ _ _ _ _ _ _ _ _)
      | (with_reducible exact folkmootref03_Has.mono _ _ _)
      | (with_reducible exact LeO.refl _)
      | (with_reducible exact LeO.none _)
      | (with_reducible refine LeO.ite ?_ ?_)
      | (with_reducible refine LeO.bind ?_ (fun _ => ?_))
      | exact ih0 _ _ _ _ _ _ _
      | exact ih1 _ _ _ _ _ _ _ _ _ _
      | exact ih2 _ _ _ _ _ _ _ _ _ _
      | exact ih3 _ _ _ _ _ _ _ _
      | exact ih4 _ _ _ _ _ _ _ _ _
      | exact folkmootref03_Has.mono _ _ _
      | exact LeO.none _
      | refine LeO.ite ?_ ?_
      | refine LeO.bind ?_ (fun _ => ?_)
    · intro y0 y1 y2 y3 y4 y5 y6 y7 y8
      unfold folkmootref03_set.j4
      repeat' first
      | (with_reducible exact ih0 _ _ _ _ _ _ _)
      | (with_reducible exact ih1 _ _ _ _ _ _ _ _ _ _)
      | (with_reducible exact ih2 _ _ _ _ _ _ _ _ _ _)
      | (with_reducible exact ih3 _ _ _ _ _ _ _ _)
      | (with_reducible exact ih4 _ _ _ _ _ _ _ _ _)
      | (with_reducible exact folkmootref03_Has.mono _ _ _)
      | (with_reducible exact LeO.refl _)
      | (with_reducible exact LeO.none _)
      | (with_reducible refine LeO.ite ?_ ?_)
      | (with_reducible refine LeO.bind ?_ (fun _ => ?_))
      | exact ih0 _ _ _ _ _ _ _
      | exact ih1 _ _ _ _ _ _ _ _ _ _
      | exact ih2 _ _ _ _ _ _ _ _ _ _
      | exact ih3 _ _ _ _ _ _ _ _
      | exact ih4 _ _ _ _ _ _ _ _ _
      | exact folkmootref03_Has.mono _ _ _
      | exact LeO.none _
      | refine LeO.ite ?_ ?_
      | refine LeO.bind ?_ (fun _ => ?_)
theorem folkmootref03_set.mono : ∀ a0 a1 a2 k, LeO (folkmootref03_set.f k a0 a1 a2) (folkmootref03_set.f (k + 1) a0 a1 a2) := by
  intro a0 a1 a2 k
  obtain ⟨ih0, ih1, ih2, ih3, ih4⟩ := folkmootref03_set.mono_l k
  unfold folkmootref03_set.f
  repeat' first
      | (with_reducible exact ih0 _ _ _ _ _ _ _)
      | (with_reducible exact ih1 _ _ _ _ _ _ _ _ _ _)
      | (with_reducible exact ih2 _ _ _ _ _ _ _ _ _ _)
      | (with_reducible exact ih3 _ _ _ _ _ _ _ _)
      | (with_reducible exact ih4 _ _ _ _ _ _ _ _ _)
      | (with_reducible exact folkmootref03_Has.mono _ _ _)
      | (with_reducible exact LeO.refl _)
      | (with_reducible exact LeO.none _)
      | (with_reducible refine LeO.ite ?_ ?_)
      | (with_reducible refine LeO.bind ?_ (fun _ => ?_))
      | exact ih0 _ _ _ _ _ _ _
      | exact ih1 _ _ _ _ _ _ _ _ _ _
      | exact ih2 _ _ _ _ _ _ _ _ _ _
      | exact ih3 _ _ _ _ _ _ _ _
      | exact ih4 _ _ _ _ _ _ _ _ _
      | exact folkmootref03_Has.mono _ _ _
      | exact LeO.none _
      | refine LeO.ite ?_ ?_
      | refine LeO.bind ?_ (fun _ => ?_)
def folkmootref03_set.T7 : Bool × List (List Nat × List Nat) := (true, [([], []), ([], []), ([], []), ([1, 2], [1, 2]), ([3], [3]), ([0, 4], [0, 4]), ([], []), ([], []), ([], []), ([7, 8], [7, 8]), ([9], [9]), ([6, 10, 5], [6, 10]), ([5, 11, 0, 1, 2, 3, 4, 5], [5]), ([11, 12, 0, 1, 2, 3, 4, 5, 6, 7, 8, 9, 10, 11, 12], [11])])
def folkmootref03_set.B7 : List Nat := [0, 0, 0, 6, 14, 31, 0, 0, 0, 384, 896, 2047, 4095, 8191]
theorem folkmootref03_set.tab7 : rtab .any (opsOf Try.f30 7) = folkmootref03_set.T7 := by kernel_rfl
theorem folkmootref03_set.bits7 : waitsOk folkmootref03_set.T7.2 folkmootref03_set.B7 = true := by kernel_rfl
set_option maxHeartbeats 8000000 in
set_option maxRecDepth 100000 in
theorem folkmootref03_set.calls (k : Nat) (A0 : Option Addr) (c0 : Nat) (l0 : List (S34)) (A1 : Option Addr) (c1 : Nat) (l1 : List (S34)) (a2 : Int) (r : List (S34)) (w : World) (hr0 : Kd.C k34 w A0 l0.length l0) (hc0 : l0.length ≤ c0) (hr1 : Kd.C k34 w A1 l1.length l1) (hc1 : l1.length ≤ c1) (h : folkmootref03_set.f k l0 l1 a2 = some r) :
    Calls Try.prog 30 #[.slice A0 l0.length c0, .slice A1 l1.length c1, .int .i64 a2] w fun e w' => ∃ v0_ : Value, e = .returned (v0_) ∧ Kd.R k34 34 w' w.heap.size (fun _ => True) v0_ r ∧ Below w.heap.size w w' := by
  have hu34 := Try.underlying34
  have HR0 := Aside0.mk hr0
  have HC0 := Aside0.mk hc0
  clear hr0 hc0
  have HR1 := Aside0.mk hr1
  have HC1 := Aside0.mk hc1
  clear hr1 hc1
  have HB := Aside0.mk (Below.refl w.heap.size w)
  have H : ((some (([] : List (S34)) : List (S34))).bind fun y156 => (if y156.length + l0.length < 4398046511104 then ((some (y156 ++ l0 : List (S34))).bind fun y159 => (if y159.length + l1.length < 4398046511104 then ((folkmootref03_marks.f (y159 ++ l1)).bind fun t165 => (folkmootref03_set.l0 k l0 l1 a2 t165 ([] : List (S34)) false 0)) else (none))) else (none))) = some r := h
  clear h
  obtain ⟨y156, hy156⟩ : ∃ y_ : List (S34), y_ = (([] : List (S34))) := ⟨_, rfl⟩
  replace H : (if y156.length + l0.length < 4398046511104 then ((some (y156 ++ l0 : List (S34))).bind fun y159 => (if y159.length + l1.length < 4398046511104 then ((folkmootref03_marks.f (y159 ++ l1)).bind fun t165 => (folkmootref03_set.l0 k l0 l1 a2 t165 ([] : List (S34)) false 0)) else (none))) else (none)) = some r := by first | (rw [hy156]; with_reducible exact H) | (have H2_ := (Option.bind_some _ _).symm.trans H; rw [hy156]; with_reducible exact H2_) | (have H2_ := (Option.bind_some _ _).symm.trans H; with_reducible exact H2_) | with_reducible exact H | (rw [hy156]; exact H) | exact H
  have Ny156 := Aside0.mk hy156
  clear hy156
  by_cases c4 : y156.length + l0.length < 4398046511104
  · rw [if_pos c4] at H
    have LMc4 := Aside0.mk c4
    clear c4
    obtain ⟨y159, hy159⟩ : ∃ y_ : List (S34), y_ = (y156 ++ l0) := ⟨_, rfl⟩
    replace H : (if y159.length + l1.length < 4398046511104 then ((folkmootref03_marks.f (y159 ++ l1)).bind fun t165 => (folkmootref03_set.l0 k l0 l1 a2 t165 ([] : List (S34)) false 0)) else (none)) = some r := by first | (rw [hy159]; with_reducible exact H) | (have H2_ := (Option.bind_some _ _).symm.trans H; rw [hy159]; with_reducible exact H2_) | (have H2_ := (Option.bind_some _ _).symm.trans H; with_reducible exact H2_) | with_reducible exact H | (rw [hy159]; exact H) | exact H
    have Ny159 := Aside0.mk hy159
    clear hy159
    by_cases c5 : y159.length + l1.length < 4398046511104
    · rw [if_pos c5] at H
      have LMc5 := Aside0.mk c5
      clear c5
      obtain ⟨y162, hy162⟩ : ∃ y_ : List (S34), y_ = (y159 ++ l1) := ⟨_, rfl⟩
      replace H : ((folkmootref03_marks.f y162).bind fun t165 => (folkmootref03_set.l0 k l0 l1 a2 t165 ([] : List (S34)) false 0)) = some r := by first | (rw [hy162]; with_reducible exact H) | (have H2_ := (Option.bind_some _ _).symm.trans H; rw [hy162]; with_reducible exact H2_) | (have H2_ := (Option.bind_some _ _).symm.trans H; with_reducible exact H2_) | with_reducible exact H | (rw [hy162]; exact H) | exact H
      have Ny162 := Aside0.mk hy162
      clear hy162
      replace H := Option.bind_eq_some_iff.mp H
      obtain ⟨t165, A60, H⟩ := H
      replace H : (folkmootref03_set.l0 k l0 l1 a2 t165 ([] : List (S34)) false 0) = some r := H
      have A6 := Aside0.mk A60
      clear A60
      have H' := Aside0.mk H
      clear H
      go_enter Try.func30, Try.ntmps30
      go_wp2_with (first | ((with_reducible refine gate_dst (N := 14) rfl ?_); refine Kd.R_lit k34 _ 34 ?hg (N := 14) ?hd (xs := ([] : List (S34))) (inner := []) (ok := fun _ => True) (okp := fun _ => True) ?hr ?hp (fun _ hk => hk) trivial (Below.refl _ _) (Nat.le_refl _) (by simp) ?_; (case hd => rfl); (case hg => rfl); (case hr => first | (go_simp; done) | (go_simp; rfl)); (case hp => exact (Reps.none _ _)); intro v157 w7 ho8 hb hg_ hnew_; clear hg_ hnew_; (first | rw [← Ny156.out] at ho8 | (simp only [Int.reduceToNat] at ho8; rw [← Ny156.out] at ho8)); have n0_ := Aside0.mk (Kd.R_lower ho8 (below_size (by repeat (first | (with_reducible first | exact HB.out | apply below_alloc | apply pw_below_drewN | apply below_drew1) | exact HB.out)))); have n1_ := Aside0.mk (below_step (by repeat (first | (with_reducible first | exact HB.out | apply below_alloc | apply pw_below_drewN | apply below_drew1) | exact HB.out)) hb); clear HB; have HO158 := n0_; have HB := n1_; clear n0_ n1_; clear hb ho8) | ((with_reducible refine gate_builtin (b := .append) (xs := #[.tmp 14, .tmp 15]) rfl ?_); at_builtin; refine Kd.R_append_rows k34 (w0 := w) w.heap.size rfl (.tmp 14) (.tmp 15) 22 34 (.agg #[(.string ⟨#[]⟩), (.string ⟨#[]⟩)]) 32 rfl Try.underlying22 info34 rfl (by decide) (by omega) v157 y156 l0 _ _ _ (fun _ => True) (fun _ => False) rfl rfl ?aO ?aR (fun _ _ h => h) (fun _ h => h.elim) ?aF ?aB ?aS ?aL ?_; (case aR => repeat (first | exact (Kd.C_below HR0.out HB.out) | (with_reducible refine Kd.C_alloc ?_ _) | (with_reducible refine Kd.C_drewN ?_ _) | (with_reducible refine Kd.C_drew ?_))); (case aB => exact (by repeat (first | (with_reducible first | exact HB.out | apply below_alloc | apply pw_below_drewN | apply below_drew1) | exact HB.out))); (case aF => exact (fun _ _ => trivial)); (case aO => exact (by (with_reducible repeat (first | apply Kd.R_alloc | apply Kd.R_drewN | apply Kd.R_drew)); exact HO158.out)); (case aS => exact (below_size (by repeat (first | (with_reducible first | exact HB.out | apply below_alloc | apply pw_below_drewN | apply below_drew1) | exact HB.out)))); (case aL => have := LMc4.out; omega); intro v160 w9 ho hb hg hat; rw [← Ny159.out] at ho; have n0_ := Aside0.mk (hb); have n1_ := Aside0.mk (ho); clear HB; clear HO158; have HB := n0_; have HO161 := n1_; clear n0_ n1_; clear ho hb hg hat) | ((with_reducible refine gate_builtin (b := .append) (xs := #[.tmp 16, .tmp 17]) rfl ?_); at_builtin; refine Kd.R_append_rows k34 (w0 := w) w.heap.size rfl (.tmp 16) (.tmp 17) 22 34 (.agg #[(.string ⟨#[]⟩), (.string ⟨#[]⟩)]) 32 rfl Try.underlying22 info34 rfl (by decide) (by omega) v160 y159 l1 _ _ _ (fun _ => True) (fun _ => False) rfl rfl ?aO ?aR (fun _ _ h => h) (fun _ h => h.elim) ?aF ?aB ?aS ?aL ?_; (case aR => repeat (first | exact (Kd.C_below HR1.out HB.out) | (with_reducible refine Kd.C_alloc ?_ _) | (with_reducible refine Kd.C_drewN ?_ _) | (with_reducible refine Kd.C_drew ?_))); (case aB => exact (by repeat (first | (with_reducible first | exact HB.out | apply below_alloc | apply pw_below_drewN | apply below_drew1) | exact HB.out))); (case aF => exact (fun _ _ => trivial)); (case aO => exact (by (with_reducible repeat (first | apply Kd.R_alloc | apply Kd.R_drewN | apply Kd.R_drew)); exact HO161.out)); (case aS => exact (below_size (by repeat (first | (with_reducible first | exact HB.out | apply below_alloc | apply pw_below_drewN | apply below_drew1) | exact HB.out)))); (case aL => have := LMc5.out; omega); intro v163 w10 ho hb hg hat; rw [← Ny162.out] at ho; have n0_ := Aside0.mk (hb); have n1_ := Aside0.mk (ho); clear HB; clear HO161; have HB := n0_; have HO164 := n1_; clear n0_ n1_; clear ho hb hg hat; obtain ⟨Ao11, co11, eo11⟩ := Kd.R_slice HO164.out; subst eo11) | ((with_reducible refine gate_callee (f := 43) rfl ?_); refine goesL_ (some 19) rfl rfl Try.func43 (by kernel_rfl) rfl #[.slice Ao11 y162.length co11] rfl (by (try simp only [List.map_toArray, List.map_cons, List.map_nil]); first | done | rfl | (simp only [List.length_drop, List.length_take]; rfl)) ?_; (with_reducible refine (folkmootref03_marks.calls _ _ y162 t165 _ ?side1 ?side2 A6.out).mono ?_); (case side1 => repeat (first | exact (Kd.R_reads' HO164.out).2.2 | (with_reducible refine Kd.C_alloc ?_ _) | (with_reducible refine Kd.C_drewN ?_ _) | (with_reducible refine Kd.C_drew ?_))); (case side2 => exact (Kd.R_reads' HO164.out).2.1); rintro e w12 ⟨v166, rfl, ho0, hb⟩; refine ⟨_, rfl, ?_⟩; have n0_ := Aside0.mk (Kd.R_below (by (with_reducible repeat (first | apply Kd.R_alloc | apply Kd.R_drewN | apply Kd.R_drew)); exact HO164.out) hb); have n1_ := Aside0.mk (Kd.R_lower ho0 (below_size (by repeat (first | (with_reducible first | exact HB.out | apply below_alloc | apply pw_below_drewN | apply below_drew1) | exact HB.out)))); have n2_ := Aside0.mk (below_step (by repeat (first | (with_reducible first | exact HB.out | apply below_alloc | apply pw_below_drewN | apply below_drew1) | exact HB.out)) hb); clear HO164; clear HB; have HO164 := n0_; have HO167 := n1_; have HB := n2_; clear n0_ n1_ n2_; (try clear hb); (try clear hb2); (try clear hk); (try clear hi); (try clear ho0)))
      go_loopg [8, 9, 10] k (fun kq v8 v9 v10 w' => ∃ (x8_1 : List (S34)) (x9_1 : Bool) (x10_1 : Int), v9 = .bool x9_1 ∧ v10 = .int .i64 x10_1 ∧ Aside0 (folkmootref03_set.l0 kq l0 l1 a2 t165 x8_1 x9_1 x10_1 = some r) ∧ Aside0 (kq ≤ k) ∧ Aside0 (Kd.R Kd.string 9 w' w.heap.size (fun _ => True) v166 t165) ∧ Aside0 (Kd.R k34 34 w' w.heap.size (fun _ => True) v8 x8_1) ∧ Aside0 (Below w.heap.size w w'))
      case atStart => exact ⟨(([] : List (S34))), (false), (0), (by first | rfl | (simp; done) | (simp [*]; done)), (by first | rfl | (simp; done) | (simp [*]; done)), H', ⟨Nat.le_refl _⟩, ⟨by (with_reducible repeat (first | apply Kd.R_alloc | apply Kd.R_drewN | apply Kd.R_drew)); exact HO167.out⟩, ⟨by first | exact Kd.R_nil _ _ _ _ _ | exact Kd.N_nil _ _ _ _ _ | exact Kd.V_nil _ _ _ _ _ | exact Kd.Q_nil _ _ _ _ _ | exact Kd.S_nil _ _ _ _ _⟩, ⟨by repeat (first | (with_reducible first | exact HB.out | apply below_alloc | apply pw_below_drewN | apply below_drew1) | exact HB.out)⟩⟩
      case round =>
        clear H'
        try clear c1
        try clear p2
        try clear c3
        try clear c4
        try clear c5
        obtain ⟨x8_1, x9_1, x10_1, rfl, rfl, HA, HK1, HO_7, HO_8, HB⟩ := hrel
        cases gk with
        | zero => exact absurd HA.out (by simp [folkmootref03_set.l0])
        | succ k1 =>
          have H := HA.out
          clear HA
          simp only [folkmootref03_set.l0] at H
          by_cases c13 : x10_1 < (t165.length : Int)
          · rw [if_pos c13] at H
            have c13b0 : decide (x10_1 < (t165.length : Int)) = true := decide_eq_true c13
            clear c13
            by_cases c14 : 0 ≤ x10_1
            · rw [if_pos c14] at H
              have c14b0 : decide (0 ≤ x10_1) = true := decide_eq_true c14
              clear c14
              replace H := Option.bind_eq_some_iff.mp H
              obtain ⟨t169, A150, H⟩ := H
              replace H : ((folkmootref03_Has.f k1 l1 (rdOf ByteArray.empty t165 x10_1)).bind fun t171 => (if t169 = true then (folkmootref03_set.j1 k1 l0 l1 a2 t165 x8_1 x9_1 x10_1 t169 t171 true) else (folkmootref03_set.j1 k1 l0 l1 a2 t165 x8_1 x9_1 x10_1 t169 t171 t171))) = some r := H
              have A15 := Aside0.mk A150
              clear A150
              replace H := Option.bind_eq_some_iff.mp H
              obtain ⟨t171, A160, H⟩ := H
              replace H : (if t169 = true then (folkmootref03_set.j1 k1 l0 l1 a2 t165 x8_1 x9_1 x10_1 t169 t171 true) else (folkmootref03_set.j1 k1 l0 l1 a2 t165 x8_1 x9_1 x10_1 t169 t171 t171)) = some r := H
              have A16 := Aside0.mk A160
              clear A160
              have HC17 := Aside0.mk H
              clear H
              obtain ⟨Ao18, co18, eo18⟩ := Kd.R_slice HO_7.out
              subst eo18
              try go_wp2
              have n0_ := Aside0.mk (Kd.R_drew HO_7.out)
              have n1_ := Aside0.mk (Kd.R_drew HO_8.out)
              have n2_ := Aside0.mk (below_drew1 HB.out)
              clear HO_7
              clear HO_8
              clear HB
              have HO_7 := n0_
              have HO_8 := n1_
              have HB := n2_
              clear n0_ n1_ n2_
              have p168 : 0 ≤ (x10_1 : Int) := of_decide_eq_true (by first | (with_reducible assumption) | assumption)
              have q168 : x10_1 < (t165.length : Int) := of_decide_eq_true (by first | (with_reducible assumption) | assumption)
              obtain ⟨ad168, e168, hx168_0⟩ := Kd.at_string (Kd.R_reads' HO_7.out).2.2 x10_1 p168 q168
              cases e168
              replace p168 := eq_true p168
              replace q168 := eq_true q168
              have p170 : 0 ≤ (x10_1 : Int) := of_decide_eq_true (by first | (with_reducible assumption) | assumption)
              have q170 : x10_1 < (t165.length : Int) := of_decide_eq_true (by first | (with_reducible assumption) | assumption)
              obtain ⟨ad170, e170, hx170_0⟩ := Kd.at_string (Kd.R_reads' HO_7.out).2.2 x10_1 p170 q170
              obtain rfl : ad168 = ad170 := (by injection e170)
              replace p170 := eq_true p170
              replace q170 := eq_true q170
              refine start_ (n := 14) (S := fun w' => w'.cell? (ad168.add (x10_1).toNat) = some (.string (rdOf ByteArray.empty t165 x10_1)) ∧ w'.cell? (ad168.add (x10_1).toNat) = some (.string (rdOf ByteArray.empty t165 x10_1))) (ds := []) #[false, false, false, false, false, false, false, false, false, false, false, false, false, false] (by kernel_rfl) rfl rfl ⟨hx168_0, hx170_0⟩ (fun hHeld => ?_); refine with_tabW folkmootref03_set.tab7 folkmootref03_set.bits7 (fun HT_ HW_ => ?_)
              generalize wr.drew = w19 at HO_7 HO_8 HB hx168_0 hx170_0 hHeld ⊢
              refine pure_ (i := 0) (N := some 26) (v := ?_) (a' := ?_) #[true, false, false, false, false, false, false, false, false, false, false, false, false, false] rfl rfl (any_of HT_.out (by kernel_rfl)) (fun _ _ _ h => h) (Or.inl ⟨by rfl, ?_⟩) ?_ ?_
              rotate_left
              · intro w'
                go_simp
                with_reducible rfl
              rotate_left
              · simp only [Act.put, List.setIfInBounds_toArray, List.set_cons_zero, List.set_cons_succ, i64_w, i32_w]
                rfl
              refine pure_ (i := 1) (N := some 27) (v := ?_) (a' := ?_) #[true, true, false, false, false, false, false, false, false, false, false, false, false, false] rfl rfl (any_of HT_.out (by kernel_rfl)) (fun _ _ _ h => h) (Or.inl ⟨by rfl, ?_⟩) ?_ ?_
              rotate_left
              · intro w'
                go_simp
                with_reducible rfl
              rotate_left
              · simp only [Act.put, List.setIfInBounds_toArray, List.set_cons_zero, List.set_cons_succ, i64_w, i32_w]
                rfl
              refine pure_ (i := 2) (N := some 28) (v := ?_) (a' := ?_) #[true, true, true, false, false, false, false, false, false, false, false, false, false, false] rfl rfl (any_of HT_.out (by kernel_rfl)) (fun _ _ _ h => h) (Or.inl ⟨by rfl, ?_⟩) ?_ ?_
              rotate_left
              · intro w'
                go_simp
                with_reducible rfl
              rotate_left
              · simp only [Act.put, List.setIfInBounds_toArray, List.set_cons_zero, List.set_cons_succ, i64_w, i32_w]
                rfl
              refine pure_ (i := 3) (N := some 29) (v := ?_) (a' := ?_) #[true, true, true, true, false, false, false, false, false, false, false, false, false, false] rfl rfl (any_of HT_.out (by kernel_rfl)) (fun _ _ _ h => h) (Or.inl ⟨by rfl, ?_⟩) ?_ ?_
              rotate_left
              · intro w'
                go_simp
                with_reducible rfl
              rotate_left
              · simp only [Act.put, List.setIfInBounds_toArray, List.set_cons_zero, List.set_cons_succ, i64_w, i32_w]
                rfl
              refine pure_ (i := 6) (N := some 32) (v := ?_) (a' := ?_) #[true, true, true, true, false, false, true, false, false, false, false, false, false, false] rfl rfl (any_of HT_.out (by kernel_rfl)) (fun _ _ _ h => h) (Or.inl ⟨by rfl, ?_⟩) ?_ ?_
              rotate_left
              · intro w'
                go_simp
                with_reducible rfl
              rotate_left
              · simp only [Act.put, List.setIfInBounds_toArray, List.set_cons_zero, List.set_cons_succ, i64_w, i32_w]
                rfl
              refine pure_ (i := 7) (N := some 33) (v := ?_) (a' := ?_) #[true, true, true, true, false, false, true, true, false, false, false, false, false, false] rfl rfl (any_of HT_.out (by kernel_rfl)) (fun _ _ _ h => h) (Or.inl ⟨by rfl, ?_⟩) ?_ ?_
              rotate_left
              · intro w'
                go_simp
                with_reducible rfl
              rotate_left
              · simp only [Act.put, List.setIfInBounds_toArray, List.set_cons_zero, List.set_cons_succ, i64_w, i32_w]
                rfl
              refine pure_ (i := 8) (N := some 34) (v := ?_) (a' := ?_) #[true, true, true, true, false, false, true, true, true, false, false, false, false, false] rfl rfl (any_of HT_.out (by kernel_rfl)) (fun _ _ _ h => h) (Or.inl ⟨by rfl, ?_⟩) ?_ ?_
              rotate_left
              · intro w'
                go_simp
                with_reducible rfl
              rotate_left
              · simp only [Act.put, List.setIfInBounds_toArray, List.set_cons_zero, List.set_cons_succ, i64_w, i32_w]
                rfl
              refine pure_ (i := 9) (N := some 35) (v := ?_) (a' := ?_) #[true, true, true, true, false, false, true, true, true, true, false, false, false, false] rfl rfl (any_of HT_.out (by kernel_rfl)) (fun _ _ _ h => h) (Or.inl ⟨by rfl, ?_⟩) ?_ ?_
              rotate_left
              · intro w'
                go_simp
                with_reducible rfl
              rotate_left
              · simp only [Act.put, List.setIfInBounds_toArray, List.set_cons_zero, List.set_cons_succ, i64_w, i32_w]
                rfl
              refine take_ (i := 4) (N := some 30) (v := ?_) (a' := ?_) #[true, true, true, true, true, false, true, true, true, true, false, false, false, false] rfl rfl (take_ofW HT_.out HW_.out (by kernel_rfl)) (fun _ _ _ h => h) (Or.inl ⟨by rfl, ?_⟩) hHeld ?_ ?_
              rotate_left
              · rintro w' ⟨s0, s1⟩
                go_simp
                with_reducible rfl
              rotate_left
              · simp only [Act.put, List.setIfInBounds_toArray, List.set_cons_zero, List.set_cons_succ, i64_w, i32_w]
                rfl
              refine take_ (i := 10) (N := some 36) (v := ?_) (a' := ?_) #[true, true, true, true, true, false, true, true, true, true, true, false, false, false] rfl rfl (take_ofW HT_.out HW_.out (by kernel_rfl)) (fun _ _ _ h => h) (Or.inl ⟨by rfl, ?_⟩) hHeld ?_ ?_
              rotate_left
              · rintro w' ⟨s0, s1⟩
                go_simp
                with_reducible rfl
              rotate_left
              · simp only [Act.put, List.setIfInBounds_toArray, List.set_cons_zero, List.set_cons_succ, i64_w, i32_w]
                rfl
              refine one_ (i := 5) (N := some 31) #[true, true, true, true, true, true, true, true, true, true, true, false, false, false] rfl rfl (one_of HT_.out (by kernel_rfl)) (by decide) (fun K hK => ?_)
              refine goes_ Try.func21 (by kernel_rfl) rfl #[.slice A0 l0.length c0, .string (rdOf ByteArray.empty t165 x10_1)] (by rfl) rfl rfl (by (try simp only [List.map_toArray, List.map_cons, List.map_nil]); first | done | rfl | (simp only [List.length_drop, List.length_take]; rfl)) ?_
              with_reducible refine (folkmootref03_Has.calls k1 _ _ l0 (rdOf ByteArray.empty t165 x10_1) t169 _ ?side1 ?side2 A15.out).mono ?_
              (case side1 => repeat (first | exact (Kd.C_below HR0.out HB.out) | (with_reducible refine Kd.C_alloc ?_ _) | (with_reducible refine Kd.C_drewN ?_ _) | (with_reducible refine Kd.C_drew ?_)))
              (case side2 => exact HC0.out)
              rintro e w20 ⟨rfl, hb⟩
              have HS0_ := (hb.cell (World.block_lt_of_cell? _ _ (hHeld.1))).trans (hHeld.1)
              have HS1_ := (hb.cell (World.block_lt_of_cell? _ _ (hHeld.2))).trans (hHeld.2)
              refine ⟨_, rfl, ?_⟩
              have n0_ := Aside0.mk (Kd.R_below (by (with_reducible repeat (first | apply Kd.R_alloc | apply Kd.R_drewN | apply Kd.R_drew)); exact HO_7.out) hb)
              have n1_ := Aside0.mk (Kd.R_below (by (with_reducible repeat (first | apply Kd.R_alloc | apply Kd.R_drewN | apply Kd.R_drew)); exact HO_8.out) hb)
              have n2_ := Aside0.mk (below_step (by repeat (first | (with_reducible first | exact HB.out | apply below_alloc | apply pw_below_drewN | apply below_drew1) | exact HB.out)) hb)
              clear HO_7
              clear HO_8
              clear HB
              have HO_7 := n0_
              have HO_8 := n1_
              have HB := n2_
              clear n0_ n1_ n2_
              (try clear hb)
              (try clear hb2)
              (try clear hk)
              (try clear hi)
              refine hK.out _ _ ⟨HS0_, HS1_⟩ (fun hHeld => ?_)
              clear hK K
              refine norm_ (a' := ?_) ?_ ?_
              rotate_left
              · show Act.put _ (some 31) _ = _
                simp only [Act.put, List.setIfInBounds_toArray, List.set_cons_zero, List.set_cons_succ, i64_w, i32_w]
                rfl
              refine one_ (i := 11) (N := some 37) #[true, true, true, true, true, true, true, true, true, true, true, true, false, false] rfl rfl (one_of HT_.out (by kernel_rfl)) (by decide) (fun K hK => ?_)
              refine goes_ Try.func21 (by kernel_rfl) rfl #[.slice A1 l1.length c1, .string (rdOf ByteArray.empty t165 x10_1)] (by rfl) rfl rfl (by (try simp only [List.map_toArray, List.map_cons, List.map_nil]); first | done | rfl | (simp only [List.length_drop, List.length_take]; rfl)) ?_
              with_reducible refine (folkmootref03_Has.calls k1 _ _ l1 (rdOf ByteArray.empty t165 x10_1) t171 _ ?side1 ?side2 A16.out).mono ?_
              (case side1 => repeat (first | exact (Kd.C_below HR1.out HB.out) | (with_reducible refine Kd.C_alloc ?_ _) | (with_reducible refine Kd.C_drewN ?_ _) | (with_reducible refine Kd.C_drew ?_)))
              (case side2 => exact HC1.out)
              rintro e w21 ⟨rfl, hb⟩
              have HS0_ := (hb.cell (World.block_lt_of_cell? _ _ (hHeld.1))).trans (hHeld.1)
              have HS1_ := (hb.cell (World.block_lt_of_cell? _ _ (hHeld.2))).trans (hHeld.2)
              refine ⟨_, rfl, ?_⟩
              have n0_ := Aside0.mk (Kd.R_below (by (with_reducible repeat (first | apply Kd.R_alloc | apply Kd.R_drewN | apply Kd.R_drew)); exact HO_7.out) hb)
              have n1_ := Aside0.mk (Kd.R_below (by (with_reducible repeat (first | apply Kd.R_alloc | apply Kd.R_drewN | apply Kd.R_drew)); exact HO_8.out) hb)
              have n2_ := Aside0.mk (below_step (by repeat (first | (with_reducible first | exact HB.out | apply below_alloc | apply pw_below_drewN | apply below_drew1) | exact HB.out)) hb)
              clear HO_7
              clear HO_8
              clear HB
              have HO_7 := n0_
              have HO_8 := n1_
              have HB := n2_
              clear n0_ n1_ n2_
              (try clear hb)
              (try clear hb2)
              (try clear hk)
              (try clear hi)
              refine hK.out _ _ ⟨HS0_, HS1_⟩ (fun hHeld => ?_)
              clear hK K
              refine norm_ (a' := ?_) ?_ ?_
              rotate_left
              · show Act.put _ (some 37) _ = _
                simp only [Act.put, List.setIfInBounds_toArray, List.set_cons_zero, List.set_cons_succ, i64_w, i32_w]
                rfl
              refine pure_ (i := 12) (N := some 11) (v := ?_) (a' := ?_) #[true, true, true, true, true, true, true, true, true, true, true, true, true, false] rfl rfl (any_of HT_.out (by kernel_rfl)) (fun _ _ _ h => h) (Or.inl ⟨by rfl, ?_⟩) ?_ ?_
              rotate_left
              · intro w'
                go_simp
                with_reducible rfl
              rotate_left
              · simp only [Act.put, List.setIfInBounds_toArray, List.set_cons_zero, List.set_cons_succ, i64_w, i32_w]
                rfl
              refine pure_ (i := 13) (N := some 12) (v := ?_) (a' := ?_) #[true, true, true, true, true, true, true, true, true, true, true, true, true, true] rfl rfl (any_of HT_.out (by kernel_rfl)) (fun _ _ _ h => h) (Or.inl ⟨by rfl, ?_⟩) ?_ ?_
              rotate_left
              · intro w'
                go_simp
                with_reducible rfl
              rotate_left
              · simp only [Act.put, List.setIfInBounds_toArray, List.set_cons_zero, List.set_cons_succ, i64_w, i32_w]
                rfl
              refine done_ (done_of HT_.out (by kernel_rfl)) ?_
              go_upto_region 8 with (fail)
              go_cut [13] (fun v13 wc => ∃ (kq : Nat) (x13_16 : Bool), v13 = .bool x13_16 ∧ Aside0 (folkmootref03_set.j1 kq l0 l1 a2 t165 x8_1 x9_1 x10_1 t169 t171 x13_16 = some r) ∧ Aside0 (kq ≤ k1) ∧ Aside0 (Kd.R Kd.string 9 wc w.heap.size (fun _ => True) (.slice (some ad168) t165.length co18) t165) ∧ Aside0 (Kd.R k34 34 wc w.heap.size (fun _ => True) u8 x8_1) ∧ Aside0 (Below w.heap.size w wc))
              case first =>
                have H := HC17.out
                clear HC17
                by_cases c22 : t169 = true
                · subst c22
                  have H1 : (folkmootref03_set.j1 k1 l0 l1 a2 t165 x8_1 x9_1 x10_1 true t171 true) = some r := by rw [if_pos rfl] at H; exact H
                  clear H
                  have H := H1
                  clear H1
                  have H' := Aside0.mk H
                  clear H
                  go_wp2
                  go_meet
                  case rel => exact ⟨_, (true), (by first | rfl | (simp; done) | (simp [*]; done)), H', ⟨by have := HK1.out; first | omega | exact Nat.le_refl _⟩, ⟨by (with_reducible repeat (first | apply Kd.R_alloc | apply Kd.R_drewN | apply Kd.R_drew)); exact HO_7.out⟩, ⟨by (with_reducible repeat (first | apply Kd.R_alloc | apply Kd.R_drewN | apply Kd.R_drew)); exact HO_8.out⟩, ⟨by repeat (first | (with_reducible first | exact HB.out | apply below_alloc | apply pw_below_drewN | apply below_drew1) | exact HB.out)⟩⟩
                · replace c22 := Bool.eq_false_iff.mpr c22
                  subst c22
                  have H1 : (folkmootref03_set.j1 k1 l0 l1 a2 t165 x8_1 x9_1 x10_1 false t171 t171) = some r := by rw [if_neg (show ¬ (false = true) by decide)] at H; exact H
                  clear H
                  have H := H1
                  clear H1
                  have H' := Aside0.mk H
                  clear H
                  go_wp2
                  go_meet
                  case rel => exact ⟨_, (t171), (by first | rfl | (simp; done) | (simp [*]; done)), H', ⟨by have := HK1.out; first | omega | exact Nat.le_refl _⟩, ⟨by (with_reducible repeat (first | apply Kd.R_alloc | apply Kd.R_drewN | apply Kd.R_drew)); exact HO_7.out⟩, ⟨by (with_reducible repeat (first | apply Kd.R_alloc | apply Kd.R_drewN | apply Kd.R_drew)); exact HO_8.out⟩, ⟨by repeat (first | (with_reducible first | exact HB.out | apply below_alloc | apply pw_below_drewN | apply below_drew1) | exact HB.out)⟩⟩
              case rest =>
                clear HC17
                try clear c1
                try clear p1
                try clear q1
                try clear hx1
                try clear c2
                try clear p2
                try clear c3
                try clear c4
                try clear c5
                try clear c13
                try clear c13b0
                try clear c14
                try clear c14b0
                try clear p16
                try clear q16
                try clear hx16
                try clear p17
                try clear q17
                try clear hx17
                try clear c21
                try clear c22
                try clear hx168_0
                try clear hx170_0
                try clear p168
                try clear p170
                try clear p2
                try clear q168
                try clear q170
                obtain ⟨kq, x13_16, rfl, HA, HJ16, HO_7, HO_8, HB⟩ := hcut
                cases kq with
                | zero => exact absurd HA.out (by simp [folkmootref03_set.j1])
                | succ kj16 =>
                  have H := HA.out
                  clear HA
                  simp only [folkmootref03_set.j1] at H
                  have HC23 := Aside0.mk H
                  clear H
                  go_upto_if 43 with (fail)
                  go_cut [13] (fun v13 wc => ∃ (kq : Nat) (x13_22 : Bool), v13 = .bool x13_22 ∧ Aside0 (folkmootref03_set.j2 kq l0 l1 a2 t165 x8_1 x9_1 x10_1 t169 t171 x13_22 = some r) ∧ Aside0 (kq ≤ kj16) ∧ Aside0 (Kd.R Kd.string 9 wc w.heap.size (fun _ => True) (.slice (some ad168) t165.length co18) t165) ∧ Aside0 (Kd.R k34 34 wc w.heap.size (fun _ => True) u8 x8_1) ∧ Aside0 (Below w.heap.size w wc))
                  case first =>
                    have H := HC23.out
                    clear HC23
                    by_cases c24 : a2 = 1
                    · rw [if_pos c24] at H
                      have c24b0 : (a2 == 1) = true := beq_iff_eq.mpr c24
                      have c24b1 : (a2 != 1) = false := bne_eq_false_iff_eq.mpr c24
                      clear c24
                      (first | rw [c24b0] | (simp only [i64_w, i32_w]; rw [c24b0]) | skip)
                      by_cases c25 : t169 = true
                      · subst c25
                        have H1 : (folkmootref03_set.j2 kj16 l0 l1 a2 t165 x8_1 x9_1 x10_1 true t171 t171) = some r := by rw [if_pos rfl] at H; exact H
                        clear H
                        have H := H1
                        clear H1
                        have H' := Aside0.mk H
                        clear H
                        go_wp2
                        go_meet
                        case rel => exact ⟨_, (t171), (by first | rfl | (simp; done) | (simp [*]; done)), H', ⟨by have := HK1.out; have := HJ16.out; first | omega | exact Nat.le_refl _⟩, ⟨by (with_reducible repeat (first | apply Kd.R_alloc | apply Kd.R_drewN | apply Kd.R_drew)); exact HO_7.out⟩, ⟨by (with_reducible repeat (first | apply Kd.R_alloc | apply Kd.R_drewN | apply Kd.R_drew)); exact HO_8.out⟩, ⟨by repeat (first | (with_reducible first | exact HB.out | apply below_alloc | apply pw_below_drewN | apply below_drew1) | exact HB.out)⟩⟩
                      · replace c25 := Bool.eq_false_iff.mpr c25
                        subst c25
                        have H1 : (folkmootref03_set.j2 kj16 l0 l1 a2 t165 x8_1 x9_1 x10_1 false t171 false) = some r := by rw [if_neg (show ¬ (false = true) by decide)] at H; exact H
                        clear H
                        have H := H1
                        clear H1
                        have H' := Aside0.mk H
                        clear H
                        go_wp2
                        go_meet
                        case rel => exact ⟨_, (false), (by first | rfl | (simp; done) | (simp [*]; done)), H', ⟨by have := HK1.out; have := HJ16.out; first | omega | exact Nat.le_refl _⟩, ⟨by (with_reducible repeat (first | apply Kd.R_alloc | apply Kd.R_drewN | apply Kd.R_drew)); exact HO_7.out⟩, ⟨by (with_reducible repeat (first | apply Kd.R_alloc | apply Kd.R_drewN | apply Kd.R_drew)); exact HO_8.out⟩, ⟨by repeat (first | (with_reducible first | exact HB.out | apply below_alloc | apply pw_below_drewN | apply below_drew1) | exact HB.out)⟩⟩
                    · rw [if_neg c24] at H
                      have c24b0 : (a2 == 1) = false := beq_eq_false_iff_ne.mpr c24
                      have c24b1 : (a2 != 1) = true := bne_iff_ne.mpr c24
                      (first | rw [c24b0] | (simp only [i64_w, i32_w]; rw [c24b0]) | skip)
                      have H' := Aside0.mk H
                      clear H
                      go_wp2
                      go_meet
                      case rel => exact ⟨_, (x13_16), (by first | rfl | (simp; done) | (simp [*]; done)), H', ⟨by have := HK1.out; have := HJ16.out; first | omega | exact Nat.le_refl _⟩, ⟨by (with_reducible repeat (first | apply Kd.R_alloc | apply Kd.R_drewN | apply Kd.R_drew)); exact HO_7.out⟩, ⟨by (with_reducible repeat (first | apply Kd.R_alloc | apply Kd.R_drewN | apply Kd.R_drew)); exact HO_8.out⟩, ⟨by repeat (first | (with_reducible first | exact HB.out | apply below_alloc | apply pw_below_drewN | apply below_drew1) | exact HB.out)⟩⟩
                  case rest =>
                    clear HC23
                    try clear c1
                    try clear p1
                    try clear q1
                    try clear hx1
                    try clear c2
                    try clear p2
                    try clear c3
                    try clear c4
                    try clear c5
                    try clear c13
                    try clear c13b0
                    try clear c14
                    try clear c14b0
                    try clear p16
                    try clear q16
                    try clear hx16
                    try clear p17
                    try clear q17
                    try clear hx17
                    try clear c21
                    try clear c22
                    try clear c24
                    try clear c24b0
                    try clear c24b1
                    try clear c25
                    try clear hx168_0
                    try clear hx170_0
                    try clear p1
                    try clear p16
                    try clear p168
                    try clear p17
                    try clear p170
                    try clear p2
                    try clear q1
                    try clear q16
                    try clear q168
                    try clear q17
                    try clear q170
                    obtain ⟨kq, x13_22, rfl, HA, HJ22, HO_7, HO_8, HB⟩ := hcut
                    cases kq with
                    | zero => exact absurd HA.out (by simp [folkmootref03_set.j2])
                    | succ kj22 =>
                      have H := HA.out
                      clear HA
                      simp only [folkmootref03_set.j2] at H
                      have HC26 := Aside0.mk H
                      clear H
                      go_upto_if 49 with (fail)
                      go_cut [13] (fun v13 wc => ∃ (kq : Nat) (x13_25 : Bool), v13 = .bool x13_25 ∧ Aside0 (folkmootref03_set.j3 kq l0 l1 a2 t165 x8_1 x9_1 x10_1 x13_25 = some r) ∧ Aside0 (kq ≤ kj22) ∧ Aside0 (Kd.R Kd.string 9 wc w.heap.size (fun _ => True) (.slice (some ad168) t165.length co18) t165) ∧ Aside0 (Kd.R k34 34 wc w.heap.size (fun _ => True) u8 x8_1) ∧ Aside0 (Below w.heap.size w wc))
                      case first =>
                        have H := HC26.out
                        clear HC26
                        by_cases c27 : a2 = 2
                        · rw [if_pos c27] at H
                          have c27b0 : (a2 == 2) = true := beq_iff_eq.mpr c27
                          have c27b1 : (a2 != 2) = false := bne_eq_false_iff_eq.mpr c27
                          clear c27
                          (first | rw [c27b0] | (simp only [i64_w, i32_w]; rw [c27b0]) | skip)
                          by_cases c28 : t169 = true
                          · subst c28
                            have H1 : (folkmootref03_set.j3 kj22 l0 l1 a2 t165 x8_1 x9_1 x10_1 (!t171)) = some r := by rw [if_pos rfl] at H; exact H
                            clear H
                            have H := H1
                            clear H1
                            have H' := Aside0.mk H
                            clear H
                            go_wp2
                            go_meet
                            case rel => exact ⟨_, (!t171), (by first | rfl | (simp; done) | (simp [*]; done)), H', ⟨by have := HK1.out; have := HJ16.out; have := HJ22.out; first | omega | exact Nat.le_refl _⟩, ⟨by (with_reducible repeat (first | apply Kd.R_alloc | apply Kd.R_drewN | apply Kd.R_drew)); exact HO_7.out⟩, ⟨by (with_reducible repeat (first | apply Kd.R_alloc | apply Kd.R_drewN | apply Kd.R_drew)); exact HO_8.out⟩, ⟨by repeat (first | (with_reducible first | exact HB.out | apply below_alloc | apply pw_below_drewN | apply below_drew1) | exact HB.out)⟩⟩
                          · replace c28 := Bool.eq_false_iff.mpr c28
                            subst c28
                            have H1 : (folkmootref03_set.j3 kj22 l0 l1 a2 t165 x8_1 x9_1 x10_1 false) = some r := by rw [if_neg (show ¬ (false = true) by decide)] at H; exact H
                            clear H
                            have H := H1
                            clear H1
                            have H' := Aside0.mk H
                            clear H
                            go_wp2
                            go_meet
                            case rel => exact ⟨_, (false), (by first | rfl | (simp; done) | (simp [*]; done)), H', ⟨by have := HK1.out; have := HJ16.out; have := HJ22.out; first | omega | exact Nat.le_refl _⟩, ⟨by (with_reducible repeat (first | apply Kd.R_alloc | apply Kd.R_drewN | apply Kd.R_drew)); exact HO_7.out⟩, ⟨by (with_reducible repeat (first | apply Kd.R_alloc | apply Kd.R_drewN | apply Kd.R_drew)); exact HO_8.out⟩, ⟨by repeat (first | (with_reducible first | exact HB.out | apply below_alloc | apply pw_below_drewN | apply below_drew1) | exact HB.out)⟩⟩
                        · rw [if_neg c27] at H
                          have c27b0 : (a2 == 2) = false := beq_eq_false_iff_ne.mpr c27
                          have c27b1 : (a2 != 2) = true := bne_iff_ne.mpr c27
                          (first | rw [c27b0] | (simp only [i64_w, i32_w]; rw [c27b0]) | skip)
                          have H' := Aside0.mk H
                          clear H
                          go_wp2
                          go_meet
                          case rel => exact ⟨_, (x13_22), (by first | rfl | (simp; done) | (simp [*]; done)), H', ⟨by have := HK1.out; have := HJ16.out; have := HJ22.out; first | omega | exact Nat.le_refl _⟩, ⟨by (with_reducible repeat (first | apply Kd.R_alloc | apply Kd.R_drewN | apply Kd.R_drew)); exact HO_7.out⟩, ⟨by (with_reducible repeat (first | apply Kd.R_alloc | apply Kd.R_drewN | apply Kd.R_drew)); exact HO_8.out⟩, ⟨by repeat (first | (with_reducible first | exact HB.out | apply below_alloc | apply pw_below_drewN | apply below_drew1) | exact HB.out)⟩⟩
                      case rest =>
                        clear HC26
                        try clear c1
                        try clear p1
                        try clear q1
                        try clear hx1
                        try clear c2
                        try clear p2
                        try clear c3
                        try clear c4
                        try clear c5
                        try clear c13
                        try clear c13b0
                        try clear c14
                        try clear c14b0
                        try clear p16
                        try clear q16
                        try clear hx16
                        try clear p17
                        try clear q17
                        try clear hx17
                        try clear c21
                        try clear c22
                        try clear c24
                        try clear c24b0
                        try clear c24b1
                        try clear c25
                        try clear c27
                        try clear c27b0
                        try clear c27b1
                        try clear c28
                        try clear hx168_0
                        try clear hx170_0
                        try clear p1
                        try clear p16
                        try clear p168
                        try clear p17
                        try clear p170
                        try clear p2
                        try clear q1
                        try clear q16
                        try clear q168
                        try clear q17
                        try clear q170
                        obtain ⟨kq, x13_25, rfl, HA, HJ25, HO_7, HO_8, HB⟩ := hcut
                        cases kq with
                        | zero => exact absurd HA.out (by simp [folkmootref03_set.j3])
                        | succ kj25 =>
                          have H := HA.out
                          clear HA
                          simp only [folkmootref03_set.j3] at H
                          have HC29 := Aside0.mk H
                          clear H
                          go_upto_region 13 with (fail)
                          go_cut [59] (fun v59 wc => ∃ (kq : Nat) (x59_28 : Bool), v59 = .bool x59_28 ∧ Aside0 (folkmootref03_set.j4 kq l0 l1 a2 t165 x8_1 x9_1 x10_1 x13_25 x59_28 = some r) ∧ Aside0 (kq ≤ kj25) ∧ Aside0 (Kd.R Kd.string 9 wc w.heap.size (fun _ => True) (.slice (some ad168) t165.length co18) t165) ∧ Aside0 (Kd.R k34 34 wc w.heap.size (fun _ => True) u8 x8_1) ∧ Aside0 (Below w.heap.size w wc))
                          case first =>
                            have H := HC29.out
                            clear HC29
                            by_cases c30 : x13_25 = true
                            · subst c30
                              have H1 : (folkmootref03_set.j4 kj25 l0 l1 a2 t165 x8_1 x9_1 x10_1 true (!x9_1)) = some r := by rw [if_pos rfl] at H; exact H
                              clear H
                              have H := H1
                              clear H1
                              have H' := Aside0.mk H
                              clear H
                              go_wp2
                              go_meet
                              case rel => exact ⟨_, (!x9_1), (by first | rfl | (simp; done) | (simp [*]; done)), H', ⟨by have := HK1.out; have := HJ16.out; have := HJ22.out; have := HJ25.out; first | omega | exact Nat.le_refl _⟩, ⟨by (with_reducible repeat (first | apply Kd.R_alloc | apply Kd.R_drewN | apply Kd.R_drew)); exact HO_7.out⟩, ⟨by (with_reducible repeat (first | apply Kd.R_alloc | apply Kd.R_drewN | apply Kd.R_drew)); exact HO_8.out⟩, ⟨by repeat (first | (with_reducible first | exact HB.out | apply below_alloc | apply pw_below_drewN | apply below_drew1) | exact HB.out)⟩⟩
                            · replace c30 := Bool.eq_false_iff.mpr c30
                              subst c30
                              have H1 : (folkmootref03_set.j4 kj25 l0 l1 a2 t165 x8_1 x9_1 x10_1 false false) = some r := by rw [if_neg (show ¬ (false = true) by decide)] at H; exact H
                              clear H
                              have H := H1
                              clear H1
                              have H' := Aside0.mk H
                              clear H
                              go_wp2
                              go_meet
                              case rel => exact ⟨_, (false), (by first | rfl | (simp; done) | (simp [*]; done)), H', ⟨by have := HK1.out; have := HJ16.out; have := HJ22.out; have := HJ25.out; first | omega | exact Nat.le_refl _⟩, ⟨by (with_reducible repeat (first | apply Kd.R_alloc | apply Kd.R_drewN | apply Kd.R_drew)); exact HO_7.out⟩, ⟨by (with_reducible repeat (first | apply Kd.R_alloc | apply Kd.R_drewN | apply Kd.R_drew)); exact HO_8.out⟩, ⟨by repeat (first | (with_reducible first | exact HB.out | apply below_alloc | apply pw_below_drewN | apply below_drew1) | exact HB.out)⟩⟩
                          case rest =>
                            clear HC29
                            try clear c1
                            try clear p1
                            try clear q1
                            try clear hx1
                            try clear c2
                            try clear p2
                            try clear c3
                            try clear c4
                            try clear c5
                            try clear c13
                            try clear c13b0
                            try clear c14
                            try clear c14b0
                            try clear p16
                            try clear q16
                            try clear hx16
                            try clear p17
                            try clear q17
                            try clear hx17
                            try clear c21
                            try clear c22
                            try clear c24
                            try clear c24b0
                            try clear c24b1
                            try clear c25
                            try clear c27
                            try clear c27b0
                            try clear c27b1
                            try clear c28
                            try clear c30
                            try clear hx168_0
                            try clear hx170_0
                            try clear p1
                            try clear p16
                            try clear p168
                            try clear p17
                            try clear p170
                            try clear p2
                            try clear q1
                            try clear q16
                            try clear q168
                            try clear q17
                            try clear q170
                            obtain ⟨kq, x59_28, rfl, HA, HJ28, HO_7, HO_8, HB⟩ := hcut
                            cases kq with
                            | zero => exact absurd HA.out (by simp [folkmootref03_set.j4])
                            | succ kj28 =>
                              have H := HA.out
                              clear HA
                              simp only [folkmootref03_set.j4] at H
                              by_cases c31 : x59_28 = true
                              · subst c31
                                have H1 : (if 0 ≤ x10_1 then (if x10_1 < (t165.length : Int) then (if x8_1.length < 4398046511104 then ((some (x8_1 ++ [(⟨rdOf ByteArray.empty t165 x10_1, (⟨#[]⟩ : ByteArray)⟩ : S34)] : List (S34))).bind fun y173 => (if x13_25 = true then (folkmootref03_set.l0 kj28 l0 l1 a2 t165 y173 x13_25 (wrap64 (x10_1 + 1))) else (if x9_1 = true then (if 0 ≤ (wrap64 ((y173.length : Int) - 1)) then (if (wrap64 ((y173.length : Int) - 1)) < (y173.length : Int) then (folkmootref03_set.l0 kj28 l0 l1 a2 t165 (y173.set ((wrap64 ((y173.length : Int) - 1)) : Int).toNat (⟨(rd_T34 y173 (wrap64 ((y173.length : Int) - 1))).f0, rdOf ByteArray.empty t165 x10_1⟩ : S34)) x13_25 (wrap64 (x10_1 + 1))) else (none)) else (none)) else (folkmootref03_set.l0 kj28 l0 l1 a2 t165 y173 x13_25 (wrap64 (x10_1 + 1)))))) else (none)) else (none)) else (none)) = some r := by rw [if_pos rfl] at H; exact H
                                clear H
                                have H := H1
                                clear H1
                                by_cases c32 : 0 ≤ x10_1
                                · rw [if_pos c32] at H
                                  have c32b0 : decide (0 ≤ x10_1) = true := decide_eq_true c32
                                  clear c32
                                  by_cases c33 : x10_1 < (t165.length : Int)
                                  · rw [if_pos c33] at H
                                    have c33b0 : decide (x10_1 < (t165.length : Int)) = true := decide_eq_true c33
                                    clear c33
                                    by_cases c34 : x8_1.length < 4398046511104
                                    · rw [if_pos c34] at H
                                      have LMc34 := Aside0.mk c34
                                      clear c34
                                      obtain ⟨y173, hy173⟩ : ∃ y_ : List (S34), y_ = (x8_1 ++ [(⟨rdOf ByteArray.empty t165 x10_1, (⟨#[]⟩ : ByteArray)⟩ : S34)]) := ⟨_, rfl⟩
                                      replace H : (if x13_25 = true then (folkmootref03_set.l0 kj28 l0 l1 a2 t165 y173 x13_25 (wrap64 (x10_1 + 1))) else (if x9_1 = true then (if 0 ≤ (wrap64 ((y173.length : Int) - 1)) then (if (wrap64 ((y173.length : Int) - 1)) < (y173.length : Int) then (folkmootref03_set.l0 kj28 l0 l1 a2 t165 (y173.set ((wrap64 ((y173.length : Int) - 1)) : Int).toNat (⟨(rd_T34 y173 (wrap64 ((y173.length : Int) - 1))).f0, rdOf ByteArray.empty t165 x10_1⟩ : S34)) x13_25 (wrap64 (x10_1 + 1))) else (none)) else (none)) else (folkmootref03_set.l0 kj28 l0 l1 a2 t165 y173 x13_25 (wrap64 (x10_1 + 1))))) = some r := by first | (rw [hy173]; with_reducible exact H) | (have H2_ := (Option.bind_some _ _).symm.trans H; rw [hy173]; with_reducible exact H2_) | (have H2_ := (Option.bind_some _ _).symm.trans H; with_reducible exact H2_) | with_reducible exact H | (rw [hy173]; exact H) | exact H
                                      have Ny173 := Aside0.mk hy173
                                      clear hy173
                                      by_cases c35 : x13_25 = true
                                      · subst c35
                                        have H1 : (folkmootref03_set.l0 kj28 l0 l1 a2 t165 y173 true (wrap64 (x10_1 + 1))) = some r := by rw [if_pos rfl] at H; exact H
                                        clear H
                                        have H := H1
                                        clear H1
                                        have H' := Aside0.mk H
                                        clear H
                                        have p172 : 0 ≤ (x10_1 : Int) := of_decide_eq_true (by first | (with_reducible assumption) | assumption)
                                        have q172 : x10_1 < (t165.length : Int) := of_decide_eq_true (by first | (with_reducible assumption) | assumption)
                                        obtain ⟨ad172, e172, hx172_0⟩ := Kd.at_string (Kd.R_reads' HO_7.out).2.2 x10_1 p172 q172
                                        obtain rfl : ad168 = ad172 := (by injection e172)
                                        replace p172 := eq_true p172
                                        replace q172 := eq_true q172
                                        go_wp2_with (first | ((with_reducible refine gate_builtin (b := .append) (xs := #[.tmp 60, .tmp 66]) rfl ?_); at_builtin; refine Kd.R_append k34 (w0 := w) w.heap.size rfl (.tmp 60) (.tmp 66) 22 34 (.agg #[(.string ⟨#[]⟩), (.string ⟨#[]⟩)]) 32 rfl Try.underlying22 info34 rfl (by decide) (by omega) u8 x8_1 (⟨rdOf ByteArray.empty t165 x10_1, (⟨#[]⟩ : ByteArray)⟩ : S34) [.string (rdOf ByteArray.empty t165 x10_1), .string (⟨#[]⟩ : ByteArray)] (fun _ => True) (fun _ => False) rfl rfl ?aP (fun _ hk => hk.elim) ?aF ?aO ?aB ?aS ?aL ?_; (case aP => exact k34_mkM _ _ _ (⟨rdOf ByteArray.empty t165 x10_1, (⟨#[]⟩ : ByteArray)⟩ : S34)); (case aB => exact (by repeat (first | (with_reducible first | exact HB.out | apply below_alloc | apply pw_below_drewN | apply below_drew1) | exact HB.out))); (case aF => exact (fun _ _ => trivial)); (case aO => exact (by (with_reducible repeat (first | apply Kd.R_alloc | apply Kd.R_drewN | apply Kd.R_drew)); exact HO_8.out)); (case aS => exact (below_size (by repeat (first | (with_reducible first | exact HB.out | apply below_alloc | apply pw_below_drewN | apply below_drew1) | exact HB.out)))); (case aL => have := LMc34.out; omega); intro v174 w36 ho hb hg hat; rw [← Ny173.out] at ho; have n0_ := Aside0.mk (Kd.R_over' (by (with_reducible repeat (first | apply Kd.R_alloc | apply Kd.R_drewN | apply Kd.R_drew)); exact HO_7.out) (Kd.R_typed (by (with_reducible repeat (first | apply Kd.R_alloc | apply Kd.R_drewN | apply Kd.R_drew)); exact HO_8.out)) (by decide) hg); have n1_ := Aside0.mk (hb); have n2_ := Aside0.mk (ho); clear HO_7; clear HB; clear HO_8; have HO_7 := n0_; have HB := n1_; have HO175 := n2_; clear n0_ n1_ n2_; clear ho hb hg hat))
                                        go_roundg kj28
                                        case measure => have := HK1.out; have := HJ16.out; have := HJ22.out; have := HJ25.out; have := HJ28.out; omega
                                        case rel => exact ⟨(y173), (true), (wrap64 (x10_1 + 1)), (by first | rfl | (simp; done) | (simp [*]; done)), (by first | rfl | (simp; done) | (simp [*]; done)), H', ⟨by have := HK1.out; have := HJ16.out; have := HJ22.out; have := HJ25.out; have := HJ28.out; omega⟩, ⟨by (with_reducible repeat (first | apply Kd.R_alloc | apply Kd.R_drewN | apply Kd.R_drew)); exact HO_7.out⟩, ⟨by (with_reducible repeat (first | apply Kd.R_alloc | apply Kd.R_drewN | apply Kd.R_drew)); exact HO175.out⟩, ⟨by repeat (first | (with_reducible first | exact HB.out | apply below_alloc | apply pw_below_drewN | apply below_drew1) | exact HB.out)⟩⟩
                                      · replace c35 := Bool.eq_false_iff.mpr c35
                                        subst c35
                                        have H1 : (if x9_1 = true then (if 0 ≤ (wrap64 ((y173.length : Int) - 1)) then (if (wrap64 ((y173.length : Int) - 1)) < (y173.length : Int) then (folkmootref03_set.l0 kj28 l0 l1 a2 t165 (y173.set ((wrap64 ((y173.length : Int) - 1)) : Int).toNat (⟨(rd_T34 y173 (wrap64 ((y173.length : Int) - 1))).f0, rdOf ByteArray.empty t165 x10_1⟩ : S34)) false (wrap64 (x10_1 + 1))) else (none)) else (none)) else (folkmootref03_set.l0 kj28 l0 l1 a2 t165 y173 false (wrap64 (x10_1 + 1)))) = some r := by rw [if_neg (show ¬ (false = true) by decide)] at H; exact H
                                        clear H
                                        have H := H1
                                        clear H1
                                        by_cases c37 : x9_1 = true
                                        · subst c37
                                          have H1 : (if 0 ≤ (wrap64 ((y173.length : Int) - 1)) then (if (wrap64 ((y173.length : Int) - 1)) < (y173.length : Int) then (folkmootref03_set.l0 kj28 l0 l1 a2 t165 (y173.set ((wrap64 ((y173.length : Int) - 1)) : Int).toNat (⟨(rd_T34 y173 (wrap64 ((y173.length : Int) - 1))).f0, rdOf ByteArray.empty t165 x10_1⟩ : S34)) false (wrap64 (x10_1 + 1))) else (none)) else (none)) = some r := by rw [if_pos rfl] at H; exact H
                                          clear H
                                          have H := H1
                                          clear H1
                                          obtain ⟨ji38, hji38⟩ : ∃ j_ : Int, (wrap64 ((y173.length : Int) - 1)) = j_ := ⟨_, rfl⟩
                                          replace H : (if 0 ≤ (ji38) then (if (ji38) < (y173.length : Int) then (folkmootref03_set.l0 kj28 l0 l1 a2 t165 (y173.set ((ji38) : Int).toNat (⟨(rd_T34 y173 (ji38)).f0, rdOf ByteArray.empty t165 x10_1⟩ : S34)) false (wrap64 (x10_1 + 1))) else (none)) else (none)) = some r := by first | (rw [hji38] at H; exact H) | (simp only [hji38] at H ⊢; exact H)
                                          have hji38w : (IntKind.i64.wrap ((y173.length : Int) - 1)) = ji38 := (i64_w _).trans hji38
                                          by_cases c39 : 0 ≤ (ji38)
                                          · rw [if_pos c39] at H
                                            have c39b0 : decide (0 ≤ (ji38)) = true := decide_eq_true c39
                                            clear c39
                                            by_cases c40 : (ji38) < (y173.length : Int)
                                            · rw [if_pos c40] at H
                                              have c40b0 : decide ((ji38) < (y173.length : Int)) = true := decide_eq_true c40
                                              clear c40
                                              obtain ⟨y177, hy177⟩ : ∃ y_ : List (S34), y_ = (y173.set ((ji38) : Int).toNat (⟨(rd_T34 y173 (ji38)).f0, rdOf ByteArray.empty t165 x10_1⟩ : S34)) := ⟨_, rfl⟩
                                              replace H : (folkmootref03_set.l0 kj28 l0 l1 a2 t165 y177 false (wrap64 (x10_1 + 1))) = some r := by first | (rw [hy177]; with_reducible exact H) | (have H2_ := (Option.bind_some _ _).symm.trans H; rw [hy177]; with_reducible exact H2_) | (have H2_ := (Option.bind_some _ _).symm.trans H; with_reducible exact H2_) | with_reducible exact H | (rw [hy177]; exact H) | exact H
                                              have Ny177 := Aside0.mk hy177
                                              clear hy177
                                              have H' := Aside0.mk H
                                              clear H
                                              have p172 : 0 ≤ (x10_1 : Int) := of_decide_eq_true (by first | (with_reducible assumption) | assumption)
                                              have q172 : x10_1 < (t165.length : Int) := of_decide_eq_true (by first | (with_reducible assumption) | assumption)
                                              obtain ⟨ad172, e172, hx172_0⟩ := Kd.at_string (Kd.R_reads' HO_7.out).2.2 x10_1 p172 q172
                                              obtain rfl : ad168 = ad172 := (by injection e172)
                                              replace p172 := eq_true p172
                                              replace q172 := eq_true q172
                                              go_wp2_with (first | ((with_reducible refine gate_builtin (b := .append) (xs := #[.tmp 60, .tmp 66]) rfl ?_); at_builtin; refine Kd.R_append k34 (w0 := w) w.heap.size rfl (.tmp 60) (.tmp 66) 22 34 (.agg #[(.string ⟨#[]⟩), (.string ⟨#[]⟩)]) 32 rfl Try.underlying22 info34 rfl (by decide) (by omega) u8 x8_1 (⟨rdOf ByteArray.empty t165 x10_1, (⟨#[]⟩ : ByteArray)⟩ : S34) [.string (rdOf ByteArray.empty t165 x10_1), .string (⟨#[]⟩ : ByteArray)] (fun _ => True) (fun _ => False) rfl rfl ?aP (fun _ hk => hk.elim) ?aF ?aO ?aB ?aS ?aL ?_; (case aP => exact k34_mkM _ _ _ (⟨rdOf ByteArray.empty t165 x10_1, (⟨#[]⟩ : ByteArray)⟩ : S34)); (case aB => exact (by repeat (first | (with_reducible first | exact HB.out | apply below_alloc | apply pw_below_drewN | apply below_drew1) | exact HB.out))); (case aF => exact (fun _ _ => trivial)); (case aO => exact (by (with_reducible repeat (first | apply Kd.R_alloc | apply Kd.R_drewN | apply Kd.R_drew)); exact HO_8.out)); (case aS => exact (below_size (by repeat (first | (with_reducible first | exact HB.out | apply below_alloc | apply pw_below_drewN | apply below_drew1) | exact HB.out)))); (case aL => have := LMc34.out; omega); intro v174 w42 ho hb hg hat; rw [← Ny173.out] at ho; have n0_ := Aside0.mk (Kd.R_over' (by (with_reducible repeat (first | apply Kd.R_alloc | apply Kd.R_drewN | apply Kd.R_drew)); exact HO_7.out) (Kd.R_typed (by (with_reducible repeat (first | apply Kd.R_alloc | apply Kd.R_drewN | apply Kd.R_drew)); exact HO_8.out)) (by decide) hg); have n1_ := Aside0.mk (hb); have n2_ := Aside0.mk (ho); clear HO_7; clear HB; clear HO_8; have HO_7 := n0_; have HB := n1_; have HO175 := n2_; clear n0_ n1_ n2_; clear ho hb hg hat; obtain ⟨Ao43, co43, eo43⟩ := Kd.R_slice HO175.out; subst eo43; have p176 : 0 ≤ (x10_1 : Int) := of_decide_eq_true (by first | (with_reducible assumption) | assumption); have q176 : x10_1 < (t165.length : Int) := of_decide_eq_true (by first | (with_reducible assumption) | assumption); obtain ⟨ad176, e176, hx176_0⟩ := Kd.at_string (Kd.R_reads' HO_7.out).2.2 x10_1 p176 q176; obtain rfl : ad168 = ad176 := (by injection e176); replace p176 := eq_true p176; replace q176 := eq_true q176; have p41 : 0 ≤ ((ji38) : Int) := of_decide_eq_true (by first | (with_reducible assumption) | assumption); have q41 : ((ji38) : Int) < ((y173.length : Int) : Int) := of_decide_eq_true (by first | (with_reducible assumption) | assumption); obtain ⟨go41, co41, eo41, gb41, gl41, cl41, HG41⟩ := Kd.R_form HO175.out (by omega); (first | cases eo41 | (injection eo41 with ea_ en_ ec_; (first | subst ea_ | (injection ea_ with ea_; subst ea_)); subst ec_; clear en_)); have GB41 := Aside0.mk gb41; have GG41 := Aside0.mk HG41; clear gb41 gl41 HG41; obtain ⟨ce41, hcl41, hM41, hcc41, hfr41⟩ := Kd.R_elem HO175.out z34 ((ji38) : Int) p41 q41; obtain rfl := k34_openM hM41; have hx41_0 : w42.cell? ⟨go41, ((ji38) : Int).toNat * 2, none⟩ = some (.string ((rd_T34 y173 (ji38)).f0)) := hcc41 0 _ rfl; have hx41_1 : w42.cell? ⟨go41, ((ji38) : Int).toNat * 2 + 1, none⟩ = some (.string ((rd_T34 y173 (ji38)).f1)) := hcc41 1 _ rfl; have hf41_0 : w42.frozen? ⟨go41, ((ji38) : Int).toNat * 2, none⟩ = false := hfr41 0; have hf41_1 : w42.frozen? ⟨go41, ((ji38) : Int).toNat * 2 + 1, none⟩ = false := hfr41 1; clear hcl41 hcc41 hfr41 hM41; replace p41 := eq_true p41; replace q41 := eq_true q41; have HX44 := Aside0.mk (show Kd.R k34 34 w42 w.heap.size (fun _ => True) (.slice (some ⟨go41, 0, none⟩) y173.length co43) y173 from (by (with_reducible repeat (first | apply Kd.R_alloc | apply Kd.R_drewN | apply Kd.R_drew)); exact HO175.out)); obtain ⟨ce44, hcl44, hM44, hcc44, hfr44⟩ := Kd.R_elem HX44.out z34 ((ji38) : Int) (of_decide_eq_true (by first | (with_reducible assumption) | assumption)) (by have h_ : ((ji38) : Int) < ((y173.length : Int) : Int) := of_decide_eq_true (by first | (with_reducible assumption) | assumption); first | exact h_ | (have e_ := (Kd.R_reads' HO175.out).1; omega) | simpa using h_); obtain rfl := k34_openM hM44; have HP44 := Kd.R_seg HX44.out ((ji38) : Int) (of_decide_eq_true (by first | (with_reducible assumption) | assumption)) (by have h_ : ((ji38) : Int) < ((y173.length : Int) : Int) := of_decide_eq_true (by first | (with_reducible assumption) | assumption); first | exact h_ | (have e_ := (Kd.R_reads' HO175.out).1; omega) | simpa using h_) (seg := [.string (rdOf ByteArray.empty t165 x10_1)]) (j := 1) hcl44 hcc44 (show 2 ≤ 2 from by decide) (x' := (⟨(rd_T34 y173 (ji38)).f0, rdOf ByteArray.empty t165 x10_1⟩ : S34)) (k34_mkM _ _ _ (⟨(rd_T34 y173 (ji38)).f0, rdOf ByteArray.empty t165 x10_1⟩ : S34) ) (fun _ hk => hk); have hx44_1 := hcc44 1 _ rfl; (try simp only [show (k34).sz = 2 from rfl, Nat.mul_one, Nat.add_zero] at hx44_1); have hf44_1 := hfr44 1; (try simp only [show (k34).sz = 2 from rfl, Nat.mul_one, Nat.add_zero] at hf44_1); clear hcl44 hcc44 hfr44 hM44) | ((with_reducible refine gate_store (t := 9) (p := 82) rfl ?_); refine store_event (t := 9) (p := 82) (v := ?vo_w45) (w1 := (w42.setCell ⟨go41, ((ji38) : Int).toNat * 2 + 1, none⟩ (.string (rdOf ByteArray.empty t165 x10_1)))) ?hg ?ho ?hn ?hr ?_; (case ho => rfl); (case hg => rfl); (case hn => rfl); (case hr => first | (go_simp; done) | (go_simp; rfl)); intro w45 hw; have hg : w42.grownBy w45 (some go41) := (by rw [hw]; exact HP44.2); have hp_ : Kd.R k34 34 w45 w.heap.size (fun _ => True) (.slice (some ⟨go41, 0, none⟩) y173.length co43) y177 := (by rw [hw, Ny177.out]; exact HP44.1); clear HP44; have n0_ := Aside0.mk (Kd.R_over' (v := (.slice (some ⟨go41, 0, none⟩) y173.length co43)) (by (with_reducible repeat (first | apply Kd.R_alloc | apply Kd.R_drewN | apply Kd.R_drew)); exact HO_7.out) (Kd.R_typed HO175.out) (by decide) hg); have n1_ := Aside0.mk (hp_); have n2_ := Aside0.mk ((by rw [hw]; exact below_set (HB.out) GB41.out : Below w.heap.size w w45)); clear HO_7; clear HO175; clear HB; have HO_7 := n0_; have HO175 := n1_; have HB := n2_; clear n0_ n1_ n2_; clear hg hw hp_))
                                              go_roundg kj28
                                              case measure => have := HK1.out; have := HJ16.out; have := HJ22.out; have := HJ25.out; have := HJ28.out; omega
                                              case rel => exact ⟨(y177), (false), (wrap64 (x10_1 + 1)), (by first | rfl | (simp; done) | (simp [*]; done)), (by first | rfl | (simp; done) | (simp [*]; done)), H', ⟨by have := HK1.out; have := HJ16.out; have := HJ22.out; have := HJ25.out; have := HJ28.out; omega⟩, ⟨by (with_reducible repeat (first | apply Kd.R_alloc | apply Kd.R_drewN | apply Kd.R_drew)); exact HO_7.out⟩, ⟨by (with_reducible repeat (first | apply Kd.R_alloc | apply Kd.R_drewN | apply Kd.R_drew)); exact HO175.out⟩, ⟨by repeat (first | (with_reducible first | exact HB.out | apply below_alloc | apply pw_below_drewN | apply below_drew1) | exact HB.out)⟩⟩
                                            · rw [if_neg c40] at H
                                              exact absurd H (by simp)
                                          · rw [if_neg c39] at H
                                            exact absurd H (by simp)
                                        · replace c37 := Bool.eq_false_iff.mpr c37
                                          subst c37
                                          have H1 : (folkmootref03_set.l0 kj28 l0 l1 a2 t165 y173 false (wrap64 (x10_1 + 1))) = some r := by rw [if_neg (show ¬ (false = true) by decide)] at H; exact H
                                          clear H
                                          have H := H1
                                          clear H1
                                          have H' := Aside0.mk H
                                          clear H
                                          have p172 : 0 ≤ (x10_1 : Int) := of_decide_eq_true (by first | (with_reducible assumption) | assumption)
                                          have q172 : x10_1 < (t165.length : Int) := of_decide_eq_true (by first | (with_reducible assumption) | assumption)
                                          obtain ⟨ad172, e172, hx172_0⟩ := Kd.at_string (Kd.R_reads' HO_7.out).2.2 x10_1 p172 q172
                                          obtain rfl : ad168 = ad172 := (by injection e172)
                                          replace p172 := eq_true p172
                                          replace q172 := eq_true q172
                                          go_wp2_with (first | ((with_reducible refine gate_builtin (b := .append) (xs := #[.tmp 60, .tmp 66]) rfl ?_); at_builtin; refine Kd.R_append k34 (w0 := w) w.heap.size rfl (.tmp 60) (.tmp 66) 22 34 (.agg #[(.string ⟨#[]⟩), (.string ⟨#[]⟩)]) 32 rfl Try.underlying22 info34 rfl (by decide) (by omega) u8 x8_1 (⟨rdOf ByteArray.empty t165 x10_1, (⟨#[]⟩ : ByteArray)⟩ : S34) [.string (rdOf ByteArray.empty t165 x10_1), .string (⟨#[]⟩ : ByteArray)] (fun _ => True) (fun _ => False) rfl rfl ?aP (fun _ hk => hk.elim) ?aF ?aO ?aB ?aS ?aL ?_; (case aP => exact k34_mkM _ _ _ (⟨rdOf ByteArray.empty t165 x10_1, (⟨#[]⟩ : ByteArray)⟩ : S34)); (case aB => exact (by repeat (first | (with_reducible first | exact HB.out | apply below_alloc | apply pw_below_drewN | apply below_drew1) | exact HB.out))); (case aF => exact (fun _ _ => trivial)); (case aO => exact (by (with_reducible repeat (first | apply Kd.R_alloc | apply Kd.R_drewN | apply Kd.R_drew)); exact HO_8.out)); (case aS => exact (below_size (by repeat (first | (with_reducible first | exact HB.out | apply below_alloc | apply pw_below_drewN | apply below_drew1) | exact HB.out)))); (case aL => have := LMc34.out; omega); intro v174 w46 ho hb hg hat; rw [← Ny173.out] at ho; have n0_ := Aside0.mk (Kd.R_over' (by (with_reducible repeat (first | apply Kd.R_alloc | apply Kd.R_drewN | apply Kd.R_drew)); exact HO_7.out) (Kd.R_typed (by (with_reducible repeat (first | apply Kd.R_alloc | apply Kd.R_drewN | apply Kd.R_drew)); exact HO_8.out)) (by decide) hg); have n1_ := Aside0.mk (hb); have n2_ := Aside0.mk (ho); clear HO_7; clear HB; clear HO_8; have HO_7 := n0_; have HB := n1_; have HO175 := n2_; clear n0_ n1_ n2_; clear ho hb hg hat))
                                          go_roundg kj28
                                          case measure => have := HK1.out; have := HJ16.out; have := HJ22.out; have := HJ25.out; have := HJ28.out; omega
                                          case rel => exact ⟨(y173), (false), (wrap64 (x10_1 + 1)), (by first | rfl | (simp; done) | (simp [*]; done)), (by first | rfl | (simp; done) | (simp [*]; done)), H', ⟨by have := HK1.out; have := HJ16.out; have := HJ22.out; have := HJ25.out; have := HJ28.out; omega⟩, ⟨by (with_reducible repeat (first | apply Kd.R_alloc | apply Kd.R_drewN | apply Kd.R_drew)); exact HO_7.out⟩, ⟨by (with_reducible repeat (first | apply Kd.R_alloc | apply Kd.R_drewN | apply Kd.R_drew)); exact HO175.out⟩, ⟨by repeat (first | (with_reducible first | exact HB.out | apply below_alloc | apply pw_below_drewN | apply below_drew1) | exact HB.out)⟩⟩
                                    · rw [if_neg c34] at H
                                      exact absurd H (by simp)
                                  · rw [if_neg c33] at H
                                    exact absurd H (by simp)
                                · rw [if_neg c32] at H
                                  exact absurd H (by simp)
                              · replace c31 := Bool.eq_false_iff.mpr c31
                                subst c31
                                have H1 : (if x13_25 = true then (folkmootref03_set.l0 kj28 l0 l1 a2 t165 x8_1 x13_25 (wrap64 (x10_1 + 1))) else (if x9_1 = true then (if 0 ≤ x10_1 then (if x10_1 < (t165.length : Int) then (if 0 ≤ (wrap64 ((x8_1.length : Int) - 1)) then (if (wrap64 ((x8_1.length : Int) - 1)) < (x8_1.length : Int) then (folkmootref03_set.l0 kj28 l0 l1 a2 t165 (x8_1.set ((wrap64 ((x8_1.length : Int) - 1)) : Int).toNat (⟨(rd_T34 x8_1 (wrap64 ((x8_1.length : Int) - 1))).f0, rdOf ByteArray.empty t165 x10_1⟩ : S34)) x13_25 (wrap64 (x10_1 + 1))) else (none)) else (none)) else (none)) else (none)) else (folkmootref03_set.l0 kj28 l0 l1 a2 t165 x8_1 x13_25 (wrap64 (x10_1 + 1))))) = some r := by rw [if_neg (show ¬ (false = true) by decide)] at H; exact H
                                clear H
                                have H := H1
                                clear H1
                                by_cases c47 : x13_25 = true
                                · subst c47
                                  have H1 : (folkmootref03_set.l0 kj28 l0 l1 a2 t165 x8_1 true (wrap64 (x10_1 + 1))) = some r := by rw [if_pos rfl] at H; exact H
                                  clear H
                                  have H := H1
                                  clear H1
                                  have H' := Aside0.mk H
                                  clear H
                                  go_wp2
                                  go_roundg kj28
                                  case measure => have := HK1.out; have := HJ16.out; have := HJ22.out; have := HJ25.out; have := HJ28.out; omega
                                  case rel => exact ⟨(x8_1), (true), (wrap64 (x10_1 + 1)), (by first | rfl | (simp; done) | (simp [*]; done)), (by first | rfl | (simp; done) | (simp [*]; done)), H', ⟨by have := HK1.out; have := HJ16.out; have := HJ22.out; have := HJ25.out; have := HJ28.out; omega⟩, ⟨by (with_reducible repeat (first | apply Kd.R_alloc | apply Kd.R_drewN | apply Kd.R_drew)); exact HO_7.out⟩, ⟨by (with_reducible repeat (first | apply Kd.R_alloc | apply Kd.R_drewN | apply Kd.R_drew)); exact HO_8.out⟩, ⟨by repeat (first | (with_reducible first | exact HB.out | apply below_alloc | apply pw_below_drewN | apply below_drew1) | exact HB.out)⟩⟩
                                · replace c47 := Bool.eq_false_iff.mpr c47
                                  subst c47
                                  have H1 : (if x9_1 = true then (if 0 ≤ x10_1 then (if x10_1 < (t165.length : Int) then (if 0 ≤ (wrap64 ((x8_1.length : Int) - 1)) then (if (wrap64 ((x8_1.length : Int) - 1)) < (x8_1.length : Int) then (folkmootref03_set.l0 kj28 l0 l1 a2 t165 (x8_1.set ((wrap64 ((x8_1.length : Int) - 1)) : Int).toNat (⟨(rd_T34 x8_1 (wrap64 ((x8_1.length : Int) - 1))).f0, rdOf ByteArray.empty t165 x10_1⟩ : S34)) false (wrap64 (x10_1 + 1))) else (none)) else (none)) else (none)) else (none)) else (folkmootref03_set.l0 kj28 l0 l1 a2 t165 x8_1 false (wrap64 (x10_1 + 1)))) = some r := by rw [if_neg (show ¬ (false = true) by decide)] at H; exact H
                                  clear H
                                  have H := H1
                                  clear H1
                                  by_cases c48 : x9_1 = true
                                  · subst c48
                                    have H1 : (if 0 ≤ x10_1 then (if x10_1 < (t165.length : Int) then (if 0 ≤ (wrap64 ((x8_1.length : Int) - 1)) then (if (wrap64 ((x8_1.length : Int) - 1)) < (x8_1.length : Int) then (folkmootref03_set.l0 kj28 l0 l1 a2 t165 (x8_1.set ((wrap64 ((x8_1.length : Int) - 1)) : Int).toNat (⟨(rd_T34 x8_1 (wrap64 ((x8_1.length : Int) - 1))).f0, rdOf ByteArray.empty t165 x10_1⟩ : S34)) false (wrap64 (x10_1 + 1))) else (none)) else (none)) else (none)) else (none)) = some r := by rw [if_pos rfl] at H; exact H
                                    clear H
                                    have H := H1
                                    clear H1
                                    by_cases c49 : 0 ≤ x10_1
                                    · rw [if_pos c49] at H
                                      have c49b0 : decide (0 ≤ x10_1) = true := decide_eq_true c49
                                      clear c49
                                      by_cases c50 : x10_1 < (t165.length : Int)
                                      · rw [if_pos c50] at H
                                        have c50b0 : decide (x10_1 < (t165.length : Int)) = true := decide_eq_true c50
                                        clear c50
                                        obtain ⟨ji51, hji51⟩ : ∃ j_ : Int, (wrap64 ((x8_1.length : Int) - 1)) = j_ := ⟨_, rfl⟩
                                        replace H : (if 0 ≤ (ji51) then (if (ji51) < (x8_1.length : Int) then (folkmootref03_set.l0 kj28 l0 l1 a2 t165 (x8_1.set ((ji51) : Int).toNat (⟨(rd_T34 x8_1 (ji51)).f0, rdOf ByteArray.empty t165 x10_1⟩ : S34)) false (wrap64 (x10_1 + 1))) else (none)) else (none)) = some r := by first | (rw [hji51] at H; exact H) | (simp only [hji51] at H ⊢; exact H)
                                        have hji51w : (IntKind.i64.wrap ((x8_1.length : Int) - 1)) = ji51 := (i64_w _).trans hji51
                                        by_cases c52 : 0 ≤ (ji51)
                                        · rw [if_pos c52] at H
                                          have c52b0 : decide (0 ≤ (ji51)) = true := decide_eq_true c52
                                          clear c52
                                          by_cases c53 : (ji51) < (x8_1.length : Int)
                                          · rw [if_pos c53] at H
                                            have c53b0 : decide ((ji51) < (x8_1.length : Int)) = true := decide_eq_true c53
                                            clear c53
                                            obtain ⟨y179, hy179⟩ : ∃ y_ : List (S34), y_ = (x8_1.set ((ji51) : Int).toNat (⟨(rd_T34 x8_1 (ji51)).f0, rdOf ByteArray.empty t165 x10_1⟩ : S34)) := ⟨_, rfl⟩
                                            replace H : (folkmootref03_set.l0 kj28 l0 l1 a2 t165 y179 false (wrap64 (x10_1 + 1))) = some r := by first | (rw [hy179]; with_reducible exact H) | (have H2_ := (Option.bind_some _ _).symm.trans H; rw [hy179]; with_reducible exact H2_) | (have H2_ := (Option.bind_some _ _).symm.trans H; with_reducible exact H2_) | with_reducible exact H | (rw [hy179]; exact H) | exact H
                                            have Ny179 := Aside0.mk hy179
                                            clear hy179
                                            have H' := Aside0.mk H
                                            clear H
                                            obtain ⟨Ao55, co55, eo55⟩ := Kd.R_slice HO_8.out
                                            subst eo55
                                            have p178 : 0 ≤ (x10_1 : Int) := of_decide_eq_true (by first | (with_reducible assumption) | assumption)
                                            have q178 : x10_1 < (t165.length : Int) := of_decide_eq_true (by first | (with_reducible assumption) | assumption)
                                            obtain ⟨ad178, e178, hx178_0⟩ := Kd.at_string (Kd.R_reads' HO_7.out).2.2 x10_1 p178 q178
                                            obtain rfl : ad168 = ad178 := (by injection e178)
                                            replace p178 := eq_true p178
                                            replace q178 := eq_true q178
                                            have p54 : 0 ≤ ((ji51) : Int) := of_decide_eq_true (by first | (with_reducible assumption) | assumption)
                                            have q54 : ((ji51) : Int) < ((x8_1.length : Int) : Int) := of_decide_eq_true (by first | (with_reducible assumption) | assumption)
                                            obtain ⟨go54, co54, eo54, gb54, gl54, cl54, HG54⟩ := Kd.R_form HO_8.out (by omega)
                                            (first | cases eo54 | (injection eo54 with ea_ en_ ec_; (first | subst ea_ | (injection ea_ with ea_; subst ea_)); subst ec_; clear en_))
                                            have GB54 := Aside0.mk gb54
                                            have GG54 := Aside0.mk HG54
                                            clear gb54 gl54 HG54
                                            obtain ⟨ce54, hcl54, hM54, hcc54, hfr54⟩ := Kd.R_elem HO_8.out z34 ((ji51) : Int) p54 q54
                                            obtain rfl := k34_openM hM54
                                            have hx54_0 : wc.cell? ⟨go54, ((ji51) : Int).toNat * 2, none⟩ = some (.string ((rd_T34 x8_1 (ji51)).f0)) := hcc54 0 _ rfl
                                            have hx54_1 : wc.cell? ⟨go54, ((ji51) : Int).toNat * 2 + 1, none⟩ = some (.string ((rd_T34 x8_1 (ji51)).f1)) := hcc54 1 _ rfl
                                            have hf54_0 : wc.frozen? ⟨go54, ((ji51) : Int).toNat * 2, none⟩ = false := hfr54 0
                                            have hf54_1 : wc.frozen? ⟨go54, ((ji51) : Int).toNat * 2 + 1, none⟩ = false := hfr54 1
                                            clear hcl54 hcc54 hfr54 hM54
                                            replace p54 := eq_true p54
                                            replace q54 := eq_true q54
                                            have HX56 := Aside0.mk (show Kd.R k34 34 wc w.heap.size (fun _ => True) (.slice (some ⟨go54, 0, none⟩) x8_1.length co55) x8_1 from (by (with_reducible repeat (first | apply Kd.R_alloc | apply Kd.R_drewN | apply Kd.R_drew)); exact HO_8.out))
                                            obtain ⟨ce56, hcl56, hM56, hcc56, hfr56⟩ := Kd.R_elem HX56.out z34 ((ji51) : Int) (of_decide_eq_true (by first | (with_reducible assumption) | assumption)) (by have h_ : ((ji51) : Int) < ((x8_1.length : Int) : Int) := of_decide_eq_true (by first | (with_reducible assumption) | assumption); first | exact h_ | (have e_ := (Kd.R_reads' HO_8.out).1; omega) | simpa using h_)
                                            obtain rfl := k34_openM hM56
                                            have HP56 := Kd.R_seg HX56.out ((ji51) : Int) (of_decide_eq_true (by first | (with_reducible assumption) | assumption)) (by have h_ : ((ji51) : Int) < ((x8_1.length : Int) : Int) := of_decide_eq_true (by first | (with_reducible assumption) | assumption); first | exact h_ | (have e_ := (Kd.R_reads' HO_8.out).1; omega) | simpa using h_) (seg := [.string (rdOf ByteArray.empty t165 x10_1)]) (j := 1) hcl56 hcc56 (show 2 ≤ 2 from by decide) (x' := (⟨(rd_T34 x8_1 (ji51)).f0, rdOf ByteArray.empty t165 x10_1⟩ : S34)) (k34_mkM _ _ _ (⟨(rd_T34 x8_1 (ji51)).f0, rdOf ByteArray.empty t165 x10_1⟩ : S34) ) (fun _ hk => hk)
                                            have hx56_1 := hcc56 1 _ rfl
                                            (try simp only [show (k34).sz = 2 from rfl, Nat.mul_one, Nat.add_zero] at hx56_1)
                                            have hf56_1 := hfr56 1
                                            (try simp only [show (k34).sz = 2 from rfl, Nat.mul_one, Nat.add_zero] at hf56_1)
                                            clear hcl56 hcc56 hfr56 hM56
                                            go_wp2_with (first | ((with_reducible refine gate_store (t := 9) (p := 82) rfl ?_); refine store_event (t := 9) (p := 82) (v := ?vo_w57) (w1 := (wc.setCell ⟨go54, ((ji51) : Int).toNat * 2 + 1, none⟩ (.string (rdOf ByteArray.empty t165 x10_1)))) ?hg ?ho ?hn ?hr ?_; (case ho => rfl); (case hg => rfl); (case hn => rfl); (case hr => first | (go_simp; done) | (go_simp; rfl)); intro w57 hw; have hg : wc.grownBy w57 (some go54) := (by rw [hw]; exact HP56.2); have hp_ : Kd.R k34 34 w57 w.heap.size (fun _ => True) (.slice (some ⟨go54, 0, none⟩) x8_1.length co55) y179 := (by rw [hw, Ny179.out]; exact HP56.1); clear HP56; have n0_ := Aside0.mk (Kd.R_over' (v := (.slice (some ⟨go54, 0, none⟩) x8_1.length co55)) (by (with_reducible repeat (first | apply Kd.R_alloc | apply Kd.R_drewN | apply Kd.R_drew)); exact HO_7.out) (Kd.R_typed HO_8.out) (by decide) hg); have n1_ := Aside0.mk (hp_); have n2_ := Aside0.mk ((by rw [hw]; exact below_set (HB.out) GB54.out : Below w.heap.size w w57)); clear HO_7; clear HO_8; clear HB; have HO_7 := n0_; have HO_8 := n1_; have HB := n2_; clear n0_ n1_ n2_; clear hg hw hp_))
                                            go_roundg kj28
                                            case measure => have := HK1.out; have := HJ16.out; have := HJ22.out; have := HJ25.out; have := HJ28.out; omega
                                            case rel => exact ⟨(y179), (false), (wrap64 (x10_1 + 1)), (by first | rfl | (simp; done) | (simp [*]; done)), (by first | rfl | (simp; done) | (simp [*]; done)), H', ⟨by have := HK1.out; have := HJ16.out; have := HJ22.out; have := HJ25.out; have := HJ28.out; omega⟩, ⟨by (with_reducible repeat (first | apply Kd.R_alloc | apply Kd.R_drewN | apply Kd.R_drew)); exact HO_7.out⟩, ⟨by (with_reducible repeat (first | apply Kd.R_alloc | apply Kd.R_drewN | apply Kd.R_drew)); exact HO_8.out⟩, ⟨by repeat (first | (with_reducible first | exact HB.out | apply below_alloc | apply pw_below_drewN | apply below_drew1) | exact HB.out)⟩⟩
                                          · rw [if_neg c53] at H
                                            exact absurd H (by simp)
                                        · rw [if_neg c52] at H
                                          exact absurd H (by simp)
                                      · rw [if_neg c50] at H
                                        exact absurd H (by simp)
                                    · rw [if_neg c49] at H
                                      exact absurd H (by simp)
                                  · replace c48 := Bool.eq_false_iff.mpr c48
                                    subst c48
                                    have H1 : (folkmootref03_set.l0 kj28 l0 l1 a2 t165 x8_1 false (wrap64 (x10_1 + 1))) = some r := by rw [if_neg (show ¬ (false = true) by decide)] at H; exact H
                                    clear H
                                    have H := H1
                                    clear H1
                                    have H' := Aside0.mk H
                                    clear H
                                    go_wp2
                                    go_roundg kj28
                                    case measure => have := HK1.out; have := HJ16.out; have := HJ22.out; have := HJ25.out; have := HJ28.out; omega
                                    case rel => exact ⟨(x8_1), (false), (wrap64 (x10_1 + 1)), (by first | rfl | (simp; done) | (simp [*]; done)), (by first | rfl | (simp; done) | (simp [*]; done)), H', ⟨by have := HK1.out; have := HJ16.out; have := HJ22.out; have := HJ25.out; have := HJ28.out; omega⟩, ⟨by (with_reducible repeat (first | apply Kd.R_alloc | apply Kd.R_drewN | apply Kd.R_drew)); exact HO_7.out⟩, ⟨by (with_reducible repeat (first | apply Kd.R_alloc | apply Kd.R_drewN | apply Kd.R_drew)); exact HO_8.out⟩, ⟨by repeat (first | (with_reducible first | exact HB.out | apply below_alloc | apply pw_below_drewN | apply below_drew1) | exact HB.out)⟩⟩
            · rw [if_neg c14] at H
              exact absurd H (by simp)
          · rw [if_neg c13] at H
            have c13b0 : decide (x10_1 < (t165.length : Int)) = false := decide_eq_false c13
            clear c13
            obtain rfl := Option.some.inj H
            obtain ⟨Ao58, co58, eo58⟩ := Kd.R_slice HO_7.out
            subst eo58
            go_wp2
            go_ret
            exact ⟨_, by first | rfl | (simp [errW_none, errW_some] <;> rfl) | (simp [*, errW_none, errW_some] <;> rfl), by (with_reducible repeat (first | apply Kd.R_alloc | apply Kd.R_drewN | apply Kd.R_drew)); exact HO_8.out, by repeat (first | (with_reducible first | exact HB.out | apply below_alloc | apply pw_below_drewN | apply below_drew1) | exact HB.out)⟩
    · rw [if_neg c5] at H
      exact absurd H (by simp)
  · rw [if_neg c4] at H
    exact absurd H (by simp)

end Go.Proofs.Ytjimijpkhmpilaa.P
-- printed by a program of this session (wip/hp.py over the kit's print)
namespace Go.Proofs.Ytjimijpkhmpilaa.P
open Go.RowKit Go.Proofs.YtjimijpkhmpilaaW.PrintWords Go.Proofs.YtjimijpkhmpilaaW.PrintLast Go.Proofs.YtjimijpkhmpilaaW.PrintMore
attribute [local go_sem] str_leq str_gtr str_geq max2_str max2_int min2_int max_two min_two max_three min_three max_four min_four   -- for this text's walks alone
set_option linter.unusedVariables false
set_option linter.unusedSimpArgs false

/-! ### folkmootref03_Cut: function 17 -/
def folkmootref03_Cut.f (k : Nat) (l0 : List (S34)) (l1 : List (S34)) : Option ((List (S34))) := (folkmootref03_set.f k l0 l1 1).bind fun t189 => (some t189)
theorem folkmootref03_Cut.mono : ∀ a0 a1 k, LeO (folkmootref03_Cut.f k a0 a1) (folkmootref03_Cut.f (k + 1) a0 a1) := by
  intro a0 a1 k
  unfold folkmootref03_Cut.f
  repeat' first
      | (with_reducible exact folkmootref03_set.mono _ _ _ _)
      | (with_reducible exact LeO.refl _)
      | (with_reducible exact LeO.none _)
      | (with_reducible refine LeO.ite ?_ ?_)
      | (with_reducible refine LeO.bind ?_ (fun _ => ?_))
      | exact folkmootref03_set.mono _ _ _ _
      | exact LeO.none _
      | refine LeO.ite ?_ ?_
      | refine LeO.bind ?_ (fun _ => ?_)
set_option maxHeartbeats 8000000 in
set_option maxRecDepth 100000 in
theorem folkmootref03_Cut.calls (k : Nat) (A0 : Option Addr) (c0 : Nat) (l0 : List (S34)) (A1 : Option Addr) (c1 : Nat) (l1 : List (S34)) (r : List (S34)) (w : World) (hr0 : Kd.C k34 w A0 l0.length l0) (hc0 : l0.length ≤ c0) (hr1 : Kd.C k34 w A1 l1.length l1) (hc1 : l1.length ≤ c1) (h : folkmootref03_Cut.f k l0 l1 = some r) :
    Calls Try.prog 17 #[.slice A0 l0.length c0, .slice A1 l1.length c1] w fun e w' => ∃ v0_ : Value, e = .returned (v0_) ∧ Kd.R k34 34 w' w.heap.size (fun _ => True) v0_ r ∧ Below w.heap.size w w' := by
  have HR0 := Aside0.mk hr0
  have HC0 := Aside0.mk hc0
  clear hr0 hc0
  have HR1 := Aside0.mk hr1
  have HC1 := Aside0.mk hc1
  clear hr1 hc1
  have HB := Aside0.mk (Below.refl w.heap.size w)
  have H : ((folkmootref03_set.f k l0 l1 1).bind fun t189 => (some t189)) = some r := h
  clear h
  replace H := Option.bind_eq_some_iff.mp H
  obtain ⟨t189, A30, H⟩ := H
  replace H : (some t189) = some r := H
  have A3 := Aside0.mk A30
  clear A30
  obtain rfl := Option.some.inj H
  go_enter Try.func17, Try.ntmps17
  go_wp2_with (first | ((with_reducible refine gate_callee (f := 30) rfl ?_); refine goesL_ (some 7) rfl rfl Try.func30 (by kernel_rfl) rfl #[.slice A0 l0.length c0, .slice A1 l1.length c1, .int .i64 1] rfl (by (try simp only [List.map_toArray, List.map_cons, List.map_nil]); first | done | rfl | (simp only [List.length_drop, List.length_take]; rfl)) ?_; (with_reducible refine (folkmootref03_set.calls k _ _ l0 _ _ l1 1 t189 _ ?side1 ?side2 ?side3 ?side4 A3.out).mono ?_); (case side1 => repeat (first | exact HR0.out | (with_reducible refine Kd.C_alloc ?_ _) | (with_reducible refine Kd.C_drewN ?_ _) | (with_reducible refine Kd.C_drew ?_))); (case side2 => exact HC0.out); (case side3 => repeat (first | exact HR1.out | (with_reducible refine Kd.C_alloc ?_ _) | (with_reducible refine Kd.C_drewN ?_ _) | (with_reducible refine Kd.C_drew ?_))); (case side4 => exact HC1.out); rintro e w4 ⟨v190, rfl, ho0, hb⟩; refine ⟨_, rfl, ?_⟩; have n0_ := Aside0.mk (Kd.R_lower ho0 (below_size (by repeat (first | (with_reducible first | exact HB.out | apply below_alloc | apply pw_below_drewN | apply below_drew1) | exact HB.out)))); have n1_ := Aside0.mk (below_step (by repeat (first | (with_reducible first | exact HB.out | apply below_alloc | apply pw_below_drewN | apply below_drew1) | exact HB.out)) hb); clear HB; have HO191 := n0_; have HB := n1_; clear n0_ n1_; (try clear hb); (try clear hb2); (try clear hk); (try clear hi); (try clear ho0)))
  go_ret
  exact ⟨_, by first | rfl | (simp [errW_none, errW_some] <;> rfl) | (simp [*, errW_none, errW_some] <;> rfl), by (with_reducible repeat (first | apply Kd.R_alloc | apply Kd.R_drewN | apply Kd.R_drew)); exact HO191.out, by repeat (first | (with_reducible first | exact HB.out | apply below_alloc | apply pw_below_drewN | apply below_drew1) | exact HB.out)⟩

end Go.Proofs.Ytjimijpkhmpilaa.P
-- printed by a program of this session (wip/hp.py over the kit's print)
namespace Go.Proofs.Ytjimijpkhmpilaa.P
open Go.RowKit Go.Proofs.YtjimijpkhmpilaaW.PrintWords Go.Proofs.YtjimijpkhmpilaaW.PrintLast Go.Proofs.YtjimijpkhmpilaaW.PrintMore
attribute [local go_sem] str_leq str_gtr str_geq max2_str max2_int min2_int max_two min_two max_three min_three max_four min_four   -- for this text's walks alone
set_option linter.unusedVariables false
set_option linter.unusedSimpArgs false

/-! ### folkmootref03_Less: function 19 -/
def folkmootref03_Less.f (k : Nat) (l0 : List (S34)) (l1 : List (S34)) : Option ((List (S34))) := (folkmootref03_set.f k l0 l1 2).bind fun t192 => (some t192)
theorem folkmootref03_Less.mono : ∀ a0 a1 k, LeO (folkmootref03_Less.f k a0 a1) (folkmootref03_Less.f (k + 1) a0 a1) := by
  intro a0 a1 k
  unfold folkmootref03_Less.f
  repeat' first
      | (with_reducible exact folkmootref03_set.mono _ _ _ _)
      | (with_reducible exact LeO.refl _)
      | (with_reducible exact LeO.none _)
      | (with_reducible refine LeO.ite ?_ ?_)
      | (with_reducible refine LeO.bind ?_ (fun _ => ?_))
      | exact folkmootref03_set.mono _ _ _ _
      | exact LeO.none _
      | refine LeO.ite ?_ ?_
      | refine LeO.bind ?_ (fun _ => ?_)
set_option maxHeartbeats 8000000 in
set_option maxRecDepth 100000 in
theorem folkmootref03_Less.calls (k : Nat) (A0 : Option Addr) (c0 : Nat) (l0 : List (S34)) (A1 : Option Addr) (c1 : Nat) (l1 : List (S34)) (r : List (S34)) (w : World) (hr0 : Kd.C k34 w A0 l0.length l0) (hc0 : l0.length ≤ c0) (hr1 : Kd.C k34 w A1 l1.length l1) (hc1 : l1.length ≤ c1) (h : folkmootref03_Less.f k l0 l1 = some r) :
    Calls Try.prog 19 #[.slice A0 l0.length c0, .slice A1 l1.length c1] w fun e w' => ∃ v0_ : Value, e = .returned (v0_) ∧ Kd.R k34 34 w' w.heap.size (fun _ => True) v0_ r ∧ Below w.heap.size w w' := by
  have HR0 := Aside0.mk hr0
  have HC0 := Aside0.mk hc0
  clear hr0 hc0
  have HR1 := Aside0.mk hr1
  have HC1 := Aside0.mk hc1
  clear hr1 hc1
  have HB := Aside0.mk (Below.refl w.heap.size w)
  have H : ((folkmootref03_set.f k l0 l1 2).bind fun t192 => (some t192)) = some r := h
  clear h
  replace H := Option.bind_eq_some_iff.mp H
  obtain ⟨t192, A30, H⟩ := H
  replace H : (some t192) = some r := H
  have A3 := Aside0.mk A30
  clear A30
  obtain rfl := Option.some.inj H
  go_enter Try.func19, Try.ntmps19
  go_wp2_with (first | ((with_reducible refine gate_callee (f := 30) rfl ?_); refine goesL_ (some 7) rfl rfl Try.func30 (by kernel_rfl) rfl #[.slice A0 l0.length c0, .slice A1 l1.length c1, .int .i64 2] rfl (by (try simp only [List.map_toArray, List.map_cons, List.map_nil]); first | done | rfl | (simp only [List.length_drop, List.length_take]; rfl)) ?_; (with_reducible refine (folkmootref03_set.calls k _ _ l0 _ _ l1 2 t192 _ ?side1 ?side2 ?side3 ?side4 A3.out).mono ?_); (case side1 => repeat (first | exact HR0.out | (with_reducible refine Kd.C_alloc ?_ _) | (with_reducible refine Kd.C_drewN ?_ _) | (with_reducible refine Kd.C_drew ?_))); (case side2 => exact HC0.out); (case side3 => repeat (first | exact HR1.out | (with_reducible refine Kd.C_alloc ?_ _) | (with_reducible refine Kd.C_drewN ?_ _) | (with_reducible refine Kd.C_drew ?_))); (case side4 => exact HC1.out); rintro e w4 ⟨v193, rfl, ho0, hb⟩; refine ⟨_, rfl, ?_⟩; have n0_ := Aside0.mk (Kd.R_lower ho0 (below_size (by repeat (first | (with_reducible first | exact HB.out | apply below_alloc | apply pw_below_drewN | apply below_drew1) | exact HB.out)))); have n1_ := Aside0.mk (below_step (by repeat (first | (with_reducible first | exact HB.out | apply below_alloc | apply pw_below_drewN | apply below_drew1) | exact HB.out)) hb); clear HB; have HO194 := n0_; have HB := n1_; clear n0_ n1_; (try clear hb); (try clear hb2); (try clear hk); (try clear hi); (try clear ho0)))
  go_ret
  exact ⟨_, by first | rfl | (simp [errW_none, errW_some] <;> rfl) | (simp [*, errW_none, errW_some] <;> rfl), by (with_reducible repeat (first | apply Kd.R_alloc | apply Kd.R_drewN | apply Kd.R_drew)); exact HO194.out, by repeat (first | (with_reducible first | exact HB.out | apply below_alloc | apply pw_below_drewN | apply below_drew1) | exact HB.out)⟩

end Go.Proofs.Ytjimijpkhmpilaa.P
-- printed by a program of this session (wip/hp.py over the kit's print)
namespace Go.Proofs.Ytjimijpkhmpilaa.P
open Go.RowKit Go.Proofs.YtjimijpkhmpilaaW.PrintWords Go.Proofs.YtjimijpkhmpilaaW.PrintLast Go.Proofs.YtjimijpkhmpilaaW.PrintMore
attribute [local go_sem] str_leq str_gtr str_geq max2_str max2_int min2_int max_two min_two max_three min_three max_four min_four   -- for this text's walks alone
set_option linter.unusedVariables false
set_option linter.unusedSimpArgs false

/-! ### folkmootref03_Union: function 12 -/
def folkmootref03_Union.f (k : Nat) (l0 : List (S34)) : Option ((List (S34))) := (folkmootref03_set.f k l0 ([] : List (S34)) 0).bind fun t180 => (some t180)
theorem folkmootref03_Union.mono : ∀ a0 k, LeO (folkmootref03_Union.f k a0) (folkmootref03_Union.f (k + 1) a0) := by
  intro a0 k
  unfold folkmootref03_Union.f
  repeat' first
      | (with_reducible exact folkmootref03_set.mono _ _ _ _)
      | (with_reducible exact LeO.refl _)
      | (with_reducible exact LeO.none _)
      | (with_reducible refine LeO.ite ?_ ?_)
      | (with_reducible refine LeO.bind ?_ (fun _ => ?_))
      | exact folkmootref03_set.mono _ _ _ _
      | exact LeO.none _
      | refine LeO.ite ?_ ?_
      | refine LeO.bind ?_ (fun _ => ?_)
set_option maxHeartbeats 8000000 in
set_option maxRecDepth 100000 in
theorem folkmootref03_Union.calls (k : Nat) (A0 : Option Addr) (c0 : Nat) (l0 : List (S34)) (r : List (S34)) (w : World) (hr0 : Kd.C k34 w A0 l0.length l0) (hc0 : l0.length ≤ c0) (h : folkmootref03_Union.f k l0 = some r) :
    Calls Try.prog 12 #[.slice A0 l0.length c0] w fun e w' => ∃ v0_ : Value, e = .returned (v0_) ∧ Kd.R k34 34 w' w.heap.size (fun _ => True) v0_ r ∧ Below w.heap.size w w' := by
  have HR0 := Aside0.mk hr0
  have HC0 := Aside0.mk hc0
  clear hr0 hc0
  have HB := Aside0.mk (Below.refl w.heap.size w)
  have H : ((folkmootref03_set.f k l0 ([] : List (S34)) 0).bind fun t180 => (some t180)) = some r := h
  clear h
  replace H := Option.bind_eq_some_iff.mp H
  obtain ⟨t180, A20, H⟩ := H
  replace H : (some t180) = some r := H
  have A2 := Aside0.mk A20
  clear A20
  obtain rfl := Option.some.inj H
  go_enter Try.func12, Try.ntmps12
  go_wp2_with (first | ((with_reducible refine gate_callee (f := 30) rfl ?_); refine goesL_ (some 4) rfl rfl Try.func30 (by kernel_rfl) rfl #[.slice A0 l0.length c0, .slice none 0 0, .int .i64 0] rfl (by (try simp only [List.map_toArray, List.map_cons, List.map_nil]); first | done | rfl | (simp only [List.length_drop, List.length_take]; rfl)) ?_; (refine (folkmootref03_set.calls k _ _ l0 _ _ ([] : List (S34)) 0 t180 _ ?side1 ?side2 ?side3 ?side4 A2.out).mono ?_); (case side1 => repeat (first | exact HR0.out | (with_reducible refine Kd.C_alloc ?_ _) | (with_reducible refine Kd.C_drewN ?_ _) | (with_reducible refine Kd.C_drew ?_))); (case side2 => exact HC0.out); (case side3 => exact Kd.C_nil _ _); (case side4 => exact Nat.le_refl _); rintro e w3 ⟨v181, rfl, ho0, hb⟩; refine ⟨_, rfl, ?_⟩; have n0_ := Aside0.mk (Kd.R_lower ho0 (below_size (by repeat (first | (with_reducible first | exact HB.out | apply below_alloc | apply pw_below_drewN | apply below_drew1) | exact HB.out)))); have n1_ := Aside0.mk (below_step (by repeat (first | (with_reducible first | exact HB.out | apply below_alloc | apply pw_below_drewN | apply below_drew1) | exact HB.out)) hb); clear HB; have HO182 := n0_; have HB := n1_; clear n0_ n1_; (try clear hb); (try clear hb2); (try clear hk); (try clear hi); (try clear ho0)))
  go_ret
  exact ⟨_, by first | rfl | (simp [errW_none, errW_some] <;> rfl) | (simp [*, errW_none, errW_some] <;> rfl), by (with_reducible repeat (first | apply Kd.R_alloc | apply Kd.R_drewN | apply Kd.R_drew)); exact HO182.out, by repeat (first | (with_reducible first | exact HB.out | apply below_alloc | apply pw_below_drewN | apply below_drew1) | exact HB.out)⟩

end Go.Proofs.Ytjimijpkhmpilaa.P
-- printed by a program of this session (wip/hp.py over the kit's print)
namespace Go.Proofs.Ytjimijpkhmpilaa.P
open Go.RowKit Go.Proofs.YtjimijpkhmpilaaW.PrintWords Go.Proofs.YtjimijpkhmpilaaW.PrintLast Go.Proofs.YtjimijpkhmpilaaW.PrintMore
attribute [local go_sem] str_leq str_gtr str_geq max2_str max2_int min2_int max_two min_two max_three min_three max_four min_four   -- for this text's walks alone
set_option linter.unusedVariables false
set_option linter.unusedSimpArgs false

/-! ### folkmootref03_Set: function 23 -/
def folkmootref03_Set.f (k : Nat) (l0 : List (S34)) : Option (Bool) := (folkmootref03_Union.f k l0).bind fun t299 => ((folkmootref03_Same.f k t299 l0).bind fun t302 => (some t302))
theorem folkmootref03_Set.mono : ∀ a0 k, LeO (folkmootref03_Set.f k a0) (folkmootref03_Set.f (k + 1) a0) := by
  intro a0 k
  unfold folkmootref03_Set.f
  repeat' first
      | (with_reducible exact folkmootref03_Same.mono _ _ _)
      | (with_reducible exact folkmootref03_Union.mono _ _)
      | (with_reducible exact LeO.refl _)
      | (with_reducible exact LeO.none _)
      | (with_reducible refine LeO.ite ?_ ?_)
      | (with_reducible refine LeO.bind ?_ (fun _ => ?_))
      | exact folkmootref03_Same.mono _ _ _
      | exact folkmootref03_Union.mono _ _
      | exact LeO.none _
      | refine LeO.ite ?_ ?_
      | refine LeO.bind ?_ (fun _ => ?_)
set_option maxHeartbeats 8000000 in
set_option maxRecDepth 100000 in
theorem folkmootref03_Set.calls (k : Nat) (A0 : Option Addr) (c0 : Nat) (l0 : List (S34)) (r : Bool) (w : World) (hr0 : Kd.C k34 w A0 l0.length l0) (hc0 : l0.length ≤ c0) (h : folkmootref03_Set.f k l0 = some r) :
    Calls Try.prog 23 #[.slice A0 l0.length c0] w fun e w' => e = .returned (.bool r) ∧ Below w.heap.size w w' := by
  have HR0 := Aside0.mk hr0
  have HC0 := Aside0.mk hc0
  clear hr0 hc0
  have HB := Aside0.mk (Below.refl w.heap.size w)
  have H : ((folkmootref03_Union.f k l0).bind fun t299 => ((folkmootref03_Same.f k t299 l0).bind fun t302 => (some t302))) = some r := h
  clear h
  replace H := Option.bind_eq_some_iff.mp H
  obtain ⟨t299, A20, H⟩ := H
  replace H : ((folkmootref03_Same.f k t299 l0).bind fun t302 => (some t302)) = some r := H
  have A2 := Aside0.mk A20
  clear A20
  replace H := Option.bind_eq_some_iff.mp H
  obtain ⟨t302, A30, H⟩ := H
  replace H : (some t302) = some r := H
  have A3 := Aside0.mk A30
  clear A30
  obtain rfl := Option.some.inj H
  go_enter Try.func23, Try.ntmps23
  go_wp2_with (first | ((with_reducible refine gate_callee (f := 12) rfl ?_); refine goesL_ (some 4) rfl rfl Try.func12 (by kernel_rfl) rfl #[.slice A0 l0.length c0] rfl (by (try simp only [List.map_toArray, List.map_cons, List.map_nil]); first | done | rfl | (simp only [List.length_drop, List.length_take]; rfl)) ?_; (with_reducible refine (folkmootref03_Union.calls k _ _ l0 t299 _ ?side1 ?side2 A2.out).mono ?_); (case side1 => repeat (first | exact HR0.out | (with_reducible refine Kd.C_alloc ?_ _) | (with_reducible refine Kd.C_drewN ?_ _) | (with_reducible refine Kd.C_drew ?_))); (case side2 => exact HC0.out); rintro e w4 ⟨v300, rfl, ho0, hb⟩; refine ⟨_, rfl, ?_⟩; have n0_ := Aside0.mk (Kd.R_lower ho0 (below_size (by repeat (first | (with_reducible first | exact HB.out | apply below_alloc | apply pw_below_drewN | apply below_drew1) | exact HB.out)))); have n1_ := Aside0.mk (below_step (by repeat (first | (with_reducible first | exact HB.out | apply below_alloc | apply pw_below_drewN | apply below_drew1) | exact HB.out)) hb); clear HB; have HO301 := n0_; have HB := n1_; clear n0_ n1_; (try clear hb); (try clear hb2); (try clear hk); (try clear hi); (try clear ho0); obtain ⟨Ao5, co5, eo5⟩ := Kd.R_slice HO301.out; subst eo5) | ((with_reducible refine gate_callee (f := 13) rfl ?_); refine goesL_ (some 6) rfl rfl Try.func13 (by kernel_rfl) rfl #[.slice Ao5 t299.length co5, .slice A0 l0.length c0] rfl (by (try simp only [List.map_toArray, List.map_cons, List.map_nil]); first | done | rfl | (simp only [List.length_drop, List.length_take]; rfl)) ?_; (with_reducible refine (folkmootref03_Same.calls k _ _ t299 _ _ l0 t302 _ ?side1 ?side2 ?side3 ?side4 A3.out).mono ?_); (case side1 => repeat (first | exact (Kd.R_reads' HO301.out).2.2 | (with_reducible refine Kd.C_alloc ?_ _) | (with_reducible refine Kd.C_drewN ?_ _) | (with_reducible refine Kd.C_drew ?_))); (case side2 => exact (Kd.R_reads' HO301.out).2.1); (case side3 => repeat (first | exact (Kd.C_below HR0.out HB.out) | (with_reducible refine Kd.C_alloc ?_ _) | (with_reducible refine Kd.C_drewN ?_ _) | (with_reducible refine Kd.C_drew ?_))); (case side4 => exact HC0.out); rintro e w' ⟨rfl, ⟨nd, rfl⟩⟩; refine ⟨_, rfl, ?_⟩))
  go_ret
  exact ⟨by first | rfl | (simp [errW_none, errW_some] <;> rfl) | (simp [*, errW_none, errW_some] <;> rfl), by repeat (first | (with_reducible first | exact HB.out | apply below_alloc | apply pw_below_drewN | apply below_drew1) | exact HB.out)⟩

end Go.Proofs.Ytjimijpkhmpilaa.P
