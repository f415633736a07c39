/- Texts of the proofs of TopoOnce, TopoTells, merged (SpU, SpC, SpV, PxspanMeet, PUo). -/
import Derived.Shelf.SlSortCmp.NoneTotal
import Derived.Lib.Bytealg
import Derived.Lib.Strings
import Derived.StillTailTactics
import Derived.BigQuiet
import Derived.Test.YtaedgbkeiankcaaWWords
import Derived.Test.YtaedgbkeiankcaaWLast
import Derived.Test.YtaedgbkeiankcaaWTab
import Derived.Test.YtaedgbkeiankcaaWQPut
import Derived.Test.YtaedgbkeiankcaaWApart
import Derived.Test.YtaedgbkeiankcaaWArr
import Derived.Test.YtaedgbkeiankcaaWZeros
import Derived.Test.YtaedgbkeiankcaaWFoot
import Derived.Test.YtaedgbkeiankcaaWKept
import Derived.Test.YtaedgbkeiankcaaWShare
import Derived.Test.YtaedgbkeiankcaaWN
import Derived.Test.YtaedgbkeiankcaaWEqStruct
import Derived.Test.YtaedgbkeiankcaaWRepsOne
import Derived.Test.YtaedgbkeiankcaaWGuard
import Derived.Test.YtaedgbkeiankcaaWNEv
import Derived.Test.YtaedgbkeiankcaaWMore
import Derived.Deep.RegionHeld3
import Derived.Deep.LoopGhost
import Derived.Test.YtaedgbkeiankcaaG64eb9ef8
import Derived.Test.YtaedgbkeiankcaaGca2bd920
import Derived.Test.YtaedgbkeiankcaaGff33e446
import Derived.Test.YtaedgbkeiankcaaG5fc94eef
import Derived.Test.YtaedgbkeiankcaaG4bcd870f
import Derived.Test.YtaedgbkeiankcaaG132b0fe3
import Derived.Test.YtaedgbkeiankcaaG0dc59620
import Derived.Test.YtaedgbkeiankcaaGc773388e
import Derived.Test.YtaedgbkeiankcaaG8ef4219a
import Derived.Test.YtaedgbkeiankcaaG41c11834
namespace Go.Proofs.Ytaedgbkeiankcaa.P
open Go.RowKit
open Go.Proofs.YtaedgbkeiankcaaW.PrintWords (Kd Aside0)
open Go.Proofs.YtaedgbkeiankcaaW.PrintMore (max_two)
attribute [local go_sem] str_leq str_geq max2_str max_two
set_option linter.unusedVariables false
theorem strCmp_any (a b : ByteArray) (w : World) : Calls Try.prog 52 #[.string a, .string b] w fun e w' => e = .returned (.int .i64 (Lib.compareBytes a.data.toList b.data.toList)) ∧ w = w' := by
  have h0 : ∀ w, Calls Try.prog 63 #[.string a, .string b] w fun e w' => e = .returned (.int .i64 (Lib.compareBytes a.data.toList b.data.toList)) ∧ w = w' := fun w => by
    go_enter Try.func63, Try.ntmps63
    go_wp2
    rw [run_callFunc_extern Try.func75 (by kernel_rfl) (by kernel_rfl) (by kernel_rfl) (e := Extern.BytealgCompare.compare) (by kernel_rfl), Lib.run_compareString]
    simp only [Result.andThen]
    rw [Oper.upon_value]
    go_wp2
    go_ret
    exact ⟨rfl, rfl⟩
  go_enter Try.func52, Try.ntmps52
  go_wp2_with (go_at_call 63; refine (h0 _).mono ?_; rintro e w' ⟨rfl, rfl⟩)
  go_ret
  exact ⟨rfl, rfl⟩
def encSp (x : S35) : List Value := [.string x.f0, .string x.f1]
instance inhSp : Inhabited S35 := ⟨z35⟩
theorem encSp_len (x : S35) : (encSp x).length = 2 := rfl
theorem encSp_one (x : S35) : ∀ v ∈ encSp x, v.oneCell' = true := by
  intro v hv
  simp [encSp] at hv
  rcases hv with rfl | rfl <;> rfl
theorem wideSp (l : List S35) : Wide 2 (l.map encSp) := wide_map encSp_len encSp_one l
theorem C_rawSp {w : World} {A : Option Addr} {l : List S35} (h : Kd.C k35 w A l.length l) : Reads w w.heap.size 2 A (l.map encSp).length (l.map encSp).flatten := by
  refine ⟨(wideSp l).len, fun hn => ?_⟩
  rw [List.length_map] at hn
  obtain ⟨ad, hA, hc⟩ := h.2.2 hn
  have hcell : ∀ j (hj : j < l.length) i u, (encSp l[j])[i]? = some u → w.cell? (ad.add (j * 2 + i)) = some u := by
    intro j hj i u hu
    obtain ⟨c, _, hK, hcc⟩ := hc j _ (List.getElem?_eq_getElem hj)
    obtain rfl := k35_open hK
    exact hcc i u hu
  refine ⟨ad, hA, ?_, fun j u hu => ?_⟩
  · have h0 := hcell 0 hn 0 _ rfl
    have := World.block_lt_of_cell? w _ h0
    rwa [block_of_add] at this
  · have hlt := (List.getElem?_eq_some_iff.1 hu).1
    rw [(wideSp l).len, List.length_map] at hlt
    have hj : j / 2 < l.length := by omega
    have e0 : j / 2 * 2 + j % 2 = j := by omega
    have := (wideSp l).at_ (j / 2) (by simpa using hj) (j % 2) (by omega) []
    rw [List.append_nil, e0, hu, List.getElem_map] at this
    have h1 := hcell (j / 2) hj (j % 2) u this.symm
    rwa [e0] at h1
theorem R_rawSp {w : World} {base : Nat} {v : Value} {l : List S35} (h : w.ownsRow base 35 2 v l.length (l.map encSp).flatten) : Kd.R k35 35 w base (fun _ => True) v l := by
  refine ⟨fun _ _ => trivial, (l.map encSp).flatten, h, ?_, fun j x hx => ?_⟩
  · rw [(wideSp l).len, List.length_map]; rfl
  · obtain ⟨hj, rfl⟩ := List.getElem?_eq_some_iff.1 hx
    have : (((l.map encSp).flatten.drop (j * 2)).take 2) = [.string l[j].f0, .string l[j].f1] := by
      apply List.ext_getElem?
      intro i
      rw [List.getElem?_take]
      by_cases hi : i < 2
      · rw [if_pos hi, List.getElem?_drop]
        have := (wideSp l).at_ j (by simpa using hj) i hi []
        rw [List.append_nil, List.getElem_map] at this
        rw [this]
        rfl
      · rw [if_neg hi]
        match i, hi with
        | i + 2, _ => rfl
    show Kd.M _ w base _ _ (((l.map encSp).flatten.drop (j * 2)).take 2)
    rw [this]
    exact k35_mkM _ _ _ _
def fullSp (s : S35) : Bool := s.f1.toList.isEmpty || Op.bytesLess s.f0.toList s.f1.toList
theorem empty_val (a b : ByteArray) : span_empty.f a b = some (!(fullSp ⟨a, b⟩)) := by
  unfold span_empty.f fullSp
  by_cases h : b.toList = []
  · rw [if_pos h]; simp [h]
  · rw [if_neg h]
    cases e : b.toList with
    | nil => exact absurd e h
    | cons x y => simp
def mostV (a b : ByteArray) : ByteArray := if a.toList = [] ∨ b.toList = [] then ⟨#[]⟩ else mxs a b
/-- does one begin where the last one has not ended? -/
def joins (last s : S35) : Bool := last.f1.toList.isEmpty || !(Op.bytesLess last.f1.toList s.f0.toList)
def mergeStep (out : List S35) (s : S35) : List S35 :=
  match out.getLast? with
  | some last => if joins last s = true then out.dropLast ++ [⟨last.f0, mostV last.f1 s.f1⟩] else out ++ [s]
  | none => [s]
def mergeAll (l : List S35) : List S35 := l.foldl mergeStep []
def ltFrom (a b : S35) : Bool := Op.bytesLess a.f0.toList b.f0.toList
def cmpSp (x y : S35) : Int := Lib.compareBytes x.f0.data.toList y.f0.data.toList
theorem toList_data (a : ByteArray) : a.data.toList = a.toList := (Lib.toList_data a).symm
theorem ltOf_cmpSp (x y : S35) : ltOf cmpSp x y = ltFrom x y := by
  unfold ltOf cmpSp ltFrom
  rw [compareBytes_lt, toList_data, toList_data]
theorem swoSp : Sort.SWO (ltOf cmpSp) where
  irrefl x := by rw [ltOf_cmpSp]; exact bytesLess_irrefl _
  trans x y z h1 h2 := by rw [ltOf_cmpSp] at *; exact bytesLess_trans _ _ _ h1 h2
  ntrans x y z h1 h2 := by rw [ltOf_cmpSp] at *; exact bytesLess_ntrans h1 h2
theorem cmp_cl (x y : S35) (W : World) : Calls Try.prog 51 #[.agg #[.string x.f0, .string x.f1], .agg #[.string y.f0, .string y.f1]] W fun e w' => e = .returned (.int .i64 (cmpSp x y)) ∧ ∃ q os', w' = Sort.grow (W.drewN q) os' := by
  have hcon := Lib.hid (fun W' => strCmp_any x.f0 y.f0 W')
  unfold cmpSp
  generalize Lib.compareBytes x.f0.data.toList y.f0.data.toList = r at hcon ⊢
  go_enter Try.func51, Try.ntmps51
  go_wp2_with (go_at_call 52; refine (hcon.out _).mono ?_; rintro e w' ⟨rfl, rfl⟩)
  go_ret
  exact ⟨rfl, 0, _, by rw [Sort.alloc_eq_grow, Sort.alloc_eq_grow, Sort.grow_grow]; rfl⟩
theorem empty_fn (l : List S35) (blk : Nat) (w : World) (p : List Value → Bool) (hp : ∀ x ∈ l, p (encSp x) = !(fullSp x)) : FnS Try.prog 49 #[] p (l.map encSp) blk w := by
  intro W y hW hy
  obtain ⟨x, hx, rfl⟩ := List.mem_map.1 hy
  rw [hp x hx]
  exact (span_empty.calls x.f0 x.f1 _ W (empty_val x.f0 x.f1)).mono fun e w' ⟨he, hb⟩ => ⟨he, hb⟩
/-- span.empty, as it answers of cells -/
def emptyP (c : List Value) : Bool := match c with
  | [.string a, .string b] => !(fullSp ⟨a, b⟩)
  | _ => false
theorem kept_empty (l : List S35) : keptR emptyP (l.map encSp) = (l.filter fullSp).map encSp := by
  unfold keptR
  rw [List.filter_map]
  congr 1
  apply List.filter_congr
  intro x _
  simp [emptyP, encSp]
theorem enters_emp : ∀ args w, (callFunc 49 args).run Try.prog w = .ok (.enter 49 args) w := enters_fn Try.func49 (by kernel_rfl) rfl
theorem enters_cmp : ∀ args w, (callFunc 51 args).run Try.prog w = .ok (.enter 51 args) w := enters_fn Try.func51 (by kernel_rfl) rfl
theorem most_any (a b : ByteArray) (w : World) : Calls Try.prog 53 #[.string a, .string b] w fun e w' => e = .returned (.string (mostV a b)) ∧ w = w' := by
  unfold mostV
  by_cases h1 : a.toList = []
  · have b1 : (a.toList == ([] : List UInt8)) = true := beq_iff_eq.2 h1
    rw [if_pos (.inl h1)]
    clear h1
    go_enter Try.func53, Try.ntmps53
    go_wp2
    go_ret
    exact ⟨rfl, rfl⟩
  · have b1 : (a.toList == ([] : List UInt8)) = false := beq_eq_false_iff_ne.2 h1
    by_cases h2 : b.toList = []
    · have b2 : (b.toList == ([] : List UInt8)) = true := beq_iff_eq.2 h2
      rw [if_pos (.inr h2)]
      clear h1 h2
      go_enter Try.func53, Try.ntmps53
      go_wp2
      go_ret
      exact ⟨rfl, rfl⟩
    · have b2 : (b.toList == ([] : List UInt8)) = false := beq_eq_false_iff_ne.2 h2
      rw [if_neg (by rintro (h | h); exact h1 h; exact h2 h)]
      clear h1 h2
      go_enter Try.func53, Try.ntmps53
      go_wp2
      go_ret
      exact ⟨rfl, rfl⟩
theorem sortSp_any (blk cap : Nat) (l : List S35) (rest : List Value) (w : World) (h : RowAt w blk 35 (l.map encSp) rest) (hsz : l.length < 4611686018427387904) :
    Calls Try.prog 50 #[.slice (some ⟨blk, 0, none⟩) l.length cap, .func (.func 51) #[] #[]] w fun e w' => e = .returned (.tuple #[]) ∧ ∃ l', l'.Perm l ∧ Rises ltFrom l' ∧ Chs (fun i => i = blk) w w' ∧ RowAt w' blk 35 (l'.map encSp) rest := by
  have hH := row_holds encSp_len encSp_one h
  have hcmp : CmpLays Try.prog 51 #[] encSp 2 cmpSp blk 0 l.toArray.size w := fun _ _ _ _ x y => cmp_cl x y _
  have hcon := AnyQ.slices_SortFunc laySortSp 2 Try.isAgg35 Try.sizeOf35 encSp encSp_len encSp_one cmpSp swoSp 51 #[] blk 0 cap l.toArray w enters_cmp hcmp hH h.lt (by simpa using hsz)
  refine Calls.mono (show Calls Try.prog 50 #[.slice (some ⟨blk, 0, none⟩) l.length cap, .func (.func 51) #[] #[]] w _ from hcon) ?_
  rintro e w' ⟨rfl, d', n, os, hp, hs, rfl⟩
  obtain ⟨hp1, hp2⟩ := perm_of _ _ hp
  have hs' := rises_of _ d' (by rw [hp2]; exact hs)
  refine ⟨rfl, d'.toList, by simpa using hp1, ?_, sort_chs _ _ _, sort_row encSp_len encSp_one h d' (by simpa using hp2) n os⟩
  unfold Rises at hs' ⊢
  exact hs'.imp fun {a b} hab => by rw [← ltOf_cmpSp]; exact hab
theorem sortO_sp (base : Nat) (v : Value) (l : List S35) (w : World) (h : w.ownsRow base 35 2 v l.length (l.map encSp).flatten) (hsz : l.length < 4611686018427387904) :
    Calls Try.prog 50 #[v, .func (.func 51) #[] #[]] w fun e w' => e = .returned (.tuple #[]) ∧ ∃ l', l'.Perm l ∧ Rises ltFrom l' ∧ ChsV v w w' ∧ w'.ownsRow base 35 2 v l'.length (l'.map encSp).flatten := by
  have hl : (l.map encSp).length = l.length := List.length_map _
  rw [← hl] at h
  rcases own_rowAt h (wideSp l) with ⟨rfl, e0⟩ | ⟨blk, cap, rest, rfl, hb, hlt, hc, hm, hrow, hs⟩
  · obtain rfl : l = [] := by simpa using e0
    refine Calls.mono (show Calls Try.prog 50 _ w _ from AnyF.slices_SortFunc_none laySortSp none 0 (.func (.func 51) #[] #[]) w) ?_
    rintro e w' ⟨rfl, rfl⟩
    exact ⟨rfl, [], List.Perm.refl _, List.Pairwise.nil, Chs.refl _ _, World.ownsRow_nil _ _ _ _⟩
  · rw [hl]
    refine (sortSp_any blk cap l rest w hrow hsz).mono ?_
    rintro e w' ⟨rfl, l', hp, hr, hx, hrow'⟩
    refine ⟨rfl, l', hp, hr, hx.mono (fun i _ e => by subst e; rfl), ?_⟩
    have hll := hp.length_eq
    have := rowAt_own hrow' (wideSp l') hb (by rw [List.length_map, hll]; simpa using hc) hm (by rw [(wideSp l').len, List.length_map, hll]; rw [(wideSp l).len, List.length_map] at hs; exact hs)
    rw [List.length_map] at this
    rw [hll] at this ⊢
    exact this
theorem new_reads {w : World} {t : TypeId} {k p : Nat} (cs : List Value) (hk : cs.length = k) (hp : w.heap.size = p) : Reads (w.alloc (.cells cs.toArray t)) (p + 1) k (some ⟨p, 0, none⟩) 1 cs := by
  subst hp
  exact ⟨by rw [hk, Nat.one_mul], fun _ => ⟨_, rfl, Nat.lt_succ_self _, fun j v hv => by
    have hb := Blk.new w t cs.toArray
    have : (⟨w.heap.size, 0, none⟩ : Addr).add j = ⟨w.heap.size, j, none⟩ := by unfold Addr.add; split <;> simp_all
    rw [this, hb.cell, List.getElem?_toArray, hv]⟩⟩
theorem mergeAll_take (l : List S35) (k : Nat) (hk : k < l.length) : mergeAll (l.take (k + 1)) = mergeStep (mergeAll (l.take k)) l[k] := by
  unfold mergeAll
  rw [List.take_succ_eq_append_getElem hk, List.foldl_append, List.foldl_cons, List.foldl_nil]
theorem mergeStep_len (out : List S35) (s : S35) : (mergeStep out s).length ≤ out.length + 1 := by
  unfold mergeStep
  cases h : out.getLast? with
  | none => simp
  | some a =>
    have : out ≠ [] := by rintro rfl; simp at h
    have := List.length_pos_iff.2 this
    dsimp only
    split
    · simp only [List.length_append, List.length_dropLast, List.length_cons, List.length_nil]; omega
    · simp
theorem mergeAll_len (l : List S35) (k : Nat) : (mergeAll (l.take k)).length ≤ k := by
  induction k with
  | zero => simp [mergeAll]
  | succ k ih =>
    by_cases h : k < l.length
    · rw [mergeAll_take l k h]
      have := mergeStep_len (mergeAll (l.take k)) l[k]
      omega
    · rw [List.take_of_length_le (by omega)] at ih ⊢
      omega
theorem set_last (out : List S35) (lf lt m : ByteArray) (h : out.getLast? = some (S35.mk lf lt)) : ((out.map encSp).flatten).set ((out.length - 1) * 2 + 1) (.string m) = ((out.dropLast ++ [S35.mk lf m]).map encSp).flatten := by
  obtain ⟨D, rfl⟩ := List.getLast?_eq_some_iff.1 h
  have hw := (wideSp D).len
  rw [List.length_map] at hw
  have hd : (D ++ [S35.mk lf lt]).length - 1 = D.length := by simp
  rw [hd, ← hw, List.dropLast_concat, List.map_append, List.map_append, List.flatten_append, List.flatten_append, List.set_append_right _ _ (by omega)]
  simp [encSp]
theorem flip_w {P : Program} {f : FuncId} {args : Array Value} {w : World} {v : Value} (h : Calls P f args w fun e w' => e = .returned v ∧ w = w') : Calls P f args w fun e w' => e = .returned v ∧ w' = w := h.mono fun _ _ ⟨he, hw⟩ => ⟨he, hw.symm⟩
def UnionPost (l0 : List S35) (w : World) (e : Ending) (w' : World) : Prop := ∃ v0 l', e = .returned v0 ∧ l'.Perm (l0.filter fullSp) ∧ Rises ltFrom l' ∧ Kd.R k35 35 w' w.heap.size (fun _ => True) v0 (mergeAll l') ∧ Ext w w'
set_option maxHeartbeats 8000000 in
set_option maxRecDepth 100000 in
theorem union_walk (A0 : Option Addr) (c0 : Nat) (l0 : List S35) (w : World) (hr0 : Kd.C k35 w A0 l0.length l0) (hc0 : l0.length ≤ c0) (hl : l0.length < 4398046511104) :
    Calls Try.prog 35 #[.slice A0 l0.length c0] w (UnionPost l0 w) := by
  have hclone := cloneR_sp A0 c0 w.heap.size (l0.map encSp) w (C_rawSp hr0) (Nat.le_refl _) (wideSp _) (by rw [List.length_map]; omega)
  rw [List.length_map] at hclone
  have HCl := Lib.hid hclone
  clear hclone hr0
  have hzv : ∀ w, (zeroValue 35).run Try.prog w = .ok (.agg [Value.string ⟨#[]⟩, Value.string ⟨#[]⟩].toArray) w := fun w => by kernel_rfl
  have HZ := Lib.hid hzv
  clear hzv
  go_enter Try.func35, Try.ntmps35
  go_wp2_with fail
  refine HCl.out.mono ?_
  rintro e w1 ⟨v1, rfl, hown1, hx1⟩
  clear HCl
  have hdel := Lib.hid (deleteO_sp 49 #[] emptyP enters_emp w.heap.size v1 (l0.map encSp) w1 [Value.string ⟨#[]⟩, Value.string ⟨#[]⟩] HZ.out rfl (by simp [Value.oneCell']) (by rw [List.length_map]; exact hown1) (wideSp _) (fun blk _ => empty_fn l0 blk w1 emptyP (fun x _ => rfl)))
  have hb1 := Lib.hid (own_lt hown1)
  have hbb1 : ∀ i, v1.ownBlock = some i → w.heap.size ≤ i := fun i hi => (hown1.lt i hi).1
  have HBB1 := Lib.hid hbb1
  clear hown1 hbb1
  go_wp2_with fail
  refine hdel.out.mono ?_
  rintro e w2 ⟨v2, rfl, hown2, hx2, hat⟩
  rw [kept_empty, List.length_map] at hown2
  have HX2 := Lib.hid (hx1.chs hx2 (fun i hi e => by have := HBB1.out i e; omega))
  have hlen2 : (l0.filter fullSp).length ≤ l0.length := List.length_filter_le _ _
  have hsort := Lib.hid (sortO_sp w.heap.size v2 (l0.filter fullSp) w2 hown2 (by omega))
  have HBB2 := Lib.hid (fun i (hi : v2.ownBlock = some i) => (hown2.lt i hi).1)
  clear hdel hown2 hx2 hat hx1 hb1 HBB1 HZ
  go_wp2_with fail
  refine hsort.out.mono ?_
  rintro e w3 ⟨rfl, l', hperm, hrise, hx3, hown3⟩
  have HX3 := Lib.hid (HX2.out.chs hx3 (fun i hi e => by have := HBB2.out i e; omega))
  have hlen' : l'.length ≤ l0.length := by rw [hperm.length_eq]; exact hlen2
  have HP := Lib.hid hperm
  have HRi := Lib.hid hrise
  obtain ⟨A', c', rfl⟩ := own_slice hown3
  have HR3 := Lib.hid (Reads.of_own hown3)
  obtain ⟨i0, hi0, hz0, hz1, hz2⟩ := info_parts info_sp
  have HI0 := Lib.hid hi0
  have HZ0 := Lib.hid hz0
  have HZ1 := Lib.hid hz1
  have HZ2 := Lib.hid hz2
  clear hsort HX2 HBB2 hx3 hown3 hperm hrise hi0 hz0 hz1 hz2 hlen2
  go_wp2
  go_loopw [2, 13] (fun o i wr => ∃ k : Nat, k ≤ l'.length ∧ i = .int .i64 k ∧ Hid (wr.ownsRow w3.heap.size 35 2 o (mergeAll (l'.take k)).length ((mergeAll (l'.take k)).map encSp).flatten) ∧ Hid (Ext w3 wr)) (fun _ i _ => l'.length - (intOf i).toNat)
  case atStart => exact ⟨0, by omega, rfl, Lib.hid (World.ownsRow_nil _ _ _ _), Lib.hid (Ext.refl _)⟩
  case round =>
    obtain ⟨k, hk, rfl, HO, HX⟩ := hrel
    by_cases hlt : k < l'.length
    · have hltz : (k : Int) < (l'.length : Int) := by omega
      obtain ⟨ad, rfl, had, hcell⟩ := HR3.out.2 (by omega)
      have hml := mergeAll_len l' k
      have HT := Lib.hid (mergeAll_take l' k hlt)
      have hcl : ∀ i u, (encSp l'[k])[i]? = some u → wr.cell? (ad.add (k * 2 + i)) = some u := fun i u hu => by
        have hi : i < 2 := (List.getElem?_eq_some_iff.1 hu).1
        have h0 := hcell (k * 2 + i) u (by have := (wideSp l').at_ k (by simpa using hlt) i hi []; rw [List.append_nil, List.getElem_map] at this; rw [this]; exact hu)
        rw [← h0]
        exact HX.out.below.cell (by rw [block_of_add]; exact had)
      have f0 := hcl 0 _ rfl
      have f1 := hcl 1 _ rfl
      rw [Nat.add_zero] at f0
      rw [add_plus _ _ 1 (by omega)] at f1
      generalize hx : l'[k] = x at *
      generalize mergeAll (l'.take k) = out at *
      obtain ⟨xf, xt⟩ := x
      clear hx hcl hcell
      dsimp only at f0 f1
      have hbl := HX.out.below.size
      cases hg : out.getLast? with
      | none =>
        obtain rfl : out = [] := by simpa using hg
        have HO' := HO.out
        obtain ⟨A2, c2, rfl⟩ := own_slice HO'
        clear hg HO'
        go_wp2
        go_quiet (fail)
        go_wp2_with (at_builtin; go_loud (refine wpList_append_any _ rfl (.tmp 52) (.tmp 54) _ rfl w3.heap.size 35 i0 _ 2 32 Try.underlying30 HI0.out HZ0.out HZ1.out HZ2.out (by simp [Value.cells]) (by omega) _ 0 [] rfl (own_ext HO.out ((((Ext.refl wr).alloc _).drewN _).alloc _)) _ _ 1 _ [.string xf, .string xt] rfl (new_reads [.string xf, .string xt] rfl (by simp)) (by simp [Value.oneCell']) (by simp only [maxLen]; omega) (by omega) (by simp; omega) ?_); intro v4 w4 hown4 hg4 hat4)
        have HO4 := Lib.hid hown4
        have HX4 := Lib.hid (Chs.to_ext (S := fun _ => False) (Chs.grown (.of_ext (((HX.out.alloc _).drewN _).alloc _)) hg4 (fun i hi => .inr (HO.out.lt i hi).1)) (fun _ _ e => e))
        clear hown4 hg4 hat4
        go_roundw
        case rel =>
          refine ⟨k + 1, by omega, by go_num, ?_, HX4⟩
          rw [HT.out]
          exact Lib.hid (by simpa [mergeStep, encSp] using HO4.out)
        case measure => simp [intOf]; omega
      | some last =>
        have hpos : 0 < out.length := by
          cases out with
          | nil => simp at hg
          | cons a b => simp
        obtain ⟨g, c2, rfl, hgb, hgl, _⟩ := own_some HO.out hpos
        obtain ⟨lf, lt⟩ := last
        have hlast : out[out.length - 1]'(by omega) = ⟨lf, lt⟩ := by
          rw [List.getLast?_eq_getElem?, List.getElem?_eq_getElem (by omega)] at hg
          exact Option.some.inj hg
        have HG := Lib.hid hg
        have hn1 : IntKind.i64.wrap ((out.length : Int) - 1) = ((out.length - 1 : Nat) : Int) := by rw [IntKind.wrap_i64]; omega
        have hge : decide ((0 : Int) ≤ ((out.length - 1 : Nat) : Int)) = true := by simp
        have hin : ((out.length - 1 : Nat) : Int) < (out.length : Int) := by omega
        have hread := Reads.of_own HO.out
        rw [show out.length = (out.map encSp).length by simp] at hread
        have hcO : ∀ i u, (encSp ⟨lf, lt⟩)[i]? = some u → wr.cell? ⟨g, (out.length - 1) * 2 + i, none⟩ = some u := fun i u hu => by
          have hi : i < 2 := (List.getElem?_eq_some_iff.1 hu).1
          obtain ⟨ad2, e2, _, hc2⟩ := hread.2 (by simpa using hpos)
          injection e2 with e2
          subst e2
          have h0 := hc2 ((out.length - 1) * 2 + i) u (by
            have := (wideSp out).at_ (out.length - 1) (by simp; omega) i hi []
            rw [List.append_nil, List.getElem_map, hlast] at this
            rw [this]; exact hu)
          have e3 : (⟨g, 0, none⟩ : Addr).add ((out.length - 1) * 2 + i) = ⟨g, (out.length - 1) * 2 + i, none⟩ := by unfold Addr.add; split <;> simp_all
          rwa [e3] at h0
        have hc0 : wr.cell? ⟨g, (out.length - 1) * 2, none⟩ = some (.string lf) := hcO 0 _ rfl
        have hc1 : wr.cell? ⟨g, (out.length - 1) * 2 + 1, none⟩ = some (.string lt) := hcO 1 _ rfl
        have hz1 : wr.frozen? ⟨g, (out.length - 1) * 2 + 1, none⟩ = false := own_frozen HO.out _
        clear hg hread hlast hcO
        cases hj : joins ⟨lf, lt⟩ ⟨xf, xt⟩ with
        | true =>
          have hstep : mergeStep out ⟨xf, xt⟩ = out.dropLast ++ [⟨lf, mostV lt xt⟩] := by unfold mergeStep; rw [HG.out]; dsimp only; rw [if_pos hj]
          have HS := Lib.hid hstep
          have HSL := Lib.hid (set_last out lf lt (mostV lt xt) HG.out)
          clear hstep
          have hnb : g ≠ wr.heap.size := by omega
          have hgw : w3.heap.size ≤ g := hgb
          by_cases h1 : lt.toList = []
          all_goals
            first
              | have b1 : (lt.toList == ([] : List UInt8)) = true := beq_iff_eq.2 h1
              | (have b1 : (lt.toList == ([] : List UInt8)) = false := beq_eq_false_iff_ne.2 h1
                 have b2 : Op.bytesLess lt.toList xf.toList = false := by
                   unfold joins at hj
                   dsimp only at hj
                   cases e : lt.toList with
                   | nil => exact absurd e h1
                   | cons a b => rw [e] at hj; simpa using hj)
            clear hj h1
            go_wp2
            go_quiet (fail)
            go_wp2
            refine wp_region_still_tail 12 (by kernel_rfl) (by kernel_rfl) ?_
            simp only [List.take_succ_cons, List.take_zero, List.drop_succ_cons, List.drop_zero, World.drew_eq]
            repeat still_step
            still_call (flip_w (most_any _ _ _))
            repeat still_step
            try refine wpStill_nil ?_
            go_wp2
            go_roundw
            case rel =>
              refine ⟨k + 1, by omega, by go_num, ?_, Lib.hid (Chs.to_ext (S := fun _ => False) (Chs.setCell (Chs.of_ext ?_) (p := ⟨g, (out.length - 1) * 2 + 1, none⟩) (.inr hgw) _) (fun _ _ e => e))⟩
              · rw [HT.out, HS.out]
                have hlen : (out.dropLast ++ [S35.mk lf (mostV lt xt)]).length = out.length := by rw [List.length_append, List.length_dropLast]; simp; omega
                rw [hlen, ← HSL.out]
                refine Lib.hid (own_set (own_ext HO.out ?_) _ (by omega) _)
                exact (by repeat (first | exact Ext.refl _ | (with_reducible refine Ext.alloc ?_ _) | (with_reducible refine Ext.drewN ?_ _) | (with_reducible refine Ext.drew ?_)))
              · exact (by repeat (first | exact HX.out | (with_reducible refine Ext.alloc ?_ _) | (with_reducible refine Ext.drewN ?_ _) | (with_reducible refine Ext.drew ?_)))
            case measure => simp [intOf]; omega
        | false =>
          have hstep : mergeStep out ⟨xf, xt⟩ = out ++ [⟨xf, xt⟩] := by unfold mergeStep; rw [HG.out]; dsimp only; rw [if_neg (by rw [hj]; decide)]
          unfold joins at hj
          dsimp only at hj
          simp only [Bool.or_eq_false_iff, Bool.not_eq_false'] at hj
          obtain ⟨hj1, hj2⟩ := hj
          have b1 : (lt.toList == ([] : List UInt8)) = false := by cases e : lt.toList with
            | nil => rw [e] at hj1; cases hj1
            | cons a b => rfl
          clear hj1
          have HS := Lib.hid hstep
          clear hstep
          have hnb : g ≠ wr.heap.size := by omega
          go_wp2
          go_quiet (fail)
          go_wp2_with (at_builtin; go_loud (refine wpList_append_any _ rfl (.tmp 52) (.tmp 54) _ rfl w3.heap.size 35 i0 _ 2 32 Try.underlying30 HI0.out HZ0.out HZ1.out HZ2.out (by simp [Value.cells]) (by omega) _ out.length (out.map encSp).flatten rfl (own_ext HO.out ((((Ext.refl wr).alloc _).drewN _).alloc _)) _ _ 1 _ [.string xf, .string xt] rfl (new_reads [.string xf, .string xt] rfl (by simp)) (by simp [Value.oneCell']) (by simp only [maxLen]; omega) (by omega) (by simp; omega) ?_); intro v4 w4 hown4 hg4 hat4)
          have HO4 := Lib.hid hown4
          have HX4 := Lib.hid (Chs.to_ext (S := fun _ => False) (Chs.grown (.of_ext (((HX.out.alloc _).drewN _).alloc _)) hg4 (fun i hi => .inr (HO.out.lt i hi).1)) (fun _ _ e => e))
          clear hown4 hg4 hat4
          go_roundw
          case rel =>
            refine ⟨k + 1, by omega, by go_num, ?_, HX4⟩
            rw [HT.out, HS.out]
            exact Lib.hid (by simpa [encSp] using HO4.out)
          case measure => simp [intOf]; omega
    · obtain rfl : k = l'.length := by omega
      rw [List.take_length] at HO
      have hltz : ¬ (l'.length : Int) < (l'.length : Int) := by omega
      go_wp2
      go_ret
      exact ⟨_, l', rfl, HP.out, HRi.out, Kd.R_lower (R_rawSp HO.out) HX3.out.size, HX3.out.trans HX.out⟩
end Go.Proofs.Ytaedgbkeiankcaa.P
namespace Go.Proofs.Ytaedgbkeiankcaa.P
open Go.RowKit
open Go.Proofs.YtaedgbkeiankcaaW.PrintWords (Kd Aside0 cut_from)
open Go.Proofs.YtaedgbkeiankcaaW.PrintMore (max_two)
attribute [local go_sem] str_leq str_geq max2_str max_two
set_option linter.unusedVariables false
def leastV (a b : ByteArray) : ByteArray := if a.toList = [] then b else if b.toList = [] then a else if Op.bytesLess b.toList a.toList = true then b else a
theorem least_any (a b : ByteArray) (w : World) : Calls Try.prog 64 #[.string a, .string b] w fun e w' => e = .returned (.string (leastV a b)) ∧ w = w' := by
  unfold leastV
  by_cases h1 : a.toList = []
  · have b1 : (a.toList == ([] : List UInt8)) = true := beq_iff_eq.2 h1
    rw [if_pos h1]
    clear h1
    go_enter Try.func64, Try.ntmps64
    go_wp2
    go_ret
    exact ⟨rfl, rfl⟩
  · have b1 : (a.toList == ([] : List UInt8)) = false := beq_eq_false_iff_ne.2 h1
    rw [if_neg h1]
    clear h1
    by_cases h2 : b.toList = []
    · have b2 : (b.toList == ([] : List UInt8)) = true := beq_iff_eq.2 h2
      have b3 : (b.toList != ([] : List UInt8)) = false := by rw [h2]; rfl
      rw [if_pos h2]
      clear h2
      go_enter Try.func64, Try.ntmps64
      go_wp2
      go_ret
      exact ⟨rfl, rfl⟩
    · have b2 : (b.toList == ([] : List UInt8)) = false := beq_eq_false_iff_ne.2 h2
      have b3 : (b.toList != ([] : List UInt8)) = true := bne_iff_ne.2 h2
      rw [if_neg h2]
      clear h2
      by_cases h3 : Op.bytesLess b.toList a.toList = true
      · rw [if_pos h3]
        go_enter Try.func64, Try.ntmps64
        go_wp2
        go_ret
        exact ⟨rfl, rfl⟩
      · rw [if_neg h3]
        have h3' : Op.bytesLess b.toList a.toList = false := by simpa using h3
        clear h3
        go_enter Try.func64, Try.ntmps64
        go_wp2
        go_ret
        exact ⟨rfl, rfl⟩
def bothV (s t : S35) : S35 := ⟨mxs s.f0 t.f0, leastV s.f1 t.f1⟩
def cutN : Nat → List S35 → List S35 → List S35
  | n + 1, s :: a, t :: b => (if fullSp (bothV s t) = true then [bothV s t] else []) ++ (if (bothV s t).f1.toList = s.f1.toList then cutN n a (t :: b) else cutN n (s :: a) b)
  | _, _, _ => []
theorem cutN_nil (n : Nat) (b : List S35) : cutN n [] b = [] := by cases n <;> rfl
theorem cutN_nil2 (n : Nat) (a : List S35) : cutN n a [] = [] := by cases n <;> cases a <;> rfl
def CutPost (r : List S35) (w : World) (e : Ending) (w' : World) : Prop := ∃ v0, e = .returned v0 ∧ Kd.R k35 35 w' w.heap.size (fun _ => True) v0 r ∧ Ext w w'
theorem head_cells {w wr : World} {A : Option Addr} {s : S35} {a : List S35} (h : Kd.C k35 w A (s :: a).length (s :: a)) (hx : Ext w wr) :
    ∃ b o, A = some ⟨b, o, none⟩ ∧ b < w.heap.size ∧ wr.cell? ⟨b, o, none⟩ = some (.string s.f0) ∧ wr.cell? ⟨b, o + 1, none⟩ = some (.string s.f1) := by
  have hr := C_rawSp h
  obtain ⟨⟨b, o, spot⟩, hA, hb, hc⟩ := hr.2 (by simp)
  have h0 := hc 0 (.string s.f0) rfl
  have h1 := hc 1 (.string s.f1) rfl
  have e0 : (⟨b, o, spot⟩ : Addr).add 0 = ⟨b, o, spot⟩ := by simp [Addr.add]
  rw [e0] at h0
  have hs : spot = none := by simpa using World.cell?_spot h0
  subst hs
  have e1 : (⟨b, o, none⟩ : Addr).add 1 = ⟨b, o + 1, none⟩ := by simp [Addr.add]
  rw [e1] at h1
  exact ⟨b, o, hA, hb, (hx.below.cell (p := ⟨b, o, none⟩) hb).trans h0, (hx.below.cell (p := ⟨b, o + 1, none⟩) hb).trans h1⟩
theorem tail_C {w : World} {A : Option Addr} {c : Nat} {s : S35} {a : List S35} (h : Kd.C k35 w A (s :: a).length (s :: a)) (hc : (s :: a).length ≤ c) :
    ∃ A', Kd.C k35 w A' a.length a ∧ ∀ W : World, (Instr.slice 30 (.slice A (s :: a).length c) (some (.int .i64 1)) none none).run Try.prog W = .ok (.slice A' a.length (c - 1)) W := by
  obtain ⟨i0, hi0, hz0, hz1, hz2⟩ := info_parts info_sp
  have h2 := Kd.C_drop (m := 1) h (by simp) hc
  refine ⟨_, by simpa using h2, fun W => ?_⟩
  have := cut_from (P := Try.prog) 30 35 .i64 Try.underlying30 hi0 2 hz1 A (s :: a).length c 1 (by omega) (by simp; omega) W
  rw [this]
  simp
  rfl
set_option maxHeartbeats 8000000 in
set_option maxRecDepth 100000 in
theorem cut_walk (A0 : Option Addr) (c0 : Nat) (l0 : List S35) (A1 : Option Addr) (c1 : Nat) (l1 : List S35) (w : World) (hr0 : Kd.C k35 w A0 l0.length l0) (hc0 : l0.length ≤ c0) (hr1 : Kd.C k35 w A1 l1.length l1) (hc1 : l1.length ≤ c1) (hl : l0.length + l1.length < 4398046511104) :
    Calls Try.prog 59 #[.slice A0 l0.length c0, .slice A1 l1.length c1] w (CutPost (cutN (l0.length + l1.length) l0 l1) w) := by
  have HR0 := Lib.hid hr0
  have HR1 := Lib.hid hr1
  obtain ⟨R, hR⟩ : ∃ R, R = cutN (l0.length + l1.length) l0 l1 := ⟨_, rfl⟩
  rw [← hR]
  have HRR := Lib.hid hR
  clear hr0 hr1 hR
  obtain ⟨i0, hi0, hz0, hz1, hz2⟩ := info_parts info_sp
  have HI0 := Lib.hid hi0
  have HZ0 := Lib.hid hz0
  have HZ1 := Lib.hid hz1
  have HZ2 := Lib.hid hz2
  clear hi0 hz0 hz1 hz2
  go_enter Try.func59, Try.ntmps59
  go_wp2
  go_loopg [0, 1, 4] (l0.length + l1.length) (fun gg v0 v1 v4 wr => ∃ (A : Option Addr) (c : Nat) (a : List S35) (B : Option Addr) (d : Nat) (b out : List S35), v0 = .slice A a.length c ∧ v1 = .slice B b.length d ∧ a.length ≤ c ∧ b.length ≤ d ∧ a.length + b.length ≤ gg ∧ out.length + a.length + b.length ≤ l0.length + l1.length ∧
    Hid (Kd.C k35 w A a.length a) ∧ Hid (Kd.C k35 w B b.length b) ∧ Hid (wr.ownsRow w.heap.size 35 2 v4 out.length (out.map encSp).flatten) ∧ Hid (Ext w wr) ∧ Hid (R = out ++ cutN (a.length + b.length) a b))
  case atStart => exact ⟨A0, c0, l0, A1, c1, l1, [], rfl, rfl, hc0, hc1, Nat.le_refl _, by simp, HR0, HR1, Lib.hid (World.ownsRow_nil _ _ _ _), Lib.hid (Ext.refl _), Lib.hid HRR.out⟩
  case round =>
    obtain ⟨A, c, a, B, d, b, out, rfl, rfl, hac, hbd, hgg, hout, HA, HB, HO, HX, HE⟩ := hrel
    clear HR0 HR1 HRR
    cases a with
    | nil =>
      rw [cutN_nil, List.append_nil] at HE
      have hn0 : ¬ ((([] : List S35).length : Int) > 0) := by simp
      go_wp2
      go_ret
      refine ⟨_, rfl, ?_, HX.out⟩
      rw [HE.out]
      exact R_rawSp HO.out
    | cons s a =>
      have hn1 : (0 : Int) < ((a.length + 1 : Nat) : Int) := by omega
      have hn1' : (0 : Nat) < a.length + 1 := by omega
      cases b with
      | nil =>
        rw [cutN_nil2, List.append_nil] at HE
        go_wp2
        go_ret
        refine ⟨_, rfl, ?_, HX.out⟩
        rw [HE.out]
        exact R_rawSp HO.out
      | cons t b =>
        have hn2 : (0 : Int) < ((b.length + 1 : Nat) : Int) := by omega
        have hn2' : (0 : Nat) < b.length + 1 := by omega
        obtain ⟨b1, o1, rfl, hb1, e0, e1⟩ := head_cells HA.out HX.out
        obtain ⟨b2, o2, rfl, hb2, e2, e3⟩ := head_cells HB.out HX.out
        obtain ⟨A', HA', hsA⟩ := tail_C HA.out hac
        obtain ⟨B', HB', hsB⟩ := tail_C HB.out hbd
        have HA2 := Lib.hid HA'
        have HB2 := Lib.hid HB'
        clear HA' HB'
        obtain ⟨sf, st⟩ := s
        obtain ⟨tf, tt⟩ := t
        dsimp only at e0 e1 e2 e3
        have hsz := HX.out.size
        simp only [List.length_cons]
        go_upto_region 2 with (fail)
        go_cut [5] (fun v5 wc => v5 = .pointer (some ⟨wr.heap.size, 0, none⟩) ∧ Hid (wc = (wr.alloc (.cells #[.string (mxs sf tf), .string (leastV st tt)] 35)).drew))
        case first =>
          go_region_held3 (fun w' => w'.cell? ⟨b1, o1, none⟩ = some (.string sf) ∧ w'.cell? ⟨b1, o1 + 1, none⟩ = some (.string st) ∧ w'.cell? ⟨b2, o2, none⟩ = some (.string tf) ∧ w'.cell? ⟨b2, o2 + 1, none⟩ = some (.string tt)) (go_keep) ((go_at_call 64; refine (least_any _ _ _).mono ?_; rintro e w' ⟨rfl, rfl⟩))
          all_goals (go_wp2; go_meet; case rel => exact ⟨rfl, Lib.hid rfl⟩)
        case rest =>
          obtain ⟨rfl, HW⟩ := hcut
          have HXc : Hid (Ext wr wc) := Lib.hid (by rw [HW.out]; exact ((Ext.refl wr).alloc _).drew)
          have hk0 : wc.cell? ⟨wr.heap.size, 0, none⟩ = some (.string (mxs sf tf)) := by rw [HW.out]; simp
          have hk1 : wc.cell? ⟨wr.heap.size, 1, none⟩ = some (.string (leastV st tt)) := by rw [HW.out]; simp
          have hkl : wr.heap.size < wc.heap.size := by rw [HW.out]; simp
          have q1 := HXc.out.below.cell (p := ⟨b1, o1 + 1, none⟩) (by show b1 < _; omega) |>.trans e1
          have q3 := HXc.out.below.cell (p := ⟨b2, o2 + 1, none⟩) (by show b2 < _; omega) |>.trans e3
          clear HW e0 e1 e2 e3
          have hcut2 : cutN (a.length + 1 + (b.length + 1)) (⟨sf, st⟩ :: a) (⟨tf, tt⟩ :: b) = (if fullSp ⟨mxs sf tf, leastV st tt⟩ = true then [⟨mxs sf tf, leastV st tt⟩] else []) ++ (if (leastV st tt).toList = st.toList then cutN (a.length + 1 + b.length) a (⟨tf, tt⟩ :: b) else cutN (a.length + 1 + b.length) (⟨sf, st⟩ :: a) b) := rfl
          have hE := HE.out
          simp only [List.length_cons] at hE hac hbd hgg hout hsA hsB
          rw [hcut2] at hE
          have HE2 := Lib.hid hE
          clear HE hcut2 hE
          have hemp := Lib.hid (span_empty.calls (mxs sf tf) (leastV st tt) _ wc (empty_val _ _))
          generalize mxs sf tf = m0 at *
          generalize leastV st tt = m1 at *
          have hcs := HX.out.size
          by_cases hst : m1.toList = st.toList
          all_goals
            cases hf : fullSp ⟨m0, m1⟩ with
            | true =>
              rw [hf] at hemp
              have HE3 := HE2.out
              first
                | (rw [if_pos hst, if_pos hf] at HE3)
                | (rw [if_neg hst, if_pos hf] at HE3)
              have HE4 := Lib.hid HE3
              clear HE3 HE2 hf
              first
                | (have bst : (m1.toList == st.toList) = true := beq_iff_eq.2 hst)
                | (have bst : (m1.toList == st.toList) = false := beq_eq_false_iff_ne.2 hst)
              clear hst
              go_upto_region 5 with (first
                | (go_at_call 49; refine hemp.out.mono ?_; rintro e w5 ⟨rfl, hb5⟩; have hx5 : Hid (Ext wc w5) := Lib.hid hb5; have hs5 := hb5.size; have k0 := hb5.cell (p := ⟨wr.heap.size, 0, none⟩) hkl |>.trans hk0; have k1 := hb5.cell (p := ⟨wr.heap.size, 1, none⟩) hkl |>.trans hk1; clear hb5)
                | (at_builtin; go_loud ((refine wpList_append_any _ rfl (.tmp 36) (.tmp 38) _ rfl w.heap.size 35 i0 _ 2 32 Try.underlying30 HI0.out HZ0.out HZ1.out HZ2.out (by simp [Value.cells]) (by omega) _ out.length (out.map encSp).flatten rfl (own_ext HO.out ((HXc.out.trans hx5.out).alloc _)) _ _ 1 _ [.string m0, .string m1] rfl (new_reads [.string m0, .string m1] rfl (by simp)) (by simp [Value.oneCell']) (by simp only [maxLen]; omega) (by omega) (by simp; omega) ?_); intro v6 w6 hown6 hg6 hat6; have HC6 : Hid (Chs (fun i => u4.ownBlock = some i) wr w6) := Lib.hid (Chs.grown (.of_ext ((HXc.out.trans hx5.out).alloc _)) hg6 (fun i hi => .inl hi)); have HC7 := Lib.hid (Chs.grown (S := fun i => u4.ownBlock = some i) (.of_ext ((Ext.refl w5).alloc _)) hg6 (fun i hi => .inl hi)); have HO6 := Lib.hid hown6; clear hown6 hg6 hat6)))
              have hlt := HO.out.lt
              have k2 : w6.cell? ⟨wr.heap.size, 1, none⟩ = some (.string m1) := HC7.out.cell (p := ⟨wr.heap.size, 1, none⟩) (by show wr.heap.size < _; omega) (fun e => by have := (hlt wr.heap.size e).2; omega) k1
              have q2 : w6.cell? ⟨b1, o1 + 1, none⟩ = some (.string st) := HC7.out.cell (p := ⟨b1, o1 + 1, none⟩) (by show b1 < _; omega) (fun e => by have := (hlt b1 e).1; omega) (hx5.out.below.cell (p := ⟨b1, o1 + 1, none⟩) (by show b1 < _; omega) |>.trans q1)
              have HX6 := Lib.hid (HX.out.chs HC6.out (fun i hi e => by have := (hlt _ e).1; omega))
              have HO6' : Hid (w6.ownsRow w.heap.size 35 2 v6 (out ++ [S35.mk m0 m1]).length ((out ++ [S35.mk m0 m1]).map encSp).flatten) := Lib.hid (by simpa [encSp] using HO6.out)
              clear k0 k1 hlt HC6 HC7 HO6 hx5 q1 q3 hk0 hk1
              go_quiet (fail)
              go_wp2
              first
                | (go_roundg (a.length + (b.length + 1))
                   case measure => omega
                   case rel => exact ⟨A', c - 1, a, some ⟨b2, o2, none⟩, d, S35.mk tf tt :: b, out ++ [S35.mk m0 m1], rfl, rfl, by omega, by simp; omega, Nat.le_refl _, by simp; omega, HA2, HB, (Lib.hid (own_ext HO6'.out ((Ext.refl _).drewN _))), (Lib.hid (HX6.out.drewN _)), Lib.hid (by rw [HE4.out, show a.length + 1 + b.length = a.length + (b.length + 1) by omega]; simp)⟩)
                | (go_roundg (a.length + 1 + b.length)
                   case measure => omega
                   case rel => exact ⟨some ⟨b1, o1, none⟩, c, S35.mk sf st :: a, B', d - 1, b, out ++ [S35.mk m0 m1], rfl, rfl, by simp; omega, by omega, Nat.le_refl _, by simp; omega, HA, HB2, (Lib.hid (own_ext HO6'.out ((Ext.refl _).drewN _))), (Lib.hid (HX6.out.drewN _)), Lib.hid (by rw [HE4.out]; simp)⟩)
            | false =>
              rw [hf] at hemp
              have HE3 := HE2.out
              first
                | (rw [if_pos hst, if_neg (by rw [hf]; decide)] at HE3)
                | (rw [if_neg hst, if_neg (by rw [hf]; decide)] at HE3)
              have HE4 := Lib.hid HE3
              clear HE3 HE2 hf
              first
                | (have bst : (m1.toList == st.toList) = true := beq_iff_eq.2 hst)
                | (have bst : (m1.toList == st.toList) = false := beq_eq_false_iff_ne.2 hst)
              clear hst
              go_upto_region 5 with (go_at_call 49; refine hemp.out.mono ?_; rintro e w5 ⟨rfl, hb5⟩; have hx5 : Hid (Ext wc w5) := Lib.hid hb5; have hs5 := hb5.size; have k1 := hb5.cell (p := ⟨wr.heap.size, 1, none⟩) hkl |>.trans hk1; clear hb5)
              have q2 : w5.cell? ⟨b1, o1 + 1, none⟩ = some (.string st) := hx5.out.below.cell (p := ⟨b1, o1 + 1, none⟩) (by show b1 < _; omega) |>.trans q1
              have HX6 := Lib.hid ((HX.out.trans HXc.out).trans hx5.out)
              have HO6' := Lib.hid (own_ext HO.out (HXc.out.trans hx5.out))
              clear hx5 q1 q3 hk0 hk1
              go_quiet (fail)
              go_wp2
              first
                | (go_roundg (a.length + (b.length + 1))
                   case measure => omega
                   case rel => exact ⟨A', c - 1, a, some ⟨b2, o2, none⟩, d, S35.mk tf tt :: b, out, rfl, rfl, by omega, by simp; omega, Nat.le_refl _, by simp; omega, HA2, HB, (Lib.hid (own_ext HO6'.out ((Ext.refl _).drewN _))), (Lib.hid (HX6.out.drewN _)), Lib.hid (by rw [HE4.out, show a.length + 1 + b.length = a.length + (b.length + 1) by omega]; simp)⟩)
                | (go_roundg (a.length + 1 + b.length)
                   case measure => omega
                   case rel => exact ⟨some ⟨b1, o1, none⟩, c, S35.mk sf st :: a, B', d - 1, b, out, rfl, rfl, by simp; omega, by omega, Nat.le_refl _, by simp; omega, HA, HB2, (Lib.hid (own_ext HO6'.out ((Ext.refl _).drewN _))), (Lib.hid (HX6.out.drewN _)), Lib.hid (by rw [HE4.out]; simp)⟩)
end Go.Proofs.Ytaedgbkeiankcaa.P
namespace Go.Proofs.Ytaedgbkeiankcaa.P
open Go.RowKit
open Go.Proofs.YtaedgbkeiankcaaW.PrintWords (Kd)
set_option linter.unusedVariables false
def tx (b : ByteArray) : Txt := ⟨b.toList⟩
theorem tx_inj {a b : ByteArray} (h : tx a = tx b) : a = b := by
  have h1 : a.toList = b.toList := congrArg Txt.l h
  rw [← toList_data, ← toList_data] at h1
  cases a; cases b
  simp at h1
  rw [h1]
def toSp (x : S35) : Sp := ⟨tx x.f0, tx x.f1⟩
theorem toSp_inj {x y : S35} (h : toSp x = toSp y) : x = y := by
  cases x; cases y
  simp only [toSp, Sp.mk.injEq] at h
  rw [tx_inj h.1, tx_inj h.2]
theorem map_inj {α β : Type} {f : α → β} (hf : ∀ {x y}, f x = f y → x = y) : ∀ {a b : List α}, a.map f = b.map f → a = b
  | [], [], _ => rfl
  | [], _ :: _, h => by simp at h
  | _ :: _, [], h => by simp at h
  | x :: a, y :: b, h => by
    simp only [List.map_cons, List.cons.injEq] at h
    rw [hf h.1, map_inj hf h.2]
theorem tx_nil (b : ByteArray) : tx b = .nil ↔ b.toList = [] := ⟨fun h => congrArg Txt.l h, fun h => by unfold tx Txt.nil; rw [h]⟩
theorem fullSp_iff (x : S35) : fullSp x = true ↔ Sp.full (toSp x) := by
  unfold fullSp Sp.full
  simp only [toSp, tx_nil, Bool.or_eq_true, List.isEmpty_iff]
  rfl
theorem tx_most (a b : ByteArray) : tx (mostV a b) = Sp.most (tx a) (tx b) := by
  unfold mostV Sp.most
  by_cases h : a.toList = [] ∨ b.toList = []
  · have h' : tx a = .nil ∨ tx b = .nil := by rwa [tx_nil, tx_nil]
    rw [if_pos h, if_pos h']
    exact (tx_nil _).2 (by rw [← toList_data])
  · have h' : ¬ (tx a = .nil ∨ tx b = .nil) := by rwa [tx_nil, tx_nil]
    rw [if_neg h, if_neg h']
    unfold mxs
    by_cases h2 : Op.bytesLess a.toList b.toList = true
    · have h3 : tx a < tx b := h2
      rw [if_pos h2, if_pos h3]
    · have h3 : ¬ tx a < tx b := h2
      rw [if_neg h2, if_neg h3]
theorem rises_le {l : List S35} (h : Rises ltFrom l) (k : Nat) (hk : k < l.length) : ∀ x ∈ l.take k, (toSp x).f ≤ (toSp l[k]).f := by
  intro x hx
  obtain ⟨j, hj, rfl⟩ := List.getElem_of_mem hx
  rw [List.length_take] at hj
  rw [List.getElem_take]
  exact (List.pairwise_iff_getElem.1 h) j k (by omega) hk (by omega)
theorem merge_of (l : List S35) (hr : Rises ltFrom l) (hf : ∀ x ∈ l, fullSp x = true) : ∀ k, k ≤ l.length → Sp.Of ((l.take k).map toSp) ((mergeAll (l.take k)).map toSp) := by
  intro k
  induction k with
  | zero => intro _; exact Sp.Of.nil
  | succ k ih =>
    intro hk
    have ih := ih (by omega)
    have hlt : k < l.length := by omega
    have hfull := (fullSp_iff _).1 (hf l[k] (List.getElem_mem hlt))
    have hle : ∀ x ∈ (l.take k).map toSp, x.f ≤ (toSp l[k]).f := by
      intro x hx
      obtain ⟨y, hy, rfl⟩ := List.mem_map.1 hx
      exact rises_le hr k hlt y hy
    rw [mergeAll_take l k hlt, List.take_succ_eq_append_getElem hlt, List.map_append, List.map_cons, List.map_nil]
    unfold mergeStep
    cases hg : (mergeAll (l.take k)).getLast? with
    | none =>
      have e : mergeAll (l.take k) = [] := by simpa using hg
      rw [e] at ih
      exact ih.snoc hfull (fun d hd => by cases hd)
    | some last =>
      obtain ⟨D, hD⟩ := List.getLast?_eq_some_iff.1 hg
      rw [hD] at ih ⊢
      rw [List.map_append, List.map_cons, List.map_nil] at ih
      dsimp only
      by_cases hj : joins last l[k] = true
      · rw [if_pos hj, List.dropLast_concat, List.map_append, List.map_cons, List.map_nil]
        refine ih.join hfull hle ?_ rfl (tx_most _ _)
        unfold joins at hj
        simp only [Bool.or_eq_true, List.isEmpty_iff, Bool.not_eq_true'] at hj
        rcases hj with hj | hj
        · exact .inl ((tx_nil _).2 hj)
        · exact .inr hj
      · rw [if_neg hj, List.map_append, List.map_append, List.map_cons, List.map_nil, List.map_cons, List.map_nil]
        unfold joins at hj
        simp only [Bool.or_eq_true, List.isEmpty_iff, Bool.not_eq_true', not_or] at hj
        have h1 : (toSp last).t ≠ .nil := fun h => hj.1 ((tx_nil _).1 h)
        have h2 : (toSp last).t < (toSp l[k]).f := by
          have := hj.2
          show Op.bytesLess last.f1.toList l[k].f0.toList = true
          simpa using this
        exact ih.snoc hfull (Sp.gap_all ih.can h1 h2)
/-- what span.Union answers -/
def unionL (l : List S35) : List S35 := mergeAll ((l.filter fullSp).mergeSort fun a b => !ltFrom b a)
theorem perm_mem {a b : List S35} (h : a.Perm b) (k : Txt) : Sp.mem (a.map toSp) k ↔ Sp.mem (b.map toSp) k := by
  unfold Sp.mem
  simp only [List.mem_map]
  constructor
  · rintro ⟨s, ⟨x, hx, rfl⟩, hi⟩
    exact ⟨_, ⟨x, h.mem_iff.1 hx, rfl⟩, hi⟩
  · rintro ⟨s, ⟨x, hx, rfl⟩, hi⟩
    exact ⟨_, ⟨x, h.mem_iff.2 hx, rfl⟩, hi⟩
theorem sorted_rises (l : List S35) : Rises ltFrom (l.mergeSort fun a b => !ltFrom b a) := by
  have h := List.pairwise_mergeSort (le := fun a b : S35 => !ltFrom b a) (fun a b c h1 h2 => by
    simp only [Bool.not_eq_true'] at *
    exact bytesLess_ntrans h2 h1) (fun a b => by
    unfold ltFrom
    rcases bytesLess_tri a.f0.toList b.f0.toList with h | h | h
    · simp [bytesLess_asymm h]
    · rw [h]; simp [bytesLess_irrefl]
    · simp [bytesLess_asymm h]) l
  exact h.imp fun h => by simpa using h
/-- of whatever order among those that begin alike -/
theorem union_one (l l' : List S35) (hp : l'.Perm (l.filter fullSp)) (hr : Rises ltFrom l') : mergeAll l' = unionL l ∧ Sp.Of ((l.filter fullSp).map toSp) ((unionL l).map toSp) := by
  have hf : ∀ x ∈ l', fullSp x = true := fun x hx => (List.mem_filter.1 (hp.mem_iff.1 hx)).2
  have hp2 : ((l.filter fullSp).mergeSort fun a b => !ltFrom b a).Perm (l.filter fullSp) := List.mergeSort_perm _ _
  have hf2 : ∀ x ∈ (l.filter fullSp).mergeSort (fun a b => !ltFrom b a), fullSp x = true := fun x hx => (List.mem_filter.1 (hp2.mem_iff.1 hx)).2
  have h1 := merge_of l' hr hf l'.length (Nat.le_refl _)
  have h2 := merge_of _ (sorted_rises (l.filter fullSp)) hf2 _ (Nat.le_refl _)
  rw [List.take_length] at h1 h2
  have e : (mergeAll l').map toSp = (unionL l).map toSp := Sp.can_unique _ _ h1.can h2.can fun k => by
    rw [h1.mem, show Sp.mem ((unionL l).map toSp) k ↔ _ from h2.mem k, perm_mem hp, perm_mem hp2]
  refine ⟨map_inj toSp_inj e, h2.can, fun k => by rw [show Sp.mem ((unionL l).map toSp) k ↔ _ from h2.mem k, perm_mem hp2], fun s hs => ?_, fun s hs => ?_, ?_⟩
  · obtain ⟨x, hx, e⟩ := h2.begins s hs
    obtain ⟨y, hy, rfl⟩ := List.mem_map.1 hx
    exact ⟨_, List.mem_map.2 ⟨y, hp2.mem_iff.1 hy, rfl⟩, e⟩
  · obtain ⟨x, hx, e⟩ := h2.ends s hs
    obtain ⟨y, hy, rfl⟩ := List.mem_map.1 hx
    exact ⟨_, List.mem_map.2 ⟨y, hp2.mem_iff.1 hy, rfl⟩, e⟩
  · have := h2.len
    rw [List.length_map, List.length_map] at this ⊢
    rw [hp2.length_eq] at this
    exact this
def span_Union.f (l0 : List S35) : Option (List S35) := if l0.length < 4398046511104 then some (unionL l0) else none
theorem span_Union.calls (A0 : Option Addr) (c0 : Nat) (l0 : List S35) (r : List S35) (w : World) (hr0 : Kd.C k35 w A0 l0.length l0) (hc0 : l0.length ≤ c0) (h : span_Union.f l0 = some r) :
    Calls Try.prog 35 #[.slice A0 l0.length c0] w fun e w' => ∃ v0_ : Value, e = .returned (v0_) ∧ Kd.R k35 35 w' w.heap.size (fun _ => True) v0_ r ∧ Below w.heap.size w w' := by
  unfold span_Union.f at h
  by_cases hl : l0.length < 4398046511104
  · rw [if_pos hl] at h
    obtain rfl := Option.some.inj h
    refine (union_walk A0 c0 l0 w hr0 hc0 hl).mono ?_
    rintro e w' ⟨v0, l', rfl, hp, hr, hR, hx⟩
    rw [(union_one l0 l' hp hr).1] at hR
    exact ⟨v0, rfl, hR, hx⟩
  · rw [if_neg hl] at h
    cases h
def span_Cut.f (l0 l1 : List S35) : Option (List S35) := if l0.length + l1.length < 4398046511104 then some (cutN (l0.length + l1.length) l0 l1) else none
theorem span_Cut.calls (A0 : Option Addr) (c0 : Nat) (l0 : List S35) (A1 : Option Addr) (c1 : Nat) (l1 : List S35) (r : List S35) (w : World) (hr0 : Kd.C k35 w A0 l0.length l0) (hc0 : l0.length ≤ c0) (hr1 : Kd.C k35 w A1 l1.length l1) (hc1 : l1.length ≤ c1) (h : span_Cut.f l0 l1 = some r) :
    Calls Try.prog 59 #[.slice A0 l0.length c0, .slice A1 l1.length c1] w fun e w' => ∃ v0_ : Value, e = .returned (v0_) ∧ Kd.R k35 35 w' w.heap.size (fun _ => True) v0_ r ∧ Below w.heap.size w w' := by
  unfold span_Cut.f at h
  by_cases hl : l0.length + l1.length < 4398046511104
  · rw [if_pos hl] at h
    obtain rfl := Option.some.inj h
    exact (cut_walk A0 c0 l0 A1 c1 l1 w hr0 hc0 hr1 hc1 hl).mono fun e w' ⟨v0, he, hR, hx⟩ => ⟨v0, he, hR, hx⟩
  · rw [if_neg hl] at h
    cases h
end Go.Proofs.Ytaedgbkeiankcaa.P
namespace Go.Proofs.Ytaedgbkeiankcaa.P
open Go.RowKit Go.Proofs.YtaedgbkeiankcaaW.PrintWords Go.Proofs.YtaedgbkeiankcaaW.PrintLast Go.Proofs.YtaedgbkeiankcaaW.PrintMore
attribute [local go_sem] str_leq str_geq max2_str max2_int min2_int max_two min_two max_three min_three max_four min_four
set_option linter.unusedVariables false
set_option linter.unusedSimpArgs false
def span_Meet.f (l0 : List (S35)) (l1 : List (S35)) : Option (Bool) := (span_Cut.f l0 l1).bind fun t106 => (some (decide ((t106.length : Int) > 0)))
set_option maxHeartbeats 8000000 in
set_option maxRecDepth 100000 in
theorem span_Meet.calls (A0 : Option Addr) (c0 : Nat) (l0 : List (S35)) (A1 : Option Addr) (c1 : Nat) (l1 : List (S35)) (r : Bool) (w : World) (hr0 : Kd.C k35 w A0 l0.length l0) (hc0 : l0.length ≤ c0) (hr1 : Kd.C k35 w A1 l1.length l1) (hc1 : l1.length ≤ c1) (h : span_Meet.f l0 l1 = some r) :
    Calls Try.prog 44 #[.slice A0 l0.length c0, .slice A1 l1.length c1] w fun e w' => e = .returned (.bool r) ∧ Below w.heap.size w w' := by
  have HR0 := Aside0.mk hr0
  have HC0 := Aside0.mk hc0
  clear hr0 hc0
  have HR1 := Aside0.mk hr1
  have HC1 := Aside0.mk hc1
  clear hr1 hc1
  have HB := Aside0.mk (Below.refl w.heap.size w)
  have H : ((span_Cut.f l0 l1).bind fun t106 => (some (decide ((t106.length : Int) > 0)))) = some r := h
  clear h
  replace H := Option.bind_eq_some_iff.mp H
  obtain ⟨t106, A30, H⟩ := H
  replace H : (some (decide ((t106.length : Int) > 0))) = some r := H
  have A3 := Aside0.mk A30
  clear A30
  obtain rfl := Option.some.inj H
  go_enter Try.func44, Try.ntmps44
  go_wp2_with (first | ((with_reducible refine gate_callee (f := 59) rfl ?_); refine goesL_ (some 7) rfl rfl Try.func59 (by kernel_rfl) rfl #[.slice A0 l0.length c0, .slice A1 l1.length c1] rfl (by (try simp only [List.map_toArray, List.map_cons, List.map_nil]); first | done | rfl | (simp only [List.length_drop, List.length_take]; rfl)) ?_; (with_reducible refine (span_Cut.calls _ _ l0 _ _ l1 t106 _ ?side1 ?side2 ?side3 ?side4 A3.out).mono ?_); (case side1 => repeat (first | exact HR0.out | (with_reducible refine Kd.C_alloc ?_ _) | (with_reducible refine Kd.C_drewN ?_ _) | (with_reducible refine Kd.C_drew ?_))); (case side2 => exact HC0.out); (case side3 => repeat (first | exact HR1.out | (with_reducible refine Kd.C_alloc ?_ _) | (with_reducible refine Kd.C_drewN ?_ _) | (with_reducible refine Kd.C_drew ?_))); (case side4 => exact HC1.out); rintro e w4 ⟨v107, rfl, ho0, hb⟩; refine ⟨_, rfl, ?_⟩; have n0_ := Aside0.mk (Kd.R_lower ho0 (below_size (by repeat (first | (with_reducible first | exact HB.out | apply below_alloc | apply pw_below_drewN | apply below_drew1) | exact HB.out)))); have n1_ := Aside0.mk (below_step (by repeat (first | (with_reducible first | exact HB.out | apply below_alloc | apply pw_below_drewN | apply below_drew1) | exact HB.out)) hb); clear HB; have HO108 := n0_; have HB := n1_; clear n0_ n1_; (try clear hb); (try clear hb2); (try clear hk); (try clear hi); (try clear ho0); obtain ⟨Ao5, co5, eo5⟩ := Kd.R_slice HO108.out; subst eo5))
  go_ret
  exact ⟨by first | rfl | (simp [errW_none, errW_some] <;> rfl) | (simp [*, errW_none, errW_some] <;> rfl), by repeat (first | (with_reducible first | exact HB.out | apply below_alloc | apply pw_below_drewN | apply below_drew1) | exact HB.out)⟩
end Go.Proofs.Ytaedgbkeiankcaa.P
namespace Go.Proofs.Ytaedgbkeiankcaa.P
open Go.RowKit Go.Proofs.YtaedgbkeiankcaaW.PrintWords
set_option linter.unusedVariables false
theorem rd_at (l : List S35) (i : Nat) (hi : i < l.length) : rd_T35 l (i : Int) = l[i] := by simp [rd_T35, List.getD_eq_getElem?_getD, hi]
theorem union_of (l : List S35) : Sp.Of ((l.filter fullSp).map toSp) ((unionL l).map toSp) := (union_one l _ (List.mergeSort_perm _ _) (sorted_rises _)).2
end Go.Proofs.Ytaedgbkeiankcaa.P
