/- Texts of the proofs of TopoOnce, TopoTells, merged (RawSp). -/
import Derived.Deep.LoopGhost
import Derived.Lib.SliceRun
import Derived.Test.YtaedgbkeiankcaaG64eb9ef8
import Derived.Test.YtaedgbkeiankcaaGca2bd920
import Derived.Test.YtaedgbkeiankcaaGff33e446
import Derived.Test.YtaedgbkeiankcaaG132b0fe3
namespace Go.Proofs.Ytaedgbkeiankcaa
open Go.RowKit
set_option linter.unusedVariables false
set_option maxHeartbeats 4000000 in
set_option maxRecDepth 100000 in
theorem indexR_sp (g : Nat) (lb : Array Value) (p : List Value → Bool) (eg : ∀ args w, (callFunc g args).run Try.prog w = .ok (.enter g args) w) (A : Option Addr) (c B : Nat) (xs : List (List Value)) (w : World)
    (hr : Reads w B 2 A xs.length xs.flatten) (hB : B ≤ w.heap.size) (hw : Wide 2 xs) (hm : xs.length ≤ 9223372036854775807) (hp : FnR Try.prog g lb p xs w) :
    Calls Try.prog 60 #[.slice A xs.length c, .func (.func g) #[] lb] w fun e w' => e = .returned (.int .i64 (idxR p xs)) ∧ Ext w w' := by
  have HR := Lib.hid hr
  clear hr
  go_enter Try.func60, Try.ntmps60
  go_wp2
  go_loopg [5, 8] xs.length (fun gg _ s8 wr => ∃ kk : Nat, kk ≤ xs.length ∧ xs.length - kk ≤ gg ∧ s8 = .int .i64 kk ∧ Hid (Ext w wr) ∧ Hid (∀ j (h : j < xs.length), j < kk → p xs[j] = false))
  case atStart => exact ⟨0, Nat.zero_le _, by omega, rfl, Lib.hid (Ext.refl w), Lib.hid (fun j h hj => absurd hj (Nat.not_lt_zero _))⟩
  case round =>
    obtain ⟨kk, hkk, hg, rfl, BW, HA⟩ := hrel
    by_cases hlt : kk < xs.length
    · have hltz : (kk : Int) < (xs.length : Int) := by omega
      obtain ⟨ad, rfl, hbb, hcell⟩ := HR.out.2 (by omega)
      have hlen := (hw _ (List.getElem_mem hlt)).1
      have hcall := hp wr xs[kk] BW.out (List.getElem_mem hlt)
      have hcl : ∀ i u, xs[kk][i]? = some u → wr.cell? (ad.add (kk * 2 + i)) = some u := fun i u hu => by
        have hi : i < 2 := by have := (List.getElem?_eq_some_iff.1 hu).1; omega
        have h0 := hcell (kk * 2 + i) u (by have := hw.at_ kk hlt i hi []; rw [List.append_nil] at this; rw [this]; exact hu)
        rw [← h0]
        exact BW.out.below.cell (by rw [block_of_add]; omega)
      generalize hy : xs[kk] = y at hlen hcall hcl
      obtain ⟨c0, c1, rfl⟩ : ∃ c0 c1, y = [c0, c1] := by
        match y, hlen with
        | [c0, c1], _ => exact ⟨c0, c1, rfl⟩
      have f0 := hcl 0 c0 rfl
      rw [Nat.add_zero] at f0
      have f1 := hcl 1 c1 rfl
      rw [add_plus _ _ 1 (by omega)] at f1
      have HY := Lib.hid hy
      clear hy hcl hcell hp hlen
      cases hq : p [c0, c1] with
      | true =>
        rw [hq] at hcall
        have HQ := Lib.hid hq
        clear hq
        go_wp2_with fail
        refine hcall.mono ?_
        rintro e w' ⟨rfl, hb'⟩
        go_wp2
        go_ret
        refine ⟨?_, hb'⟩
        rw [idxR_hit p xs kk hlt (fun j hj => HA.out j (by omega) hj) (by rw [HY.out]; exact HQ.out)]
        rfl
      | false =>
        rw [hq] at hcall
        have HQ := Lib.hid hq
        clear hq
        go_wp2_with fail
        refine hcall.mono ?_
        rintro e w' ⟨rfl, hb'⟩
        go_wp2
        go_roundg (xs.length - (kk + 1))
        case measure => omega
        case rel =>
          refine ⟨kk + 1, by omega, by omega, by go_num, Lib.hid hb', Lib.hid (fun j h hj => ?_)⟩
          by_cases e : j = kk
          · subst e
            rw [HY.out]; exact HQ.out
          · exact HA.out j h (by omega)
    · have hltz : ¬ (kk : Int) < (xs.length : Int) := by omega
      have : kk = xs.length := by omega
      subst this
      go_wp2
      go_ret
      refine ⟨?_, BW.out⟩
      rw [idxR_miss p xs (fun x hx => by obtain ⟨j, hj, rfl⟩ := List.getElem_of_mem hx; exact HA.out j hj hj)]
      rfl
theorem info_sp : (Try.prog.info? 35).map (fun i => (i.zero, i.size, i.bytes)) = some (some (.agg #[(.string ⟨#[]⟩), (.string ⟨#[]⟩)]), 2, 32) := by kernel_rfl
theorem cloneR_sp (A : Option Addr) (c B : Nat) (xs : List (List Value)) (w : World) (hr : Reads w B 2 A xs.length xs.flatten) (hB : B ≤ w.heap.size) (hw : Wide 2 xs) (hl : xs.length * 32 ≤ 140737488355328) :
    Calls Try.prog 48 #[.slice A xs.length c] w fun e w' => ∃ v, e = .returned v ∧ w'.ownsRow w.heap.size 35 2 v xs.length xs.flatten ∧ Ext w w' := by
  cases A with
  | none =>
    have hx : xs = [] := by
      cases xs with
      | nil => rfl
      | cons a l => obtain ⟨ad, h, _⟩ := hr.2 (by simp); cases h
    subst hx
    have hq0 : ∀ (w : World), (binOp .eql 30 (.slice none 0 c) (.slice none 0 0)).run Try.prog w = .ok (.bool true) w := fun w => Lib.run_eql_slice_nil w _ _ _ _ _ _ _ Try.underlying30
    clear hr hw hl
    go_enter Try.func48, Try.ntmps48
    go_wp2
    go_ret
    exact ⟨_, rfl, World.ownsRow_nil _ _ _ _, Ext.refl _⟩
  | some ad =>
    have hq : ∀ (w : World), (binOp .eql 30 (.slice (some ad) xs.length c) (.slice none 0 0)).run Try.prog w = .ok (.bool false) w := fun w => Lib.run_eql_slice_nil w _ _ _ _ _ _ _ Try.underlying30
    obtain ⟨i0, hi0, hz0, hz1, hz2⟩ := info_parts info_sp
    have hE := own_none w w.heap.size (Nat.le_refl _) 35 2
    have hR : Reads (w.alloc (.cells #[] 35)) w.heap.size 2 (some ad) xs.length xs.flatten := Reads.alloc (hr.more hB) (Nat.le_refl _) _
    have h1 : ∀ u ∈ xs.flatten, u.oneCell' = true := fun u hu => by obtain ⟨y, hy, hu⟩ := List.mem_flatten.1 hu; exact (hw y hy).2 u hu
    clear hw hr hB
    have H1 := Lib.hid h1
    clear h1
    go_enter Try.func48, Try.ntmps48
    go_wp2_with (at_builtin; go_loud (refine wpList_append_any _ rfl (.tmp 5) (.tmp 6) _ rfl w.heap.size 35 i0 _ 2 32 Try.underlying30 hi0 hz0 hz1 hz2 (by simp [Value.cells]) (by omega) _ 0 [] rfl hE w.heap.size (some ad) xs.length c xs.flatten rfl hR H1.out (by simp only [maxLen]; omega) (by omega) (by simp) ?_); intro v1 w1 hown hg hat)
    have hown' : w1.ownsRow w.heap.size 35 2 v1 xs.length xs.flatten := by simpa using hown
    go_ret
    exact ⟨_, rfl, hown', Chs.to_ext (S := fun i => i = w.heap.size) (Chs.grown (.of_ext ((Ext.refl w).alloc _)) hg (fun i hi => .inl (by simpa [Value.ownBlock, Act.eval] using hi.symm))) (fun i hi e => by omega)⟩
set_option maxHeartbeats 4000000 in
set_option maxRecDepth 100000 in
theorem deleteR_sp (g : Nat) (lb : Array Value) (p : List Value → Bool) (eg : ∀ args w, (callFunc g args).run Try.prog w = .ok (.enter g args) w) (blk cap : Nat) (xs : List (List Value)) (rest : List Value) (w : World) (z : List Value)
    (hz : ∀ w, (zeroValue 35).run Try.prog w = .ok (.agg z.toArray) w) (hzk : z.length = 2) (hz1 : ∀ u ∈ z, u.oneCell' = true)
    (hrow : RowAt w blk 35 xs rest) (hw : Wide 2 xs) (hcap : xs.length ≤ cap) (hm : cap ≤ 9223372036854775807) (hp : FnS Try.prog g lb p xs blk w) :
    Calls Try.prog 47 #[.slice (some ⟨blk, 0, none⟩) xs.length cap, .func (.func g) #[] lb] w fun e w' => e = .returned (.slice (some ⟨blk, 0, none⟩) (keptR p xs).length cap) ∧ Chs (fun i => i = blk) w w' ∧ RowAt w' blk 35 (keptR p xs ++ List.replicate (xs.length - (keptR p xs).length) z) rest := by
  have hidx := Lib.hid (indexR_sp g lb p eg (some ⟨blk, 0, none⟩) cap w.heap.size xs w (hrow.reads hw) (Nat.le_refl _) hw (by omega) (fun W x hb hx => (hp W x (Chs.of_ext hb) hx).mono fun e w' ⟨he, hx⟩ => ⟨he, Ext.trans hb hx⟩))
  obtain ⟨z0, z1, rfl⟩ : ∃ z0 z1, z = [z0, z1] := by
    match z, hzk with
    | [z0, z1], _ => exact ⟨z0, z1, rfl⟩
  have HP := Lib.hid hp
  have HW := Lib.hid hw
  have HR := Lib.hid hrow
  have HZ := Lib.hid hz1
  clear hp hw hrow hz1
  rcases idxR_spec p xs with ⟨e1, hall⟩ | ⟨k0, hk0, e1, ht, hall⟩
  · rw [e1] at hidx
    rw [keptR_all p xs hall]
    clear hall
    go_enter Try.func47, Try.ntmps47
    go_wp2_with (go_at_call 60; refine hidx.out.mono ?_; rintro e w' ⟨rfl, hx⟩)
    go_ret
    exact ⟨rfl, Chs.of_ext hx, by rw [Nat.sub_self, List.replicate_zero, List.append_nil]; exact HR.out.ext hx⟩
  · rw [e1] at hidx
    have hne1 : ((k0 : Int) == -1) = false := beq_eq_false_iff_ne.2 (by omega)
    have hI0 := Lib.hid (KeptIs.start p xs k0 hk0 ht hall)
    clear ht hall e1
    go_enter Try.func47, Try.ntmps47
    go_wp2_with (go_at_call 60; refine hidx.out.mono ?_; rintro e w0 ⟨rfl, hx0⟩)
    go_loopg [5, 6, 7] xs.length (fun gg s5 s6 _ wr => ∃ (i j : Nat) (ys : List (List Value)), s5 = .int .i64 i ∧ s6 = .int .i64 j ∧ j ≤ xs.length ∧ xs.length - j ≤ gg ∧ Hid (Chs (fun i => i = blk) w wr) ∧ Hid (RowAt wr blk 35 ys rest) ∧ Hid (KeptIs p xs i j ys))
    case atStart => exact ⟨k0, k0 + 1, xs, rfl, by go_num, by omega, by omega, Lib.hid (Chs.of_ext hx0), Lib.hid (HR.out.ext hx0), hI0⟩
    case round =>
      obtain ⟨i, j, ys, rfl, rfl, hjn, hgg, HC, HRr, HI⟩ := hrel
      have hij := HI.out.lt
      have hyl := HI.out.len
      have HWy := Lib.hid (HI.out.wide _ HW.out)
      clear hI0 hx0 hidx
      by_cases hlt : j < xs.length
      · have hltz : (j : Int) < (xs.length : Int) := by omega
        have hjy : ys[j]'(by omega) = xs[j] := HI.out.at_ j (Nat.le_refl _) hlt
        have hlen := (HW.out _ (List.getElem_mem hlt)).1
        have hcl : ∀ i u, xs[j][i]? = some u → wr.cell? ⟨blk, j * 2 + i, none⟩ = some u := fun i u hu => HRr.out.cell HWy.out j (by omega) i u (by rw [hjy]; exact hu)
        have hcall := fun W hW => HP.out W xs[j] hW (List.getElem_mem hlt)
        have hblk := HRr.out.lt
        have hy0 : xs[j] = xs[j] := rfl
        generalize hy : xs[j] = y at hlen hcall hcl hjy
        obtain ⟨c0, c1, rfl⟩ : ∃ c0 c1, y = [c0, c1] := by
          match y, hlen with
          | [c0, c1], _ => exact ⟨c0, c1, rfl⟩
        have f0 := hcl 0 c0 rfl
        rw [Nat.add_zero] at f0
        have f1 := hcl 1 c1 rfl
        have HY := Lib.hid hy
        have HCALL := Lib.hid hcall
        have h1s := HW.out _ (List.getElem_mem hlt)
        rw [hy] at h1s
        have s0 : ∀ (a : Addr) (m : Mode) (w : World), Sem.run Try.prog (store a c0 m) w = stored Try.prog w a c0 m := fun a m w => run_store _ w a _ m (h1s.2 c0 (by simp))
        have s1 : ∀ (a : Addr) (m : Mode) (w : World), Sem.run Try.prog (store a c1 m) w = stored Try.prog w a c1 m := fun a m w => run_store _ w a _ m (h1s.2 c1 (by simp))
        clear hy hcl hlen hcall hjy hy0 h1s
        go_wp2_with fail
        refine (HCALL.out _ (HC.out.then_ext ?_)).mono ?_
        · exact (Ext.refl _).alloc _
        rintro e w1 ⟨rfl, hx1⟩
        have hX1 : Ext wr w1 := Ext.trans ((Ext.refl _).alloc _) hx1
        have b0 : w1.cell? ⟨wr.heap.size, 0, none⟩ = some c0 := (Ext.below hx1).cell (p := ⟨wr.heap.size, 0, none⟩) (by simp) |>.trans (by simp)
        have b1 : w1.cell? ⟨wr.heap.size, 1, none⟩ = some c1 := (Ext.below hx1).cell (p := ⟨wr.heap.size, 1, none⟩) (by simp) |>.trans (by simp)
        clear HCALL f0 f1
        cases hq : p [c0, c1] with
        | true =>
          have HQ := Lib.hid hq
          clear hq hx1
          go_wp2
          go_roundg (xs.length - (j + 1))
          case measure => omega
          case rel => exact ⟨i, j + 1, ys, rfl, by go_num, by omega, Nat.le_refl _, Lib.hid (HC.out.then_ext hX1), Lib.hid (HRr.out.ext hX1), Lib.hid (HI.out.skip hlt (by rw [HY.out]; exact HQ.out))⟩
        | false =>
          have HQ := Lib.hid hq
          clear hq hx1
          have HR1 := Lib.hid (HRr.out.ext hX1)
          have hiy : i < ys.length := by omega
          have hleni := (HWy.out _ (List.getElem_mem hiy)).1
          obtain ⟨d0, g0⟩ : ∃ d, w1.cell? ⟨blk, i * 2, none⟩ = some d := ⟨_, HR1.out.cell HWy.out i hiy 0 _ (List.getElem?_eq_getElem (by omega))⟩
          have z0 : w1.frozen? ⟨blk, i * 2, none⟩ = false := HR1.out.frozen _
          obtain ⟨d1, g1⟩ : ∃ d, w1.cell? ⟨blk, i * 2 + 1, none⟩ = some d := ⟨_, HR1.out.cell HWy.out i hiy 1 _ (List.getElem?_eq_getElem (by omega))⟩
          have z1 : w1.frozen? ⟨blk, i * 2 + 1, none⟩ = false := HR1.out.frozen _
          clear hleni
          go_wp2
          go_roundg (xs.length - (j + 1))
          case measure => omega
          case rel => exact ⟨i + 1, j + 1, ys.set i [c0, c1], by go_num, by go_num, by omega, Nat.le_refl _, Lib.hid (chs_run (HC.out.then_ext hX1) (i * 2) [c0, c1]), Lib.hid (HR1.out.put HWy.out i hiy [c0, c1] rfl), Lib.hid (HI.out.keep hlt HY.out HQ.out)⟩
      · obtain rfl : j = xs.length := by omega
        have hltz : ¬ (xs.length : Int) < (xs.length : Int) := by omega
        have hyw := HWy.out
        have hcc := run_clear (P := Try.prog) (t := 30) Try.underlying30 hz (by simp [Value.cells]) (by simpa [Value.cells] using HZ.out) HRr.out HWy.out i (cap - i) (by omega)
        have hne : ¬ cap = i := by omega
        rw [hyl] at hcc
        have hcl := fun ty => (hcc ty).1
        have HCC := Lib.hid (hcc 0).2
        clear hcc hz hyw
        go_wp2
        go_ret
        obtain ⟨el, et⟩ := HI.out.done
        refine ⟨by rw [el]; rfl, HC.out.trans (chs_setCells _ _ _), ?_⟩
        rw [el, ← et]
        have hcz := HCC.out
        simp only [Value.cells] at hcz
        exact hcz
theorem deleteN_sp (g : Nat) (lb : Array Value) (p : List Value → Bool) (eg : ∀ args w, (callFunc g args).run Try.prog w = .ok (.enter g args) w) (w : World) :
    Calls Try.prog 47 #[.slice none 0 0, .func (.func g) #[] lb] w fun e w' => e = .returned (.slice none 0 0) ∧ Ext w w' := by
  have hidx := Lib.hid (indexR_sp g lb p eg none 0 w.heap.size [] w ⟨by simp, fun h => absurd h (by simp)⟩ (Nat.le_refl _) (fun x hx => by cases hx) (by simp) (fun W x _ hx => by cases hx))
  go_enter Try.func47, Try.ntmps47
  go_wp2_with (go_at_call 60; refine hidx.out.mono ?_; rintro e w' ⟨rfl, hx⟩; rw [show idxR p ([] : List (List Value)) = -1 from rfl])
  go_ret
  exact ⟨rfl, hx⟩
theorem deleteO_sp (g : Nat) (lb : Array Value) (p : List Value → Bool) (eg : ∀ args w, (callFunc g args).run Try.prog w = .ok (.enter g args) w) (base : Nat) (v : Value) (xs : List (List Value)) (w : World) (z : List Value)
    (hz : ∀ w, (zeroValue 35).run Try.prog w = .ok (.agg z.toArray) w) (hzk : z.length = 2) (hz1 : ∀ u ∈ z, u.oneCell' = true)
    (hown : w.ownsRow base 35 2 v xs.length xs.flatten) (hw : Wide 2 xs) (hp : ∀ blk, v.ownBlock = some blk → FnS Try.prog g lb p xs blk w) :
    Calls Try.prog 47 #[v, .func (.func g) #[] lb] w fun e w' => ∃ v', e = .returned v' ∧ w'.ownsRow base 35 2 v' (keptR p xs).length (keptR p xs).flatten ∧ ChsV v w w' ∧ (v'.ownBlock = v.ownBlock) := by
  rcases own_rowAt hown hw with ⟨rfl, rfl⟩ | ⟨blk, cap, rest, rfl, hb, hlt, hc, hm, hrow, hs⟩
  · refine (deleteN_sp g lb p eg w).mono ?_
    rintro e w' ⟨rfl, hx⟩
    exact ⟨_, rfl, World.ownsRow_nil _ _ _ _, .of_ext hx, rfl⟩
  · refine (deleteR_sp g lb p eg blk cap xs rest w z hz hzk hz1 hrow hw hc (by simpa only [maxLen] using hm) (hp blk rfl)).mono ?_
    rintro e w' ⟨rfl, hx, hr⟩
    have hle := kept_le p xs
    have hzw : Wide 2 (List.replicate (xs.length - (keptR p xs).length) z) := fun y hy => by rw [List.eq_of_mem_replicate hy]; exact ⟨hzk, hz1⟩
    refine ⟨_, rfl, rowAt_own hr.split (wide_kept hw) hb (by omega) hm ?_, hx.mono (fun i _ e => by subst e; rfl), rfl⟩
    rw [List.length_append, hzw.len, (wide_kept hw).len, List.length_replicate]
    rw [hw.len] at hs
    have : (keptR p xs).length * 2 + (xs.length - (keptR p xs).length) * 2 = xs.length * 2 := by rw [← Nat.add_mul]; congr 1; omega
    omega
end Go.Proofs.Ytaedgbkeiankcaa
