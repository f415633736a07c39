/- Contracts: the eye sees a list of stamps. -/
import Derived.Test.YtbmpecfhflkbeaaFlI
import Derived.Test.YtbmpecfhflkbeaaFlK
import Derived.Test.YtbmpecfhflkbeaaFlZ
namespace Go.Proofs.Ytbmpecfhflkbeaa
open Go.RowKit
set_option linter.unusedVariables false

theorem wrapEq64 (x : Int) : IntKind.i64.wrap x = wrap64 x := by rw [IntKind.wrap_i64]; unfold wrap64; omega
def stampAt (xs : List UInt8) (i : Nat) : St := ⟨wrap64 (numV ((xs.drop (16 * i)).take 8) : Nat), wrap64 (numV (((xs.drop (16 * i)).drop 8).take 8) : Nat)⟩
def stampL (xs : List UInt8) (n : Nat) : List St := (List.range n).map (stampAt xs)
theorem stampL_len (xs : List UInt8) (n : Nat) : (stampL xs n).length = n := by simp [stampL]
theorem stampL_succ (xs : List UInt8) (n : Nat) : stampL xs (n + 1) = stampL xs n ++ [stampAt xs n] := by simp [stampL, List.range_succ]
def stampsR (xs : List UInt8) : Option (List St × List UInt8) :=
  if 8 ≤ xs.length then
    if 0 ≤ wrap64 (numV (xs.take 8) : Nat) ∧ wrap64 (numV (xs.take 8) : Nat) ≤ (((xs.drop 8).length / 16 : Nat) : Int) then some (stampL (xs.drop 8) (wrap64 (numV (xs.take 8) : Nat)).toNat, (xs.drop 8).drop (16 * (wrap64 (numV (xs.take 8) : Nat)).toNat)) else none
  else none

set_option maxHeartbeats 1000000 in
set_option maxRecDepth 100000 in
theorem stampsS_ok (bx p : Nat) (g : Option Nat) (A : Option Addr) (c n : Nat) (xs : List UInt8) (w : World) (hb : Blk w bx 52 #[.pointer (some ⟨p, 0, none⟩)]) (he : EyeAt w p g A c xs false) (h8 : 8 ≤ xs.length)
    (hn : wrap64 (numV (xs.take 8) : Nat) = (n : Int)) (h16 : n ≤ (xs.drop 8).length / 16) :
    Calls Try.prog 62 #[.pointer (some ⟨bx, 0, none⟩)] w fun e w' => ∃ B d, e = .returned (.slice B (stampL (xs.drop 8) n).length d) ∧ (Sts w' B (stampL (xs.drop 8) n) ∧ ∀ ad, B = some ad → w.heap.size ≤ ad.block) ∧ Chs (isP p) w w' ∧ ∃ A' c', EyeAt w' p g A' c' ((xs.drop 8).drop (16 * n)) false := by
  have c0 : w.cell? ⟨bx, 0, none⟩ = some (.pointer (some ⟨p, 0, none⟩)) := hb.cell 0
  have hbp : bx ≠ p := hb.ne_ he.blk (by decide)
  have hpl := he.blk.lt
  have hbl := hb.lt
  have hmx := he.max_
  have hgl := he.lt
  have hrest : (xs.drop 8).length ≤ 1099511627776 := by rw [List.length_drop]; omega
  have hnum := number_ok p g 8 A c xs false w he h8 (by omega)
  generalize hys : xs.drop 8 = ys at *
  generalize numV (xs.take 8) = N at *
  have HN : Hid (n * 16 ≤ ys.length ∧ ys.length ≤ 1099511627776) := Lib.hid ⟨by omega, hrest⟩
  clear hmx hrest
  have c1 := fun (w1 : World) (hx : Chs (isP p) w w1) => ((hb.chs hx hbp).cell 0 : w1.cell? ⟨bx, 0, none⟩ = some (.pointer (some ⟨p, 0, none⟩)))
  have hw16 : wrap64 ((ys.length : Int) / 16) = ((ys.length / 16 : Nat) : Int) := by have := HN.out; unfold wrap64; omega
  have hmust : decide ((n : Int) ≤ wrap64 ((ys.length : Int) / 16)) = true := by rw [hw16, decide_eq_true_eq]; omega
  have HM := Lib.hid hmust
  clear hmust hw16
  go_enter Try.func62, Try.ntmps62
  go_wp2_with (first
    | (go_at_call 50; refine hnum.mono ?_; rintro e w1 ⟨rfl, hx1, A1, he1⟩; have d1 : w1.cell? ⟨bx, 0, none⟩ = some (.pointer (some ⟨p, 0, none⟩)) := c1 w1 hx1; have d2 : w1.cell? ⟨p, 0, none⟩ = some (.slice A1 ys.length (c - 8)) := he1.blk.cell 0; have d3 := he1.blk.lt)
    | (go_at_call 55; refine (must_ok _ HM.out _).mono ?_; rintro e w2 ⟨rfl, rfl⟩))
  go_loopw [20, 1] (fun i lv wr => ∃ (k : Nat) (A2 : Option Addr) (c2 : Nat), k ≤ n ∧ i = .int .i64 k ∧ Chs (isP p) w wr ∧ wr.ownsRow w.heap.size 39 2 lv (stampL ys k).length ((stampL ys k).flatMap fSt) ∧ EyeAt wr p g A2 c2 (ys.drop (16 * k)) false) (fun i _ _ => n - (intOf i).toNat)
  case atStart => exact ⟨0, A1, c - 8, by omega, rfl, hx1, World.ownsRow_nil _ _ _ _, by simpa using he1⟩
  case round =>
    clear d1 d2 d3
    obtain ⟨k, A2, c2, hk, rfl, hx, ho, he2⟩ := hrel
    by_cases hlt : k < n
    · have e1 : wr.cell? ⟨bx, 0, none⟩ = some (.pointer (some ⟨p, 0, none⟩)) := c1 wr hx
      have hlen : 16 ≤ (ys.drop (16 * k)).length := by have := HN.out; rw [List.length_drop]; omega
      have hst := stampS_ok p g A2 c2 (ys.drop (16 * k)) wr he2 hlen
      have hT := Lib.hid (stampL_succ ys k)
      have hD : Hid ((ys.drop (16 * k)).drop 16 = ys.drop (16 * (k + 1))) := Lib.hid (by rw [List.drop_drop]; congr 1)
      have hSt : Hid (stampAt ys k = ⟨wrap64 (numV ((ys.drop (16 * k)).take 8) : Nat), wrap64 (numV (((ys.drop (16 * k)).drop 8).take 8) : Nat)⟩) := Lib.hid rfl
      generalize wrap64 (numV ((ys.drop (16 * k)).take 8) : Nat) = t1 at *
      generalize wrap64 (numV (((ys.drop (16 * k)).drop 8).take 8) : Nat) = t2 at *
      have hkl := Lib.hid (stampL_len ys k)
      obtain ⟨A3, c3, rfl⟩ := own_slice ho
      obtain ⟨i0, hi0, hz0, hz1, hz2⟩ := info_parts st_info
      generalize hL : stampL ys k = L at *
      clear he2 hlen
      have hnb : n ≤ 1099511627776 := by have := HN.out; omega
      have hbd := Lib.hid (show L.length + 1 ≤ 1099511627776 by have := hkl.out; have := HN.out; omega)
      go_wp2_with (first
        | (go_at_call 60; refine hst.mono ?_; rintro e w3 ⟨rfl, hx3, A4, c4, he4⟩; have ho3 := (own_chs ho hx3 (fun i e e2 => by have := (ho.lt i e).1; omega)).alloc (.cells #[.int .i64 t1, .int .i64 t2] 39); have hrd : Reads (w3.alloc (.cells #[.int .i64 t1, .int .i64 t2] 39)) (w3.alloc (.cells #[.int .i64 t1, .int .i64 t2] 39)).heap.size 2 (some ⟨w3.heap.size, 0, none⟩) 1 [.int .i64 t1, .int .i64 t2] := Row.reads (Row.new (f := fSt) (size := 2) w3 #[.int .i64 t1, .int .i64 t2] 39 [⟨t1, t2⟩] (fun _ => rfl) rfl) (fun _ => rfl) (by omega))
        | (at_builtin; (refine wpList_append_any _ rfl (.tmp 22) (.tmp 25) _ rfl w.heap.size 39 i0 _ 2 16 Try.underlying30 hi0 hz0 hz1 hz2 rfl (by decide) (.slice A3 L.length c3) L.length (L.flatMap fSt) rfl ho3 _ (some ⟨w3.heap.size, 0, none⟩) 1 1 [.int .i64 t1, .int .i64 t2] rfl hrd (by intro u hu; simp at hu; rcases hu with rfl | rfl <;> rfl) (by have := hbd.out; simp only [maxLen]; omega) (by have := hbd.out; omega) (by have := hx.size; have := hx3.size; simp; omega) ?_); intro v4 w4 hown hg hat; obtain ⟨A5, c5, rfl⟩ := own_slice hown))
      have hx4 : Chs (isP p) w w4 := ((hx.trans hx3).alloc _).grown (row := (Value.slice A3 L.length c3).ownBlock) hg (fun i e => .inr (ho.lt i e).1)
      have he5 : EyeAt w4 p g A4 c4 (ys.drop (16 * (k + 1))) false := by
        rw [← hD.out]
        refine (he4.ext ((Ext.refl w3).alloc (.cells #[.int .i64 t1, .int .i64 t2] 39))).chs (S := fun i => (Value.slice A3 L.length c3).ownBlock = some i) (Chs.grown (Chs.refl _ _) hg (fun i e => .inl e)) (fun e => by have := (ho.lt p e).1; omega) (fun i _ e1 e2 => by have := (ho.lt i e2).1; have := hgl i e1; omega)
      have hown' : w4.ownsRow w.heap.size 39 2 (.slice A5 (L.length + 1) c5) (stampL ys (k + 1)).length ((stampL ys (k + 1)).flatMap fSt) := by
        rw [hT.out, hSt.out, List.length_append, List.flatMap_append]
        exact hown
      clear hown hg hat ho3 hrd
      go_roundw
      case rel => exact ⟨k + 1, A4, c4, by omega, by go_num, hx4, hown', he5⟩
      case measure => simp [intOf]; omega
    · obtain rfl : k = n := by omega
      obtain ⟨A3, c3, rfl⟩ := own_slice ho
      have hR := Row.of_own ho (fun _ => rfl) (by omega)
      have hb2 := fun (ad : Addr) (e : A3 = some ad) => (ho.lt ad.block (by subst e; rfl)).1
      generalize hLL : stampL ys k = L at *
      have HLL := Lib.hid hLL
      clear hLL
      go_wp2
      go_ret
      refine ⟨A3, c3, by rw [HLL.out]; rfl, ?_⟩
      rw [HLL.out]
      exact ⟨⟨hR, hb2⟩, hx, A2, c2, he2⟩

set_option maxHeartbeats 1000000 in
set_option maxRecDepth 100000 in
theorem stampsS_not (bx p : Nat) (g : Option Nat) (A : Option Addr) (c : Nat) (xs : List UInt8) (w : World) (hb : Blk w bx 52 #[.pointer (some ⟨p, 0, none⟩)]) (he : EyeAt w p g A c xs false)
    (hn : ¬ (8 ≤ xs.length ∧ 0 ≤ wrap64 (numV (xs.take 8) : Nat) ∧ wrap64 (numV (xs.take 8) : Nat) ≤ (((xs.drop 8).length / 16 : Nat) : Int))) :
    Calls Try.prog 62 #[.pointer (some ⟨bx, 0, none⟩)] w fun e w' => e = sight ∧ Chs (isP p) w w' ∧ ∃ v0 v1, Blk w' p 79 #[v0, v1] := by
  have c0 : w.cell? ⟨bx, 0, none⟩ = some (.pointer (some ⟨p, 0, none⟩)) := hb.cell 0
  have hbp : bx ≠ p := hb.ne_ he.blk (by decide)
  have hmx := he.max_
  by_cases h8 : 8 ≤ xs.length
  · have hrest : (xs.drop 8).length ≤ 1099511627776 := by rw [List.length_drop]; omega
    have hnum := number_ok p g 8 A c xs false w he h8 (by omega)
    have c1 := fun (w1 : World) (hx : Chs (isP p) w w1) => ((hb.chs hx hbp).cell 0 : w1.cell? ⟨bx, 0, none⟩ = some (.pointer (some ⟨p, 0, none⟩)))
    generalize xs.drop 8 = ys at *
    generalize numV (xs.take 8) = N at *
    have hw16 : wrap64 ((ys.length : Int) / 16) = ((ys.length / 16 : Nat) : Int) := by unfold wrap64; omega
    by_cases h0 : 0 ≤ wrap64 (N : Int)
    · have hgt : decide (wrap64 (N : Int) ≤ wrap64 ((ys.length : Int) / 16)) = false := by
        rw [hw16, decide_eq_false_iff_not]
        exact fun h => hn ⟨h8, h0, h⟩
      have HM := Lib.hid hgt
      clear hgt hn hrest hmx hw16
      generalize hV : wrap64 (N : Int) = V at *
      go_enter Try.func62, Try.ntmps62
      go_wp2_with (first
        | (go_at_call 50; refine hnum.mono ?_; rintro e w1 ⟨rfl, hx1, A1, he1⟩; have d1 : w1.cell? ⟨bx, 0, none⟩ = some (.pointer (some ⟨p, 0, none⟩)) := c1 w1 hx1; have d2 : w1.cell? ⟨p, 0, none⟩ = some (.slice A1 ys.length (c - 8)) := he1.blk.cell 0; have d3 := he1.blk.lt)
        | (go_at_call 55; refine (must_no _ HM.out _).mono ?_; rintro e w2 ⟨rfl, rfl⟩))
      exact ⟨rfl, rfl, hx1, _, _, he1.blk⟩
    · clear hn hrest hmx hw16
      generalize hV : wrap64 (N : Int) = V at *
      have hd : decide (0 ≤ V) = false := by rw [decide_eq_false_iff_not]; exact h0
      have hV2 : IntKind.i64.wrap (N : Int) = V := (wrapEq64 N).trans hV
      clear h0 hV
      go_enter Try.func62, Try.ntmps62
      go_wp2_with (first
        | (go_at_call 50; refine hnum.mono ?_; rintro e w1 ⟨rfl, hx1, A1, he1⟩; have d1 : w1.cell? ⟨bx, 0, none⟩ = some (.pointer (some ⟨p, 0, none⟩)) := c1 w1 hx1; have d2 : w1.cell? ⟨p, 0, none⟩ = some (.slice A1 ys.length (c - 8)) := he1.blk.cell 0; have d3 := he1.blk.lt)
        | (go_at_call 55; refine (must_false _).mono ?_; rintro e w2 ⟨rfl, rfl⟩))
      exact ⟨rfl, rfl, hx1, _, _, he1.blk⟩
  · clear hn
    have hnum := number_not p g 8 A c xs false w he (by omega)
    go_enter Try.func62, Try.ntmps62
    go_wp2_with (go_at_call 50; refine hnum.mono ?_; rintro e w1 ⟨rfl, rfl⟩)
    exact ⟨rfl, rfl, Chs.refl _ _, _, _, he.blk⟩

theorem eye_stamps (p : Nat) (g : Option Nat) (A : Option Addr) (c : Nat) (xs : List UInt8) (bl : Bool) (w : World) (he : EyeAt w p g A c xs bl) :
    Calls Try.prog 36 #[.pointer (some ⟨p, 0, none⟩)] w fun e w' => ∃ B d, e = .returned (.slice B (after bl xs (stampsR xs) []).1.length d) ∧ (Sts w' B (after bl xs (stampsR xs) []).1 ∧ ∀ ad, B = some ad → w.heap.size ≤ ad.block) ∧ Seen w w' p g bl xs (stampsR xs) [] := by
  have hmf : ∀ (fn : Fn) (first cap : Array Value) (w : World), (Instr.makeFunc fn first cap).run Try.prog w = .ok (.func fn first cap) w := fun _ _ _ _ => rfl
  have hx := (Ext.refl w).alloc (.cells #[.pointer (some ⟨p, 0, none⟩)] 52)
  have hbx := Blk.new w 52 #[.pointer (some ⟨p, 0, none⟩)]
  have he1 := he.ext hx
  unfold Seen after
  cases bl with
  | true =>
    simp only [if_true]
    go_enter Try.func36, Try.ntmps36
    go_wp2_with (go_at_call 61; refine (see_blind_stamps _ p g A c xs _ he1).mono ?_; rintro e w1 ⟨rfl, hx1⟩)
    go_ret
    exact ⟨none, 0, rfl, ⟨Row.nil _ _, fun ad e => by cases e⟩, .of_ext (hx.trans hx1), A, c, he1.ext hx1⟩
  | false =>
    simp only [Bool.false_eq_true, if_false]
    unfold stampsR
    have hno : ¬ (8 ≤ xs.length ∧ 0 ≤ wrap64 (numV (xs.take 8) : Nat) ∧ wrap64 (numV (xs.take 8) : Nat) ≤ (((xs.drop 8).length / 16 : Nat) : Int)) → Calls Try.prog 36 #[.pointer (some ⟨p, 0, none⟩)] w fun e w' => ∃ B d, e = .returned (.slice B ([] : List St).length d) ∧ (Sts w' B [] ∧ ∀ ad, B = some ad → w.heap.size ≤ ad.block) ∧ Chs (isP p) w w' ∧ ∃ A c, EyeAt w' p g A c xs true := by
      intro h8
      have hC := fun w1 (h : Ext _ w1) => stampsS_not w.heap.size p g A c xs w1 (hbx.ext h) (he1.ext h) h8
      go_enter Try.func36, Try.ntmps36
      go_wp2_with (go_at_call 61; refine (see_not_stamps w.heap.size p g A c xs _ he1 hC).mono ?_; rintro e w1 ⟨rfl, hx1, he2⟩)
      go_ret
      exact ⟨none, 0, rfl, ⟨Row.nil _ _, fun ad e => by cases e⟩, (Chs.of_ext hx).trans hx1, A, c, he2⟩
    by_cases h8 : 8 ≤ xs.length
    · simp only [if_pos h8]
      by_cases h9 : 0 ≤ wrap64 (numV (xs.take 8) : Nat) ∧ wrap64 (numV (xs.take 8) : Nat) ≤ (((xs.drop 8).length / 16 : Nat) : Int)
      · simp only [if_pos h9]
        have hC := fun w1 (h : Ext _ w1) => stampsS_ok w.heap.size p g A c (wrap64 (numV (xs.take 8) : Nat)).toNat xs w1 (hbx.ext h) (he1.ext h) h8 (by omega) (by omega)
        clear hno h9
        generalize (xs.drop 8).drop (16 * (wrap64 (numV (xs.take 8) : Nat)).toNat) = zs at *
        generalize stampL (xs.drop 8) (wrap64 (numV (xs.take 8) : Nat)).toNat = L at *
        go_enter Try.func36, Try.ntmps36
        go_wp2_with (go_at_call 61; refine (see_ok_stamps w.heap.size p g A c xs _ _ _ he1 hC).mono ?_; rintro e w1 ⟨B, d, rfl, ⟨hst, hbb⟩, hx1, A1, c1, he2⟩)
        go_ret
        exact ⟨B, d, rfl, ⟨hst, fun ad e => by have := hbb ad e; simp at this; omega⟩, (Chs.of_ext hx).trans hx1, A1, c1, he2⟩
      · simp only [if_neg h9]
        exact hno fun h => h9 h.2
    · simp only [if_neg h8]
      exact hno fun h => h8 h.1
end Go.Proofs.Ytbmpecfhflkbeaa


