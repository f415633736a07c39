/- Contracts: the sum; live. -/
import Derived.Test.YtbmpecfhflkbeaaFlI
import Derived.Lib.SlBytesConst
namespace Go.Proofs.Ytbmpecfhflkbeaa
open Go.RowKit

def sumStep (h : Nat) (b : UInt8) : Nat := ((h ^^^ b.toNat) * 1099511628211) % 18446744073709551616
def sumFrom (h : Nat) (l : List UInt8) : Nat := l.foldl sumStep h
def sumV (l : List UInt8) : Nat := sumFrom 14695981039346656037 l
theorem sumStep_lt (h : Nat) (b : UInt8) : sumStep h b < 18446744073709551616 := Nat.mod_lt _ (by omega)
theorem sumFrom_lt (l : List UInt8) (h : Nat) (hh : h < 18446744073709551616) : sumFrom h l < 18446744073709551616 := by
  induction l generalizing h with
  | nil => simpa only [sumFrom, List.foldl_nil] using hh
  | cons b l ih =>
    have := ih _ (sumStep_lt h b)
    simpa only [sumFrom, List.foldl_cons] using this
theorem sumFrom_take (h : Nat) (l : List UInt8) (k : Nat) (hk : k < l.length) : sumFrom h (l.take (k + 1)) = sumStep (sumFrom h (l.take k)) l[k] := by
  unfold sumFrom
  rw [List.take_succ_eq_append_getElem hk, List.foldl_append, List.foldl_cons, List.foldl_nil]
theorem sum_step (h : Nat) (b : UInt8) (hh : h < 18446744073709551616) : IntKind.u64.wrap (bits BinOp.xor IntKind.u64 (h : Int) (IntKind.u64.wrap (b.toNat : Int)) * 1099511628211) = ((sumStep h b : Nat) : Int) := by
  have hb := b.toNat_lt
  have e1 : IntKind.u64.wrap (b.toNat : Int) = (b.toNat : Int) := by rw [IntKind.wrap_u64]; omega
  rw [e1, bits_xor_u64_nat _ _ hh (by omega), IntKind.wrap_u64]
  unfold sumStep
  generalize h ^^^ b.toNat = q
  omega

theorem sum_any (l : List UInt8) (A : Option Addr) (c : Nat) (w : World) (hm : l.length ≤ 1099511627776) (hs : U8s w A l) :
    Calls Try.prog 13 #[.slice A l.length c] w fun e w' => e = .returned (.int .u64 (sumV l : Nat)) ∧ w = w' := by
  go_enter Try.func13, Try.ntmps13
  go_wp2
  go_loopw [8, 3] (fun i v wr => ∃ k : Nat, k ≤ l.length ∧ i = .int .i64 k ∧ v = .int .u64 (sumFrom 14695981039346656037 (l.take k) : Nat) ∧ w = wr) (fun i _ _ => l.length - (intOf i).toNat)
  case atStart => exact ⟨0, by omega, rfl, rfl, rfl⟩
  case round =>
    obtain ⟨k, hk, rfl, rfl, rfl⟩ := hrel
    by_cases hlt : k < l.length
    · obtain ⟨b, o, rfl, hb, hcell⟩ := hs.c1 k hlt _ rfl
      have hT := Lib.hid (sumFrom_take 14695981039346656037 l k hlt)
      have hst := sum_step (sumFrom 14695981039346656037 (l.take k)) l[k] (sumFrom_lt _ _ (by omega))
      generalize l[k] = a at *
      generalize sumFrom 14695981039346656037 (l.take k) = N at *
      go_wp2
      go_roundw
      case rel => exact ⟨k + 1, by omega, by go_num, by rw [hT.out], by first | rfl | trivial⟩
      case measure => simp [intOf]; omega
    · obtain rfl : k = l.length := by omega
      rw [List.take_length]
      go_wp2
      go_ret
      exact ⟨rfl, rfl⟩
theorem num_any (n : Int) (w : World) : Calls Try.prog 39 #[.int .i64 n] w fun e w' => e = .returned (.int .i64 n) ∧ w = w' := by
  go_enter Try.func39, Try.ntmps39
  go_wp2
  go_ret
  exact ⟨rfl, rfl⟩
theorem new_pen (w : World) : PenAt (w.alloc (.cells #[.slice none 0 0] 33)) w.heap.size none [] :=
  ⟨_, Blk.new _ _ _, World.ownsRow_nil _ _ _ _, rfl⟩

theorem PenTo.to_ext {w a b : World} {p : Nat} {r r' : Option Nat} {ys : List UInt8} (h : PenTo a p r b r' ys) (hw : Ext w a) (hp : w.heap.size ≤ p) (hr : ∀ i, r = some i → w.heap.size ≤ i) : Ext w b ∧ ∀ i, r' = some i → w.heap.size ≤ i := by
  refine ⟨hw.chs h.chs fun i hi e => ?_, fun i hi => ?_⟩
  · rcases e with e | e
    · omega
    · have := hr i e; omega
  · rcases h.row i hi with e | e
    · exact hr i e
    · exact Nat.le_trans hw.size e
theorem Ext.see {w a b : World} {p : Nat} (hw : Ext w a) (h : Chs (isP p) a b) (hp : w.heap.size ≤ p) : Ext w b := hw.chs h fun i hi e => by omega

theorem Row.newM {T : Type} {f : T → List Value} {size : Nat} (w : World) (cs : Array Value) (t : TypeId) (fr : Nat × Nat) (l : List T) (hf : ∀ x, (f x).length = size) (h : cs.toList = l.flatMap f) : Row f size (w.alloc (.cells cs t fr)) (some ⟨w.heap.size, 0, none⟩) l := by
  intro hl
  refine ⟨_, _, rfl, by simp, fun k hk j u hu => ?_⟩
  rw [World.cell?_alloc_mark, ← Array.getElem?_toList, h, Nat.zero_add]
  exact at_flat hf l k hk j u hu
theorem conv_const (w : World) (C : Array Value) (n c : Nat) : (convert 22 22 (.slice (some ⟨w.heap.size, 0, none⟩) n c)).run Try.prog (w.alloc (.cells C 5)) = .ok (.slice (some ⟨w.heap.size, 0, none⟩) n c) (w.alloc (.cells C 5 (C.size, C.size + 1))) :=
  Lib.run_convert_bytes_const w _ _ C n c Try.underlying22 Try.underlying5
def liveL : List UInt8 := [254, 255, 255, 255, 255, 255, 255, 255, 2, 0, 0, 0, 97, 98]
theorem live1 : ([] ++ [(-2 : Int)].flatMap intB) ++ [({ data := #[97, 98] } : ByteArray)].flatMap textB = liveL := by kernel_rfl
theorem live2 : strOf liveL = { data := #[254, 255, 255, 255, 255, 255, 255, 255, 2, 0, 0, 0, 97, 98] } := by kernel_rfl
theorem live3 : after false liveL (intR liveL) 0 = ((-2 : Int), [2, 0, 0, 0, 97, 98], false) := by kernel_rfl
theorem live4 : after false ([2, 0, 0, 0, 97, 98] : List UInt8) (textR [2, 0, 0, 0, 97, 98]) ByteArray.empty = (({ data := #[97, 98] } : ByteArray), [], false) := by kernel_rfl
theorem live5 : after false ([2, 0, 0, 0, 97] : List UInt8) (textR [2, 0, 0, 0, 97]) ByteArray.empty = (({ data := #[] } : ByteArray), [2, 0, 0, 0, 97], true) := by kernel_rfl
theorem live6 : sumV [97] = 12638187200555641996 := by kernel_rfl

set_option maxRecDepth 100000 in
theorem live_any (w : World) : Calls Try.prog 12 #[] w fun e w' => e = .returned (.bool true) ∧ Ext w w' := by
  have hx1 := ((Ext.refl w).alloc (.cells #[.slice none 0 0] 33)).alloc (.cells #[.int .i64 (-2)] 2)
  have hp1 := (new_pen w).ext ((Ext.refl _).alloc (.cells #[.int .i64 (-2)] 2))
  have hr1 := Row.new (f := fI64) (size := 1) (w.alloc (.cells #[.slice none 0 0] 33)) #[.int .i64 (-2)] 2 [-2] (fun _ => rfl) rfl
  have hf1 := pen_new (new_pen w) (Nat.le_refl _)
  rw [World.size_alloc] at hr1 hf1
  have hle := Nat.le_refl w.heap.size
  have d0 : doneV [] false = 0 := rfl
  have d1 : doneV [2, 0, 0, 0, 97] true = 20 := rfl
  generalize hp : w.heap.size = p at hp1 hr1 hf1
  go_enter Try.func12, Try.ntmps12
  go_wp2_with fail
  refine (int_any p none [] [-2] _ 1 _ hp1 hr1 (fun _ => hf1) (by simp)).mono ?_
  rintro e w1 ⟨rfl, r1, hq1⟩
  obtain ⟨hxa, hra⟩ := hq1.to_ext hx1 (by omega) (fun i e => by cases e)
  have hpa := hq1.at_
  have hx2 := hxa.alloc (.cells #[.string { data := #[97, 98] }] 9)
  have hp2 := hpa.ext ((Ext.refl _).alloc (.cells #[.string { data := #[97, 98] }] 9))
  have hr2 := Row.new (f := fStr) (size := 1) w1 #[.string { data := #[97, 98] }] 9 [{ data := #[97, 98] }] (fun _ => rfl) rfl
  have hf2 := pen_new hpa (Nat.le_refl _)
  clear hq1 hp1 hr1 hf1 hx1
  go_wp2_with fail
  refine (text_any p r1 _ [{ data := #[97, 98] }] _ 1 _ hp2 hr2 (fun _ => hf2) (by simp [intB_len])).mono ?_
  rintro e w2 ⟨rfl, r2, hq2⟩
  rw [live1] at hq2
  obtain ⟨hxb, hrb⟩ := hq2.to_ext hx2 (by omega) hra
  have hpb := hq2.at_
  clear hq2 hp2 hr2 hf2 hx2 hpa
  go_wp2_with fail
  refine (bytes_any p r2 liveL _ hpb (by decide)).mono ?_
  rintro e w3 ⟨⟨A3, c3, rfl, ho3, hn3⟩, hx3⟩
  have hb3 := OwnB.rd ho3
  have hcv := run_string_of (c := c3) hb3.2
  go_wp2_with fail
  refine (open_any liveL A3 c3 _ (by decide) hb3.2.row hn3).mono ?_
  rintro e w4 ⟨hx4, pe, ge, Ae, ce, rfl, hpe, hge, he4⟩
  have hcv4 := run_string_of (c := c3) (U8s.rd (hb3.2.row.ext hx4))
  rw [live2] at hcv4
  have hxd := (hxb.trans hx3).trans hx4
  clear hcv
  have hci := conv_const
  have hx5 := (Ext.refl w4).alloc (.cells #[.int .u8 2, .int .u8 0, .int .u8 0, .int .u8 0, .int .u8 97] 5 (5, 6))
  have hr5 := Row.newM (f := fU8) (size := 1) w4 #[.int .u8 2, .int .u8 0, .int .u8 0, .int .u8 0, .int .u8 97] 5 (5, 6) [2, 0, 0, 0, 97] (fun _ => rfl) rfl
  have he5 := he4.ext hx5
  go_wp2_with fail
  refine (open_any [2, 0, 0, 0, 97] _ 5 _ (by decide) hr5 (fun e => by cases e)).mono ?_
  rintro e w5 ⟨hx6, pf, gf, Af, cf, rfl, hpf, hgf, hf6⟩
  have he6 := he5.ext hx6
  have hxe := (hxd.trans hx5).trans hx6
  have hpf2 : pe < pf := Nat.lt_of_lt_of_le he5.blk.lt hpf
  have hgf2 : gf ≠ some pe := fun e => by have := hgf _ e; have := he5.blk.lt; omega
  have hge2 : ge ≠ some pf := fun e => by have := he5.lt _ e; omega
  have hwp : w.heap.size ≤ pe := by have := hxb.size; have := hx3.size; omega
  clear hcv4 hx5 hr5 he4 he5 hx6 hxd hx4 ho3 hb3 hx3 hpb hxb hxa
  go_wp2_with fail
  refine (eye_int pe ge Ae ce liveL false _ he6).mono ?_
  rintro e w6 ⟨rfl, hx7, A7, c7, he7⟩
  rw [live3] at he7 ⊢
  dsimp only at he7 ⊢
  have hf7 := hf6.chs hx7 (show pf ≠ pe by omega) (fun i _ e1 e2 => hgf2 (e2 ▸ e1))
  have hxf := hxe.see hx7 hwp
  clear hx7 he6 hf6 hxe
  go_wp2_with fail
  refine (eye_text pe ge A7 c7 _ false _ he7).mono ?_
  rintro e w7 ⟨rfl, hx8, A8, c8, he8⟩
  rw [live4] at he8 ⊢
  dsimp only at he8 ⊢
  have hf8 := hf7.chs hx8 (show pf ≠ pe by omega) (fun i _ e1 e2 => hgf2 (e2 ▸ e1))
  have hxg := hxf.see hx8 hwp
  clear hx8 he7 hf7 hxf
  go_wp2_with fail
  refine (done_any pe ge A8 c8 _ false _ he8).mono ?_
  rintro e w8 ⟨rfl, hx9⟩
  have hf9 := hf8.ext hx9
  have hxh := hxg.trans hx9
  clear hx9 he8 hf8 hxg
  go_wp2_with (go_at_call 39; refine (num_any _ _).mono ?_; rintro e w' ⟨rfl, rfl⟩)
  refine (eye_text pf gf Af cf _ false _ hf9).mono ?_
  rintro e w9 ⟨rfl, hx10, A10, c10, hf10⟩
  rw [live5] at hf10 ⊢
  dsimp only at hf10 ⊢
  have hxi := hxh.see hx10 (by omega)
  clear hx10 hf9 hxh
  go_wp2_with fail
  refine (done_any pf gf A10 c10 _ true _ hf10).mono ?_
  rintro e w10 ⟨rfl, hx11⟩
  have hf11 := hf10.ext hx11
  have hxj := hxi.trans hx11
  clear hx11 hf10 hxi
  have hl6 := Lib.hid live6
  have hr12 := Row.newM (f := fU8) (size := 1) w10 #[.int .u8 97] 5 (1, 2) [97] (fun _ => rfl) rfl
  have hx12 := hxj.alloc (.cells #[.int .u8 97] 5 (1, 2))
  go_wp2_with (first
    | (go_at_call 39; refine (num_any _ _).mono ?_; rintro e w' ⟨rfl, rfl⟩)
    | (go_at_call 38; refine (left_any pf gf A10 c10 _ true _ hf11).mono ?_; rintro e w' ⟨rfl, rfl⟩)
    | (go_at_call 13; refine (sum_any [97] _ 1 _ (by decide) hr12).mono ?_; rintro e w' ⟨rfl, rfl⟩; rw [hl6.out]))
  go_ret
  exact ⟨rfl, hx12⟩
end Go.Proofs.Ytbmpecfhflkbeaa
