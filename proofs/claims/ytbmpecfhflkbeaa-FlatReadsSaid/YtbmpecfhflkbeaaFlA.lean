/- Contracts: the pen. -/
import Derived.Test.YtbmpecfhflkbeaaRow
namespace Go.Proofs.Ytbmpecfhflkbeaa
open Go.RowKit
set_option linter.unusedVariables false

/-- the lowest bytes of a number -/
def lowB (n k : Nat) : List UInt8 := (List.range k).map fun i => UInt8.ofNat (n / 256 ^ i)
theorem lowB_len (n k : Nat) : (lowB n k).length = k := by simp [lowB]
theorem lowB_succ (n k : Nat) : lowB n (k + 1) = lowB n k ++ [UInt8.ofNat (n / 256 ^ k)] := by simp [lowB, List.range_succ]
theorem u8_wrap (n : Nat) : IntKind.u8.wrap (n : Int) = ((UInt8.ofNat n).toNat : Int) := by
  rw [IntKind.wrap_u8]
  simp

/-- the pen at p holds a slice of its own, which lies in block r -/
structure PenAt (w : World) (p : Nat) (r : Option Nat) (xs : List UInt8) : Prop where
  ex : ∃ v, Blk w p 33 #[v] ∧ OwnB w 0 v xs ∧ v.ownBlock = r
/-- what a pen's call may turn -/
abbrev penS (p : Nat) (r : Option Nat) : Nat → Prop := fun i => i = p ∨ r = some i
theorem PenAt.lt {w : World} {p : Nat} {r : Option Nat} {xs : List UInt8} (h : PenAt w p r xs) : p < w.heap.size := by
  obtain ⟨v, hb, _⟩ := h.ex
  exact hb.lt
theorem PenAt.row_lt {w : World} {p : Nat} {r : Option Nat} {xs : List UInt8} (h : PenAt w p r xs) : ∀ i, r = some i → i < w.heap.size ∧ i ≠ p := by
  obtain ⟨v, hb, ho, rfl⟩ := h.ex
  intro i hi
  exact ⟨own_lt ho i hi, own_blk_far ho hb (by decide) i hi⟩
theorem PenAt.chs {S : Nat → Prop} {w w' : World} {p : Nat} {r : Option Nat} {xs : List UInt8} (h : PenAt w p r xs) (k : Chs S w w') (h1 : ¬ S p) (h2 : ∀ i, r = some i → ¬ S i) : PenAt w' p r xs := by
  obtain ⟨v, hb, ho, rfl⟩ := h.ex
  exact ⟨v, hb.chs k h1, own_chs ho k h2, rfl⟩
theorem PenAt.ext {w w' : World} {p : Nat} {r : Option Nat} {xs : List UInt8} (h : PenAt w p r xs) (k : Ext w w') : PenAt w' p r xs := h.chs (S := fun _ => False) (.of_ext k) (fun e => e) (fun _ _ e => e)

/-- a pen's call: from block r to block r', behind it the pen holds ys -/
structure PenTo (w : World) (p : Nat) (r : Option Nat) (w' : World) (r' : Option Nat) (ys : List UInt8) : Prop where
  chs : Chs (penS p r) w w'
  at_ : PenAt w' p r' ys
  row : ∀ i, r' = some i → r = some i ∨ w.heap.size ≤ i
theorem PenTo.refl {w : World} {p : Nat} {r : Option Nat} {xs : List UInt8} (h : PenAt w p r xs) : PenTo w p r w r xs := ⟨Chs.refl _ _, h, fun _ hi => .inl hi⟩
theorem PenTo.trans {a b c : World} {p : Nat} {r r' r'' : Option Nat} {ys zs : List UInt8} (h : PenTo a p r b r' ys) (k : PenTo b p r' c r'' zs) : PenTo a p r c r'' zs :=
  ⟨h.chs.trans' k.chs (fun i hi e => by
    rcases e with e | e
    · exact .inl e
    · rcases h.row i e with e | e
      · exact .inr e
      · omega), k.at_, fun i hi => by
    rcases k.row i hi with e | e
    · exact h.row i e
    · exact .inr (Nat.le_trans h.chs.size e)⟩
theorem PenTo.then_ext {a b c : World} {p : Nat} {r r' : Option Nat} {ys : List UInt8} (h : PenTo a p r b r' ys) (k : Ext b c) : PenTo a p r c r' ys := ⟨h.chs.then_ext k, h.at_.ext k, h.row⟩
theorem Ext.pen {a b c : World} {p : Nat} {r r' : Option Nat} {ys : List UInt8} (h : Ext a b) (k : PenTo b p r c r' ys) : PenTo a p r c r' ys :=
  ⟨(Chs.of_ext h).trans k.chs, k.at_, fun i hi => (k.row i hi).imp (fun e => e) (Nat.le_trans h.size)⟩
theorem pen_put {wr W0 w1 : World} {p n1 c1 : Nat} {A1 : Option Addr} {v : Value} {zs : List UInt8} (hb : Blk wr p 33 #[v]) (hx : Ext wr W0) (hg : W0.grownBy w1 v.ownBlock) (hown : w1.ownsRow 0 5 1 (.slice A1 n1 c1) zs.length (u8s zs))
    (hb1 : Blk w1 p 33 #[v]) (hat : (Value.slice A1 n1 c1).ownBlock = v.ownBlock ∨ (Value.slice A1 n1 c1).ownBlock = some W0.heap.size) :
    ∃ r', PenTo wr p v.ownBlock (w1.setCell ⟨p, 0, none⟩ (.slice A1 n1 c1)) r' zs := by
  refine ⟨(Value.slice A1 n1 c1).ownBlock, ?_, ⟨_, hb1.set_ 0 _, ?_, rfl⟩, fun i hi => ?_⟩
  · exact Chs.setCell (Chs.grown (Chs.of_ext hx) hg fun i hi => .inl (.inr hi)) (.inl (.inl rfl)) _
  · exact own_chs (S := fun i => i = p) hown (Chs.setCell (S := fun i => i = p) (p := ⟨p, 0, none⟩) (Chs.refl _ _) (.inl rfl) _) (own_blk_far hown hb1 (by decide))
  · rcases hat with e | e
    · exact .inl (e ▸ hi)
    · rw [e] at hi
      injection hi with hi
      exact .inr (by have := hx.size; omega)
theorem own_app {w : World} {v : Value} {n m : Nat} {xs ys : List UInt8} {l : List Value} (h : w.ownsRow 0 5 1 v (n + m) (u8s xs ++ l)) (hn : n = xs.length) (hm : m = ys.length) (hl : l = u8s ys) : w.ownsRow 0 5 1 v (xs ++ ys).length (u8s (xs ++ ys)) := by
  subst hn hm hl
  rw [List.length_append, u8s_append]
  exact h

set_option maxRecDepth 100000 in
theorem low_any (p : Nat) (r : Option Nat) (xs : List UInt8) (n many : Nat) (w : World) (hp : PenAt w p r xs) (hn : n < 18446744073709551616) (hm : many ≤ 8) (hl : xs.length ≤ 1099511627776) :
    Calls Try.prog 42 #[.pointer (some ⟨p, 0, none⟩), .int .u64 (n : Int), .int .i64 (many : Int)] w fun e w' => e = .returned (.tuple #[]) ∧ ∃ r', PenTo w p r w' r' (xs ++ lowB n many) := by
  go_enter Try.func42, Try.ntmps42
  go_wp2
  go_loopw [9, 1] (fun i m wr => ∃ k : Nat, k ≤ many ∧ i = .int .i64 k ∧ m = .int .u64 ((n / 256 ^ k : Nat) : Int) ∧ ∃ r', PenTo w p r wr r' (xs ++ lowB n k)) (fun i _ _ => many - (intOf i).toNat)
  case atStart => exact ⟨0, by omega, rfl, by simp, r, by simpa [lowB] using PenTo.refl hp⟩
  case round =>
    obtain ⟨k, hk, rfl, rfl, r', hpn⟩ := hrel
    by_cases hlt : k < many
    · obtain ⟨v, hb, ho, rfl⟩ := hpn.at_.ex
      have hT := Lib.hid (lowB_succ n k)
      have hQ : Hid (n / 256 ^ (k + 1) = n / 256 ^ k / 256)   := Lib.hid (by rw [Nat.pow_succ, Nat.div_div_eq_div_mul])
      generalize n / 256 ^ k = q at *
      have h1 : wr.cell? ⟨p, 0, none⟩ = some v := hb.cell 0
      have h2 := hb.frozen 0
      have hpl := hb.lt
      obtain ⟨i0, hi0, hz0, hz1, hz2⟩ := info_parts u8_info
      have hb' := hb.alloc (.cells #[.int .u8 ((q : Int) % 256)] 5)
      have ho' := ho.alloc (.cells #[.int .u8 ((q : Int) % 256)] 5)
      have hrd := reads_new1 wr (.int .u8 ((q : Int) % 256)) 5
      have hlen : (xs ++ lowB n k).length + 1 ≤ 1099511627800 := by rw [List.length_append, lowB_len]; omega
      have hfar := own_blk_far ho' hb' (by decide)
      have hvl := own_lt ho
      have hL := Lib.hid hlen
      clear hlen
      go_wp2_with (at_builtin; (refine wpList_append_any _ rfl (.tmp 15) (.tmp 18) _ rfl 0 5 i0 _ 1 1 Try.underlying22 hi0 hz0 hz1 hz2 rfl (by decide) v _ (u8s (xs ++ lowB n k)) rfl ho' (wr.heap.size + 1) (some ⟨wr.heap.size, 0, none⟩) 1 1 [.int .u8 ((q : Int) % 256)] rfl hrd (by intro u hu; simp at hu; subst hu; rfl) (by have := hL.out; simp only [maxLen]; omega) (by have := hL.out; omega) (by omega) ?_); intro v1 w1 hown hg hat; obtain ⟨A1, c1, rfl⟩ := own_slice hown; have hb1 := blk_grown hb' hg hfar; have f1 : w1.cell? ⟨p, 0, none⟩ = some v := hb1.cell 0; have f2 := hb1.frozen 0)
      go_roundw
      case rel =>
        obtain ⟨r'', hp2⟩ := pen_put hb ((Ext.refl wr).alloc _) hg (own_app hown rfl rfl (u8_lit q).symm) hb1 hat
        rw [List.append_assoc, ← hT.out] at hp2
        exact ⟨k + 1, by omega, by go_num, by rw [hQ.out]; simp, r'', hpn.trans (by simpa using hp2)⟩
      case measure => simp [intOf]; omega
    · obtain rfl : k = many := by omega
      go_wp2
      go_end0
      exact ⟨rfl, r', hpn⟩

/-- a number's eight bytes -/
def toU (n : Int) : Nat := (n % 18446744073709551616).toNat
def intB (n : Int) : List UInt8 := lowB (toU n) 8
theorem intB_len (n : Int) : (intB n).length = 8 := lowB_len _ _
theorem toU_eq (n : Int) : ((toU n : Nat) : Int) = n % 18446744073709551616 := by unfold toU; omega
theorem toU_lt (n : Int) : toU n < 18446744073709551616 := by unfold toU; omega
theorem take_flat {T : Type} (f : T → List UInt8) (l : List T) (k : Nat) (h : k < l.length) : (l.take (k + 1)).flatMap f = (l.take k).flatMap f ++ f l[k] := by
  rw [List.take_succ_eq_append_getElem h, List.flatMap_append, List.flatMap_singleton]
theorem flat_len8 (l : List Int) : (l.flatMap intB).length = 8 * l.length := by
  induction l with
  | nil => rfl
  | cons a l ih => rw [List.flatMap_cons, List.length_append, ih, intB_len, List.length_cons]; omega
theorem PenTo.reads {T : Type} {f : T → List Value} {size : Nat} {w w' : World} {p : Nat} {r r' : Option Nat} {A : Option Addr} {l : List T} {ys : List UInt8} (h : PenTo w p r w' r' ys) (hr : Row f size w A l) (hne : l ≠ [] → ∀ ad, A = some ad → ad.block ≠ p ∧ r ≠ some ad.block) :
    Row f size w' A l ∧ (l ≠ [] → ∀ ad, A = some ad → ad.block ≠ p ∧ r' ≠ some ad.block) := by
  refine ⟨hr.chs h.chs fun hl ad e => ?_, fun hl ad e => ⟨(hne hl ad e).1, fun e' => ?_⟩⟩
  · obtain ⟨h1, h2⟩ := hne hl ad e
    rintro (h | h)
    · exact h1 h
    · exact h2 h
  · rcases h.row _ e' with h1 | h1
    · exact (hne hl ad e).2 h1
    · have := hr.lt hl ad e
      omega
theorem PenTo.app {w w' : World} {p : Nat} {r r' : Option Nat} {ys zs : List UInt8} (h : PenTo w p r w' r' ys) (e : ys = zs) : PenTo w p r w' r' zs := e ▸ h

set_option maxRecDepth 100000 in
theorem int_any (p : Nat) (r : Option Nat) (xs : List UInt8) (l : List Int) (A : Option Addr) (c : Nat) (w : World) (hp : PenAt w p r xs) (hr : I64s w A l) (hne : l ≠ [] → ∀ ad, A = some ad → ad.block ≠ p ∧ r ≠ some ad.block) (hl : xs.length + 8 * l.length ≤ 1099511627776) :
    Calls Try.prog 14 #[.pointer (some ⟨p, 0, none⟩), .slice A l.length c] w fun e w' => e = .returned (.tuple #[]) ∧ ∃ r', PenTo w p r w' r' (xs ++ l.flatMap intB) := by
  go_enter Try.func14, Try.ntmps14
  go_wp2
  go_loopw [8] (fun i wr => ∃ k : Nat, k ≤ l.length ∧ i = .int .i64 k ∧ ∃ r', PenTo w p r wr r' (xs ++ (l.take k).flatMap intB)) (fun i _ => l.length - (intOf i).toNat)
  case atStart => exact ⟨0, by omega, rfl, r, by simpa using PenTo.refl hp⟩
  case round =>
    obtain ⟨k, hk, rfl, r', hpn⟩ := hrel
    by_cases hlt : k < l.length
    · obtain ⟨hr1, _⟩ := hpn.reads hr hne
      obtain ⟨b, o, rfl, hb, hcell⟩ := hr1.c1 k hlt _ rfl
      have hT := Lib.hid (take_flat intB l k hlt)
      have hL : Hid ((xs ++ (l.take k).flatMap intB).length ≤ 1099511627776) := by
        show _ ≤ _
        rw [List.length_append, flat_len8, List.length_take]; omega
      have hi : IntKind.u64.wrap l[k] = ((toU l[k] : Nat) : Int) := by rw [IntKind.wrap_u64, toU_eq]
      have hi2 := toU_lt l[k]
      generalize l[k] = a at *
      clear hr1
      go_wp2_with (go_at_call 42; refine (low_any p r' _ (toU a) 8 _ hpn.at_ hi2 (by omega) hL.out).mono ?_; rintro e w1 ⟨rfl, r2, hp2⟩)
      go_roundw
      case rel =>
        refine ⟨k + 1, by omega, by go_num, r2, (hpn.trans hp2).app ?_⟩
        rw [hT.out, List.append_assoc]; rfl
      case measure => simp [intOf]; omega
    · obtain rfl : k = l.length := by omega
      go_wp2
      go_end0
      exact ⟨rfl, r', by simpa using hpn⟩


/-- a text as bytes; no more of it than may be -/
def bs (s : ByteArray) : List UInt8 := s.data.toList
theorem bs_len (s : ByteArray) : (bs s).length = s.size := Array.length_toList
def cutS (s : ByteArray) : ByteArray := strOf ((bs s).take 1048576)
theorem strOf_bs (s : ByteArray) : strOf (bs s) = s := by simp [strOf, bs]
theorem bs_strOf (l : List UInt8) : bs (strOf l) = l := by simp [strOf, bs]
theorem cutS_size (s : ByteArray) : (cutS s).size = min s.size 1048576 := by unfold cutS; rw [strOf_size, List.length_take, bs_len]; omega
def textB (s : ByteArray) : List UInt8 := lowB (cutS s).size 4 ++ bs (cutS s)
theorem textB_len (s : ByteArray) : (textB s).length = 4 + min s.size 1048576 := by unfold textB; rw [List.length_append, lowB_len, bs_len, cutS_size]
theorem extract_bs (s : ByteArray) (m : Nat) : s.extract 0 m = strOf ((bs s).take m) := by
  apply ByteArray.ext
  apply Array.toList_inj.1
  rw [Lib.extract_data]
  simp [strOf, bs]
theorem cutS_eq (s : ByteArray) : s.extract 0 (min s.size 1048576) = cutS s := by
  rw [extract_bs]
  unfold cutS
  rcases Nat.le_total s.size 1048576 with h | h
  · rw [Nat.min_eq_left h, List.take_of_length_le (by rw [bs_len]; exact Nat.le_refl _), List.take_of_length_le (by rw [bs_len]; exact h)]
  · rw [Nat.min_eq_right h]
theorem flat_lenT (l : List ByteArray) : (l.flatMap textB).length ≤ 1048580 * l.length := by
  induction l with
  | nil => simp
  | cons a l ih => rw [List.flatMap_cons, List.length_append, textB_len, List.length_cons]; omega

set_option maxRecDepth 100000 in
theorem text_any (p : Nat) (r : Option Nat) (xs : List UInt8) (l : List ByteArray) (A : Option Addr) (c : Nat) (w : World) (hp : PenAt w p r xs) (hr : Strs w A l) (hne : l ≠ [] → ∀ ad, A = some ad → ad.block ≠ p ∧ r ≠ some ad.block) (hl : xs.length + 1048580 * l.length ≤ 1099511627776) :
    Calls Try.prog 15 #[.pointer (some ⟨p, 0, none⟩), .slice A l.length c] w fun e w' => e = .returned (.tuple #[]) ∧ ∃ r', PenTo w p r w' r' (xs ++ l.flatMap textB) := by
  have hpl := hp.lt
  go_enter Try.func15, Try.ntmps15
  go_wp2
  go_loopw [10] (fun i wr => ∃ k : Nat, k ≤ l.length ∧ i = .int .i64 k ∧ ∃ r', PenTo w p r wr r' (xs ++ (l.take k).flatMap textB)) (fun i _ => l.length - (intOf i).toNat)
  case atStart => exact ⟨0, by omega, rfl, r, by simpa using PenTo.refl hp⟩
  case round =>
    obtain ⟨k, hk, rfl, r', hpn⟩ := hrel
    by_cases hlt : k < l.length
    · obtain ⟨hr1, _⟩ := hpn.reads hr hne
      obtain ⟨b, o, rfl, hb, hcell⟩ := hr1.c1 k hlt _ rfl
      have hT := Lib.hid (take_flat textB l k hlt)
      have hL : Hid ((xs ++ (l.take k).flatMap textB).length ≤ 1099511627776 - 1048580) := by
        have := flat_lenT (l.take k)
        rw [List.length_take] at this
        show _ ≤ _
        rw [List.length_append]; omega
      generalize l[k] = a at *
      clear hr1
      have hC := Lib.hid (show textB a = lowB (cutS a).size 4 ++ bs (cutS a) from rfl)
      have hx := cutS_eq a
      have hsz := cutS_size a
      obtain ⟨m, hm⟩ : ∃ m, m = min a.size 1048576 := ⟨_, rfl⟩
      have hmin : (if (1048576 : Int) < (a.size : Int) then (1048576 : Int) else (a.size : Int)) = ((m : Nat) : Int) := by split <;> omega
      have hmn : min m a.size = m := by omega
      have hm2 : m ≤ 1048576 := by omega
      rw [← hm] at hx hsz
      clear hm
      have hcs := strOf_bs (cutS a)
      generalize cutS a = ca at *
      obtain ⟨i0, hi0, hz0, hz1, hz2⟩ := info_parts u8_info
      have hl2 := Lib.hid ((@List.length_append _ (xs ++ (l.take k).flatMap textB) (lowB m 4)).trans (by rw [lowB_len]))
      go_wp2_with (first
        | (go_at_call 42; (refine (low_any p r' _ m 4 _ hpn.at_ (by omega) (by omega) (by have := hL.out; omega)).mono ?_); rintro e w1 ⟨rfl, r2, hp2⟩; obtain ⟨v, hb2, ho2, rfl⟩ := hp2.at_.ex; have h1 : w1.cell? ⟨p, 0, none⟩ = some v := hb2.cell 0; have h2 := hb2.frozen 0; have hfar := own_blk_far ho2 hb2 (by decide))
        | (at_builtin; (refine wpList_append_str _ rfl (.tmp 28) (.tmp 29) _ _ rfl 0 5 i0 Try.underlying22 Try.underlying9 hi0 hz0 hz1 hz2 v _ (u8s (xs ++ (l.take k).flatMap textB ++ lowB m 4)) rfl ho2 ca rfl (by have := hL.out; have := hl2.out; simp only [maxLen]; omega) (by have := hL.out; have := hl2.out; omega) (by omega) ?_); intro v1 w2 hown hg hat; obtain ⟨A1, c1, rfl⟩ := own_slice hown; have hb1 := blk_grown hb2 hg hfar; have f1 : w2.cell? ⟨p, 0, none⟩ = some v := hb1.cell 0; have f2 := hb1.frozen 0))
      go_roundw
      case rel =>
        obtain ⟨r3, hp3⟩ := pen_put hb2 (Ext.refl w1) hg (own_app (ys := bs ca) hown rfl (bs_len ca).symm rfl) hb1 hat
        refine ⟨k + 1, by omega, by go_num, r3, ((hpn.trans hp2).trans (by simpa [hsz] using hp3)).app ?_⟩
        rw [hT.out, hC.out, hsz]
      case measure => simp [intOf]; omega
    · obtain rfl : k = l.length := by omega
      go_wp2
      go_end0
      exact ⟨rfl, r', by simpa using hpn⟩
end Go.Proofs.Ytbmpecfhflkbeaa
