/- Contracts: the pen, more. -/
import Derived.Test.YtbmpecfhflkbeaaFlA
namespace Go.Proofs.Ytbmpecfhflkbeaa
open Go.RowKit

def boolB (b : Bool) : List UInt8 := [if b then 1 else 0]
def stampB (s : St) : List UInt8 := intB s.t ++ intB s.n
def stampsB (l : List St) : List UInt8 := intB l.length ++ l.flatMap stampB
theorem stampB_len (s : St) : (stampB s).length = 16 := by unfold stampB; rw [List.length_append, intB_len, intB_len]
theorem flat_len16 (l : List St) : (l.flatMap stampB).length = 16 * l.length := by
  induction l with
  | nil => rfl
  | cons a l ih => rw [List.flatMap_cons, List.length_append, ih, stampB_len, List.length_cons]; omega
theorem stampsB_len (l : List St) : (stampsB l).length = 8 + 16 * l.length := by unfold stampsB; rw [List.length_append, intB_len, flat_len16]

/-- a block that is new is none of a pen's -/
theorem pen_new {w : World} {p : Nat} {r : Option Nat} {xs : List UInt8} (h : PenAt w p r xs) {g : Nat} (hg : w.heap.size ≤ g) : ∀ ad : Addr, some (⟨g, 0, none⟩ : Addr) = some ad → ad.block ≠ p ∧ r ≠ some ad.block := by
  intro ad e
  injection e with e
  subst e
  have h1 := h.lt
  exact ⟨by show g ≠ p; omega, fun e' => by have := (h.row_lt g e').1; omega⟩

theorem bool_any (p : Nat) (r : Option Nat) (xs : List UInt8) (t : Bool) (w : World) (hp : PenAt w p r xs) (hl : xs.length ≤ 1099511627776) :
    Calls Try.prog 23 #[.pointer (some ⟨p, 0, none⟩), .bool t] w fun e w' => e = .returned (.tuple #[]) ∧ ∃ r', PenTo w p r w' r' (xs ++ boolB t) := by
  cases t with
  | false =>
    go_enter Try.func23, Try.ntmps23
    go_wp2_with (go_at_call 42; refine (low_any p r _ 0 1 _ hp (by omega) (by omega) hl).mono ?_; rintro e w1 ⟨rfl, r2, hp2⟩)
    go_end0
    exact ⟨rfl, r2, hp2⟩
  | true =>
    go_enter Try.func23, Try.ntmps23
    go_wp2_with (go_at_call 42; refine (low_any p r _ 1 1 _ hp (by omega) (by omega) hl).mono ?_; rintro e w1 ⟨rfl, r2, hp2⟩)
    go_end0
    exact ⟨rfl, r2, hp2⟩

set_option maxRecDepth 100000 in
theorem stamp_any (p : Nat) (r : Option Nat) (xs : List UInt8) (l : List St) (A : Option Addr) (c : Nat) (w : World) (hp : PenAt w p r xs) (hr : Sts w A l) (hne : l ≠ [] → ∀ ad, A = some ad → ad.block ≠ p ∧ r ≠ some ad.block) (hl : xs.length + 16 * l.length ≤ 1099511627776) :
    Calls Try.prog 16 #[.pointer (some ⟨p, 0, none⟩), .slice A l.length c] w fun e w' => e = .returned (.tuple #[]) ∧ ∃ r', PenTo w p r w' r' (xs ++ l.flatMap stampB) := by
  go_enter Try.func16, Try.ntmps16
  go_wp2
  go_loopw [8] (fun i wr => ∃ k : Nat, k ≤ l.length ∧ i = .int .i64 k ∧ ∃ r', PenTo w p r wr r' (xs ++ (l.take k).flatMap stampB)) (fun i _ => l.length - (intOf i).toNat)
  case atStart => exact ⟨0, by omega, rfl, r, by simpa using PenTo.refl hp⟩
  case round =>
    obtain ⟨k, hk, rfl, r', hpn⟩ := hrel
    by_cases hlt : k < l.length
    · obtain ⟨hr1, _⟩ := hpn.reads hr hne
      obtain ⟨b, o, rfl, hb, hc0, hc1⟩ := hr1.c2 k hlt _ _ rfl
      have hT := Lib.hid (take_flat stampB l k hlt)
      have hL : Hid ((xs ++ (l.take k).flatMap stampB).length + 16 ≤ 1099511627776) := by
        show _ ≤ _
        rw [List.length_append, flat_len16, List.length_take]; omega
      generalize l[k] = s at *
      obtain ⟨t, n⟩ := s
      dsimp only at hc0 hc1
      clear hr1
      have hrow : I64s ((wr.alloc (.cells #[.int .i64 t, .int .i64 n] 39)).alloc (.cells #[.int .i64 t, .int .i64 n] 2)) (some ⟨wr.heap.size + 1, 0, none⟩) [t, n] := by
        simpa using Row.new (f := fI64) (size := 1) (wr.alloc (.cells #[.int .i64 t, .int .i64 n] 39)) #[.int .i64 t, .int .i64 n] 2 [t, n] (fun _ => rfl) rfl
      have hx2 := ((Ext.refl wr).alloc (.cells #[.int .i64 t, .int .i64 n] 39)).alloc (.cells #[.int .i64 t, .int .i64 n] 2)
      have hfr := pen_new hpn.at_ (g := wr.heap.size + 1) (by omega)
      have hp1 := hpn.at_.ext hx2
      go_wp2_with (go_at_call 14; refine (int_any p r' _ [t, n] _ 2 _ hp1 hrow (fun _ => hfr) (by have := hL.out; simpa using this)).mono ?_; rintro e w1 ⟨rfl, r2, hp2⟩)
      go_roundw
      case rel =>
        refine ⟨k + 1, by omega, by go_num, r2, (hpn.trans (hx2.pen hp2)).app ?_⟩
        rw [hT.out, List.append_assoc]
        simp [stampB]
      case measure => simp [intOf]; omega
    · obtain rfl : k = l.length := by omega
      go_wp2
      go_end0
      exact ⟨rfl, r', by simpa using hpn⟩

set_option maxRecDepth 100000 in
theorem stamps_any (p : Nat) (r : Option Nat) (xs : List UInt8) (l : List St) (A : Option Addr) (c : Nat) (w : World) (hp : PenAt w p r xs) (hr : Sts w A l) (hne : l ≠ [] → ∀ ad, A = some ad → ad.block ≠ p ∧ r ≠ some ad.block) (hl : xs.length + 8 + 16 * l.length ≤ 1099511627776) :
    Calls Try.prog 22 #[.pointer (some ⟨p, 0, none⟩), .slice A l.length c] w fun e w' => e = .returned (.tuple #[]) ∧ ∃ r', PenTo w p r w' r' (xs ++ stampsB l) := by
  have hrow := Row.new (f := fI64) (size := 1) w #[.int .i64 (l.length : Int)] 2 [(l.length : Int)] (fun _ => rfl) rfl
  have hx1 := (Ext.refl w).alloc (.cells #[.int .i64 (l.length : Int)] 2)
  have hfr := pen_new hp (g := w.heap.size) (by omega)
  have hp1 := hp.ext hx1
  go_enter Try.func22, Try.ntmps22
  go_wp2_with (first
    | (go_at_call 14; (refine (int_any p r _ [(l.length : Int)] _ 1 _ hp1 hrow (fun _ => hfr) (by simp; omega)).mono ?_); rintro e w1 ⟨rfl, r2, hp2⟩; obtain ⟨hr2, hne2⟩ := (hx1.pen hp2).reads hr hne)
    | (go_at_call 16; refine (stamp_any p r2 _ l A c _ hp2.at_ hr2 hne2 (by simp [intB_len]; omega)).mono ?_; rintro e w2 ⟨rfl, r3, hp3⟩))
  go_end0
  exact ⟨rfl, r3, ((hx1.pen hp2).trans hp3).app (by simp [stampsB])⟩

/-- a slice that is its maker's alone, new since w -/
structure IsB (w : World) (l : List UInt8) (e : Ending) (w' : World) : Prop where
  ex : ∃ A c, e = .returned (.slice A l.length c) ∧ OwnB w' w.heap.size (.slice A l.length c) l ∧ (A = none → c = 0)
  ext : Ext w w'
theorem own_form1 {w : World} {base : Nat} {v : Value} {l : List UInt8} (h : OwnB w base v l) : ∃ A c, v = .slice A l.length c ∧ (A = none → c = 0) := by
  rcases h.2 with ⟨h1, h2⟩ | ⟨g, cap, _, h1, _⟩
  · exact ⟨none, 0, by rw [h1, h2], fun _ => rfl⟩
  · exact ⟨_, _, h1, fun e => by cases e⟩
set_option maxRecDepth 100000 in
theorem clone_any (l : List UInt8) (A : Option Addr) (c : Nat) (w : World) (hm : l.length ≤ 1099511627776) (hs : U8s w A l) (hn : A = none → c = 0) :
    Calls Try.prog 43 #[.slice A l.length c] w (IsB w l) := by
  have hq : ∀ (w : World), (binOp .eql 22 (.slice A l.length c) (.slice none 0 0)).run Try.prog w = .ok (.bool A.isNone) w := fun w => Lib.run_eql_slice_nil w _ _ _ _ _ _ _ Try.underlying22
  cases A with
  | none =>
    have hl : l = [] := by
      cases l with
      | nil => rfl
      | cons a l => obtain ⟨b, o, h, _⟩ := hs (by simp); cases h
    subst hl
    obtain rfl := hn rfl
    clear hq
    have hq0 : ∀ (w : World), (binOp .eql 22 (.slice none 0 0) (.slice none 0 0)).run Try.prog w = .ok (.bool true) w := fun w => Lib.run_eql_slice_nil w _ _ _ _ _ _ _ Try.underlying22
    go_enter Try.func43, Try.ntmps43
    go_wp2
    go_ret
    exact ⟨⟨none, 0, rfl, World.ownsRow_nil _ _ _ _, fun _ => rfl⟩, Ext.refl _⟩
  | some ad =>
    obtain ⟨i0, hi0, hz0, hz1, hz2⟩ := info_parts u8_info
    have hE := own_none w w.heap.size (Nat.le_refl _) 5 1
    have hR : Reads (w.alloc (.cells #[] 5)) w.heap.size 1 (some ad) l.length (u8s l) := Reads.alloc (U8s.rd hs) (Nat.le_refl _) (.cells #[] 5)
    have h1 := u8s_one l
    clear hn
    go_enter Try.func43, Try.ntmps43
    go_wp2_with (at_builtin; go_loud (refine wpList_append_any _ rfl (.tmp 5) (.tmp 6) _ rfl w.heap.size 5 i0 _ 1 1 Try.underlying22 hi0 hz0 hz1 hz2 rfl (by omega) _ 0 [] rfl hE w.heap.size (some ad) l.length c (u8s l) rfl hR h1 (by simp only [maxLen]; omega) (by omega) (by simp) ?_); intro v1 w1 hown hg hat)
    have hown' : OwnB w1 w.heap.size v1 l := by simpa using hown
    obtain ⟨A', c', rfl, hN⟩ := own_form1 hown'
    go_ret
    exact ⟨⟨A', c', rfl, hown', hN⟩, Chs.to_ext (S := fun i => i = w.heap.size) (Chs.grown (.of_ext ((Ext.refl w).alloc _)) hg (fun i hi => .inl (by simpa [Value.ownBlock, Act.eval] using hi.symm))) (fun i hi e => by omega)⟩
theorem bytes_any (p : Nat) (r : Option Nat) (xs : List UInt8) (w : World) (hp : PenAt w p r xs) (hm : xs.length ≤ 1099511627776) :
    Calls Try.prog 17 #[.pointer (some ⟨p, 0, none⟩)] w (IsB w xs) := by
  obtain ⟨v, hb, ho, rfl⟩ := hp.ex
  obtain ⟨A, c, rfl, hn⟩ := own_form1 ho
  have h1 : w.cell? ⟨p, 0, none⟩ = some (.slice A xs.length c) := hb.cell 0
  go_enter Try.func17, Try.ntmps17
  go_wp2_with (go_at_call 43; refine (clone_any xs A c _ hm (OwnB.rd ho).2.row hn).mono ?_; rintro e w1 ⟨⟨A', c', rfl, hown, hN⟩, hx⟩)
  go_ret
  exact ⟨⟨A', c', rfl, hown, hN⟩, hx⟩

/-! ### a nil pen -/
theorem low_nil (n many : Int) (w : World) : Calls Try.prog 42 #[.pointer none, .int .u64 n, .int .i64 many] w fun e w' => e = .returned (.tuple #[]) ∧ w = w' := by
  go_enter Try.func42, Try.ntmps42
  go_wp2
  refine bodyPost_ret (results_none rfl _ _ _) rfl ?_
  exact ⟨rfl, rfl⟩
theorem int_nil (l : List Int) (A : Option Addr) (c : Nat) (w : World) (hm : l.length ≤ 1099511627776) (hr : I64s w A l) : Calls Try.prog 14 #[.pointer none, .slice A l.length c] w fun e w' => e = .returned (.tuple #[]) ∧ w = w' := by
  go_enter Try.func14, Try.ntmps14
  go_wp2
  go_loopw [8] (fun i wr => ∃ k : Nat, k ≤ l.length ∧ i = .int .i64 k ∧ w = wr) (fun i _ => l.length - (intOf i).toNat)
  case atStart => exact ⟨0, by omega, rfl, rfl⟩
  case round =>
    obtain ⟨k, hk, rfl, rfl⟩ := hrel
    by_cases hlt : k < l.length
    · obtain ⟨b, o, rfl, hb, hcell⟩ := hr.c1 k hlt _ rfl
      generalize l[k] = a at *
      go_wp2_with (go_at_call 42; refine (low_nil _ _ _).mono ?_; rintro e w' ⟨rfl, rfl⟩)
      go_roundw
      case rel => exact ⟨k + 1, by omega, by go_num, by first | rfl | trivial⟩
      case measure => simp [intOf]; omega
    · obtain rfl : k = l.length := by omega
      go_wp2
      go_end0
      exact ⟨rfl, rfl⟩
theorem text_nil (v : Value) (w : World) : Calls Try.prog 15 #[.pointer none, v] w fun e w' => e = .returned (.tuple #[]) ∧ w = w' := by
  go_enter Try.func15, Try.ntmps15
  go_wp2
  refine bodyPost_ret (results_none rfl _ _ _) rfl ?_
  exact ⟨rfl, rfl⟩
theorem bool_nil (t : Bool) (w : World) : Calls Try.prog 23 #[.pointer none, .bool t] w fun e w' => e = .returned (.tuple #[]) ∧ w = w' := by
  cases t <;> (
    go_enter Try.func23, Try.ntmps23
    go_wp2_with (go_at_call 42; refine (low_nil _ _ _).mono ?_; rintro e w' ⟨rfl, rfl⟩)
    go_end0
    exact ⟨rfl, rfl⟩)
theorem bytes_nil (w : World) : Calls Try.prog 17 #[.pointer none] w fun e w' => e = .returned (.slice none 0 0) ∧ w = w' := by
  go_enter Try.func17, Try.ntmps17
  go_wp2
  go_ret
  exact ⟨rfl, rfl⟩
end Go.Proofs.Ytbmpecfhflkbeaa

