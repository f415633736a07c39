/- The walk of FlatSumOn. -/
import Derived.Test.YtbmpecfhflkbeaaFlS
namespace Go.Proofs.Ytbmpecfhflkbeaa
open Go.RowKit

theorem Ext.grown {a b c : World} {row : Option Nat} (h : Ext a b) (k : b.grownBy c row) (hr : ∀ i, row = some i → a.heap.size ≤ i) : Ext a c :=
  Chs.to_ext (S := fun _ => False) (Chs.grown (.of_ext h) k fun i hi => .inr (hr i hi)) fun _ _ e => e

set_option maxHeartbeats 1000000 in
set_option maxRecDepth 100000 in
theorem flatSumOn_walk (A : Option Addr) (n c : Nat) (l : List UInt8) (A' : Option Addr) (n' c' : Nat) (l' : List UInt8) (w : World) (hl : BytesIn w A n c l) (hl' : BytesIn w A' n' c' l') :
    Calls Try.prog 4 #[.slice A n c, .slice A' n' c'] w fun e w' => e = .returned (.bool true) ∧ Ext w w' := by
  obtain ⟨rfl, hcap, hn, hz, hs, _⟩ := hl
  obtain ⟨rfl, hcap', hn', hz', hs', _⟩ := hl'
  simp only [reachBytes] at hz hz'
  have hwr : wrap64 ((l.length : Int) + (l'.length : Int)) = (l.length : Int) + (l'.length : Int) := by unfold wrap64; omega
  by_cases g1 : 20000 < l.length + l'.length
  · clear hs hs'
    go_enter Try.func4, Try.ntmps4
    go_wp2_with (go_at_call 12; refine (live_any _).mono ?_; rintro e w1 ⟨rfl, hx1⟩)
    go_ret
    exact ⟨rfl, (by repeat (first | assumption | exact Ext.refl _ | (with_reducible refine Ext.alloc ?_ _) | (with_reducible refine Ext.drew ?_) | refine Ext.trans ?_ (by assumption)))⟩
  have hle : l.length + l'.length ≤ 20000 := by omega
  clear g1 hz hz'
  have hsum := sum_any l A c w (by omega) hs
  go_enter Try.func4, Try.ntmps4
  go_wp2_with (go_at_call 13; refine (hsum).mono ?_; rintro e w' ⟨rfl, rfl⟩)
  go_loopw [6, 5] (fun i v wr => ∃ k : Nat, k ≤ l'.length ∧ i = .int .i64 k ∧ v = .int .u64 (sumFrom (sumV l) (l'.take k) : Nat) ∧ w = wr) (fun i _ _ => l'.length - (intOf i).toNat)
  case atStart => exact ⟨0, by omega, rfl, by simp [sumFrom], rfl⟩
  case round =>
    obtain ⟨k, hk, rfl, rfl, rfl⟩ := hrel
    by_cases hlt : k < l'.length
    · obtain ⟨b, o, rfl, hb, hcell⟩ := hs'.c1 k hlt _ rfl
      have hT := Lib.hid (sumFrom_take (sumV l) l' k hlt)
      have hst := sum_step (sumFrom (sumV l) (l'.take k)) l'[k] (sumFrom_lt _ _ (sumV_lt l))
      generalize l'[k] = a at *
      generalize sumFrom (sumV l) (l'.take k) = N at *
      go_wp2
      go_roundw
      case rel => exact ⟨k + 1, by omega, by go_num, by rw [hT.out], by first | rfl | trivial⟩
      case measure => simp [intOf]; omega
    · obtain rfl : k = l'.length := by omega
      rw [List.take_length]
      have hap : sumFrom (sumV l) l' = sumV (l ++ l') := by unfold sumV; rw [sumFrom_app]
      rw [hap]
      clear hap hsum hwr
      obtain ⟨i0, hi0, hz0, hz1, hz2⟩ := info_parts u8_info
      have hE := own_none w w.heap.size (Nat.le_refl _) 5 1
      have hR : Reads (w.alloc (.cells #[] 5)) w.heap.size 1 A l.length (u8s l) := Reads.alloc (U8s.rd hs) (Nat.le_refl _) (.cells #[] 5)
      have h1 := u8s_one l
      have h2 := u8s_one l'
      have hs0 : Hid (sumV [] = 14695981039346656037) := Lib.hid rfl
      go_wp2_with (first
        | (at_builtin; (refine wpList_append_any _ rfl (.tmp 30) (.tmp 31) _ rfl w.heap.size 5 i0 _ 1 1 Try.underlying22 hi0 hz0 hz1 hz2 rfl (by omega) _ 0 [] rfl hE w.heap.size A l.length c (u8s l) rfl hR h1 (by simp only [maxLen]; omega) (by omega) (by simp) ?_); intro v1 w1 hown hg hat; have hg' : (w.alloc (.cells #[] 5)).grownBy w1 (some w.heap.size) := hg; have hxa : Ext w w1 := ((Ext.refl w).alloc _).grown hg' (fun i hi => by injection hi with hi; omega); have ho1 : OwnB w1 w.heap.size v1 l := (by simpa using hown); clear hg hat hg' hown; obtain ⟨A1, c1, rfl, hn1⟩ := own_form1 ho1)
        | (at_builtin; (refine wpList_append_any _ rfl (.tmp 32) (.tmp 33) _ rfl w.heap.size 5 i0 _ 1 1 Try.underlying22 hi0 hz0 hz1 hz2 rfl (by omega) (.slice A1 l.length c1) l.length (u8s l) rfl ho1 w1.heap.size A' l'.length c' (u8s l') rfl (U8s.rd (hs'.ext hxa)) h2 (by simp only [maxLen]; omega) (by omega) hxa.size ?_); intro v2 w2 hown2 hg2 hat2; have hxb : Ext w w2 := hxa.grown (row := (Value.slice A1 l.length c1).ownBlock) hg2 (fun i hi => (ho1.lt i hi).1); have ho2 : OwnB w2 w.heap.size v2 (l ++ l') := (by rw [← u8s_append, ← List.length_append] at hown2; exact hown2); clear hg2 hat2 hown2; obtain ⟨A2, c2, rfl, hn2⟩ := own_form1 ho2)
        | (go_at_call 13; with_reducible refine (sum_n (l ++ l') (l.length + l'.length) List.length_append A2 c2 _ (by omega) (RdB.row (OwnB.rd ho2).2)).mono ?_; rintro e w' ⟨rfl, rfl⟩)
        | (go_at_call 13; refine (sum_any [] none 0 _ (by simp) (Row.nil _ _)).mono ?_; rintro e w' ⟨rfl, rfl⟩; rw [hs0.out])
        | (go_at_call 12; refine (live_any _).mono ?_; rintro e w3 ⟨rfl, hx3⟩))
      go_ret
      exact ⟨rfl, hxb.trans hx3⟩
end Go.Proofs.Ytbmpecfhflkbeaa
