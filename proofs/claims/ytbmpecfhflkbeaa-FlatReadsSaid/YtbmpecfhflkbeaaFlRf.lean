/- Contracts: the reference's eye is opened. -/
import Derived.Test.YtbmpecfhflkbeaaFlRb
import Derived.Test.YtbmpecfhflkbeaaFlRc
import Derived.Test.YtbmpecfhflkbeaaFlRe
namespace Go.Proofs.Ytbmpecfhflkbeaa
open Go.RowKit
set_option linter.unusedVariables false

set_option maxRecDepth 100000 in
theorem ropen_any (l : List UInt8) (A : Option Addr) (c : Nat) (w : World) (hm : l.length ≤ 20000) (hs : U8s w A l) :
    Calls Try.prog 25 #[.slice A l.length c] w fun e w' => Ext w w' ∧ ∃ q A' c', e = .returned (.pointer (some ⟨q, 0, none⟩)) ∧ w.heap.size ≤ q ∧ (∀ ad, A' = some ad → w.heap.size ≤ ad.block) ∧ REye w' q A' c' l 0 false := by
  obtain ⟨i0, hi0, hz0, hz1, hz2⟩ := info_parts u8_info
  have hE := own_none w w.heap.size (Nat.le_refl _) 5 1
  have hR : Reads (w.alloc (.cells #[] 5)) w.heap.size 1 A l.length (u8s l) := Reads.alloc (U8s.rd hs) (Nat.le_refl _) (.cells #[] 5)
  have h1 := u8s_one l
  go_enter Try.func25, Try.ntmps25
  go_wp2_with (at_builtin; go_loud (refine wpList_append_any _ rfl (.tmp 3) (.tmp 4) _ rfl w.heap.size 5 i0 _ 1 1 Try.underlying22 hi0 hz0 hz1 hz2 rfl (by omega) _ 0 [] rfl hE w.heap.size A l.length c (u8s l) rfl hR h1 (by simp only [maxLen]; omega) (by omega) (by simp) ?_); intro v1 w1 hown hg hat; have hown' : OwnB w1 w.heap.size v1 l := (by simpa using hown); obtain ⟨A', c', rfl, hN⟩ := own_form1 hown')
  go_ret
  have hx1 : Ext w w1 := Chs.to_ext (S := fun i => i = w.heap.size) (Chs.grown (.of_ext ((Ext.refl w).alloc _)) hg (fun i hi => .inl (by simpa [Value.ownBlock, Act.eval] using hi.symm))) (fun i hi e => by omega)
  have hxa := (Ext.refl w1).alloc (.cells #[.slice A' l.length c', .int .i64 0, .bool false] 63)
  refine ⟨hx1.trans hxa, w1.heap.size, A', c', rfl, hx1.size, fun ad hi => (hown'.lt ad.block (by subst hi; rfl)).1, Blk.new _ _ _, (OwnB.rd hown').2.row.ext hxa, own_cap hown', ?_, ?_, Nat.zero_le _, hN, hm⟩
  · intro ad e e2; have := (hown'.lt ad.block (by subst e; rfl)).2; omega
  · intro ad e; have := (hown'.lt ad.block (by subst e; rfl)).2; simp; omega
end Go.Proofs.Ytbmpecfhflkbeaa
