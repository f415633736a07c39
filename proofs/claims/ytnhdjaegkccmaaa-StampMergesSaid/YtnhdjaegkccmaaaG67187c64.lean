/- Texts of the proofs of StampMerges, merged (RawSt). -/
import Derived.Deep.LoopGhost
import Derived.Lib.SliceRun
import Derived.Test.YtnhdjaegkccmaaaGf8a1be9d
import Derived.Test.YtnhdjaegkccmaaaG6fd917f9
import Derived.Test.YtnhdjaegkccmaaaG5069bfb7
import Derived.Test.YtnhdjaegkccmaaaG156e9106
namespace Go.Proofs.Ytnhdjaegkccmaaa
open Go.RowKit
set_option linter.unusedVariables false
theorem info_st : (Try.prog.info? 23).map (fun i => (i.zero, i.size, i.bytes)) = some (some (.agg #[(.int .i64 0), (.int .i64 0)]), 2, 16) := by kernel_rfl
theorem cloneR_st (A : Option Addr) (c B : Nat) (xs : List (List Value)) (w : World) (hr : Reads w B 2 A xs.length xs.flatten) (hB : B ≤ w.heap.size) (hw : Wide 2 xs) (hl : xs.length * 16 ≤ 140737488355328) :
    Calls Try.prog 46 #[.slice A xs.length c] w fun e w' => ∃ v, e = .returned v ∧ w'.ownsRow w.heap.size 23 2 v xs.length xs.flatten ∧ Ext w w' := by
  cases A with
  | none =>
    have hx : xs = [] := by
      cases xs with
      | nil => rfl
      | cons a l => obtain ⟨ad, h, _⟩ := hr.2 (by simp); cases h
    subst hx
    have hq0 : ∀ (w : World), (binOp .eql 31 (.slice none 0 c) (.slice none 0 0)).run Try.prog w = .ok (.bool true) w := fun w => Lib.run_eql_slice_nil w _ _ _ _ _ _ _ Try.underlying31
    clear hr hw hl
    go_enter Try.func46, Try.ntmps46
    go_wp2
    go_ret
    exact ⟨_, rfl, World.ownsRow_nil _ _ _ _, Ext.refl _⟩
  | some ad =>
    have hq : ∀ (w : World), (binOp .eql 31 (.slice (some ad) xs.length c) (.slice none 0 0)).run Try.prog w = .ok (.bool false) w := fun w => Lib.run_eql_slice_nil w _ _ _ _ _ _ _ Try.underlying31
    obtain ⟨i0, hi0, hz0, hz1, hz2⟩ := info_parts info_st
    have hE := own_none w w.heap.size (Nat.le_refl _) 23 2
    have hR : Reads (w.alloc (.cells #[] 23)) w.heap.size 2 (some ad) xs.length xs.flatten := Reads.alloc (hr.more hB) (Nat.le_refl _) _
    have h1 : ∀ u ∈ xs.flatten, u.oneCell' = true := fun u hu => by obtain ⟨y, hy, hu⟩ := List.mem_flatten.1 hu; exact (hw y hy).2 u hu
    clear hw hr hB
    have H1 := Lib.hid h1
    clear h1
    go_enter Try.func46, Try.ntmps46
    go_wp2_with (at_builtin; go_loud (refine wpList_append_any _ rfl (.tmp 5) (.tmp 6) _ rfl w.heap.size 23 i0 _ 2 16 Try.underlying31 hi0 hz0 hz1 hz2 (by simp [Value.cells]) (by omega) _ 0 [] rfl hE w.heap.size (some ad) xs.length c xs.flatten rfl hR H1.out (by simp only [maxLen]; omega) (by omega) (by simp) ?_); intro v1 w1 hown hg hat)
    have hown' : w1.ownsRow w.heap.size 23 2 v1 xs.length xs.flatten := by simpa using hown
    go_ret
    exact ⟨_, rfl, hown', Chs.to_ext (S := fun i => i = w.heap.size) (Chs.grown (.of_ext ((Ext.refl w).alloc _)) hg (fun i hi => .inl (by simpa [Value.ownBlock, Act.eval] using hi.symm))) (fun i hi e => by omega)⟩
end Go.Proofs.Ytnhdjaegkccmaaa
