/- The walks of FlatSums and FlatSumOn. -/
import Derived.Test.YtbmpecfhflkbeaaFlJ
namespace Go.Proofs.Ytbmpecfhflkbeaa
open Go.RowKit
set_option linter.unusedVariables false

/-- 1099511628211, turned round -/
def finv : Nat := 14886173955864302971
theorem finv_ok : 1099511628211 * finv % 18446744073709551616 = 1 := by decide
theorem mul_inj {a b : Nat} (ha : a < 18446744073709551616) (hb : b < 18446744073709551616) (h : a * 1099511628211 % 18446744073709551616 = b * 1099511628211 % 18446744073709551616) : a = b := by
  have key : ∀ x : Nat, x < 18446744073709551616 → (x * 1099511628211 % 18446744073709551616) * finv % 18446744073709551616 = x := by
    intro x hx
    rw [Nat.mod_mul_mod, Nat.mul_assoc, Nat.mul_mod, finv_ok, Nat.mul_one, Nat.mod_mod, Nat.mod_eq_of_lt hx]
  rw [← key a ha, ← key b hb, h]
theorem xor_lt {h : Nat} (b : UInt8) (hh : h < 18446744073709551616) : h ^^^ b.toNat < 18446744073709551616 := by
  have := b.toNat_lt
  exact Nat.xor_lt_two_pow (n := 64) hh (by omega)
theorem sumStep_inj {h h' : Nat} (b : UInt8) (hh : h < 18446744073709551616) (hh' : h' < 18446744073709551616) (e : sumStep h b = sumStep h' b) : h = h' := by
  have := mul_inj (xor_lt b hh) (xor_lt b hh') e
  have h2 : (h ^^^ b.toNat) ^^^ b.toNat = (h' ^^^ b.toNat) ^^^ b.toNat := by rw [this]
  rwa [Nat.xor_assoc, Nat.xor_assoc, Nat.xor_self, Nat.xor_zero, Nat.xor_zero] at h2
theorem sumStep_inj2 {h : Nat} (b c : UInt8) (hh : h < 18446744073709551616) (e : sumStep h b = sumStep h c) : b = c := by
  have := mul_inj (xor_lt b hh) (xor_lt c hh) e
  have h2 : h ^^^ (h ^^^ b.toNat) = h ^^^ (h ^^^ c.toNat) := by rw [this]
  rw [← Nat.xor_assoc, ← Nat.xor_assoc, Nat.xor_self, Nat.zero_xor, Nat.zero_xor] at h2
  exact UInt8.toNat_inj.1 h2
theorem sumFrom_inj {h h' : Nat} (l : List UInt8) (hh : h < 18446744073709551616) (hh' : h' < 18446744073709551616) (e : sumFrom h l = sumFrom h' l) : h = h' := by
  induction l generalizing h h' with
  | nil => simpa only [sumFrom, List.foldl_nil] using e
  | cons b l ih =>
    simp only [sumFrom, List.foldl_cons] at e ih
    exact sumStep_inj b hh hh' (ih (sumStep_lt _ _) (sumStep_lt _ _) e)
theorem sumFrom_app (h : Nat) (l m : List UInt8) : sumFrom h (l ++ m) = sumFrom (sumFrom h l) m := by unfold sumFrom; rw [List.foldl_append]
theorem sums_law (l : List UInt8) (k : Nat) (hk : k < l.length) (b : UInt8) : (sumV l = sumV (l.set k b)) ↔ l[k] = b := by
  have hl : l = l.take k ++ l[k] :: l.drop (k + 1) := by rw [List.getElem_cons_drop, List.take_append_drop]
  have hs : l.set k b = l.take k ++ b :: l.drop (k + 1) := List.set_eq_take_append_cons_drop.trans (if_pos hk)
  have h0 : (14695981039346656037 : Nat) < 18446744073709551616 := by omega
  constructor
  · intro e
    unfold sumV at e
    rw [hs] at e
    conv at e => lhs; rw [hl]
    rw [sumFrom_app, sumFrom_app] at e
    generalize hg : sumFrom 14695981039346656037 (l.take k) = g at e
    have hgl : g < 18446744073709551616 := hg ▸ sumFrom_lt _ _ h0
    simp only [sumFrom, List.foldl_cons] at e
    exact sumStep_inj2 _ _ hgl (sumFrom_inj (l.drop (k + 1)) (sumStep_lt _ _) (sumStep_lt _ _) e)
  · intro e
    rw [hs, ← e, ← hl]

theorem sum_n (l : List UInt8) (n : Nat) (hn : l.length = n) (A : Option Addr) (c : Nat) (w : World) (hm : n ≤ 1099511627776) (hs : U8s w A l) :
    Calls Try.prog 13 #[.slice A n c] w fun e w' => e = .returned (.int .u64 (sumV l : Nat)) ∧ w = w' := by
  subst hn; exact sum_any l A c w hm hs
theorem sumV_lt (l : List UInt8) : sumV l < 18446744073709551616 := sumFrom_lt _ _ (by omega)

set_option maxHeartbeats 1000000 in
set_option maxRecDepth 100000 in
theorem flatSums_walk (A : Option Addr) (n c : Nat) (l : List UInt8) (k b : Int) (w : World) (hl : BytesIn w A n c l) (hk : (Lit.int .i64 k).wf = true) (hb : (Lit.int .u8 b).wf = true) :
    Calls Try.prog 3 #[.slice A n c, .int .i64 k, .int .u8 b] w fun e w' => e = .returned (.bool true) ∧ Ext w w' := by
  obtain ⟨b, rfl⟩ := u8_of hb
  obtain ⟨rfl, hcap, hn, hmx, hs, _⟩ := hl
  clear hb hk
  by_cases g1 : 20000 < l.length
  · clear hs
    go_enter Try.func3, Try.ntmps3
    go_wp2_with (go_at_call 12; refine (live_any _).mono ?_; rintro e w1 ⟨rfl, hx1⟩)
    go_ret
    exact ⟨rfl, (by repeat (first | assumption | exact Ext.refl _ | (with_reducible refine Ext.alloc ?_ _) | (with_reducible refine Ext.drew ?_) | refine Ext.trans ?_ (by assumption)))⟩
  by_cases g2 : k < 0
  · clear hs
    go_enter Try.func3, Try.ntmps3
    go_wp2_with (go_at_call 12; refine (live_any _).mono ?_; rintro e w1 ⟨rfl, hx1⟩)
    go_ret
    exact ⟨rfl, (by repeat (first | assumption | exact Ext.refl _ | (with_reducible refine Ext.alloc ?_ _) | (with_reducible refine Ext.drew ?_) | refine Ext.trans ?_ (by assumption)))⟩
  obtain ⟨k, rfl⟩ : ∃ m : Nat, k = (m : Int) := ⟨k.toNat, by omega⟩
  by_cases g3 : l.length ≤ k
  · clear hs g2
    go_enter Try.func3, Try.ntmps3
    go_wp2_with (go_at_call 12; refine (live_any _).mono ?_; rintro e w1 ⟨rfl, hx1⟩)
    go_ret
    exact ⟨rfl, (by repeat (first | assumption | exact Ext.refl _ | (with_reducible refine Ext.alloc ?_ _) | (with_reducible refine Ext.drew ?_) | refine Ext.trans ?_ (by assumption)))⟩
  have hlt : k < l.length := by omega
  have hle : l.length ≤ 20000 := by omega
  clear g1 g2 g3
  obtain ⟨i0, hi0, hz0, hz1, hz2⟩ := info_parts u8_info
  have hE := own_none w w.heap.size (Nat.le_refl _) 5 1
  have hR : Reads (w.alloc (.cells #[] 5)) w.heap.size 1 A l.length (u8s l) := Reads.alloc (U8s.rd hs) (Nat.le_refl _) (.cells #[] 5)
  have h1 := u8s_one l
  go_enter Try.func3, Try.ntmps3
  go_wp2_with (at_builtin; go_loud (refine wpList_append_any _ rfl (.tmp 22) (.tmp 23) _ rfl w.heap.size 5 i0 _ 1 1 Try.underlying22 hi0 hz0 hz1 hz2 rfl (by omega) _ 0 [] rfl hE w.heap.size A l.length c (u8s l) rfl hR h1 (by simp only [maxLen]; omega) (by omega) (by simp) ?_); intro v1 w1 hown hg hat; obtain ⟨g, c1, rfl, hg1, hg2, hg3⟩ := own_some hown (by omega); have hf1 := own_frozen hown k; have hc1 := hown.cellAt k (by omega); rw [List.nil_append, u8s_at l k hlt] at hc1)
  have hg' : (w.alloc (.cells #[] 5)).grownBy w1 (some w.heap.size) := hg
  have hxa : Ext w w1 := Chs.to_ext (S := fun i => i = w.heap.size) (Chs.grown (.of_ext ((Ext.refl w).alloc _)) hg' (fun i hi => .inl (by injection hi with hi; exact hi.symm))) (fun i hi e => by omega)
  obtain ⟨W, hW⟩ : ∃ W, W = w1.setCell ⟨g, k, none⟩ (.int .u8 (b.toNat : Int)) := ⟨_, rfl⟩
  have hx : Ext w W := by rw [hW]; exact hxa.setCell hg1 _
  have hsW := hs.ext hx
  have hcW : U8s W (some ⟨g, 0, none⟩) (l.set k b) := by
    have h2 : w1.ownsRow w.heap.size 5 1 (.slice (some ⟨g, 0, none⟩) l.length c1) l.length (u8s l) := by simpa using hown
    have h3 := own_set h2 k (by omega) (.int .u8 (b.toNat : Int))
    have h4 : (u8s l).set k (.int .u8 (b.toNat : Int)) = u8s (l.set k b) := by unfold u8s; rw [List.map_set]
    rw [h4, ← hW] at h3
    exact Row.of_own (c := c1) (base := w.heap.size) (e := 5) (by rw [u8s_flat, List.length_set]; exact h3) (fun _ => rfl) (by omega)
  rw [← hW]
  clear hW hg hat hown hg' hxa hf1 hc1 hE hR h1 hi0 hz0 hz1 hz2 hg2
  obtain ⟨b0, o0, rfl, hb0, hcell⟩ := hsW.c1 k hlt _ rfl
  have hset : (l.set k b).length = l.length := List.length_set
  have hlaw := sums_law l k hlt b
  have S1 := fun w' (hw' : Ext W w') => sum_n l l.length rfl (some ⟨b0, o0, none⟩) c w' (by omega) (hsW.ext hw')
  have S2 := fun w' (hw' : Ext W w') => sum_n (l.set k b) l.length hset (some ⟨g, 0, none⟩) c1 w' (by omega) (hcW.ext hw')
  generalize l[k] = a at *
  generalize sumV l = s1 at *
  generalize sumV (l.set k b) = s2 at *
  have HS1 := Lib.hid S1
  have HS2 := Lib.hid S2
  clear S1 S2 hs hsW hcW hset hcap hn hmx
  by_cases hab : a = b
  · have e1 : (((s1 : Nat) : Int) == ((s2 : Nat) : Int)) = true := by rw [hlaw.2 hab]; simp
    subst hab
    clear hlaw
    refine wp_region_in _ (by kernel_rfl) (by kernel_rfl) (Ext.refl _) ?_
    repeat (refine wpQuiet_step (fun K hK => ?_); go_simp; first | (refine hK _ ?_; clear hK K) | (apply Exists.intro; refine ⟨fun w' hw' => ?_, hK _ ?_⟩; (first | (go_at_call 13; with_reducible exact qcall_same hw' (HS1.out _ hw')) | (go_at_call 13; with_reducible exact qcall_same hw' (HS2.out _ hw')) | (go_at_call 12; exact qcall hw' (live_any _)) |  (have f1 := hw'.cell hb0 hcell; go_simp; rfl)); clear hK K))
    refine wpQuiet_nil ?_
    intro w5 hx5
    go_wp2
    go_ret
    exact ⟨rfl, hx.trans hx5⟩
  · have e1 : (((s1 : Nat) : Int) == ((s2 : Nat) : Int)) = false := by
      rw [beq_eq_false_iff_ne]
      intro h
      exact hab (hlaw.1 (by omega))
    have e2 : ((a.toNat : Int) == (b.toNat : Int)) = false := by
      rw [beq_eq_false_iff_ne]
      intro h
      exact hab (UInt8.toNat_inj.1 (by omega))
    clear hlaw hab
    refine wp_region_in _ (by kernel_rfl) (by kernel_rfl) (Ext.refl _) ?_
    repeat (refine wpQuiet_step (fun K hK => ?_); go_simp; first | (refine hK _ ?_; clear hK K) | (apply Exists.intro; refine ⟨fun w' hw' => ?_, hK _ ?_⟩; (first | (go_at_call 13; with_reducible exact qcall_same hw' (HS1.out _ hw')) | (go_at_call 13; with_reducible exact qcall_same hw' (HS2.out _ hw')) | (go_at_call 12; exact qcall hw' (live_any _)) |  (have f1 := hw'.cell hb0 hcell; go_simp; rfl)); clear hK K))
    refine wpQuiet_nil ?_
    intro w5 hx5
    go_wp2
    go_ret
    exact ⟨rfl, hx.trans hx5⟩
end Go.Proofs.Ytbmpecfhflkbeaa
