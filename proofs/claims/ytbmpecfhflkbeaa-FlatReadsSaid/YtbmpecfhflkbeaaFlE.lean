/- Contracts: see, at a text. -/
import Derived.Test.YtbmpecfhflkbeaaFlC
import Derived.Defers
import Derived.Recover
namespace Go.Proofs.Ytbmpecfhflkbeaa
open Go.RowKit

/-- the deferred closure, nothing thrown -/
theorem catch_idle_text (a b c : Value) (w : World) :
    CallsD Try.prog 64 #[a, b, c] .returning w fun e u' w' => e = .returned (.tuple #[]) ∧ u' = .returning ∧ w' = w := by
  refine callsD_of_wpS Try.func64 rfl fun c₀ cs hu => ?_
  apply wpS_seq
  apply wpS_region
  simp [wpOpsS, go_sem, recoverD, hu, Try.ntmps64, Exit.thenS]
  have ht : #[a, b, c] ++ ((Array.replicate 23 undef).setIfInBounds 4 Value.nilIface).setIfInBounds 0 Value.nilIface = #[a, b, c, Value.nilIface, undef, undef, undef, Value.nilIface, undef, undef, undef, undef, undef, undef, undef, undef, undef, undef, undef, undef, undef, undef, undef, undef, undef, undef] := by kernel_rfl
  rw [ht]; clear ht
  refine wpS_of_wp ?_
  go_wp2
  exact ⟨rfl, .returning, by rw [← hu], _, results_none rfl _ _ _, rfl, rfl, rfl⟩
theorem catch_sight_text (gw gx ge p : Nat) (A : Option Addr) (c n : Nat) (u v0 v1 : Value) (w : World)
    (h1 : Blk w gw 22 #[.slice A n c]) (h2 : Blk w ge 52 #[.pointer (some ⟨p, 0, none⟩)]) (h3 : Blk w gx 9 #[u]) (h4 : Blk w p 79 #[v0, v1]) :
    CallsD Try.prog 64 #[.pointer (some ⟨gw, 0, none⟩), .pointer (some ⟨gx, 0, none⟩), .pointer (some ⟨ge, 0, none⟩)] (.panicking [{ v := .iface 91 (.agg #[]), recovered := false }]) w fun e u' w' =>
      e = .returned (.tuple #[]) ∧ u' = .panicking [{ v := .iface 91 (.agg #[]), recovered := true }] ∧ Chs (fun i => i = p ∨ i = gx) w w' ∧ Blk w' gx 9 #[.string { data := #[] }] ∧ Blk w' p 79 #[.slice A n c, .bool true] := by
  have hta : ∀ w, (Instr.typeAssert (.iface 91 (.agg #[])) 20 91 true).run Try.prog w = .ok (.tuple #[.agg #[], .bool true]) w := fun w => by kernel_rfl
  have c1 : w.cell? ⟨gw, 0, none⟩ = some (.slice A n c) := h1.cell 0
  have c2 : w.cell? ⟨ge, 0, none⟩ = some (.pointer (some ⟨p, 0, none⟩)) := h2.cell 0
  have c3 : w.cell? ⟨gx, 0, none⟩ = some u := h3.cell 0
  have c4 : w.cell? ⟨p, 0, none⟩ = some v0 := h4.cell 0
  have c5 : w.cell? ⟨p, 1, none⟩ = some v1 := h4.cell 1
  have z3 := h3.frozen 0
  have z4 := h4.frozen 0
  have z5 := h4.frozen 1
  have l1 := h1.lt
  have l2 := h2.lt
  have l3 := h3.lt
  have l4 := h4.lt
  have hne : gx ≠ p := h3.ne_ h4 (by decide)
  refine callsD_of_wpS Try.func64 rfl fun c₀ cs hu => ?_
  apply wpS_seq
  apply wpS_region
  simp [wpOpsS, go_sem, recoverD, hu, Try.ntmps64, Exit.thenS]
  have ht : #[Value.pointer (some ⟨gw, 0, none⟩), .pointer (some ⟨gx, 0, none⟩), .pointer (some ⟨ge, 0, none⟩)] ++ ((Array.replicate 23 undef).setIfInBounds 4 (Value.iface 91 (.agg #[]))).setIfInBounds 0 (Value.iface 91 (.agg #[])) = #[.pointer (some ⟨gw, 0, none⟩), .pointer (some ⟨gx, 0, none⟩), .pointer (some ⟨ge, 0, none⟩), (Value.iface 91 (.agg #[])), undef, undef, undef, (Value.iface 91 (.agg #[])), undef, undef, undef, undef, undef, undef, undef, undef, undef, undef, undef, undef, undef, undef, undef, undef, undef, undef] := by kernel_rfl
  rw [ht]; clear ht
  refine wpS_of_wp ?_
  go_wp2
  refine ⟨rfl, _, rfl, _, results_none rfl _ _ _, rfl, rfl, ?_, ?_, ?_⟩
  · refine Chs.alloc (Chs.setCell (Chs.setCell (Chs.setCell (Chs.refl _ _) (.inl (.inr rfl)) _) (.inl (.inl rfl)) _) (.inl (.inl rfl)) _) _
  · exact (((h3.set_ 0 _).far hne _).far hne _).alloc _
  · exact (((h4.far hne.symm _).set_ 0 _).set_ 1 _).alloc _

set_option maxRecDepth 100000 in
theorem see_ok_text (bx p : Nat) (g : Option Nat) (A : Option Addr) (c : Nat) (xs ys : List UInt8) (v : ByteArray) (w : World) (he : EyeAt w p g A c xs false)
    (hC : ∀ w1, Ext w w1 → Calls Try.prog 54 #[.pointer (some ⟨bx, 0, none⟩)] w1 fun e w2 => e = .returned (.string v) ∧ Chs (isP p) w1 w2 ∧ ∃ A' c', EyeAt w2 p g A' c' ys false) :
    Calls Try.prog 53 #[.pointer (some ⟨p, 0, none⟩), .func (.func 54) #[] #[.pointer (some ⟨bx, 0, none⟩)]] w fun e w' => e = .returned (.string v) ∧ Chs (isP p) w w' ∧ ∃ A' c', EyeAt w' p g A' c' ys false := by
  have hmf : ∀ (fn : Fn) (first cap : Array Value) (w : World), (Instr.makeFunc fn first cap).run Try.prog w = .ok (.func fn first cap) w := fun _ _ _ _ => rfl
  have h1 : w.cell? ⟨p, 0, none⟩ = some (.slice A xs.length c) := he.blk.cell 0
  have h2 : w.cell? ⟨p, 1, none⟩ = some (.bool false) := he.blk.cell 1
  have hpl := he.blk.lt
  have hxW := (((Ext.refl w).alloc (.cells #[.pointer (some ⟨p, 0, none⟩)] 52)).alloc (.cells #[.string { data := #[] }] 9)).alloc (.cells #[.slice A xs.length c] 22)
  have hB2 : Blk (((w.alloc (.cells #[.pointer (some ⟨p, 0, none⟩)] 52)).alloc (.cells #[.string { data := #[] }] 9)).alloc (.cells #[.slice A xs.length c] 22)) (w.heap.size + 1) 9 #[.string { data := #[] }] := by
    simpa using (Blk.new (w.alloc (.cells #[.pointer (some ⟨p, 0, none⟩)] 52)) 9 #[.string { data := #[] }]).alloc (.cells #[.slice A xs.length c] 22)
  have hC' := hC _ hxW
  clear hC
  go_enter_defers Try.func53, Try.ntmps53
  go_wp2_with (go_at_call 54; refine hC'.mono ?_; rintro e w2 ⟨rfl, hx2, A', c', he2⟩; have m1 := hB2.chs hx2 (show w.heap.size + 1 ≠ p by omega); have m2 : w2.cell? ⟨w.heap.size + 1, 0, none⟩ = some (.string { data := #[] }) := m1.cell 0; have m3 := m1.frozen 0; have m4 := m1.lt)
  refine leaves_cons (f := 64) (args := #[.pointer (some ⟨w.heap.size + 1 + 1, 0, none⟩), .pointer (some ⟨w.heap.size + 1, 0, none⟩), .pointer (some ⟨w.heap.size, 0, none⟩)]) (by simp) (by simp [go_sem]) ?_
  refine (catch_idle_text _ _ _ _).mono ?_
  rintro e u' w'' ⟨rfl, rfl, rfl⟩
  have m5 : (w2.setCell ⟨w.heap.size + 1, 0, none⟩ (.string v)).cell? ⟨w.heap.size + 1, 0, none⟩ = some (.string v) := (m1.set_ 0 _).cell 0
  simp [Leaves, settle, results, Try.results53, go_sem, m5]
  have hx3 : Chs (fun i => i = w.heap.size + 1) w2 (w2.setCell ⟨w.heap.size + 1, 0, none⟩ (.string v)) := Chs.set1 _ _ _ _
  exact ⟨((Chs.of_ext hxW).trans hx2).trans' hx3 (fun i hi e => by omega), A', c', he2.chs hx3 (by omega) (fun i _ e1 e2 => by have := he.lt i e1; omega)⟩

set_option maxRecDepth 100000 in
theorem see_not_text (bx p : Nat) (g : Option Nat) (A : Option Addr) (c : Nat) (xs : List UInt8) (w : World) (he : EyeAt w p g A c xs false)
    (hC : ∀ w1, Ext w w1 → Calls Try.prog 54 #[.pointer (some ⟨bx, 0, none⟩)] w1 fun e w2 => e = sight ∧ Chs (isP p) w1 w2 ∧ ∃ v0 v1, Blk w2 p 79 #[v0, v1]) :
    Calls Try.prog 53 #[.pointer (some ⟨p, 0, none⟩), .func (.func 54) #[] #[.pointer (some ⟨bx, 0, none⟩)]] w fun e w' => e = .returned (.string { data := #[] }) ∧ Chs (isP p) w w' ∧ EyeAt w' p g A c xs true := by
  have hmf : ∀ (fn : Fn) (first cap : Array Value) (w : World), (Instr.makeFunc fn first cap).run Try.prog w = .ok (.func fn first cap) w := fun _ _ _ _ => rfl
  have h1 : w.cell? ⟨p, 0, none⟩ = some (.slice A xs.length c) := he.blk.cell 0
  have h2 : w.cell? ⟨p, 1, none⟩ = some (.bool false) := he.blk.cell 1
  have hpl := he.blk.lt
  have hxW := (((Ext.refl w).alloc (.cells #[.pointer (some ⟨p, 0, none⟩)] 52)).alloc (.cells #[.string { data := #[] }] 9)).alloc (.cells #[.slice A xs.length c] 22)
  have hB1 := ((Blk.new w 52 #[.pointer (some ⟨p, 0, none⟩)]).alloc (.cells #[.string { data := #[] }] 9)).alloc (.cells #[.slice A xs.length c] 22)
  have hB2 : Blk (((w.alloc (.cells #[.pointer (some ⟨p, 0, none⟩)] 52)).alloc (.cells #[.string { data := #[] }] 9)).alloc (.cells #[.slice A xs.length c] 22)) (w.heap.size + 1) 9 #[.string { data := #[] }] := by
    simpa using (Blk.new (w.alloc (.cells #[.pointer (some ⟨p, 0, none⟩)] 52)) 9 #[.string { data := #[] }]).alloc (.cells #[.slice A xs.length c] 22)
  have hB3 : Blk (((w.alloc (.cells #[.pointer (some ⟨p, 0, none⟩)] 52)).alloc (.cells #[.string { data := #[] }] 9)).alloc (.cells #[.slice A xs.length c] 22)) (w.heap.size + 1 + 1) 22 #[.slice A xs.length c] := by
    simpa using Blk.new ((w.alloc (.cells #[.pointer (some ⟨p, 0, none⟩)] 52)).alloc (.cells #[.string { data := #[] }] 9)) 22 #[.slice A xs.length c]
  have hC' := hC _ hxW
  clear hC
  go_enter_defers Try.func53, Try.ntmps53
  go_wp2_with (go_at_call 54; refine hC'.mono ?_; rintro e w2 ⟨rfl, hx2, v0, v1, hb2⟩)
  refine leaves_cons (f := 64) (args := #[.pointer (some ⟨w.heap.size + 1 + 1, 0, none⟩), .pointer (some ⟨w.heap.size + 1, 0, none⟩), .pointer (some ⟨w.heap.size, 0, none⟩)]) (by simp) (by simp [go_sem]) ?_
  refine (catch_sight_text _ _ _ p A c xs.length _ v0 v1 _ (hB3.chs hx2 (show w.heap.size + 1 + 1 ≠ p by omega)) (hB1.chs hx2 (show w.heap.size ≠ p by omega)) (hB2.chs hx2 (show w.heap.size + 1 ≠ p by omega)) hb2).mono ?_
  rintro e u' w'' ⟨rfl, rfl, hx3, m5, m6⟩
  have m7 : w''.cell? ⟨w.heap.size + 1, 0, none⟩ = some (.string { data := #[] }) := m5.cell 0
  simp [Leaves, settle, results, Try.results53, go_sem, m7]
  have hx4 : Chs (isP p) w w'' := ((Chs.of_ext hxW).trans hx2).trans' hx3 (fun i hi e => by omega)
  exact ⟨hx4, m6, he.row.chs hx4 he.far, he.cap, he.in_, he.ne, fun i e => Nat.lt_of_lt_of_le (he.lt i e) hx4.size, he.none_, he.max_⟩
theorem see_blind_text (fv : Value) (p : Nat) (g : Option Nat) (A : Option Addr) (c : Nat) (xs : List UInt8) (w : World) (he : EyeAt w p g A c xs true) :
    Calls Try.prog 53 #[.pointer (some ⟨p, 0, none⟩), fv] w fun e w' => e = .returned (.string { data := #[] }) ∧ Ext w w' := by
  have h2 : w.cell? ⟨p, 1, none⟩ = some (.bool true) := he.blk.cell 1
  have hpl := he.blk.lt
  go_enter_defers Try.func53, Try.ntmps53
  go_wp2
  simp [bodyPostD, Leaves, results, Try.results53, go_sem]
  exact ((Ext.refl _).alloc _).alloc _
theorem see_nil_text (fv : Value) (w : World) :
    Calls Try.prog 53 #[.pointer none, fv] w fun e w' => e = .returned (.string { data := #[] }) ∧ Ext w w' := by
  go_enter_defers Try.func53, Try.ntmps53
  go_wp2
  simp [bodyPostD, Leaves, results, Try.results53, go_sem]
  exact ((Ext.refl _).alloc _).alloc _

end Go.Proofs.Ytbmpecfhflkbeaa
