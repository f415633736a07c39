/- Texts of the proofs of StampMerges, merged (Chs). -/
import Derived.Lib.AppendStr
import Derived.Laws.IdiomStrings
import Derived.Lib.SliceRun
import Derived.Test.YtnhdjaegkccmaaaGf8a1be9d
import Derived.Test.YtnhdjaegkccmaaaG6fd917f9
namespace Go.Proofs.Ytnhdjaegkccmaaa
open Go.RowKit
set_option linter.unusedVariables false
/-- of the blocks that were there only those of S have turned -/
structure Chs (S : Nat → Prop) (a b : World) : Prop where
  os : b.os = a.os
  tape : b.tape = a.tape
  output : b.output = a.output
  size : a.heap.size ≤ b.heap.size
  block : ∀ k, k < a.heap.size → ¬ S k → b.heap[k]? = a.heap[k]?
section
variable {S S' : Nat → Prop} {a b c : World}
theorem Chs.refl (S : Nat → Prop) (a : World) : Chs S a a := ⟨rfl, rfl, rfl, Nat.le_refl _, fun _ _ _ => rfl⟩
theorem Chs.trans' (h : Chs S a b) (k : Chs S' b c) (hs : ∀ i, i < a.heap.size → S' i → S i) : Chs S a c :=
  ⟨k.os.trans h.os, k.tape.trans h.tape, k.output.trans h.output, Nat.le_trans h.size k.size, fun i hi hn => (k.block i (Nat.lt_of_lt_of_le hi h.size) (fun e => hn (hs i hi e))).trans (h.block i hi hn)⟩
theorem Chs.trans (h : Chs S a b) (k : Chs S b c) : Chs S a c := h.trans' k fun _ _ e => e
theorem Chs.mono (h : Chs S a b) (hs : ∀ i, i < a.heap.size → S i → S' i) : Chs S' a b := ⟨h.os, h.tape, h.output, h.size, fun i hi hn => h.block i hi fun e => hn (hs i hi e)⟩
theorem Chs.of_ext (h : Ext a b) : Chs S a b := ⟨h.os, h.tape, h.output, h.size, fun i hi _ => h.block i hi⟩
theorem Chs.to_ext (h : Chs S a b) (hs : ∀ i, i < a.heap.size → ¬ S i) : Ext a b := Ext.of ⟨h.os, h.tape, h.output, h.size, fun i hi => h.block i hi (hs i hi)⟩
theorem Ext.chs (h : Ext a b) (k : Chs S b c) (hs : ∀ i, i < a.heap.size → ¬ S i) : Ext a c := ((Chs.of_ext (S := S) h).trans k).to_ext hs
theorem Chs.then_ext (h : Chs S a b) (k : Ext b c) : Chs S a c := h.trans (.of_ext k)
theorem Chs.grown {row : Option Nat} (h : Chs S a b) (k : b.grownBy c row) (hs : ∀ i, row = some i → S i ∨ a.heap.size ≤ i) : Chs S a c :=
  h.trans' (S' := fun i => row = some i) ⟨k.os, k.tape, k.output, k.size, fun i hi hn => k.block i hi (fun e => hn e.symm)⟩ (fun i hi e => by rcases hs i e with h | h; exact h; omega)
theorem Chs.setCell (h : Chs S a b) {p : Addr} (hp : S p.block ∨ a.heap.size ≤ p.block) (u : Value) : Chs S a (b.setCell p u) :=
  h.trans' (S' := fun i => i = p.block) ⟨rfl, rfl, rfl, by simp [World.setCell], fun k _ hk => Below.heap_setCell _ _ _ _ hk⟩ (fun i hi e => by subst e; rcases hp with hp | hp; exact hp; omega)
theorem Blk.chs {g : Nat} {t : TypeId} {cs : Array Value} (h : Blk a g t cs) (k : Chs S a b) (hn : ¬ S g) : Blk b g t cs := (k.block g h.lt hn).trans h
end
theorem own_none (w : World) (base : Nat) (hb : base ≤ w.heap.size) (t : TypeId) (size : Nat) : (w.alloc (.cells #[] t)).ownsRow base t size (.slice (some ⟨w.heap.size, 0, none⟩) 0 0) 0 [] :=
  ⟨by simp, .inr ⟨w.heap.size, 0, #[], rfl, hb, heap_alloc_new w _, Nat.le_refl _, by simp [maxLen], by simp, by simp⟩⟩
theorem info_parts {P : Program} {t : TypeId} {z : Value} {n b : Nat} (h : (P.info? t).map (fun i => (i.zero, i.size, i.bytes)) = some (some z, n, b)) : ∃ i, P.info? t = some i ∧ i.zero = some z ∧ i.size = n ∧ i.bytes = b := by
  cases hi : P.info? t with
  | none => rw [hi] at h; simp at h
  | some i => rw [hi] at h; simp at h; exact ⟨i, rfl, h.1, h.2.1, h.2.2⟩
end Go.Proofs.Ytnhdjaegkccmaaa
