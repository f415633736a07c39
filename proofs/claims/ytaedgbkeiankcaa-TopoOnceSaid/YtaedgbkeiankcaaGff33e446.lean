/- Texts of the proofs of TopoOnce, TopoTells, merged (Chs). -/
import Derived.Lib.AppendStr
import Derived.Laws.IdiomStrings
import Derived.Lib.SliceRun
import Derived.Test.YtaedgbkeiankcaaG64eb9ef8
import Derived.Test.YtaedgbkeiankcaaGca2bd920
namespace Go.Proofs.Ytaedgbkeiankcaa
open Go.RowKit
set_option linter.unusedVariables false
/-- of the blocks that were there only those of S have turned -/
structure Chs (S : Nat → Prop) (a b : World) : Prop where
  os : b.os = a.os
  tape : b.tape = a.tape
  output : b.output = a.output
  size : a.heap.size ≤ b.heap.size
  block : ∀ k, k < a.heap.size → ¬ S k → b.heap[k]? = a.heap[k]?
section
variable {S S' : Nat → Prop} {a b c : World}
theorem Chs.refl (S : Nat → Prop) (a : World) : Chs S a a := ⟨rfl, rfl, rfl, Nat.le_refl _, fun _ _ _ => rfl⟩
theorem Chs.trans' (h : Chs S a b) (k : Chs S' b c) (hs : ∀ i, i < a.heap.size → S' i → S i) : Chs S a c :=
  ⟨k.os.trans h.os, k.tape.trans h.tape, k.output.trans h.output, Nat.le_trans h.size k.size, fun i hi hn => (k.block i (Nat.lt_of_lt_of_le hi h.size) (fun e => hn (hs i hi e))).trans (h.block i hi hn)⟩
theorem Chs.trans (h : Chs S a b) (k : Chs S b c) : Chs S a c := h.trans' k fun _ _ e => e
theorem Chs.mono (h : Chs S a b) (hs : ∀ i, i < a.heap.size → S i → S' i) : Chs S' a b := ⟨h.os, h.tape, h.output, h.size, fun i hi hn => h.block i hi fun e => hn (hs i hi e)⟩
theorem Chs.of_ext (h : Ext a b) : Chs S a b := ⟨h.os, h.tape, h.output, h.size, fun i hi _ => h.block i hi⟩
theorem Chs.to_ext (h : Chs S a b) (hs : ∀ i, i < a.heap.size → ¬ S i) : Ext a b := Ext.of ⟨h.os, h.tape, h.output, h.size, fun i hi => h.block i hi (hs i hi)⟩
theorem Ext.chs (h : Ext a b) (k : Chs S b c) (hs : ∀ i, i < a.heap.size → ¬ S i) : Ext a c := ((Chs.of_ext (S := S) h).trans k).to_ext hs
theorem Chs.then_ext (h : Chs S a b) (k : Ext b c) : Chs S a c := h.trans (.of_ext k)
theorem Chs.grown {row : Option Nat} (h : Chs S a b) (k : b.grownBy c row) (hs : ∀ i, row = some i → S i ∨ a.heap.size ≤ i) : Chs S a c :=
  h.trans' (S' := fun i => row = some i) ⟨k.os, k.tape, k.output, k.size, fun i hi hn => k.block i hi (fun e => hn e.symm)⟩ (fun i hi e => by rcases hs i e with h | h; exact h; omega)
theorem Chs.setCell (h : Chs S a b) {p : Addr} (hp : S p.block ∨ a.heap.size ≤ p.block) (u : Value) : Chs S a (b.setCell p u) :=
  h.trans' (S' := fun i => i = p.block) ⟨rfl, rfl, rfl, by simp [World.setCell], fun k _ hk => Below.heap_setCell _ _ _ _ hk⟩ (fun i hi e => by subst e; rcases hp with hp | hp; exact hp; omega)
theorem Chs.cell (h : Chs S a b) {p : Addr} {v : Value} (hp : p.block < a.heap.size) (hn : ¬ S p.block) (hc : a.cell? p = some v) : b.cell? p = some v :=
  (World.cell?_of_block (h.block _ hp hn)).trans hc
theorem Blk.chs {g : Nat} {t : TypeId} {cs : Array Value} (h : Blk a g t cs) (k : Chs S a b) (hn : ¬ S g) : Blk b g t cs := (k.block g h.lt hn).trans h
theorem own_chs {base : Nat} {e : TypeId} {size n : Nat} {v : Value} {xs : List Value} (h : a.ownsRow base e size v n xs) (k : Chs S a b) (hn : ∀ i, v.ownBlock = some i → ¬ S i) : b.ownsRow base e size v n xs := by
  refine ⟨h.1, ?_⟩
  rcases h.2 with hn | ⟨g, cap, cur, rfl, hb, hgg, rest⟩
  · exact .inl hn
  · refine .inr ⟨g, cap, cur, rfl, hb, ?_, rest⟩
    rw [k.block g (Array.getElem?_eq_some_iff.1 hgg).1 (hn g rfl)]
    exact hgg
theorem own_ext {base : Nat} {e : TypeId} {size n : Nat} {v : Value} {xs : List Value} (h : a.ownsRow base e size v n xs) (k : Ext a b) : b.ownsRow base e size v n xs :=
  own_chs (S := fun _ => False) h (.of_ext k) fun _ _ e => e
theorem own_lt {base : Nat} {e : TypeId} {size n : Nat} {v : Value} {xs : List Value} (h : a.ownsRow base e size v n xs) : ∀ i, v.ownBlock = some i → i < a.heap.size := fun i hi => (h.lt i hi).2
end
theorem own_slice {w : World} {base : Nat} {e : TypeId} {size n : Nat} {v : Value} {xs : List Value} (h : w.ownsRow base e size v n xs) : ∃ A c, v = .slice A n c := by
  rcases h.2 with ⟨rfl, rfl⟩ | ⟨g, cap, _, rfl, _⟩
  · exact ⟨none, 0, rfl⟩
  · exact ⟨_, _, rfl⟩
theorem own_some {w : World} {base : Nat} {e : TypeId} {size n : Nat} {v : Value} {xs : List Value} (h : w.ownsRow base e size v n xs) (hn : 0 < n) : ∃ g c, v = .slice (some ⟨g, 0, none⟩) n c ∧ base ≤ g ∧ g < w.heap.size ∧ n ≤ c := by
  rcases h.2 with ⟨_, h0⟩ | ⟨g, cap, _, rfl, hb, hg, hc, _⟩
  · omega
  · exact ⟨g, cap, rfl, hb, (Array.getElem?_eq_some_iff.1 hg).1, hc⟩
theorem own_frozen {w : World} {base g : Nat} {e : TypeId} {size n c : Nat} {xs : List Value} (h : w.ownsRow base e size (.slice (some ⟨g, 0, none⟩) n c) n xs) (i : Nat) : w.frozen? ⟨g, i, none⟩ = false := by
  rcases h.2 with ⟨h, _⟩ | ⟨g', cap, cur, h, _, hg, _⟩
  · cases h
  · injection h with h
    injection h with h
    injection h with h
    subst h
    simp [World.frozen?, hg]
theorem own_set {w : World} {base g : Nat} {e : TypeId} {size n c : Nat} {xs : List Value} (h : w.ownsRow base e size (.slice (some ⟨g, 0, none⟩) n c) n xs) (i : Nat) (hi : i < n * size) (u : Value) : (w.setCell ⟨g, i, none⟩ u).ownsRow base e size (.slice (some ⟨g, 0, none⟩) n c) n (xs.set i u) := by
  refine ⟨by rw [List.length_set]; exact h.1, ?_⟩
  rcases h.2 with ⟨h, _⟩ | ⟨g', cap, cur, h, hb, hg, hnc, hcm, hcs, htake⟩
  · cases h
  · injection h with h _ h2
    injection h with h
    injection h with h
    subst h h2
    refine .inr ⟨g, c, cur.setIfInBounds i u, rfl, hb, ?_, hnc, hcm, by simpa using hcs, ?_⟩
    · simp [World.setCell, Array.getElem?_modify, hg]
    · rw [Array.toList_setIfInBounds, ← htake, List.take_set]
theorem own_none (w : World) (base : Nat) (hb : base ≤ w.heap.size) (t : TypeId) (size : Nat) : (w.alloc (.cells #[] t)).ownsRow base t size (.slice (some ⟨w.heap.size, 0, none⟩) 0 0) 0 [] :=
  ⟨by simp, .inr ⟨w.heap.size, 0, #[], rfl, hb, heap_alloc_new w _, Nat.le_refl _, by simp [maxLen], by simp, by simp⟩⟩
theorem info_parts {P : Program} {t : TypeId} {z : Value} {n b : Nat} (h : (P.info? t).map (fun i => (i.zero, i.size, i.bytes)) = some (some z, n, b)) : ∃ i, P.info? t = some i ∧ i.zero = some z ∧ i.size = n ∧ i.bytes = b := by
  cases hi : P.info? t with
  | none => rw [hi] at h; simp at h
  | some i => rw [hi] at h; simp at h; exact ⟨i, rfl, h.1, h.2.1, h.2.2⟩
end Go.Proofs.Ytaedgbkeiankcaa
