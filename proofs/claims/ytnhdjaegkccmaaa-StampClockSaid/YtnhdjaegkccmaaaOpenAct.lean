/- Arguments opened: a list of acts. -/
import Derived.Test.YtnhdjaegkccmaaaOpenSt
namespace Go.Proofs.Ytnhdjaegkccmaaa
open Go.RowKit Go.ChangeShapes Go.WideShapes Go.Deep Go.Joins

structure Act where
  k : Int
  A : Option Addr
  n : Nat
  c : Nat
  l : List St
  to : Int

structure ActsIn (w : World) (A : Option Addr) (n c : Nat) (l : List Act) : Prop where
  len : l.length = n
  cells : l ≠ [] → ∃ b o, A = some ⟨b, o, none⟩ ∧ b < w.heap.size ∧ ∀ (k : Nat) (hk : k < l.length), w.cell? ⟨b, o + k * 3, none⟩ = some (.int .i64 (l[k]).k) ∧ w.cell? ⟨b, o + k * 3 + 1, none⟩ = some (.slice (l[k]).A (l[k]).n (l[k]).c) ∧ w.cell? ⟨b, o + k * 3 + 2, none⟩ = some (.int .i64 (l[k]).to)
  in_ : ∀ x ∈ l, StsIn w x.A x.n x.c x.l

theorem cells_act : Try.prog.cellsOf 49 = 3 := by kernel_rfl

section
variable {H : Type} {enc : TypeId × Value → H} {w : World} {base : Nat}
theorem open_stsT {fuel : Nat} {v : Value} {y : DataW H × List MemPlace} (hf : DataW.trod enc Try.prog w base (fun _ => true) true fuel 31 [v] = some y) :
    ∃ (A : Option Addr) (n c : Nat) (l : List St), v = .slice A n c ∧ StsIn w A n c l := by
  rcases open_slice_fields Try.underlying31 Try.underlying23 (by kernel_rfl) cells_st hf with ⟨hcs, _⟩ | ⟨x, l, c, m, D, Pl, hcs, _, hl, hm, hmm, hx, hi⟩
  · simp only [List.cons.injEq, and_true] at hcs
    subst hcs
    exact ⟨none, 0, 0, [], rfl, rfl, Nat.le_refl _, fun _ => rfl, Sts.nil _ _, fun s hs => by cases hs⟩
  · simp only [List.cons.injEq, and_true] at hcs
    subst hcs
    simp only [if_true] at hmm
    subst hmm
    have hrow : ∀ i, i < m → ∃ s : St, w.cell? (x.add (i * 2)) = some (.int .i64 s.t) ∧ w.cell? (x.add (i * 2 + 1)) = some (.int .i64 s.n) ∧ StIn s := by
      intro i him
      obtain ⟨ys, n, _, _, _, hf⟩ := hi i him
      obtain ⟨v0, y0, hc0, _, ht0⟩ := hf 0 _ rfl
      obtain ⟨v1, y1, hc1, _, ht1⟩ := hf 1 _ rfl
      obtain ⟨a, e0, _, wa⟩ := DataW.trod_int Try.underlying2 ht0
      obtain ⟨b, e1, _, wb⟩ := DataW.trod_int Try.underlying3 ht1
      simp at e0 e1
      subst e0 e1
      exact ⟨⟨a, b⟩, hc0, hc1, i64_of wa, i64_of wb⟩
    have hsel : ∃ f : Nat → St, ∀ i, i < m → w.cell? (x.add (i * 2)) = some (.int .i64 (f i).t) ∧ w.cell? (x.add (i * 2 + 1)) = some (.int .i64 (f i).n) ∧ StIn (f i) := by
      refine ⟨fun i => if h : i < m then Classical.choose (hrow i h) else St.z, fun i hi => ?_⟩
      simp only [dif_pos hi]
      exact Classical.choose_spec (hrow i hi)
    obtain ⟨f, hf⟩ := hsel
    refine ⟨some x, l, m, (List.range l).map f, rfl, by simp, hl, (fun h => by cases h), ?_, ?_⟩
    · intro hne
      have hpos : 0 < l := by
        rcases Nat.eq_zero_or_pos l with h | h
        · subst h; exact absurd rfl hne
        · exact h
      obtain ⟨b, o, spot⟩ := x
      have h00 := (hf 0 (by omega)).1
      have hspot : spot = none := by simpa [Addr.add] using World.cell?_spot h00
      subst hspot
      have hb : b < w.heap.size := by
        unfold World.cell? at h00
        rcases Nat.lt_or_ge b w.heap.size with h | h
        · exact h
        · have hblk : ((⟨b, o, none⟩ : Addr).add (0 * 2)).block = b := block_of_add _ _
          simp [Addr.add, Array.getElem?_eq_none h] at h00
      refine ⟨b, o, rfl, hb, fun k hk => ?_⟩
      have hk' : k < l := by simpa using hk
      have h1 := (hf k (by omega)).1
      have h2 := (hf k (by omega)).2.1
      have hadd : ∀ j, (⟨b, o, none⟩ : Addr).add j = ⟨b, o + j, none⟩ := by
        intro j; unfold Addr.add; split
        · rename_i h0; subst h0; rfl
        · rfl
      rw [hadd] at h1 h2
      simp only [List.getElem_map, List.getElem_range]
      exact ⟨h1, by rw [Nat.add_assoc]; exact h2⟩
    · intro s hs
      obtain ⟨i, hi, rfl⟩ := List.mem_map.1 hs
      exact (hf i (by have := List.mem_range.1 hi; omega)).2.2
theorem open_acts {r : Reach} {b0 : Nat} {v : Value} {d : DataW H} {p : List MemPlace} (hv : Value.okWide Try.prog w r b0 41 v) (h : DataW.Trod enc Try.prog w base (fun _ => true) true 41 v d p) (_hp : ∀ x ∈ p, x.block < w.heap.size) :
    ∃ (A : Option Addr) (n c : Nat) (l : List Act), v = .slice A n c ∧ ActsIn w A n c l := by
  obtain ⟨a, len, cap, rfl⟩ := okWide_slice Try.underlying41 hv
  obtain ⟨fuel, hf⟩ := h
  rcases open_slice_fields Try.underlying41 Try.underlying49 (by kernel_rfl) cells_act hf with ⟨hcs, _⟩ | ⟨x, l, c, m, D, Pl, hcs, _, hl, hm, hmm, hx, hi⟩
  · simp [Value.cells] at hcs
    obtain ⟨rfl, rfl, rfl⟩ := hcs
    exact ⟨none, 0, 0, [], rfl, rfl, fun h => absurd rfl h, fun s hs => by cases hs⟩
  · simp [Value.cells] at hcs
    obtain ⟨rfl, rfl, rfl⟩ := hcs
    simp only [if_true] at hmm
    subst hmm
    have hrow : ∀ i, i < m → ∃ s : Act, w.cell? (x.add (i * 3)) = some (.int .i64 s.k) ∧ w.cell? (x.add (i * 3 + 1)) = some (.slice s.A s.n s.c) ∧ w.cell? (x.add (i * 3 + 2)) = some (.int .i64 s.to) ∧ StsIn w s.A s.n s.c s.l := by
      intro i him
      obtain ⟨ys, n, _, _, _, hf⟩ := hi i him
      obtain ⟨v0, y0, hc0, _, ht0⟩ := hf 0 _ rfl
      obtain ⟨v1, y1, hc1, _, ht1⟩ := hf 1 _ rfl
      obtain ⟨v2, y2, hc2, _, ht2⟩ := hf 2 _ rfl
      obtain ⟨a, e0, _, wa⟩ := DataW.trod_int Try.underlying3 ht0
      obtain ⟨A', n', c', l', rfl, hin⟩ := open_stsT ht1
      obtain ⟨b, e2, _, wb⟩ := DataW.trod_int Try.underlying2 ht2
      simp at e0 e2
      subst e0 e2
      exact ⟨⟨a, A', n', c', l', b⟩, hc0, hc1, hc2, hin⟩
    have hsel : ∃ f : Nat → Act, ∀ i, i < m → w.cell? (x.add (i * 3)) = some (.int .i64 (f i).k) ∧ w.cell? (x.add (i * 3 + 1)) = some (.slice (f i).A (f i).n (f i).c) ∧ w.cell? (x.add (i * 3 + 2)) = some (.int .i64 (f i).to) ∧ StsIn w (f i).A (f i).n (f i).c (f i).l := by
      refine ⟨fun i => if h : i < m then Classical.choose (hrow i h) else ⟨0, none, 0, 0, [], 0⟩, fun i hi => ?_⟩
      simp only [dif_pos hi]
      exact Classical.choose_spec (hrow i hi)
    obtain ⟨f, hf⟩ := hsel
    refine ⟨some x, len, m, (List.range len).map f, rfl, by simp, ?_, ?_⟩
    · intro hne
      have hpos : 0 < len := by
        rcases Nat.eq_zero_or_pos len with h | h
        · subst h; exact absurd rfl hne
        · exact h
      obtain ⟨b, o, spot⟩ := x
      have h00 := (hf 0 (by omega)).1
      have hspot : spot = none := by simpa [Addr.add] using World.cell?_spot h00
      subst hspot
      have hb : b < w.heap.size := by
        unfold World.cell? at h00
        rcases Nat.lt_or_ge b w.heap.size with h | h
        · exact h
        · simp [Addr.add, Array.getElem?_eq_none h] at h00
      refine ⟨b, o, rfl, hb, fun k hk => ?_⟩
      have hk' : k < len := by simpa using hk
      have h1 := (hf k (by omega)).1
      have h2 := (hf k (by omega)).2.1
      have h3 := (hf k (by omega)).2.2.1
      have hadd : ∀ j, (⟨b, o, none⟩ : Addr).add j = ⟨b, o + j, none⟩ := by
        intro j; unfold Addr.add; split
        · rename_i h0; subst h0; rfl
        · rfl
      rw [hadd] at h1 h2 h3
      simp only [List.getElem_map, List.getElem_range]
      exact ⟨h1, by rw [Nat.add_assoc]; exact h2, by rw [Nat.add_assoc]; exact h3⟩
    · intro s hs
      obtain ⟨i, hi, rfl⟩ := List.mem_map.1 hs
      exact (hf i (by have := List.mem_range.1 hi; omega)).2.2.2
end
end Go.Proofs.Ytnhdjaegkccmaaa
