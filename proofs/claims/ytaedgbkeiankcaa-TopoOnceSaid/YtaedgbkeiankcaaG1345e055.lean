/- Texts of the proofs of TopoOnce, TopoTells, merged (RowA). -/
import Derived.ProofKit
import Derived.OpenShut
import Derived.Lib.SmallJoins
import Derived.Deep.Slices
import Derived.Deep.Fields
import Derived.ChangeSame
import Derived.SizedLaws
import Derived.Test.YtaedgbkeiankcaaG64eb9ef8
import Derived.Test.YtaedgbkeiankcaaGca2bd920
import Derived.Test.YtaedgbkeiankcaaGff33e446
namespace Go.Proofs.Ytaedgbkeiankcaa
open Go.RowKit Go.ChangeShapes Go.WideShapes Go.Deep Go.Joins
/-- the slice at A reads as l: element k's cells are 'f (l[k])', 'size' of them -/
def Row {T : Type} (f : T → List Value) (size : Nat) (w : World) (A : Option Addr) (l : List T) : Prop :=
  l ≠ [] → ∃ b o, A = some ⟨b, o, none⟩ ∧ b < w.heap.size ∧ ∀ (k : Nat) (hk : k < l.length) (j : Nat) (u : Value), (f l[k])[j]? = some u → w.cell? ⟨b, o + (k * size + j), none⟩ = some u
section
variable {T : Type} {f : T → List Value} {size : Nat} {w w' : World} {A : Option Addr} {l : List T}
theorem Row.nil (w : World) (A : Option Addr) : Row f size w A ([] : List T) := fun h => absurd rfl h
end
/-- a slice that came in -/
structure RowIn {T : Type} (f : T → List Value) (size : Nat) (good : T → Prop) (w : World) (A : Option Addr) (n c : Nat) (l : List T) : Prop where
  len : l.length = n
  cap : n ≤ c
  none_ : A = none → c = 0
  max_ : n ≤ reachBytes
  row : Row f size w A l
  good : ∀ x ∈ l, good x
section
variable {H : Type} {enc : TypeId × Value → H} {P : Program} {w : World} {base : Nat}
/-- a reading within the form's own reach -/
def Sz (P : Program) (t : TypeId) (d : DataW H) : Prop := (d.weights P t).all (fun x => decide (x ≤ reachBytes)) = true
theorem sz_each {ts : List TypeId} {ds : List (DataW H)} (h : (DataW.weightsEach P ts ds).all (fun x => decide (x ≤ reachBytes)) = true) {j : Nat} {t : TypeId} {d : DataW H} (ht : ts[j]? = some t) (hd : ds[j]? = some d) : Sz P t d := by
  unfold Sz
  rw [List.all_eq_true] at h ⊢
  exact fun n hn => h n (DataW.weights_mem_each ht hd n hn)
theorem sz_mem {e : TypeId} {l : List (DataW H)} {d : DataW H} (h : ∀ n ∈ DataW.weightsAll P e l, n ≤ reachBytes) (hd : d ∈ l) : Sz P e d := by
  unfold Sz
  rw [List.all_eq_true]
  intro n hn
  refine decide_eq_true (h n ?_)
  clear h
  induction l with
  | nil => cases hd
  | cons a l ih =>
    unfold DataW.weightsAll
    rcases List.mem_cons.1 hd with rfl | hd
    · exact List.mem_append_left _ hn
    · exact List.mem_append_right _ (ih hd)
theorem sz_slice {t e : TypeId} {elems spare : List (DataW H)} (ht : P.underlying t = some (.slice e)) (h : Sz P t (.slice elems spare)) : (elems.length + spare.length) * P.bytesOf e ≤ reachBytes ∧ (∀ d ∈ elems, Sz P e d) ∧ ∀ d ∈ spare, Sz P e d := by
  unfold Sz at h
  simp only [DataW.weights, ht, List.all_eq_true, List.mem_cons, List.mem_append, decide_eq_true_eq] at h
  exact ⟨h _ (.inl rfl), fun d hd => sz_mem (fun n hn => h n (.inr (.inl hn))) hd, fun d hd => sz_mem (fun n hn => h n (.inr (.inr hn))) hd⟩
theorem sz_string {t : TypeId} {bytes : List UInt8} (h : Sz (H := H) P t (.lit (.string bytes))) : bytes.length ≤ reachBytes := by
  unfold Sz at h
  simpa [DataW.weights] using h
theorem trod_field {t : TypeId} {fs : Array Field} {fuel : Nat} {cs : List Value} {y : DataW H × List MemPlace} {spare : Nat → Bool} {held : Bool} (ht : P.underlying t = some (.struct fs)) (h : DataW.trod enc P w base spare held fuel t cs = some y) (hz : Sz P t y.1) (j : Nat) (ft : TypeId) (off k : Nat)
    (hj : (fs[j]?).map (fun f => (f.type, f.offset)) = some (ft, off)) (hk : P.cellsOf ft = k) : ∃ (n : Nat) (y' : DataW H × List MemPlace), DataW.trod enc P w base spare held n ft ((cs.drop off).take k) = some y' ∧ Sz P ft y'.1 := by
  obtain ⟨ys, n', _, hy, hlen, hyl, hf⟩ := DataW.trod_struct ht h
  cases hfj : fs[j]? with
  | none => rw [hfj] at hj; simp at hj
  | some f =>
    rw [hfj] at hj
    simp only [Option.map_some, Option.some.injEq, Prod.mk.injEq] at hj
    obtain ⟨rfl, rfl⟩ := hj
    have h1 := hf j f hfj
    rw [hk] at h1
    have hjl : j < ys.length := by rw [hyl]; exact (Array.getElem?_eq_some_iff.1 hfj).1
    refine ⟨n', _, h1.trans (List.getElem?_eq_getElem hjl), ?_⟩
    rw [hy] at hz
    unfold Sz at hz
    simp only [DataW.weights, ht] at hz
    refine sz_each hz (j := j) ?_ ?_
    · rw [List.getElem?_map, Array.getElem?_toList, hfj]; rfl
    · rw [List.getElem?_map, List.getElem?_eq_getElem hjl]; rfl
theorem trod_len {t : TypeId} {fs : Array Field} {fuel : Nat} {cs : List Value} {y : DataW H × List MemPlace} {spare : Nat → Bool} {held : Bool} (ht : P.underlying t = some (.struct fs)) (h : DataW.trod enc P w base spare held fuel t cs = some y) : cs.length = P.cellsOf t := by
  obtain ⟨ys, n', _, _, hlen, hyl, hf⟩ := DataW.trod_struct ht h
  exact hlen
theorem open_row {T : Type} {f : T → List Value} {size : Nat} {good : T → Prop} {t e : TypeId} {fuel : Nat} {v : Value} {y : DataW H × List MemPlace} (z : T) (ht : P.underlying t = some (.slice e)) (hC : P.cellsOf e = size) (hs : 0 < size) (hB : 1 ≤ P.bytesOf e)
    (helem : ∀ (n : Nat) (cs : List Value) (y : DataW H × List MemPlace), DataW.trod enc P w base (fun _ => true) true n e cs = some y → Sz P e y.1 → ∃ x : T, cs = f x ∧ good x)
    (hz : Sz P t y.1) (h : DataW.trod enc P w base (fun _ => true) true fuel t [v] = some y) : ∃ (A : Option Addr) (n c : Nat) (l : List T), v = .slice A n c ∧ RowIn f size good w A n c l := by
  rcases open_slice ht h with ⟨hcs, _⟩ | ⟨a, len, cap, m, n, D, Pl, hcs, _, hl, hm, hmm, hy, hx⟩
  · simp only [List.cons.injEq, and_true] at hcs
    subst hcs
    exact ⟨none, 0, 0, [], rfl, rfl, Nat.le_refl _, fun _ => rfl, Nat.zero_le _, Row.nil _ _, fun _ h => by cases h⟩
  · simp only [List.cons.injEq, and_true] at hcs
    subst hcs
    simp only [if_true] at hmm
    subst hmm
    rw [hC] at hx
    rw [hy] at hz
    obtain ⟨hz0, hz1, hz2⟩ := sz_slice ht hz
    rw [List.length_map, List.length_map, List.length_range, List.length_range] at hz0
    have hmul : (len + (m - len)) * 1 ≤ (len + (m - len)) * P.bytesOf e := Nat.mul_le_mul_left _ hB
    have hzD : ∀ i, i < m → Sz P e (D i) := by
      intro i hi
      by_cases hil : i < len
      · exact hz1 _ (List.mem_map.2 ⟨i, List.mem_range.2 hil, rfl⟩)
      · exact hz2 _ (List.mem_map.2 ⟨i - len, List.mem_range.2 (by omega), by congr 1; omega⟩)
    have hrow : ∀ i, i < m → ∃ x : T, (∀ j u, (f x)[j]? = some u → w.cell? ((a.add (i * size)).add j) = some u) ∧ (f x).length = size ∧ good x := by
      intro i hi
      obtain ⟨cs, h1, h2⟩ := hx i hi
      obtain ⟨x, rfl, hg⟩ := helem _ _ _ h2 (hzD i hi)
      obtain ⟨_, hlen, hat⟩ := World.cells?_some h1
      refine ⟨x, fun j u hu => ?_, hlen, hg⟩
      rw [hat j (by have := (List.getElem?_eq_some_iff.1 hu).1; omega)]
      exact hu
    obtain ⟨F, hF⟩ : ∃ F : Nat → T, ∀ i, i < m → (∀ j u, (f (F i))[j]? = some u → w.cell? ((a.add (i * size)).add j) = some u) ∧ (f (F i)).length = size ∧ good (F i) := by
      refine ⟨fun i => if h : i < m then Classical.choose (hrow i h) else z, fun i hi => ?_⟩
      simp only [dif_pos hi]
      exact Classical.choose_spec (hrow i hi)
    refine ⟨some a, len, m, (List.range len).map F, rfl, by simp, hl, (fun h => by cases h), by omega, ?_, ?_⟩
    · intro hne
      have hpos : 0 < len := by
        rcases Nat.eq_zero_or_pos len with h | h
        · subst h; exact absurd rfl hne
        · exact h
      obtain ⟨b, o, spot⟩ := a
      obtain ⟨h1, h2, _⟩ := hF 0 (by omega)
      have h00 := h1 0 _ (List.getElem?_eq_getElem (by omega))
      have hspot : spot = none := by simpa [Addr.add] using World.cell?_spot h00
      subst hspot
      have hb : b < w.heap.size := by
        have := World.block_lt_of_cell? w _ h00
        simpa [block_of_add] using this
      refine ⟨b, o, rfl, hb, fun k hk j u hu => ?_⟩
      have hk' : k < len := by simpa using hk
      simp only [List.getElem_map, List.getElem_range] at hu
      have h3 := (hF k (by omega)).1 j u hu
      rw [add_of_add] at h3
      have hadd : ∀ j, (⟨b, o, none⟩ : Addr).add j = ⟨b, o + j, none⟩ := by
        intro j; unfold Addr.add; split
        · rename_i h0; subst h0; rfl
        · rfl
      rw [hadd] at h3
      exact h3
    · intro s hs
      obtain ⟨i, hi, rfl⟩ := List.mem_map.1 hs
      exact (hF i (by have := List.mem_range.1 hi; omega)).2.2
theorem open_row' {T : Type} {f : T → List Value} {size : Nat} {good : T → Prop} {t e : TypeId} {r : Reach} {b0 : Nat} {v : Value} {d : DataW H} {p : List MemPlace} (z : T) (ht : P.underlying t = some (.slice e)) (hC : P.cellsOf e = size) (hs : 0 < size) (hB : 1 ≤ P.bytesOf e)
    (helem : ∀ (n : Nat) (cs : List Value) (y : DataW H × List MemPlace), DataW.trod enc P w base (fun _ => true) true n e cs = some y → Sz P e y.1 → ∃ x : T, cs = f x ∧ good x)
    (hz : Sz P t d) (hv : Value.okWide P w r b0 t v) (h : DataW.Trod enc P w base (fun _ => true) true t v d p) : ∃ (A : Option Addr) (n c : Nat) (l : List T), v = .slice A n c ∧ RowIn f size good w A n c l := by
  obtain ⟨a, len, cap, rfl⟩ := okWide_slice ht hv
  obtain ⟨fuel, hf⟩ := h
  exact open_row z ht hC hs hB helem hz hf
end
end Go.Proofs.Ytaedgbkeiankcaa
